/- Texts of this proof joined: Can5, Agg, Seg, Seg2, Seg3. -/
import Derived.Test.YthojelhpipmkiaaGreatDoorKO07
import Derived.Deep.OwnRows
import Derived.Deep.LoopGhost
import Derived.Test.YthojelhpipmkiaaGreatDoorKO01
import Derived.Stop.BytesEq
import Derived.Laws.CopyRow
import Derived.Test.YthojelhpipmkiaaGreatDoorKO04
import Derived.Great.BuildSlice
namespace Go.Proofs.YthojelhpipmkiaaGreatDoor
open Go.RowKit

theorem sl_W {w : World} {B : Nat} {v : Value} {ns : List Wd} (h : SlR eStr w B v (ns.map toB)) : SlR eW w B v ns := by
 obtain ⟨A, c, css, e, h1, h2, h3, h4, h5⟩ := h
 rw [List.length_map] at e h1 h3
 exact ⟨A, c, css, e, h1, h2, h3, h4, fun i cs x hc hx => h5 i cs _ hc (by rw [List.getElem?_map, hx]; rfl)⟩
theorem idxOfS_at (ms : List Wd) (x : Wd) (hx : x ∈ ms) : Lib.idxOfS (ms.map toB) (toB x) = ((ms.idxOf x : Nat) : Int) := by
 have hl := List.idxOf_lt_length_of_mem hx
 unfold Lib.idxOfS
 rw [Lib.idxFromS_hit (toB x) (ms.map toB) (ms.idxOf x) 0 (by rw [List.length_map]; exact hl) ?_ ?_]
 ·rw [Nat.zero_add]
 ·rw [List.getD_eq_getElem?_getD, List.getElem?_map, List.getElem?_eq_getElem hl, List.getElem_idxOf]
  rfl
 ·intro j hj
  have hj' : j < ms.length := by omega
  rw [List.getD_eq_getElem?_getD, List.getElem?_map, List.getElem?_eq_getElem hj']
  intro e
  have e2 : ms[j] = x := by
   have := congrArg ofB e
   rwa [show ofB ((Option.map toB (some ms[j])).getD ByteArray.empty) = ms[j] from rfl, ofB_toB] at this
  have := List.not_of_lt_findIdx (p := (· == x)) (xs := ms) (i := j) hj
  simp [e2] at this
theorem index_any (v : Value) (ms : List Wd) (x : Wd) (B : Nat) (w : World) (h : SlR eW w B v ms) (hx : x ∈ ms) :
  Calls Tryz.prog 106 #[v, wv x] w fun e w' => e = .returned (.int .i64 ((ms.idxOf x : Nat) : Int)) ∧ w = w' := by
 obtain ⟨A, c, rfl, h1, h2⟩ := h.form
 unfold maxLen at h2
 have hp : 0 < ms.length := List.length_pos_of_mem hx
 obtain ⟨b, off, rfl, -, -, -⟩ := h.wd (k := 0) hp
 have := Tryz.slices_Index_string b off ms.length c (ms.map toB) (toB x) w (by simp) (by omega) (fun j hj => by
  have hj' : j < ms.length := by simpa using hj
  obtain ⟨b', off', e, _, _, hc⟩ := h.wd hj'
  injection e with e
  injection e with e1 e2
  subst e1 e2
  rw [hc, List.getD_eq_getElem?_getD, List.getElem?_map, List.getElem?_eq_getElem hj']
  rfl)
 refine Calls.mono this ?_
 rintro e w' ⟨rfl, rfl⟩
 rw [List.take_of_length_le (by simp), idxOfS_at ms x hx]
 exact ⟨rfl, rfl⟩
def numL (f : Nat → Int) (n k : Nat) : List Int := (List.range n).map fun i => if i < k then f i else 0
theorem numL_len (f : Nat → Int) (n k : Nat) : (numL f n k).length = n := by simp [numL]
theorem numL_get (f : Nat → Int) {n k j : Nat} (h : j < n) : (numL f n k)[j]? = some (if j < k then f j else 0) := by simp [numL, h]
theorem numL_zero (f : Nat → Int) (n : Nat) : numL f n 0 = List.replicate n 0 := by
 unfold numL
 simp only [Nat.not_lt_zero, if_false]
 rw [List.map_const', List.length_range]
theorem numL_all (f : Nat → Int) (n : Nat) : numL f n n = (List.range n).map f := by
 unfold numL
 refine List.map_congr_left fun i hi => ?_
 rw [if_pos (List.mem_range.1 hi)]
theorem numL_set (f : Nat → Int) {n k : Nat} : (numL f n k).set k (f k) = numL f n (k + 1) := by
 apply List.ext_getElem?
 intro j
 by_cases hj : j < n
 ·rw [List.getElem?_set, numL_get f hj, numL_get f hj, numL_len]
  by_cases e : k = j
  ·subst e
   simp [hj]
  ·rw [if_neg e]
   by_cases h2 : j < k
   ·rw [if_pos h2, if_pos (by omega)]
   ·rw [if_neg h2, if_neg (by omega)]
 ·rw [List.getElem?_eq_none (by rw [List.length_set, numL_len]; omega), List.getElem?_eq_none (by rw [numL_len]; omega)]
theorem rep_made (z : Value) (n : Nat) : madeCells #[z] n = (List.replicate n z).toArray := by
 apply Array.ext
 ·simp [madeCells]
 ·intro i h1 h2
  simp [madeCells, Nat.mod_one]
theorem int_makeC (n : Nat) (hn : n ≤ 1048576) (w : World) : (Instr.makeSlice 34 (.int .i64 (n : Int)) (.int .i64 (n : Int))).run Tryz.prog w = .ok (.slice (some ⟨w.heap.size, 0, none⟩) n n) (w.alloc (.cells (icells (numL (fun _ => 0) n 0)).toArray 3)) := by
 rw [numL_zero, icells, List.map_replicate, ← rep_made]
 exact run_make_row' 34 3 (.int .i64 0) 8 Tryz.underlying34 (by kernel_rfl) rfl .i64 .i64 n (by omega) (by omega) w
def NumTo (ns ms : List Wd) (w : World) (e : Ending) (w' : World) : Prop := ∃ v, e = .returned v ∧ OwnT oInt 3 w' w.heap.size v (ns.map fun n => ((ms.idxOf n : Nat) : Int)) ∧ Below w.heap.size w w'
theorem flat_int : ∀ xs : List Int, (xs.map fun x => [Value.int .i64 x]).flatten = icells xs
 |[] => rfl
 |x :: l => by rw [List.map_cons, List.flatten_cons, flat_int l]; rfl
theorem ownI_of {w : World} {N g : Nat} {xs : List Int} (h : w.heap[g]? = some (.cells (icells xs).toArray 3 (0, 0))) (hN : N ≤ g) (hl : xs.length ≤ 1048576) (hb : ∀ x ∈ xs, -9223372036854775808 ≤ x ∧ x ≤ 9223372036854775807) : OwnT oInt 3 w N (.slice (some ⟨g, 0, none⟩) xs.length xs.length) xs := by
 have hf := flat_int xs
 refine ⟨xs.map fun x => [.int .i64 x], ?_, by simp, fun i cs x hc hx => ?_⟩
 ·rw [hf]
  refine ⟨by simp [icells, oInt, oPure, eInt], .inr ⟨g, xs.length, _, rfl, hN, h, Nat.le_refl _, by unfold maxLen; omega, by simp [icells, oInt, oPure, eInt], ?_⟩⟩
  show List.take (xs.length * 1) _ = _
  rw [Nat.mul_one]
  exact List.take_of_length_le (by simp [icells])
 ·rw [List.getElem?_map, hx] at hc
  injection hc with hc
  exact ⟨hc.symm, hb x (List.mem_of_getElem? hx)⟩
set_option maxRecDepth 100000 in
set_option maxHeartbeats 4000000 in
theorem numbers_any (v1 v2 : Value) (ns ms : List Wd) (w : World) (h1 : SlR eW w w.heap.size v1 ns) (h2 : SlR eW w w.heap.size v2 ms) (hm : ∀ n ∈ ns, n ∈ ms) (hn : ns.length ≤ 1048576) (hml : ms.length ≤ 1048576) :
  Calls Tryz.prog 71 #[v1, v2] w (NumTo ns ms w) := by
 obtain ⟨A1, c1, rfl, ha1, ha2⟩ := h1.form
 unfold maxLen at ha2
 have H1 := Lib.hid h1
 have H2 := Lib.hid h2
 have HM := Lib.hid hm
 clear h1 h2 hm
 obtain ⟨n, hnn⟩ : ∃ n, n = ns.length := ⟨_, rfl⟩
 rw [← hnn] at H1 ha1 hn ⊢
 have HN := Lib.hid hnn
 obtain ⟨F, hF⟩ : ∃ F : Nat → Int, F = fun i => ((ms.idxOf (ns.getD i []) : Nat) : Int) := ⟨_, rfl⟩
 have HF := Lib.hid hF
 clear hnn hF
 have hmk := int_makeC n hn w
 rw [show numL (fun _ => 0) n 0 = numL F n 0 by rw [numL_zero, numL_zero]] at hmk
 have HB0 := Lib.hid ((Below.refl w.heap.size w).alloc (Nat.le_refl _) (.cells (icells (numL F n 0)).toArray 3))
 have HG0 := Lib.hid (Go.heap_alloc_new w (.cells (icells (numL F n 0)).toArray 3))
 go_enter Tryz.func71, Tryz.ntmps71
 go_wp2_with fail
 generalize w.alloc (.cells (icells (numL F n 0)).toArray 3) = w1 at *
 go_loopw [12] (fun v12 wr => ∃ k : Nat, k ≤ n ∧ v12 = .int .i64 k ∧ Hid (wr.heap[w.heap.size]? = some (.cells (icells (numL F n k)).toArray 3 (0, 0))) ∧ Hid (Below w.heap.size w wr)) (fun v12 _ => n - (intOf v12).toNat)
 case atStart => exact ⟨0, by omega, rfl, HG0.out, HB0.out⟩
 case round =>
  clear HG0 HB0 hmk
  obtain ⟨k, hk, rfl, HG, HB⟩ := hrel
  by_cases hlt : k < n
  ·have hk' : k < ns.length := by rw [← HN.out]; exact hlt
   obtain ⟨b, off, rfl, _, hb, hcw⟩ := (H1.out.below HB.out).wd hk'
   have HIX := Lib.hid (index_any v2 ms ns[k] w.heap.size wr (H2.out.below HB.out) (HM.out _ (List.getElem_mem hk')))
   have HFK := Lib.hid (show F k = ((ms.idxOf ns[k] : Nat) : Int) by rw [HF.out]; simp [hk'])
   generalize ns[k] = x at *
   rw [← HFK.out] at HIX
   have hcell : wr.cell? ⟨w.heap.size, k, none⟩ = some (.int .i64 0) := by
    rw [cell_of_row _ _ _ _ _ _ HG.out, List.getElem?_toArray, icells, List.getElem?_map, numL_get F hlt]
    simp
   have hfr : wr.frozen? ⟨w.heap.size, k, none⟩ = false := by simp [World.frozen?, HG.out]
   have HG1 := Lib.hid (show (wr.setCell ⟨w.heap.size, k, none⟩ (.int .i64 (F k))).heap[w.heap.size]? = some (.cells (icells (numL F n (k + 1))).toArray 3 (0, 0)) by
    simp only [World.setCell, Array.getElem?_modify, if_true, HG.out, Option.map_some]
    rw [← numL_set, icells, icells, List.map_set, List.setIfInBounds_toArray]
    rfl)
   have HB1 := Lib.hid (HB.out.setCell (p := ⟨w.heap.size, k, none⟩) (Nat.le_refl _) (.int .i64 (F k)))
   generalize F k = fk at *
   go_wp2_with fail
   refine HIX.out.mono ?_
   rintro e w' ⟨rfl, rfl⟩
   go_wp2_with fail
   go_roundw
   case rel => exact ⟨k + 1, by omega, by go_num, HG1.out, HB1.out⟩
   case measure => simp [intOf]; omega
  ·obtain rfl : k = n := by omega
   have HRES := Lib.hid (show OwnT oInt 3 wr w.heap.size (.slice (some ⟨w.heap.size, 0, none⟩) k k) (ns.map fun n => ((ms.idxOf n : Nat) : Int)) by
    have e : ns.map (fun n => ((ms.idxOf n : Nat) : Int)) = numL F k k := by
     rw [numL_all, HF.out]
     apply List.ext_getElem?
     intro j
     rw [List.getElem?_map, List.getElem?_map]
     by_cases hj : j < k
     ·have hj' : j < ns.length := by rw [← HN.out]; exact hj
      simp [hj, hj']
     ·rw [List.getElem?_eq_none (by rw [← HN.out]; omega), List.getElem?_eq_none (by simp; omega)]
      rfl
    have := ownI_of (N := w.heap.size) HG.out (Nat.le_refl _) (by rw [numL_len]; exact hn) (fun x hx => by
     rw [← e] at hx
     obtain ⟨y, hy, rfl⟩ := List.mem_map.1 hx
     have := List.idxOf_lt_length_of_mem (HM.out y hy)
     omega)
    rw [numL_len] at this
    rw [e]
    exact this)
   go_wp2_with fail
   go_ret
   exact ⟨_, rfl, HRES.out, HB.out⟩
theorem of1_any1 (Pt Pn : Nat) (vt vn : Value) (ts ns : List Int) (M : Nat) (s : Int) (w : World) (hct : w.cell? ⟨Pt, 0, none⟩ = some vt) (hcn : w.cell? ⟨Pn, 0, none⟩ = some vn) (ht : SlR eInt w M vt ts) (hn : SlR eInt w M vn ns) (h1 : -(ts.length : Int) ≤ s) (h2 : s < ns.length) (_hl : ts.length ≤ 1048576) (_hl2 : ns.length ≤ 1048576) :
  Calls Tryz.prog 72 #[.int .i64 s, .pointer (some ⟨Pt, 0, none⟩), .pointer (some ⟨Pn, 0, none⟩)] w fun e w' => e = .returned (.int .i64 (if s < 0 then -1 - ts.getD (-1 - s).toNat 0 else ns.getD s.toNat 0)) ∧ w = w' := by
 obtain ⟨A1, c1, rfl, ha1, ha2⟩ := ht.form
 obtain ⟨A2, c2, rfl, hb1, hb2⟩ := hn.form
 unfold maxLen at ha2 hb2
 have HT := Lib.hid ht
 have HN := Lib.hid hn
 clear ht hn
 by_cases hs : s < 0
 ·rw [if_pos hs]
  obtain ⟨k, hk⟩ : ∃ k : Nat, s = -1 - (k : Int) := ⟨(-1 - s).toNat, by omega⟩
  have hkl : k < ts.length := by omega
  obtain ⟨b, off, cs, rfl, _, _, hrep, hcell⟩ := HT.out.get hkl (by decide)
  obtain ⟨rfl, hx1, hx2⟩ := hrep
  have hc := hcell 0 _ rfl
  clear hcell
  simp only [show eInt.size = 1 from rfl, Nat.mul_one, Nat.add_zero] at hc
  have HE := Lib.hid (show ts.getD (-1 - s).toNat 0 = ts[k] by rw [show (-1 - s).toNat = k by omega]; simp [hkl])
  rw [HE.out]
  generalize ts[k] = x at *
  have d0 : decide (s < 0) = true := by rw [decide_eq_true_eq]; exact hs
  have e1 : -1 - s = (k : Int) := by omega
  clear hs hk h1 h2
  go_enter Tryz.func72, Tryz.ntmps72
  go_wp2_with fail
  refine (isTermSym_any _ _).mono ?_
  rintro e w' ⟨rfl, rfl⟩
  go_wp2_with fail
  go_ret
  exact ⟨rfl, rfl⟩
 ·rw [if_neg hs]
  obtain ⟨k, hk⟩ : ∃ k : Nat, s = (k : Int) := ⟨s.toNat, by omega⟩
  have hkl : k < ns.length := by omega
  obtain ⟨b, off, cs, rfl, _, _, hrep, hcell⟩ := HN.out.get hkl (by decide)
  obtain ⟨rfl, hx1, hx2⟩ := hrep
  have hc := hcell 0 _ rfl
  clear hcell
  simp only [show eInt.size = 1 from rfl, Nat.mul_one, Nat.add_zero] at hc
  have HE := Lib.hid (show ns.getD s.toNat 0 = ns[k] by rw [show s.toNat = k by omega]; simp [hkl])
  rw [HE.out]
  generalize ns[k] = x at *
  have d0 : decide (s < 0) = false := by rw [decide_eq_false_iff_not]; exact hs
  subst hk
  clear hs h1 h2
  go_enter Tryz.func72, Tryz.ntmps72
  go_wp2_with fail
  refine (isTermSym_any _ _).mono ?_
  rintro e w' ⟨rfl, rfl⟩
  go_wp2_with fail
  go_ret
  exact ⟨rfl, rfl⟩
end Go.Proofs.YthojelhpipmkiaaGreatDoor
namespace Go.Proofs.YthojelhpipmkiaaGreatDoor
open Go.RowKit

def hkCells (h : List UInt8) (k : Int) : List Value := bcells h ++ [.int .i64 k]
abbrev hkv (h : List UInt8) (k : Int) : Value := .agg (hkCells h k).toArray
abbrev hashv (h : List UInt8) : Value := .agg (bcells h).toArray
def recCells (kind seq : Int) (kh : List UInt8) (kk : Int) (mh : List UInt8) (ms : Int) (v : Value) : List Value :=
 [.int .i64 kind, .int .i64 seq] ++ (hkCells kh kk ++ (hkCells mh ms ++ [v]))
theorem hkCells_length (h : List UInt8) (k : Int) : (hkCells h k).length = h.length + 1 := by simp [hkCells, bcells_length]
theorem hkv_cells (h : List UInt8) (k : Int) : (hkv h k).cells = (hkCells h k).toArray := rfl
theorem hkCells_get (h : List UInt8) (k : Int) (hh : h.length = 32) : (hkCells h k)[32]? = some (.int .i64 k) := by
 unfold hkCells
 rw [List.getElem?_append_right (by rw [bcells_length]; omega), bcells_length, hh]
 rfl
section
variable {P : Program} {w : World}
theorem load_agg {ty : TypeId} {d : TypeDesc} (hu : P.underlying ty = some d) (hd : (match d with | .struct _ | .array _ _ => true | _ => false) = true) {b off : Nat} {cs : List Value} (hi : (P.info? ty).map (·.size) = some cs.length)
  (hc : ∀ j u, cs[j]? = some u → w.cell? ⟨b, off + j, none⟩ = some u) : (Instr.loadAt ty (.pointer (some ⟨b, off, none⟩))).run P w = .ok (.agg cs.toArray) w := by
 have hl : (loadCells ⟨b, off, none⟩ cs.length).run P w = .ok cs.toArray w := run_loadCells_list (P := P) w ⟨b, off, none⟩ cs (fun j v hv => by rw [Addr.add_lit]; exact hc j v hv)
 cases hq : P.info? ty with
 |none => simp [hq] at hi
 |some i =>
  have hs : i.size = cs.length := by simpa [hq] using hi
  have hagg : (isAgg ty).run P w = .ok true w := by
   unfold isAgg
   rw [Sem.run_bind, run_underlying hu w]
   cases d <;> simp_all
  simp [Instr.loadAt, Instr.sureAddr, loadVar, Sem.run_bind, hagg, sizeOf, typeInfo, hq, hs, hl]
theorem wpList_load_agg {ops : Array Oper} {rest : List Oper} {o : Oper} {a : Act} {Q : Exit → Act → World → Prop} (hgd : o.guard = none) (ty : TypeId) {x : Operand} (ho : o.op = .load ty x) {b off : Nat} (hx : a.eval x = .pointer (some ⟨b, off, none⟩))
  {d : TypeDesc} (hu : P.underlying ty = some d) (hd : (match d with | .struct _ | .array _ _ => true | _ => false) = true) {cs : List Value} (hi : (P.info? ty).map (·.size) = some cs.length)
  (hc : ∀ j u, cs[j]? = some u → w.cell? ⟨b, off + j, none⟩ = some u) (h : wpList P ops Q rest (a.put o.dst (.agg cs.toArray)) w) : wpList P ops Q (o :: rest) a w := by
 refine wpList_plain hgd fun K hK => ?_
 unfold Oper.wp execOp
 simp only [ho, hx, Sem.run_bind, load_agg hu hd hi hc, Result.andThen_ok, Sem.run_pure]
 exact hK _ _ h
theorem cell_part {g : Nat} {cs : Array Value} {t : TypeId} {fr : Nat × Nat} (h : w.heap[g]? = some (.cells cs t fr)) {xs ys zs : List Value} (he : cs = (xs ++ (ys ++ zs)).toArray) : ∀ j u, ys[j]? = some u → w.cell? ⟨g, xs.length + j, none⟩ = some u := by
 intro j u hu
 rw [cell_of_row w g _ cs t fr h, he]
 have hj := (List.getElem?_eq_some_iff.1 hu).1
 rw [← Array.getElem?_toList]
 simp only
 rw [List.getElem?_append_right (by omega), Nat.add_sub_cancel_left, List.getElem?_append_left hj]
 exact hu
theorem store_agg {ty : TypeId} {g off : Nat} {vs : List Value} {v : Value} (hv : v.cells = vs.toArray) (hi : (P.info? ty).map (·.size) = some vs.length) {cur : Array Value} {t : TypeId} (hg : w.heap[g]? = some (.cells cur t (0, 0)))
  (hl : off + vs.length ≤ cur.size) (h1 : ∀ u ∈ vs, u.oneCell' = true) : (Instr.storeAt ty (.pointer (some ⟨g, off, none⟩)) v).run P w = .ok () (w.setRow g (cur.toList.take off ++ vs ++ cur.toList.drop (off + vs.length)).toArray) := by
 have hs := run_storeCells_at P g off t vs 0 cur w hg (by omega) h1
 rw [Nat.add_zero] at hs
 cases hq : P.info? ty with
 |none => simp [hq] at hi
 |some i =>
  have hsz : i.size = vs.length := by simpa [hq] using hi
  simp [Instr.storeAt, Instr.sureAddr, storeVar, Sem.run_bind, sizeOf, typeInfo, hq, hsz, hv, hs]
theorem store_new {ty : TypeId} {vs : List Value} {v : Value} (hv : v.cells = vs.toArray) (hi : (P.info? ty).map (·.size) = some vs.length) {cur : Array Value} {t : TypeId} (hl : vs.length = cur.size) (h1 : ∀ u ∈ vs, u.oneCell' = true) :
  (Instr.storeAt ty (.pointer (some ⟨w.heap.size, 0, none⟩)) v).run P (w.alloc (.cells cur t)) = .ok () (w.alloc (.cells vs.toArray t)) := by
 rw [store_agg hv hi (Go.heap_alloc_new w _) (by omega) h1, setRow_alloc]
 congr 4
 simp [List.drop_eq_nil_of_le (show cur.toList.length ≤ vs.length by simp; omega)]

theorem hashv_equal (d : Nat) {t e : TypeId} (ht : P.underlying t = some (.array 32 e)) (he : P.underlying e = some (.int .u8)) (hsz : ∀ w, (sizeOf e).run P w = .ok 1 w) {x y : List UInt8} (hx : x.length = 32) (hy : y.length = 32) :
  (Op.equalIn (d + 2) t (hashv x) (hashv y)).run P w = .ok (decide (x = y)) w := by
 have h := run_equalIn_bytes (P := P) w d t e 32 ht he hsz x y hx hy
 have e1 : (x == y) = decide (x = y) := by by_cases h : x = y <;> simp [h]
 rw [e1] at h
 exact h
structure HashTy (P : Program) (ta e : TypeId) : Prop where
 ua : P.underlying ta = some (.array 32 e)
 ue : P.underlying e = some (.int .u8)
 se : ∀ w, (sizeOf e).run P w = .ok 1 w
 sa : ∀ w, (sizeOf ta).run P w = .ok 32 w
 gd : P.eqGuardType P.depth ta = false
structure HkTy (P : Program) (t ta e ti : TypeId) (f0 f1 : Field) : Prop where
 ut : P.underlying t = some (.struct #[f0, f1])
 n0 : f0.name ≠ "_"
 n1 : f1.name ≠ "_"
 t0 : f0.type = ta
 t1 : f1.type = ti
 o0 : f0.offset = 0
 o1 : f1.offset = 32
 ui : P.underlying ti = some (.int .i64)
 H : HashTy P ta e
 st : P.stoodInHeld t = false
 gd : P.eqGuardType P.depth t = false
theorem hkv_equal (d : Nat) {t ta e ti : TypeId} {f0 f1 : Field} (T : HkTy P t ta e ti f0 f1) {x y : List UInt8} {a b : Int} (hx : x.length = 32) (hy : y.length = 32) :
  (Op.equalIn (d + 3) t (hkv x a) (hkv y b)).run P w = .ok (decide (x = y) && decide (a = b)) w := by
 have hf : P.fieldsOf t = #[f0, f1] := by simp [Program.fieldsOf, T.ut]
 have p0 : ∀ (z : List UInt8) (c : Int), z.length = 32 → (part ta (hkCells z c).toArray 0).run P w = .ok (hashv z) w := by
  intro z c hz
  have e1 : (hkCells z c).toArray.extract 0 (0 + 32) = (bcells z).toArray := by
   simp only [List.extract_toArray, hkCells, Nat.zero_add, List.extract_eq_take_drop, List.drop_zero, Nat.sub_zero]
   congr 1
   rw [List.take_append_of_le_length (by rw [bcells_length]; omega), List.take_of_length_le (by rw [bcells_length]; omega)]
  have hagg : (isAgg ta).run P w = .ok true w := by
   unfold isAgg
   rw [Sem.run_bind, run_underlying T.H.ua w]
   rfl
  unfold part
  simp only [Sem.run_bind, hagg, Result.andThen_ok, if_true, T.H.sa, Sem.run_pure]
  rw [e1]
 have p1 : ∀ (z : List UInt8) (c : Int), z.length = 32 → (part ti (hkCells z c).toArray 32).run P w = .ok (.int .i64 c) w := by
  intro z c hz
  have hagg : (isAgg ti).run P w = .ok false w := by
   unfold isAgg
   rw [Sem.run_bind, run_underlying T.ui w]
   rfl
  have hg : (hkCells z c).toArray[32]? = some (.int .i64 c) := by
   rw [← Array.getElem?_toList]
   exact hkCells_get z c hz
  unfold part
  simp only [Sem.run_bind, hagg, Result.andThen_ok, Bool.false_eq_true, if_false, hg, Sem.run_pure]
 unfold hkv
 rw [show d + 3 = (d + 2) + 1 from rfl, run_equalIn_struct w (d + 2) t _ _ (by rw [hf]; exact T.ut) T.st, hf]
 have q := run_equalIn_int (P := P) w (d + 1) ti .i64 .i64 a b T.ui
 rw [show d + 2 = (d + 1) + 1 from rfl] at *
 by_cases h : x = y
 ·subst h
  simp only [Op.eqFields, ne_eq, T.n0, T.n1, not_false_eq_true, if_true, Sem.run_bind, T.t0, T.t1, T.o0, T.o1, p0 x a hx, p0 x b hx, p1 x a hx, p1 x b hx, Result.andThen_ok, hashv_equal d T.H.ua T.H.ue T.H.se hx hx, decide_true, Bool.not_true, Bool.false_eq_true, if_false, q, Bool.true_and]
  by_cases hab : a = b
  ·simp [hab]
  ·simp [hab]
 ·simp only [Op.eqFields, ne_eq, T.n0, not_false_eq_true, if_true, Sem.run_bind, T.t0, T.o0, p0 x a hx, p0 y b hy, Result.andThen_ok, hashv_equal d T.H.ua T.H.ue T.H.se hx hy]
  simp [h]
theorem hkv_eql {t ta e ti : TypeId} {f0 f1 : Field} (T : HkTy P t ta e ti f0 f1) {x y : List UInt8} {a b : Int} (hx : x.length = 32) (hy : y.length = 32) :
  (binOp .eql t (hkv x a) (hkv y b)).run P w = .ok (.bool (decide (x = y) && decide (a = b))) w := by
 unfold hkv
 rw [run_eql_struct, show (10000 : Nat) = 9997 + 3 from rfl]
 have := hkv_equal (P := P) (w := w) 9997 T (a := a) (b := b) hx hy
 unfold hkv at this
 rw [this]
 rfl
theorem hkv_guard {t : TypeId} (hg : P.eqGuardType P.depth t = false) (op : BinOp) (x y : Operand) (a b : List UInt8) (c d : Int) : (eqGuard op t x y (hkv a c) (hkv b d)).run P w = .ok () w := run_eqGuard_agg w op t x y _ _ hg
end
end Go.Proofs.YthojelhpipmkiaaGreatDoor
namespace Go.Proofs.YthojelhpipmkiaaGreatDoor
open Go.RowKit

structure Stop (p : Prop) : Prop where
 out : p
theorem Stop.go {p : Prop} (h : p) : Stop p := ⟨h⟩
section
variable {P : Program} {ops : Array Oper} {Q : Exit → Act → World → Prop} {a : Act} {w : World} {rest : List Oper} {o : Oper}
theorem stop_at (d : Option Tmp) (_hd : o.dst = d) (h : Stop (wpList P ops Q (o :: rest) a w)) : wpList P ops Q (o :: rest) a w := h.out
theorem wpList_seg : ∀ (n : Nat) (l : List Oper) (a : Act) (w : World), (∀ Q' : Exit → Act → World → Prop, (∀ a w, Stop (wpList P ops Q (l.drop n) a w) → Q' .normal a w) → wpList P ops Q' (l.take n) a w) → wpList P ops Q l a w
 |0, l, a, w, h => by
  have := h (fun e a w => e = .normal ∧ wpList P ops Q l a w) (fun a w hh => ⟨rfl, by simpa using hh.out⟩)
  simpa [wpList] using this
 |n + 1, [], a, w, h => by
  have := h (fun e a w => e = .normal ∧ Q .normal a w) (fun a w hh => ⟨rfl, by simpa [wpList] using hh.out⟩)
  simpa [wpList] using this
 |n + 1, o :: r, a, w, h => by
  have h0 := h (fun e a w => e = .normal ∧ wpList P ops Q ((o :: r).drop (n + 1)) a w) (fun a w hh => ⟨rfl, hh.out⟩)
  have hnl : ¬ LetsOut (fun e a w => e = Exit.normal ∧ wpList P ops Q ((o :: r).drop (n + 1)) a w) := fun ⟨_, _, hh⟩ => by cases hh.1
  have hno : ∀ (e : Exit) (a : Act) (w : World), e ≠ .normal → ¬ (e = Exit.normal ∧ wpList P ops Q ((o :: r).drop (n + 1)) a w) := fun _ _ _ hn hh => hn hh.1
  have ih : ∀ a w, wpList P ops (fun e a w => e = .normal ∧ wpList P ops Q ((o :: r).drop (n + 1)) a w) (r.take n) a w → wpList P ops Q r a w := fun a w hl =>
   wpList_seg n r a w fun Q' hQ' => by
    refine Text.wpList_mono' (fun e a w hh => ?_) _ _ _ hl
    obtain ⟨rfl, hh⟩ := hh
    exact hQ' _ _ ⟨hh⟩
  rw [List.take_succ_cons] at h0
  unfold wpList at h0 ⊢
  split at h0
  ·rename_i hw
   rw [if_pos hw]
   have h1 := h0.resolve_right fun hh => hnl hh.2
   have h2 := Oper.wp_mono (K' := fun a' w' => wpList P ops Q r a' w') (fun a w hh => ih a w hh) h1
   have h3 := Text.wp_noQ hno hnl h2
   exact .inl (Text.wp_Q (fun e a w hh => absurd hh (by simp [Text.NoQ])) h3)
  ·rename_i hw
   rw [if_neg hw]
   exact ih _ _ h0
theorem wpList_store_agg (hgd : o.guard = none) (ty : TypeId) {x y : Operand} (ho : o.op = .store ty x y) {g off : Nat} (hx : a.eval x = .pointer (some ⟨g, off, none⟩)) {v : Value} (hy : a.eval y = v) {w' : World}
  (hrun : (Instr.storeAt ty (.pointer (some ⟨g, off, none⟩)) v).run P w = .ok () w') (h : wpList P ops Q rest (a.put o.dst undef) w') : wpList P ops Q (o :: rest) a w := by
 refine wpList_plain hgd fun K hK => ?_
 unfold Oper.wp execOp
 simp only [ho, hx, hy, Sem.run_bind, hrun, Result.andThen_ok, Sem.run_pure]
 exact hK _ _ h
theorem wpList_box (hgd : o.guard = none) (ty : TypeId) {x : Operand} (ho : o.op = .box ty x) {v : Value} (hx : a.eval x = v) {vs : List Value} (hv : v.cells = vs.toArray)
  (h : wpList P ops Q rest (a.put o.dst (.pointer (some ⟨w.heap.size, 0, none⟩))) (w.alloc (.cells vs.toArray ty))) : wpList P ops Q (o :: rest) a w := by
 refine wpList_plain hgd fun K hK => ?_
 unfold Oper.wp execOp
 simp only [ho, hx, Instr.box, newVar, newRow, hv, Sem.run_bind, Sem.run_pure, run_newObj, Result.andThen_ok]
 exact hK _ _ h
theorem wpList_alloc (hgd : o.guard = none) (ty : TypeId) (ho : o.op = .alloc ty) {z : Value} (hz : ∀ w, (zeroValue ty).run P w = .ok z w) {vs : List Value} (hv : z.cells = vs.toArray)
  (h : wpList P ops Q rest (a.put o.dst (.pointer (some ⟨w.heap.size, 0, none⟩))) (w.alloc (.cells vs.toArray ty))) : wpList P ops Q (o :: rest) a w := by
 refine wpList_plain hgd fun K hK => ?_
 unfold Oper.wp execOp
 simp only [ho, Instr.alloc, newVar, newRow, hz, hv, Sem.run_bind, Sem.run_pure, run_newObj, Result.andThen_ok]
 exact hK _ _ h
theorem wpList_val (hgd : o.guard = none) {v : Value} (hrun : (execOp a.eval o).run P w = .ok (.value v) w) (h : wpList P ops Q rest (a.put o.dst v) w) : wpList P ops Q (o :: rest) a w := by
 refine wpList_plain hgd fun K hK => ?_
 unfold Oper.wp
 rw [hrun]
 exact hK _ _ h
theorem wpList_build (hgd : o.guard = none) (ty : TypeId) {parts : Array (Nat × Operand)} (ho : o.op = .build ty parts) {vs : Array (Nat × Value)} (hp : parts.toList.map (fun x => (x.1, a.eval x.2)) = vs.toList) {v : Value} (hrun : (Instr.build ty vs).run P w = .ok v w)
  (h : wpList P ops Q rest (a.put o.dst v) w) : wpList P ops Q (o :: rest) a w := by
 refine wpList_val hgd ?_ h
 have hp' : parts.map (fun x => (x.1, a.eval x.2)) = vs := by
  apply Array.ext'
  rw [Array.toList_map, hp]
 subst hp'
 unfold execOp
 simp only [ho, Sem.run_bind, hrun, Result.andThen_ok, Sem.run_pure]
theorem wpList_want (hw : Region.wanted o (yielded ops a.tmps) = true) (h : ∀ K : Act → World → Prop, (∀ a w, wpList P ops Q rest a w → K a w) → o.wp P a w K Q) : wpList P ops Q (o :: rest) a w :=
 wpList_step fun K hK => by rw [if_pos hw]; exact h K hK
theorem wpList_load_aggG (hw : Region.wanted o (yielded ops a.tmps) = true) (ty : TypeId) {x : Operand} (ho : o.op = .load ty x) {b off : Nat} (hx : a.eval x = .pointer (some ⟨b, off, none⟩))
  {d : TypeDesc} (hu : P.underlying ty = some d) (hd : (match d with | .struct _ | .array _ _ => true | _ => false) = true) {cs : List Value} (hi : (P.info? ty).map (·.size) = some cs.length)
  (hc : ∀ j u, cs[j]? = some u → w.cell? ⟨b, off + j, none⟩ = some u) (h : wpList P ops Q rest (a.put o.dst (.agg cs.toArray)) w) : wpList P ops Q (o :: rest) a w := by
 refine wpList_want hw fun K hK => ?_
 unfold Oper.wp execOp
 simp only [ho, hx, Sem.run_bind, load_agg hu hd hi hc, Result.andThen_ok, Sem.run_pure]
 exact hK _ _ h
theorem wpList_binG (hw : Region.wanted o (yielded ops a.tmps) = true) (op : BinOp) (ty : TypeId) {x y : Operand} {kt : TypeId} (ho : o.op = .binOp op ty x y kt) {vx vy v : Value} (hx : a.eval x = vx) (hy : a.eval y = vy) (hg : (eqGuard op ty x y vx vy).run P w = .ok () w)
  (hb : (binOp op ty vx vy).run P w = .ok v w) (h : wpList P ops Q rest (a.put o.dst v) w) : wpList P ops Q (o :: rest) a w := by
 refine wpList_want hw fun K hK => ?_
 unfold Oper.wp execOp
 simp only [ho, hx, hy, Sem.run_bind, hg, hb, Result.andThen_ok, Sem.run_pure]
 exact hK _ _ h
theorem row_cells {g : Nat} {vs : List Value} {t : TypeId} (hg : w.heap[g]? = some (.cells vs.toArray t (0, 0))) : ∀ j u, vs[j]? = some u → w.cell? ⟨g, 0 + j, none⟩ = some u := fun j u hu => by
 rw [Nat.zero_add, cell_of_row _ _ _ _ _ _ hg, ← Array.getElem?_toList]
 exact hu
theorem store_new2 {w : World} {g : Nat} {ty : TypeId} {vs : List Value} {v : Value} (hgs : g = w.heap.size) (hv : v.cells = vs.toArray) (hi : (P.info? ty).map (·.size) = some vs.length) {cur : Array Value} {t : TypeId} (hl : vs.length = cur.size) (h1 : ∀ u ∈ vs, u.oneCell' = true) :
  (Instr.storeAt ty (.pointer (some ⟨g, 0, none⟩)) v).run P (w.alloc (.cells cur t)) = .ok () (w.alloc (.cells vs.toArray t)) := by subst hgs; exact store_new hv hi hl h1
end
end Go.Proofs.YthojelhpipmkiaaGreatDoor
namespace Go.Proofs.YthojelhpipmkiaaGreatDoor
open Go.RowKit

section
variable {P : Program} {ops : Array Oper} {Q : Exit → Act → World → Prop} {a : Act} {w : World} {rest : List Oper} {o : Oper}
theorem load_int {ty : TypeId} {k : IntKind} {p : Addr} {z : Int} (hu : P.underlying ty = some (.int k)) (hc : w.cell? p = some (.int k z)) : (Instr.loadAt ty (.pointer (some p))).run P w = .ok (.int k z) w := by
 have hagg : (isAgg ty).run P w = .ok false w := by
  unfold isAgg
  rw [Sem.run_bind, run_underlying hu w]
  rfl
 simp [Instr.loadAt, Instr.sureAddr, loadVar, Sem.run_bind, hagg, hc]
theorem exec_load {ty : TypeId} {x : Operand} {v p : Value} (ho : o.op = .load ty x) (hx : a.eval x = p) (h : (Instr.loadAt ty p).run P w = .ok v w) : (execOp a.eval o).run P w = .ok (.value v) w := by
 unfold execOp
 simp only [ho, hx, Sem.run_bind, h, Result.andThen_ok, Sem.run_pure]
end
section
variable {P : Program} {ops : Array Oper} {w0 : World} {G : List Nat}
end
end Go.Proofs.YthojelhpipmkiaaGreatDoor
namespace Go.Proofs.YthojelhpipmkiaaGreatDoor
open Go.RowKit

section
variable {P : Program} {ops : Array Oper} {Q : Exit → Act → World → Prop} {a : Act} {w : World} {rest : List Oper} {o : Oper}
theorem load_slice {ty e : TypeId} {v : Value} {p : Addr} (hu : P.underlying ty = some (.slice e)) (hc : w.cell? p = some v) : (Instr.loadAt ty (.pointer (some p))).run P w = .ok v w := by
 have hagg : (isAgg ty).run P w = .ok false w := by
  unfold isAgg
  rw [Sem.run_bind, run_underlying hu w]
  rfl
 simp [Instr.loadAt, Instr.sureAddr, loadVar, Sem.run_bind, hagg, hc]
end
end Go.Proofs.YthojelhpipmkiaaGreatDoor
