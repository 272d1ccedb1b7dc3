/- Texts of this proof joined: Tab3, NamesW, NamesW2, TabSort, Wset, Wunion, WordC, Agg. -/
import Derived.Test.YtfpihflepeiagaaGreatDoorLO09
import Derived.Test.YtfpihflepeiagaaGreatDoorSort
import Derived.Shelf.SlSortCmp.NoneTotal
import Derived.Sort.OwnSorted
import Derived.Test.YtfpihflepeiagaaGreatDoorLO07
import Derived.Test.YtfpihflepeiagaaGreatDoorShelf
import Derived.Test.YtfpihflepeiagaaGreatDoorChecked
import Derived.Test.YtfpihflepeiagaaGreatDoorGrw
import Derived.Test.YtfpihflepeiagaaGreatDoorLO04
import Derived.Shelf.Spec.SlicesGrow
import Derived.Test.YtfpihflepeiagaaGreatDoorLO06
import Derived.Test.YtfpihflepeiagaaGreatDoorLO03
import Derived.Test.YtfpihflepeiagaaGreatDoorLO01
import Derived.Stop.BytesEq
import Derived.Laws.CopyRow
namespace Go.Proofs.YtfpihflepeiagaaGreatDoor
open Go.RowKit

theorem row_app : AppTy Tryz.prog 41 43 3 32 (.agg #[.int .i64 0, .string ⟨#[]⟩, .int .i64 0]) := appTy (by kernel_rfl) (by kernel_rfl) rfl (by omega)
def rcells (xs : List Row) : List Value := (xs.map rowc).flatten
theorem rcells_snoc (xs : List Row) (x : Row) : rcells (xs ++ [x]) = rcells xs ++ rowc x := by simp [rcells]
theorem rcells_len (xs : List Row) : (rcells xs).length = xs.length * 3 := by
  induction xs with
  | nil => rfl
  | cons x l ih => unfold rcells at *; rw [List.map_cons, List.flatten_cons, List.length_append, ih, List.length_cons]; simp; omega
def FitR (xs : List Row) : Prop := ∀ x ∈ xs, (-9223372036854775808 ≤ x.1 ∧ x.1 ≤ 9223372036854775807) ∧ x.2.1.length ≤ maxLen ∧ (-9223372036854775808 ≤ x.2.2 ∧ x.2.2 ≤ 9223372036854775807)
theorem slR_own {w : World} {base : Nat} {t : TypeId} {v : Value} {xs : List Row} (hf : FitR xs) (h : w.ownsRow base t 3 v xs.length (rcells xs)) : SlR eRow w w.heap.size v xs := by
  obtain ⟨A, c, rfl, h1, h2⟩ := own_form h
  refine ⟨A, c, xs.map rowc, rfl, h1, h2, by simp, Rd.of_own h, fun i cs x hc hx => ?_⟩
  rw [List.getElem?_map, hx] at hc
  injection hc with hc
  subst hc
  obtain ⟨⟨a1, a2⟩, a3, a4, a5⟩ := hf x (List.mem_of_getElem? hx)
  exact eRow_mk a1 a2 a3 a4 a5
theorem SlR.fitR {w : World} {B : Nat} {v : Value} {xs : List Row} (h : SlR eRow w B v xs) : FitR xs := by
  obtain ⟨A, c, css, e, h1, h2, h3, h4, h5⟩ := h
  intro x hx
  obtain ⟨i, hi, rfl⟩ := List.getElem_of_mem hx
  exact (eRow_open (h5 i _ _ (List.getElem?_eq_getElem (by omega)) (List.getElem?_eq_getElem hi))).2
def ofRows (left : Int) (xs : List Row) : List Row := xs.filter fun x => decide (x.1 = left)
theorem ofRows_succ (left : Int) (xs : List Row) (k : Nat) (h : k < xs.length) : ofRows left (xs.take (k + 1)) = ofRows left (xs.take k) ++ if xs[k].1 = left then [xs[k]] else [] := by
  unfold ofRows
  rw [List.take_succ_eq_append_getElem h, List.filter_append]
  congr 1
  by_cases hb : xs[k].1 = left <;> simp [hb]
theorem ofRows_le (left : Int) (xs : List Row) (k : Nat) : (ofRows left (xs.take k)).length ≤ k := by
  unfold ofRows
  refine Nat.le_trans (List.length_filter_le _ _) ?_
  rw [List.length_take]
  omega
def OwnRows (w : World) (l : List Row) (e : Ending) (w' : World) : Prop := ∃ v, e = .returned v ∧ w'.ownsRow w.heap.size 43 3 v l.length (rcells l) ∧ Below w.heap.size w w'
set_option maxHeartbeats 1600000 in
theorem of_rows (v : Value) (left : Int) (xs : List Row) (w : World) (hv : SlR eRow w w.heap.size v xs) (hr : xs.length ≤ 1048576) :
    Calls Tryz.prog 32 #[v, .int .i64 left] w (OwnRows w (ofRows left xs)) := by
  obtain ⟨A, c, rfl, he1, he2⟩ := hv.form
  unfold maxLen at he2
  go_enter Tryz.func32, Tryz.ntmps32
  go_wp2_with fail
  go_loopw [5, 10] (fun v5 v10 wr => ∃ k : Nat, k ≤ xs.length ∧ v10 = .int .i64 k ∧ wr.ownsRow w.heap.size 43 3 v5 (ofRows left (xs.take k)).length (rcells (ofRows left (xs.take k))) ∧ Below w.heap.size w wr) (fun _ v10 _ => xs.length - (intOf v10).toNat)
  case atStart => exact ⟨0, by omega, rfl, by simpa [ofRows, rcells] using World.ownsRow_nil _ _ _ _, by go_grown⟩
  case round =>
    obtain ⟨k, hk, rfl, hown, hbr⟩ := hrel
    by_cases hlt : k < xs.length
    · obtain ⟨b1, o1, rfl, -, hb1, a0, a1, a2, -⟩ := (hv.below hbr).rowAt hlt
      have hsn := Lib.hid (ofRows_succ left xs k hlt)
      have hle := ofRows_le left xs k
      have hbs := hbr.size
      obtain ⟨x, hx⟩ : ∃ x, x = xs[k] := ⟨_, rfl⟩
      rw [← hx] at a0 a1 a2 hsn
      clear hx
      obtain ⟨xa, xs1, xi⟩ := x
      simp only at a0 a1 a2
      by_cases hq : xa = left
      · have hqb : (xa == left) = true := by simp [hq]
        have HQ := Lib.hid hq
        clear hq
        go_wp2_with (at_builtin; refine wpList_app (m := 1) row_app rfl rfl rfl rfl ((hown.alloc _).alloc _) (Rd.row (B := wr.heap.size + 2) (heap_two wr _ _) (by omega)) rfl (by simp [Value.oneCell']) ?h63 ?hby ?hbase ?_)
        case h63 => simp only [maxLen]; omega
        case hby => omega
        case hbase => omega
        intro v1 w3 hown3 hg3 _ _
        go_wp2
        go_roundw
        case rel =>
          refine ⟨k + 1, by omega, by go_num, ?_, ?_⟩
          · rw [hsn.out, if_pos HQ.out]
            rw [rcells_snoc, List.length_append]
            exact hown3
          · exact grown_below ((hbr.alloc hbs _).alloc (by simp; omega) _) hg3 ((hown.alloc _).alloc _) (Nat.le_refl _) (by simp; omega)
        case measure => simp [intOf]; omega
      · have hqb : (xa == left) = false := by simp [hq]
        have HQ := Lib.hid hq
        clear hq
        go_wp2_with fail
        go_roundw
        case rel => exact ⟨k + 1, by omega, by go_num, by rw [hsn.out, if_neg HQ.out, List.append_nil]; exact hown.alloc _, hbr.alloc hbs _⟩
        case measure => simp [intOf]; omega
    · have hkl : k = xs.length := by omega
      subst hkl
      rw [List.take_length] at hown
      go_wp2_with fail
      go_ret
      exact ⟨_, rfl, hown, hbr⟩
end Go.Proofs.YtfpihflepeiagaaGreatDoor
namespace Go.Proofs.YtfpihflepeiagaaGreatDoor

section
variable {rs : RuleL} {n m k : Nat} {sets : Sets} {ah : Wd → Nat → Bool}
end
end Go.Proofs.YtfpihflepeiagaaGreatDoor
namespace Go.Proofs.YtfpihflepeiagaaGreatDoor

def keyOfRow (x : Row) : Int × Wd := (x.1, x.2.1)
theorem wd_tri (a b : Wd) : a < b ∨ a = b ∨ b < a := by
  rcases List.le_total a b with h | h
  · rcases List.le_iff_lt_or_eq.1 h with h | h
    · exact .inl h
    · exact .inr (.inl h)
  · rcases List.le_iff_lt_or_eq.1 h with h | h
    · exact .inr (.inr h)
    · exact .inr (.inl h.symm)
theorem rowLt_tri (a b : Row) : rowLt a b ∨ keyOfRow a = keyOfRow b ∨ rowLt b a := by
  unfold rowLt keyOfRow
  rcases Int.lt_trichotomy a.1 b.1 with h | h | h
  · exact .inl (.inl h)
  · rcases wd_tri a.2.1 b.2.1 with h2 | h2 | h2
    · exact .inl (.inr ⟨h, h2⟩)
    · exact .inr (.inl (by rw [h, h2]))
    · exact .inr (.inr (.inr ⟨h.symm, h2⟩))
  · exact .inr (.inr (.inl h))
theorem rowLt_irrefl {a b : Row} (h : rowLt a b) : keyOfRow a ≠ keyOfRow b := by
  intro e
  unfold keyOfRow at e
  injection e with e1 e2
  rcases h with h | ⟨_, h⟩
  · omega
  · rw [e2] at h; exact List.lt_irrefl _ h
theorem rowLt_trans {a b c : Row} (h1 : rowLt a b) (h2 : rowLt b c) : rowLt a c := by
  rcases h1 with h1 | ⟨e1, h1⟩
  · rcases h2 with h2 | ⟨e2, _⟩
    · exact .inl (by omega)
    · exact .inl (by omega)
  · rcases h2 with h2 | ⟨e2, h2⟩
    · exact .inl (by omega)
    · exact .inr ⟨by omega, List.lt_trans h1 h2⟩
section
variable {rs : RuleL} {n m k : Nat} {sets : Sets} {ah : Wd → Nat → Bool} {rows : List Row}
end
end Go.Proofs.YtfpihflepeiagaaGreatDoor
namespace Go.Proofs.YtfpihflepeiagaaGreatDoor
open Go.RowKit Go.Sort

theorem rcells_get : ∀ (ks : List Row) (t : Nat), t < ks.length * 3 → (rcells ks)[t]? = some ((rowc (ks.toArray[t / 3]!))[t % 3]!)
  | [], t, h => by simp at h
  | k :: r, t, h => by
    unfold rcells
    rw [List.map_cons, List.flatten_cons]
    by_cases ht : t < 3
    · rw [List.getElem?_append_left (by exact ht), Nat.div_eq_of_lt ht, Nat.mod_eq_of_lt ht]
      have hl : t < (rowc k).length := ht
      rw [List.getElem?_eq_getElem hl]
      simp only [List.getElem!_toArray, List.getElem!_cons_zero]
      rw [getElem!_pos (rowc k) t hl]
    · rw [List.getElem?_append_right (by simp only [rowc, List.length_cons, List.length_nil]; omega)]
      have ih := rcells_get r (t - 3) (by rw [List.length_cons, Nat.add_mul] at h; omega)
      unfold rcells at ih
      rw [show t - (rowc k).length = t - 3 from rfl, ih]
      have e1 : t / 3 = (t - 3) / 3 + 1 := by omega
      have e2 : t % 3 = (t - 3) % 3 := by omega
      rw [e1, e2]
      have hlt : (t - 3) / 3 < r.length := by rw [List.length_cons, Nat.add_mul] at h; omega
      simp [hlt]
theorem flatR_list (ks : List Row) : (flatK rowc 3 ks.toArray).toList = rcells ks := by
  apply List.ext_getElem?
  intro t
  by_cases h : t < ks.length * 3
  · rw [rcells_get ks t h, Array.getElem?_toList]
    have h' : t < ks.toArray.size * 3 := by simpa using h
    have hs : t < (flatK rowc 3 ks.toArray).size := by rw [size_flatK]; exact h'
    have := get_flatK rowc 3 ks.toArray t h'
    rw [getElem!_pos _ t hs] at this
    rw [Array.getElem?_eq_getElem hs, this]
  · rw [List.getElem?_eq_none (by rw [Array.length_toList, size_flatK]; simpa using h), List.getElem?_eq_none (by rw [rcells_len]; omega)]
theorem ltOf_ord (x y : Row) : ltOf ordR x y = true ↔ rowLt x y := by
  unfold ltOf
  rw [decide_eq_true_eq]
  exact ordR_lt x y
theorem ltOf_ordF (x y : Row) : ltOf ordR x y = false ↔ ¬ rowLt x y := by
  rw [← ltOf_ord, Bool.not_eq_true]
theorem rowLt_key {a a' b : Row} (h : keyOfRow a = keyOfRow a') (hl : rowLt a b) : rowLt a' b := by
  unfold keyOfRow at h
  injection h with h1 h2
  unfold rowLt at *
  rw [← h1, ← h2]
  exact hl
theorem swoR : SWO (ltOf ordR) where
  irrefl := fun x => by rw [ltOf_ordF]; exact fun h => rowLt_irrefl h rfl
  trans := fun x y z h1 h2 => by rw [ltOf_ord] at *; exact rowLt_trans h1 h2
  ntrans := fun x y z h1 h2 => by
    rw [ltOf_ordF] at *
    intro h
    rcases rowLt_tri x y with h3 | h3 | h3
    · exact h1 h3
    · exact h2 (rowLt_key h3 h)
    · exact h2 (rowLt_trans h3 h)
theorem holds_rows {w : World} {g : Nat} {cur : Array Value} {e : TypeId} {ks : List Row} (hb : w.heap[g]? = some (.cells cur e (0, 0))) (ht : cur.toList.take (ks.length * 3) = rcells ks) : HoldsK rowc 3 w g 0 ks.toArray := by
  intro j hj
  have hj' : j < ks.length * 3 := by simpa using hj
  refine ⟨?_, by simp [World.frozen?, hb]⟩
  have h1 : (cur.toList.take (ks.length * 3))[j]? = (flatK rowc 3 ks.toArray).toList[j]? := by rw [ht, flatR_list]
  rw [List.getElem?_take_of_lt hj', Array.getElem?_toList, Array.getElem?_toList, Array.getElem?_eq_getElem hj] at h1
  rw [getElem!_pos _ j hj]
  simp only [World.cell?, hb, Nat.zero_add]
  simp only [Option.isSome_none, Bool.false_eq_true, if_false]
  rw [h1]
  rfl
theorem heap_sortedR {w : World} {g n : Nat} {os : Array Obj} {cur : Array Value} {e : TypeId} {fr : Nat × Nat} (F : Array Value) (hb : w.heap[g]? = some (.cells cur e fr)) :
    (Go.Sort.grow (putRow id (Sort.ahead w n) g 0 F) os).heap[g]? = some (.cells (putCells id 0 F cur) e fr) := by
  have hg : g < w.heap.size := (Array.getElem?_eq_some_iff.1 hb).1
  rw [heap_grow_old _ _ (by simpa using hg)]
  simp [putRow, mapBlock, Sort.ahead, Array.getElem?_modify, hb, onCells]
theorem grownBy_sortedR {w : World} {g n : Nat} {os : Array Obj} (F : Array Value) : w.grownBy (Go.Sort.grow (putRow id (Sort.ahead w n) g 0 F) os) (some g) := by
  refine ⟨rfl, rfl, rfl, by simp, fun k hk hne => ?_⟩
  rw [heap_grow_old _ _ (by simpa using hk)]
  have : g ≠ k := fun e => hne (by rw [e])
  simp [putRow, mapBlock, Sort.ahead, Array.getElem?_modify, this]
theorem take_putCellsR (cur F : Array Value) (h : F.size ≤ cur.size) : (putCells id 0 F cur).toList.take F.size = F.toList := by
  apply List.ext_getElem?
  intro j
  by_cases hj : j < F.size
  · rw [List.getElem?_take_of_lt hj, Array.getElem?_toList]
    simp [putCells, hj, show j < cur.size by omega]
  · rw [List.getElem?_take_eq_none (by omega), List.getElem?_eq_none (by simp; omega)]
theorem isAgg_row (w : World) : (isAgg 43).run Tryz.prog w = .ok true w := by kernel_rfl
theorem sizeOf_row (w : World) : (Go.sizeOf 43).run Tryz.prog w = .ok 3 w := by kernel_rfl
def SortedRows (base : Nat) (v : Value) (ks : List Row) (w : World) (w' : World) : Prop :=
  ∃ ks' : List Row, ks'.Perm ks ∧ ks'.Pairwise (fun a b => ¬ rowLt b a) ∧ w'.ownsRow base 43 3 v ks'.length (rcells ks') ∧ w.grownBy w' v.ownBlock
set_option maxRecDepth 100000 in
set_option maxHeartbeats 1000000 in
theorem sortRows_any (base : Nat) (A : Option Addr) (c : Nat) (ks : List Row) (w : World) (h : w.ownsRow base 43 3 (.slice A ks.length c) ks.length (rcells ks)) (hn : ks.length < 4611686018427387904) :
    Calls Tryz.prog 37 #[.slice A ks.length c, .func (.func 38) #[] #[]] w fun e w' => e = .returned (.tuple #[]) ∧ SortedRows base (.slice A ks.length c) ks w w' := by
  have eg : ∀ args w, (callFunc 38 args).run Tryz.prog w = .ok (.enter 38 args) w := enters_of Tryz.func38 (by kernel_rfl) rfl
  have HH := Lib.hid h
  rcases HH.out.2 with ⟨hnil, h0⟩ | ⟨g, cap, cur, hv, hbase, hb, h1, h2, h3, h4⟩
  · injection hnil with e1 e2 e3
    subst e1
    rw [h0]
    refine (AnyF.slices_SortFunc_none { Tryz.sortLay with } none c _ w).mono fun e w' ⟨he, hw⟩ => ⟨he, ks, List.Perm.refl _, ?_, ?_, ?_⟩
    · rw [List.eq_nil_of_length_eq_zero h0]; exact List.Pairwise.nil
    · subst hw; have := HH.out; rw [h0] at this; rw [h0]; exact this
    · subst hw; exact ⟨rfl, rfl, rfl, Nat.le_refl _, fun _ _ _ => rfl⟩
  · injection hv with e1 e2 e3
    subst e1 e3
    have hH := holds_rows hb h4
    have hgl : g < w.heap.size := (Array.getElem?_eq_some_iff.1 hb).1
    have := AnyQ.slices_SortFunc Tryz.sortLay 3 isAgg_row sizeOf_row rowc (fun _ => rfl) (fun k u hu => by simp only [rowc, List.mem_cons, List.not_mem_nil, or_false] at hu; rcases hu with rfl | rfl | rfl <;> rfl) ordR swoR 38 #[] g 0 c ks.toArray w eg (fun m os dk hdk x y => (order_any x y _).mono fun e w' ⟨he, hb, hd⟩ => ⟨he, grown_of hb hd⟩) hH hgl (by simpa using hn)
    simp only [List.size_toArray] at this
    refine Calls.mono this fun e w' ⟨he, d', n, os, hp, hs, hw⟩ => ⟨he, d'.toList, ?_, ?_, ?_, ?_⟩
    · obtain ⟨p1, _, p3⟩ := hp
      have e1 : d'.extract 0 ks.length = d' := by
        apply Array.extract_eq_self_of_le; rw [p1]; simp
      have e2 : ks.toArray.extract 0 ks.length = ks.toArray := by
        apply Array.extract_eq_self_of_le; simp
      rw [e1, e2] at p3
      simpa using p3
    · rw [List.pairwise_iff_getElem]
      intro i j hi hj hij
      have hsz : d'.size = ks.length := by rw [hp.1]; simp
      have := hs i j (Nat.zero_le _) hij (by rw [← hsz]; simpa using hj)
      rw [ltOf_ordF] at this
      have hj' : j < d'.size := by simpa using hj
      have hi' : i < d'.size := by simpa using hi
      rw [getElem!_pos d' j hj', getElem!_pos d' i hi'] at this
      simpa using this
    · have hsz : d'.toList.length = ks.length := by rw [Array.length_toList, hp.1]; simp
      subst hw
      have hF : (flatK rowc 3 d') = (flatK rowc 3 d'.toList.toArray) := by simp
      rw [hsz]
      refine ⟨by rw [rcells_len, hsz], .inr ⟨g, c, _, rfl, hbase, heap_sortedR _ hb, h1, h2, by simp [putCells, h3], ?_⟩⟩
      have hfs : (flatK rowc 3 d').size = ks.length * 3 := by rw [size_flatK, hp.1]; simp
      have := take_putCellsR cur (flatK rowc 3 d') (by rw [hfs, h3]; exact Nat.mul_le_mul_right 3 h1)
      rw [hfs] at this
      rw [this, hF, flatR_list]
    · subst hw
      exact grownBy_sortedR _
end Go.Proofs.YtfpihflepeiagaaGreatDoor
namespace Go.Proofs.YtfpihflepeiagaaGreatDoor
open Go.RowKit Go.Sort

theorem str_appW : AppTy Tryz.prog 22 9 1 16 (.string ⟨#[]⟩) := appTy (by kernel_rfl) (by kernel_rfl) rfl (by omega)
def CloneTo (w : World) (xs : List Wd) (e : Ending) (w' : World) : Prop := ∃ v', e = .returned v' ∧ w'.ownsRow w.heap.size 9 1 v' xs.length (wcells xs) ∧ Below w.heap.size w w'
theorem clone_any (A : Option Addr) (c : Nat) (xs : List Wd) (w : World) (h : SlR eW w w.heap.size (.slice A xs.length c) xs) (hb : xs.length * 16 ≤ 140737488355328) :
    Calls Tryz.prog 136 #[.slice A xs.length c] w (CloneTo w xs) := by
  cases A with
  | none =>
    have hx : xs = [] := by
      rcases Nat.eq_zero_or_pos xs.length with h0 | h0
      · exact List.eq_nil_of_length_eq_zero h0
      · obtain ⟨b, off, e, _⟩ := h.wd (k := 0) h0
        cases e
    subst hx
    refine (Tryz.slices_Clone_string_nil 0 c w).mono ?_
    rintro e w' ⟨rfl, rfl⟩
    exact ⟨_, rfl, World.ownsRow_nil _ _ _ _, Below.refl _ _⟩
  | some a =>
    rcases Nat.eq_zero_or_pos xs.length with h0 | h0
    · have hx : xs = [] := List.eq_nil_of_length_eq_zero h0
      subst hx
      refine (Tryz.slices_Clone_string_zero a c w).mono ?_
      rintro e w' ⟨v', rfl, hown, _, hbe⟩
      exact ⟨v', rfl, hown, hbe⟩
    · obtain ⟨b, off, e, _, _, _⟩ := h.wd (k := 0) h0
      injection e with e
      subst e
      have := Tryz.slices_Clone_string b off xs.length c (xs.map fun x => (⟨x.toArray⟩ : ByteArray)) w (by simp) hb (fun j hj => by
        have hj' : j < xs.length := by simpa using hj
        obtain ⟨b', off', e, _, _, hc⟩ := h.wd hj'
        injection e with e
        injection e with e1 e2
        subst e1 e2
        rw [hc, List.getD_eq_getElem?_getD, List.getElem?_map, List.getElem?_eq_getElem hj']
        rfl)
      refine Calls.mono this ?_
      rintro e w' ⟨v', rfl, hown, _, hbe⟩
      refine ⟨v', rfl, ?_, hbe⟩
      rw [show ((xs.map fun x => (⟨x.toArray⟩ : ByteArray)).take xs.length).map Value.string = wcells xs by rw [List.take_of_length_le (by simp)]; simp [wcells]] at hown
      exact hown
def SortTo (w : World) (base : Nat) (v : Value) (xs : List Wd) (e : Ending) (w' : World) : Prop := e = .returned (.tuple #[]) ∧ w'.ownsRow base 9 1 v xs.length (wcells (xs.mergeSort fun x y => decide (x ≤ y))) ∧ w.grownBy w' v.ownBlock
theorem sort_any (base : Nat) (v : Value) (xs : List Wd) (w : World) (h : w.ownsRow base 9 1 v xs.length (wcells xs)) (hn : xs.length < 4611686018427387904) :
    Calls Tryz.prog 137 #[v] w (SortTo w base v xs) := by
  rcases h.2 with ⟨rfl, h0⟩ | ⟨g, cap, cur, rfl, hbase, hb, h1, h2, h3, h4⟩
  · have hx : xs = [] := List.eq_nil_of_length_eq_zero h0
    subst hx
    refine (Tryz.slices_Sort_string_none none 0 w).mono ?_
    rintro e w' ⟨rfl, rfl⟩
    exact ⟨rfl, by have := World.ownsRow_nil w' base 9 1; simpa [wcells] using this, rfl, rfl, rfl, Nat.le_refl _, fun _ _ _ => rfl⟩
  · rw [Nat.mul_one] at h4
    have := Tryz.slices_Sort_string g 0 cap xs w (holds_of_block hb h4) (Array.getElem?_eq_some_iff.1 hb).1 hn
    refine Calls.mono this ?_
    rintro e w' ⟨rfl, n, os, rfl⟩
    exact ⟨rfl, ownsRow_sorted (by simp) hbase hb h1 h2 h3, grownBy_sorted _⟩
theorem compact_le (xs : List Wd) : (Lib.compact xs).length ≤ xs.length := by
  unfold Lib.compact Lib.compactUpTo
  rw [List.length_map]
  exact Nat.le_trans (List.length_filter_le _ _) (by simp)
def CompactTo (w : World) (base : Nat) (v : Value) (xs : List Wd) (e : Ending) (w' : World) : Prop := ∃ v', e = .returned v' ∧ w'.ownsRow base 9 1 v' (Lib.compact xs).length (wcells (Lib.compact xs)) ∧ w.grownBy w' v.ownBlock
theorem compact_any (base : Nat) (v : Value) (xs : List Wd) (w : World) (h : w.ownsRow base 9 1 v xs.length (wcells xs)) (hn : xs.length < 4611686018427387904) :
    Calls Tryz.prog 138 #[v] w (CompactTo w base v xs) := by
  rcases h.2 with ⟨rfl, h0⟩ | ⟨g, cap, cur, rfl, hbase, hb, h1, h2, h3, h4⟩
  · have hx : xs = [] := List.eq_nil_of_length_eq_zero h0
    subst hx
    refine (Tryz.slices_Compact_string_empty none 0 w).mono ?_
    rintro e w' ⟨rfl, rfl⟩
    exact ⟨_, rfl, World.ownsRow_nil _ _ _ _, rfl, rfl, rfl, Nat.le_refl _, fun _ _ _ => rfl⟩
  · rw [Nat.mul_one] at h4
    have := Tryz.slices_Compact_string g 0 cap xs w (holds_of_block hb h4) (by omega) h1
    refine Calls.mono this ?_
    rintro e w' ⟨rfl, q, rfl⟩
    have hle := compact_le xs
    have hgr := grownBy_sorted (w := w) (g := g) (n := q) (os := #[]) (Lib.compact xs ++ List.replicate (xs.length - (Lib.compact xs).length) []).toArray
    have hhp := heap_sorted (n := q) (os := #[]) (Lib.compact xs ++ List.replicate (xs.length - (Lib.compact xs).length) []).toArray hb
    rw [grow_empty] at hgr hhp
    refine ⟨_, rfl, ⟨by simp [wcells], .inr ⟨g, cap, _, rfl, hbase, hhp, by omega, h2, by simp [putCells, h3], ?_⟩⟩, hgr⟩
    have ht := take_putCells cur (Lib.compact xs ++ List.replicate (xs.length - (Lib.compact xs).length) []) (by rw [List.length_append, List.length_replicate, h3]; omega)
    rw [Nat.mul_one]
    have e1 : (putCells encStr 0 (Lib.compact xs ++ List.replicate (xs.length - (Lib.compact xs).length) []).toArray cur).toList.take (Lib.compact xs).length = ((putCells encStr 0 (Lib.compact xs ++ List.replicate (xs.length - (Lib.compact xs).length) []).toArray cur).toList.take (Lib.compact xs ++ List.replicate (xs.length - (Lib.compact xs).length) []).length).take (Lib.compact xs).length := by
      rw [List.take_take, Nat.min_eq_left (by simp)]
    rw [e1, ht, List.map_append]
    exact List.take_left' (by simp)
def SetTo (w : World) (l : List Wd) (e : Ending) (w' : World) : Prop := ∃ v', e = .returned v' ∧ w'.ownsRow w.heap.size 9 1 v' (setOf l).length (wcells (setOf l)) ∧ Below w.heap.size w w'
set_option maxHeartbeats 1000000 in
theorem wsetOf_any (A : Option Addr) (c : Nat) (xs : List Wd) (w : World) (h : SlR eW w w.heap.size (.slice A xs.length c) xs) (hb : xs.length * 16 ≤ 140737488355328) :
    Calls Tryz.prog 117 #[.slice A xs.length c] w (SetTo w xs) := by
  have HC := Lib.hid (clone_any A c xs w h hb)
  obtain ⟨n, hn⟩ : ∃ n, n = xs.length := ⟨_, rfl⟩
  rw [← hn] at HC ⊢
  have HN := Lib.hid hn
  have HB := Lib.hid (show xs.length < 4611686018427387904 by omega)
  clear h hn hb
  go_enter Tryz.func117, Tryz.ntmps117
  go_wp2_with fail
  refine HC.out.mono ?_
  rintro e w1 ⟨v1, rfl, h1, hb1⟩
  have HB1 := Lib.hid hb1
  have HS := Lib.hid (sort_any _ v1 xs w1 h1 HB.out)
  obtain ⟨A1, c1, rfl, _⟩ := own_form h1
  have HO1 := Lib.hid h1
  clear h1 hb1
  go_wp2_with fail
  refine HS.out.mono ?_
  rintro e w2 ⟨rfl, h2, hg2⟩
  have HB2 := Lib.hid (grown_below HB1.out hg2 HO1.out (Nat.le_refl _) HB1.out.size)
  have hl2 : (xs.mergeSort fun x y => decide (x ≤ y)).length = xs.length := by simp
  rw [← hl2] at h2
  have HC2 := Lib.hid (compact_any _ _ _ w2 h2 (by rw [hl2]; exact HB.out))
  have HO2 := Lib.hid h2
  rw [hl2] at HC2 HO2
  clear h2 hg2 hl2 HS HO1 HB1
  go_wp2_with fail
  refine HC2.out.mono ?_
  rintro e w3 ⟨v3, rfl, h3, hg3⟩
  have HB3 := Lib.hid (grown_below HB2.out hg3 HO2.out (Nat.le_refl _) HB2.out.size)
  have HO3 := Lib.hid h3
  obtain ⟨A3, c3, rfl, _⟩ := own_form h3
  clear h3 hg3 HC2 HO2 HB2
  go_wp2_with fail
  go_ret
  exact ⟨_, rfl, HO3.out, HB3.out⟩
end Go.Proofs.YtfpihflepeiagaaGreatDoor
namespace Go.Proofs.YtfpihflepeiagaaGreatDoor
open Go.RowKit Go.Sort

def GrowTo (w : World) (e : Ending) (w' : World) : Prop := ∃ v, e = .returned v ∧ w'.ownsRow w.heap.size 9 1 v 0 [] ∧ Below w.heap.size w w'
theorem growS_any (n : Nat) (w : World) (hn : n * 16 ≤ 140737488355328) : Calls Tryz.prog 139 #[.slice none 0 0, .int .i64 n] w (GrowTo w) := by
  obtain ⟨i0, hi, hz0, hz1, hz2⟩ := str_appW.info
  rcases Nat.eq_zero_or_pos n with h0 | h0
  · subst h0
    refine Calls.mono (Any8.slices_Grow_room Tryz.growLay none 0 0 0 w (by omega) (by omega) (by omega) (by omega)) ?_
    rintro e w' ⟨rfl, rfl⟩
    exact ⟨_, rfl, World.ownsRow_nil _ _ _ _, Below.refl _ _⟩
  · refine Calls.mono (Any8.slices_Grow_grow Tryz.growLay i0 _ hi hz0 (by rw [hz1]; decide) none 0 0 n [] w (by omega) (by omega) (by rw [hz2]; omega) (by omega) (by simp) (fun _ => rfl) (fun a h => by cases h)) ?_
    rintro e w' ⟨rfl, rfl⟩
    refine ⟨_, rfl, ?_, (Below.refl _ _).drew.alloc (Nat.le_refl _) _⟩
    have h1 := grownCap_le_maxLen w (0 + n) 0 (Tryz.growLay_ren.t 25) (by unfold maxLen; omega)
    have h2 := grownCap_ge w (0 + n) 0 (Tryz.growLay_ren.t 25)
    rw [Nat.zero_add] at h1 h2
    exact World.ownsRow_made (base := w.heap.size) (e := 9) (size := 1) w.drew _ _ (Nat.le_refl _) (by rw [Nat.zero_add]; exact h1) (by
      rw [Array.size_append, Array.size_append, size_zeroCells, size_zeroCells]
      simp [Value.cells]
      omega)
def ConcatTo (w : World) (ss : List (List Wd)) (e : Ending) (w' : World) : Prop := ∃ v, e = .returned v ∧ w'.ownsRow w.heap.size 9 1 v ss.flatten.length (wcells ss.flatten) ∧ Below w.heap.size w w'
theorem flat_take {α : Type} (ss : List (List α)) {i : Nat} (h : i < ss.length) : (ss.take (i + 1)).flatten = (ss.take i).flatten ++ ss[i] := by
  rw [List.take_succ_eq_append_getElem h, List.flatten_append]
  simp
theorem flat_le {α : Type} (ss : List (List α)) (i : Nat) : (ss.take i).flatten.length ≤ ss.flatten.length := by
  have : ss.flatten = (ss.take i).flatten ++ (ss.drop i).flatten := by rw [← List.flatten_append, List.take_append_drop]
  rw [this, List.length_append]
  omega
theorem SlR.row1 {w : World} {B : Nat} {A : Option Addr} {n c : Nat} {ss : List (List Wd)} (h : SlR (eSl eW) w B (.slice A n c) ss) {k : Nat} (hk : k < ss.length) : ∃ b off A2 c2, A = some ⟨b, off, none⟩ ∧ n ≤ c ∧ b < B ∧ w.cell? ⟨b, off + k, none⟩ = some (.slice A2 ss[k].length c2) ∧ SlR eW w B (.slice A2 ss[k].length c2) ss[k] ∧ ss[k].length ≤ c2 ∧ c2 ≤ maxLen := by
  obtain ⟨b, off, cs, e, h1, h2, ⟨v, rfl, hs⟩, h4⟩ := h.get hk (by show 0 < 1; omega)
  obtain ⟨A2, c2, rfl, h5, h6⟩ := hs.form
  have := h4 0 _ rfl
  simp only [show (eSl eW).size = 1 from rfl, Nat.mul_one, Nat.add_zero] at this
  exact ⟨b, off, A2, c2, e, h1, h2, this, hs, h5, h6⟩
set_option maxHeartbeats 2000000 in
theorem concat_any (A : Option Addr) (c : Nat) (ss : List (List Wd)) (w : World) (h : SlR (eSl eW) w w.heap.size (.slice A ss.length c) ss) (hb : ss.flatten.length * 16 ≤ 140737488355328) :
    Calls Tryz.prog 118 #[.slice A ss.length c] w (ConcatTo w ss) := by
  have HH := Lib.hid h
  have hc := h.n_le
  have HBD := Lib.hid hb
  obtain ⟨m, hm⟩ : ∃ m, m = ss.length := ⟨_, rfl⟩
  rw [← hm] at hc HH ⊢
  have HM := Lib.hid hm
  clear h hb hm
  go_enter Tryz.func118, Tryz.ntmps118
  go_wp2_with fail
  go_loopw [11, 3] (fun v11 v3 wr => ∃ i t : Nat, i ≤ m ∧ v11 = .int .i64 i ∧ v3 = .int .i64 t ∧ Hid (t = (ss.take i).flatten.length) ∧ wr = w) (fun v11 _ _ => m - (intOf v11).toNat)
  case atStart => exact ⟨0, 0, by omega, rfl, rfl, rfl, rfl⟩
  case round =>
    obtain ⟨i, t, hi, rfl, rfl, HT, rfl⟩ := hrel
    have hle : t ≤ 8796093022208 := by have h1 := HT.out; have h2 := flat_le ss i; have h3 := HBD.out; omega
    by_cases hlt : i < m
    · have hlt' : i < ss.length := by rw [← HM.out]; exact hlt
      obtain ⟨b, off, A2, c2, rfl, _, hbl, hcell, hs, h5, h6⟩ := HH.out.row1 hlt'
      have HF := Lib.hid (flat_take ss hlt')
      have hle2 : t + ss[i].length ≤ 8796093022208 := by
        have h1 := HT.out; have h2 := flat_le ss (i + 1); have h3 := HBD.out
        rw [HF.out, List.length_append] at h2
        omega
      have HLN := Lib.hid (show t + ss[i].length = (ss.take (i + 1)).flatten.length by rw [HF.out, List.length_append, HT.out])
      obtain ⟨q, hq⟩ : ∃ q, q = ss[i].length := ⟨_, rfl⟩
      rw [← hq] at hle2 HLN hcell
      clear hs HF h5 hq hlt'
      go_wp2_with fail
      refine ⟨⟨i + 1, t + q, by omega, by go_num, by go_num, HLN.out, trivial⟩, by simp [intOf]; omega⟩
    · have him : i = m := by omega
      have HTT := Lib.hid (show t = ss.flatten.length by have := HT.out; rw [him, HM.out, List.take_of_length_le (Nat.le_refl _)] at this; exact this)
      clear HT
      go_wp2_with fail
      refine (growS_any t wr (by omega)).mono ?_
      rintro e w1 ⟨v1, rfl, h1, hb1⟩
      have HB1 := Lib.hid hb1
      have HO1 := Lib.hid h1
      obtain ⟨A1, c1, rfl, _⟩ := own_form h1
      clear h1 hb1
      go_wp2_with fail
      go_loopw [27, 6] (fun v27 v6 wt => ∃ i s : Nat, i ≤ m ∧ v27 = .int .i64 i ∧ Hid (s = (ss.take i).flatten.length) ∧ Hid (wt.ownsRow wr.heap.size 9 1 v6 s (wcells (ss.take i).flatten)) ∧ Hid (Below wr.heap.size wr wt)) (fun v27 _ _ => m - (intOf v27).toNat)
      case atStart => exact ⟨0, 0, by omega, rfl, rfl, HO1.out, HB1.out⟩
      case round =>
        clear HO1 HB1
        obtain ⟨i, s, hi, rfl, HSI, HO, HB⟩ := hrel
        obtain ⟨A6, c6, rfl, _⟩ := own_form HO.out
        by_cases hlt : i < m
        · have hlt' : i < ss.length := by rw [← HM.out]; exact hlt
          obtain ⟨b, off, A2, c2, rfl, _, hbl, hcell, hs, h5, h6⟩ := (HH.out.below HB.out).row1 hlt'
          have HF := Lib.hid (flat_take ss hlt')
          have HRD := Lib.hid hs.rdW
          obtain ⟨x, hx⟩ : ∃ x, x = ss[i] := ⟨_, rfl⟩
          rw [← hx] at hcell HF HRD
          obtain ⟨q, hq⟩ : ∃ q, q = x.length := ⟨_, rfl⟩
          rw [← hq] at hcell
          have HQ := Lib.hid hq
          have HSQ := Lib.hid (show s + q = (ss.take (i + 1)).flatten.length by rw [HF.out, List.length_append, HSI.out, HQ.out])
          have HLE := Lib.hid (show s + q ≤ 8796093022208 by have h2 := flat_le ss (i + 1); have h3 := HBD.out; rw [HSQ.out]; omega)
          clear hs h5 hq hx hlt'
          go_wp2_with (at_builtin; refine wpList_app (m := q) (n := s) str_appW rfl rfl rfl rfl HO.out HRD.out ?hl (wcells_one _) ?h63 ?hby HB.out.size ?_)
          case hl => rw [wcells_len, Nat.mul_one]; exact HQ.out.symm
          case h63 => have := HLE.out; unfold maxLen; omega
          case hby => have := HLE.out; omega
          intro v' w' ho hg _ _
          have HO2 : Hid (w'.ownsRow _ 9 1 v' (s + q) (wcells (ss.take (i + 1)).flatten)) := Lib.hid (by
            rw [HF.out]
            simp only [wcells, List.map_append] at ho ⊢
            exact ho)
          have HB2 := Lib.hid (grown_below HB.out hg HO.out (Nat.le_refl _) HB.out.size)
          obtain ⟨A7, c7, rfl, _⟩ := own_form HO2.out
          clear ho hg
          go_wp2_with fail
          exact ⟨⟨i + 1, s + q, by omega, by go_num, HSQ.out, HO2.out, HB2.out⟩, by simp [intOf]; omega⟩
        · have him : i = m := by omega
          have hall : (ss.take i).flatten = ss.flatten := by rw [him, HM.out, List.take_of_length_le (Nat.le_refl _)]
          rw [hall] at HO HSI
          clear hall him
          go_wp2_with fail
          go_ret
          exact ⟨_, rfl, by rw [← HSI.out]; exact HO.out, HB.out⟩
set_option maxRecDepth 100000 in
set_option maxHeartbeats 2000000 in
theorem union_any (A : Option Addr) (c : Nat) (a b : List Wd) (w : World) (h : SlR (eSl eW) w w.heap.size (.slice A 2 c) [a, b]) (hb : (a.length + b.length) * 16 ≤ 140737488355328) :
    Calls Tryz.prog 89 #[.slice A 2 c] w (SetTo w (a ++ b)) := by
  have HFL := Lib.hid (show [a, b].flatten = a ++ b by simp)
  have HC := Lib.hid (concat_any A c [a, b] w h (by rw [HFL.out, List.length_append]; exact hb))
  have HF := Lib.hid (show Fits (a ++ b) by
    refine fits_app ?_ ?_
    · obtain ⟨_, _, _, _, _, _, _, _, hs, _⟩ := h.row1 (k := 0) (by simp)
      exact hs.fits
    · obtain ⟨_, _, _, _, _, _, _, _, hs, _⟩ := h.row1 (k := 1) (by simp)
      exact hs.fits)
  rw [show [a, b].length = 2 from rfl] at HC
  have HBD := Lib.hid (show (a ++ b).length * 16 ≤ 140737488355328 by rw [List.length_append]; exact hb)
  clear h hb
  obtain ⟨l, hl⟩ : ∃ l, l = [a, b] := ⟨_, rfl⟩
  rw [← hl] at HFL HC
  clear hl
  obtain ⟨r, hr⟩ : ∃ r, r = a ++ b := ⟨_, rfl⟩
  rw [← hr] at HFL HF HBD ⊢
  clear hr
  go_enter Tryz.func89, Tryz.ntmps89
  go_wp2_with fail
  refine HC.out.mono ?_
  rintro e w1 ⟨v1, rfl, h1, hb1⟩
  rw [HFL.out] at h1
  obtain ⟨A1, c1, rfl, _⟩ := own_form h1
  have HW := Lib.hid (wsetOf_any A1 c1 r w1 (slW_own HF.out h1) HBD.out)
  have HB1 := Lib.hid hb1
  clear h1 hb1 HC HF HBD HFL
  go_wp2_with fail
  refine HW.out.mono ?_
  rintro e w2 ⟨v2, rfl, h2, hb2⟩
  have HB2 := Lib.hid (HB1.out.trans (hb2.mono HB1.out.size))
  have HO2 := Lib.hid (own_more h2 HB1.out.size)
  obtain ⟨A2, c2, rfl, _⟩ := own_form h2
  clear h2 hb2 HW
  go_wp2_with fail
  go_ret
  exact ⟨_, rfl, HO2.out, HB2.out⟩
end Go.Proofs.YtfpihflepeiagaaGreatDoor
namespace Go.Proofs.YtfpihflepeiagaaGreatDoor
open Go.RowKit

set_option maxHeartbeats 1000000 in
theorem wordCut_any (x : Wd) (k : Nat) (w : World) (hx : x.length ≤ maxLen) (hk : k ≤ 4611686018427387904) :
    Calls Tryz.prog 83 #[wv x, .int .i64 k] w fun e w' => e = .returned (wv (x.take k)) ∧ w' = w := by
  unfold maxLen at hx
  have hs : (⟨x.toArray⟩ : ByteArray).size = x.length := wv_size x
  go_enter Tryz.func83, Tryz.ntmps83
  have hcl : x.take (max 0 (min (k : Int) (x.length : Int))).toNat = x.take k := by
    rcases Nat.le_total k x.length with h | h
    · rw [show (max 0 (min (k : Int) (x.length : Int))).toNat = k by omega]
    · rw [List.take_of_length_le (by omega), List.take_of_length_le h]
  have HCL := Lib.hid hcl
  clear hcl
  go_wp2
  all_goals first
    | (go_ret; exact ⟨rt1 (vstr (by rw [wv_take, HCL.out])), rfl⟩)
    | (go_ret; exact ⟨rt1 (vstr (by rw [wv_take, List.take_of_length_le (Nat.le_refl _), List.take_of_length_le (by omega)])), rfl⟩)
    | (go_ret; exact ⟨rt1 (vstr (wv_take x k)), rfl⟩)
    | (have e : x.take k = [] := by
        rcases (by omega : x.length = 0 ∨ k = 0) with h | h
        · rw [List.eq_nil_of_length_eq_zero h, List.take_nil]
        · rw [h]; rfl
       rw [e]
       go_ret
       exact ⟨rfl, rfl⟩)
def catTo (x y : Wd) (i : Nat) : Wd := if i = 0 then [] else if i = 1 then x else x ++ y
set_option maxHeartbeats 2000000 in
theorem wordCat_any (x y : Wd) (k : Nat) (A : Option Addr) (c : Nat) (w : World) (h1 : 1 ≤ k) (hk : k ≤ 4611686018427387904) (hxy : x.length + y.length ≤ 4611686018427387904) (h : SlR eW w w.heap.size (.slice A 2 c) [x, y]) :
    Calls Tryz.prog 126 #[.int .i64 k, .slice A 2 c] w fun e w' => e = .returned (wv ((x ++ y).take k)) ∧ w' = w := by
  have HH := Lib.hid h
  have hc2 := h.n_le
  clear h
  go_enter Tryz.func126, Tryz.ntmps126
  go_wp2_with fail
  go_loopw [10, 5] (fun v10 v5 wr => ∃ i : Nat, i ≤ 2 ∧ v10 = .int .i64 i ∧ v5 = wv (catTo x y i) ∧ wr = w ∧ Hid (i = 2 → x.length < k)) (fun v10 _ _ => 2 - (intOf v10).toNat)
  case atStart => exact ⟨0, by omega, rfl, rfl, rfl, fun h => by omega⟩
  case round =>
    obtain ⟨i, hi, rfl, rfl, rfl, HI⟩ := hrel
    rcases (by omega : i = 0 ∨ i = 1 ∨ i = 2) with rfl | rfl | rfl
    · obtain ⟨b, off, rfl, _, _, hcell⟩ := HH.out.wd (k := 0) (by simp)
      simp only [List.getElem_cons_zero, Nat.add_zero] at hcell
      have hs : (⟨(catTo x y 0).toArray⟩ : ByteArray).size = 0 := rfl
      have hs2 : (catTo x y 0).length = 0 := rfl
      have e : (⟨(catTo x y 0).toArray⟩ : ByteArray) ++ ⟨x.toArray⟩ = ⟨(catTo x y 1).toArray⟩ := by rw [wv_app]; rfl
      have E := Lib.hid e
      clear e
      go_wp2_with fail
      rw [E.out]
      exact ⟨⟨1, by omega, rfl, rfl, trivial, fun h => by omega⟩, by decide⟩
    · obtain ⟨b, off, rfl, _, _, hcell⟩ := HH.out.wd (k := 1) (by simp)
      simp only [List.getElem_cons_succ, List.getElem_cons_zero] at hcell
      have hs : (⟨(catTo x y 1).toArray⟩ : ByteArray).size = x.length := wv_size x
      have hs2 : (catTo x y 1).length = x.length := rfl
      have e : (⟨(catTo x y 1).toArray⟩ : ByteArray) ++ ⟨y.toArray⟩ = ⟨(catTo x y 2).toArray⟩ := wv_app x y
      have E := Lib.hid e
      clear e
      by_cases hlt : x.length < k
      · go_wp2_with fail
        rw [E.out]
        exact ⟨⟨2, by omega, rfl, rfl, trivial, fun _ => hlt⟩, by decide⟩
      · go_wp2_with fail
        refine (wordCut_any x k wr (by unfold maxLen; omega) hk).mono ?_
        rintro e w2 ⟨rfl, rfl⟩
        go_wp2_with fail
        go_ret
        exact ⟨rt1 (by rw [List.take_append_of_le_length (by omega)]; rfl), rfl⟩
    · go_wp2_with fail
      refine (wordCut_any (x ++ y) k wr (by unfold maxLen; simp; omega) hk).mono ?_
      rintro e w2 ⟨rfl, rfl⟩
      go_wp2_with fail
      go_ret
      exact ⟨rfl, rfl⟩
end Go.Proofs.YtfpihflepeiagaaGreatDoor
namespace Go.Proofs.YtfpihflepeiagaaGreatDoor
open Go.RowKit

def hkCells (h : List UInt8) (k : Int) : List Value := bcells h ++ [.int .i64 k]
abbrev hkv (h : List UInt8) (k : Int) : Value := .agg (hkCells h k).toArray
section
variable {P : Program} {w : World}
end
end Go.Proofs.YtfpihflepeiagaaGreatDoor
