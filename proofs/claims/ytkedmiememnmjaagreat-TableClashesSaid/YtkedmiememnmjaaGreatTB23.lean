/- Texts of this proof joined: TabSort, Meet, Pairs, Clash1. -/
import Derived.Test.YtkedmiememnmjaaGreatTB22
import Derived.Test.YtkedmiememnmjaaGreatTB16
import Derived.Test.YtkedmiememnmjaaGreatSort
import Derived.Shelf.SlSortCmp.NoneTotal
import Derived.Sort.OwnSorted
import Derived.Test.YtkedmiememnmjaaGreatTB21
import Derived.Test.YtkedmiememnmjaaGreatTB17
namespace Go.Proofs.YtkedmiememnmjaaGreat
open Go.RowKit Go.Sort

theorem rcells_get : ∀ (ks : List Row) (t : Nat), t < ks.length * 3 → (rcells ks)[t]? = some ((rowc (ks.toArray[t / 3]!))[t % 3]!)
  | [], t, h => by simp at h
  | k :: r, t, h => by
    unfold rcells
    rw [List.map_cons, List.flatten_cons]
    by_cases ht : t < 3
    · rw [List.getElem?_append_left (by exact ht), Nat.div_eq_of_lt ht, Nat.mod_eq_of_lt ht]
      have hl : t < (rowc k).length := ht
      rw [List.getElem?_eq_getElem hl]
      simp only [List.getElem!_toArray, List.getElem!_cons_zero]
      rw [getElem!_pos (rowc k) t hl]
    · rw [List.getElem?_append_right (by simp only [rowc, List.length_cons, List.length_nil]; omega)]
      have ih := rcells_get r (t - 3) (by rw [List.length_cons, Nat.add_mul] at h; omega)
      unfold rcells at ih
      rw [show t - (rowc k).length = t - 3 from rfl, ih]
      have e1 : t / 3 = (t - 3) / 3 + 1 := by omega
      have e2 : t % 3 = (t - 3) % 3 := by omega
      rw [e1, e2]
      have hlt : (t - 3) / 3 < r.length := by rw [List.length_cons, Nat.add_mul] at h; omega
      simp [hlt]
theorem flatR_list (ks : List Row) : (flatK rowc 3 ks.toArray).toList = rcells ks := by
  apply List.ext_getElem?
  intro t
  by_cases h : t < ks.length * 3
  · rw [rcells_get ks t h, Array.getElem?_toList]
    have h' : t < ks.toArray.size * 3 := by simpa using h
    have hs : t < (flatK rowc 3 ks.toArray).size := by rw [size_flatK]; exact h'
    have := get_flatK rowc 3 ks.toArray t h'
    rw [getElem!_pos _ t hs] at this
    rw [Array.getElem?_eq_getElem hs, this]
  · rw [List.getElem?_eq_none (by rw [Array.length_toList, size_flatK]; simpa using h), List.getElem?_eq_none (by rw [rcells_len]; omega)]
theorem ltOf_ord (x y : Row) : ltOf ordR x y = true ↔ rowLt x y := by
  unfold ltOf
  rw [decide_eq_true_eq]
  exact ordR_lt x y
theorem ltOf_ordF (x y : Row) : ltOf ordR x y = false ↔ ¬ rowLt x y := by
  rw [← ltOf_ord, Bool.not_eq_true]
theorem rowLt_key {a a' b : Row} (h : keyOfRow a = keyOfRow a') (hl : rowLt a b) : rowLt a' b := by
  unfold keyOfRow at h
  injection h with h1 h2
  unfold rowLt at *
  rw [← h1, ← h2]
  exact hl
theorem swoR : SWO (ltOf ordR) where
  irrefl := fun x => by rw [ltOf_ordF]; exact fun h => rowLt_irrefl h rfl
  trans := fun x y z h1 h2 => by rw [ltOf_ord] at *; exact rowLt_trans h1 h2
  ntrans := fun x y z h1 h2 => by
    rw [ltOf_ordF] at *
    intro h
    rcases rowLt_tri x y with h3 | h3 | h3
    · exact h1 h3
    · exact h2 (rowLt_key h3 h)
    · exact h2 (rowLt_trans h3 h)
theorem holds_rows {w : World} {g : Nat} {cur : Array Value} {e : TypeId} {ks : List Row} (hb : w.heap[g]? = some (.cells cur e (0, 0))) (ht : cur.toList.take (ks.length * 3) = rcells ks) : HoldsK rowc 3 w g 0 ks.toArray := by
  intro j hj
  have hj' : j < ks.length * 3 := by simpa using hj
  refine ⟨?_, by simp [World.frozen?, hb]⟩
  have h1 : (cur.toList.take (ks.length * 3))[j]? = (flatK rowc 3 ks.toArray).toList[j]? := by rw [ht, flatR_list]
  rw [List.getElem?_take_of_lt hj', Array.getElem?_toList, Array.getElem?_toList, Array.getElem?_eq_getElem hj] at h1
  rw [getElem!_pos _ j hj]
  simp only [World.cell?, hb, Nat.zero_add]
  simp only [Option.isSome_none, Bool.false_eq_true, if_false]
  rw [h1]
  rfl
theorem heap_sortedR {w : World} {g n : Nat} {os : Array Obj} {cur : Array Value} {e : TypeId} {fr : Nat × Nat} (F : Array Value) (hb : w.heap[g]? = some (.cells cur e fr)) :
    (Go.Sort.grow (putRow id (Sort.ahead w n) g 0 F) os).heap[g]? = some (.cells (putCells id 0 F cur) e fr) := by
  have hg : g < w.heap.size := (Array.getElem?_eq_some_iff.1 hb).1
  rw [heap_grow_old _ _ (by simpa using hg)]
  simp [putRow, mapBlock, Sort.ahead, Array.getElem?_modify, hb, onCells]
theorem grownBy_sortedR {w : World} {g n : Nat} {os : Array Obj} (F : Array Value) : w.grownBy (Go.Sort.grow (putRow id (Sort.ahead w n) g 0 F) os) (some g) := by
  refine ⟨rfl, rfl, rfl, by simp, fun k hk hne => ?_⟩
  rw [heap_grow_old _ _ (by simpa using hk)]
  have : g ≠ k := fun e => hne (by rw [e])
  simp [putRow, mapBlock, Sort.ahead, Array.getElem?_modify, this]
theorem take_putCellsR (cur F : Array Value) (h : F.size ≤ cur.size) : (putCells id 0 F cur).toList.take F.size = F.toList := by
  apply List.ext_getElem?
  intro j
  by_cases hj : j < F.size
  · rw [List.getElem?_take_of_lt hj, Array.getElem?_toList]
    simp [putCells, hj, show j < cur.size by omega]
  · rw [List.getElem?_take_eq_none (by omega), List.getElem?_eq_none (by simp; omega)]
theorem isAgg_row (w : World) : (isAgg 54).run Tryz.prog w = .ok true w := by kernel_rfl
theorem sizeOf_row (w : World) : (Go.sizeOf 54).run Tryz.prog w = .ok 3 w := by kernel_rfl
def SortedRows (base : Nat) (v : Value) (ks : List Row) (w : World) (w' : World) : Prop :=
  ∃ ks' : List Row, ks'.Perm ks ∧ ks'.Pairwise (fun a b => ¬ rowLt b a) ∧ w'.ownsRow base 54 3 v ks'.length (rcells ks') ∧ w.grownBy w' v.ownBlock
set_option maxRecDepth 100000 in
set_option maxHeartbeats 1000000 in
theorem sortRows_any (base : Nat) (A : Option Addr) (c : Nat) (ks : List Row) (w : World) (h : w.ownsRow base 54 3 (.slice A ks.length c) ks.length (rcells ks)) (hn : ks.length < 4611686018427387904) :
    Calls Tryz.prog 23 #[.slice A ks.length c, .func (.func 24) #[] #[]] w fun e w' => e = .returned (.tuple #[]) ∧ SortedRows base (.slice A ks.length c) ks w w' := by
  have eg : ∀ args w, (callFunc 24 args).run Tryz.prog w = .ok (.enter 24 args) w := enters_of Tryz.func24 (by kernel_rfl) rfl
  have HH := Lib.hid h
  rcases HH.out.2 with ⟨hnil, h0⟩ | ⟨g, cap, cur, hv, hbase, hb, h1, h2, h3, h4⟩
  · injection hnil with e1 e2 e3
    subst e1
    rw [h0]
    refine (AnyF.slices_SortFunc_none { Tryz.sortLay with } none c _ w).mono fun e w' ⟨he, hw⟩ => ⟨he, ks, List.Perm.refl _, ?_, ?_, ?_⟩
    · rw [List.eq_nil_of_length_eq_zero h0]; exact List.Pairwise.nil
    · subst hw; have := HH.out; rw [h0] at this; rw [h0]; exact this
    · subst hw; exact ⟨rfl, rfl, rfl, Nat.le_refl _, fun _ _ _ => rfl⟩
  · injection hv with e1 e2 e3
    subst e1 e3
    have hH := holds_rows hb h4
    have hgl : g < w.heap.size := (Array.getElem?_eq_some_iff.1 hb).1
    have := AnyQ.slices_SortFunc Tryz.sortLay 3 isAgg_row sizeOf_row rowc (fun _ => rfl) (fun k u hu => by simp only [rowc, List.mem_cons, List.not_mem_nil, or_false] at hu; rcases hu with rfl | rfl | rfl <;> rfl) ordR swoR 24 #[] g 0 c ks.toArray w eg (fun m os dk hdk x y => (order_any x y _).mono fun e w' ⟨he, hb, hd⟩ => ⟨he, grown_of hb hd⟩) hH hgl (by simpa using hn)
    simp only [List.size_toArray] at this
    refine Calls.mono this fun e w' ⟨he, d', n, os, hp, hs, hw⟩ => ⟨he, d'.toList, ?_, ?_, ?_, ?_⟩
    · obtain ⟨p1, _, p3⟩ := hp
      have e1 : d'.extract 0 ks.length = d' := by
        apply Array.extract_eq_self_of_le; rw [p1]; simp
      have e2 : ks.toArray.extract 0 ks.length = ks.toArray := by
        apply Array.extract_eq_self_of_le; simp
      rw [e1, e2] at p3
      simpa using p3
    · rw [List.pairwise_iff_getElem]
      intro i j hi hj hij
      have hsz : d'.size = ks.length := by rw [hp.1]; simp
      have := hs i j (Nat.zero_le _) hij (by rw [← hsz]; simpa using hj)
      rw [ltOf_ordF] at this
      have hj' : j < d'.size := by simpa using hj
      have hi' : i < d'.size := by simpa using hi
      rw [getElem!_pos d' j hj', getElem!_pos d' i hi'] at this
      simpa using this
    · have hsz : d'.toList.length = ks.length := by rw [Array.length_toList, hp.1]; simp
      subst hw
      have hF : (flatK rowc 3 d') = (flatK rowc 3 d'.toList.toArray) := by simp
      rw [hsz]
      refine ⟨by rw [rcells_len, hsz], .inr ⟨g, c, _, rfl, hbase, heap_sortedR _ hb, h1, h2, by simp [putCells, h3], ?_⟩⟩
      have hfs : (flatK rowc 3 d').size = ks.length * 3 := by rw [size_flatK, hp.1]; simp
      have := take_putCellsR cur (flatK rowc 3 d') (by rw [hfs, h3]; exact Nat.mul_le_mul_right 3 h1)
      rw [hfs] at this
      rw [this, hF, flatR_list]
    · subst hw
      exact grownBy_sortedR _
end Go.Proofs.YtkedmiememnmjaaGreat
namespace Go.Proofs.YtkedmiememnmjaaGreat
open Go.RowKit Go.Sort

theorem SeenL.congr {l : List (Wd × Value)} {L L' : List Wd} {N : Nat} (h : SeenL l L N) (hm : ∀ x, x ∈ L ↔ x ∈ L') : SeenL l L' N := fun x => by
  obtain ⟨n, h1, h2, h3⟩ := h x
  exact ⟨n, h1, h2, by rw [h3, hm]⟩
def meetW (a b : List Wd) : List Wd := a.filter fun w => decide (w ∈ b)
def MeetTo (w : World) (l : List Wd) (e : Ending) (w' : World) : Prop := ∃ v, e = .returned v ∧ w'.ownsRow w.heap.size 9 1 v l.length (wcells l) ∧ Below w.heap.size w w'
theorem meet_take {a b : List Wd} {i : Nat} (h : i < a.length) : meetW (a.take (i + 1)) b = meetW (a.take i) b ++ if a[i] ∈ b then [a[i]] else [] := by
  unfold meetW
  rw [List.take_succ_eq_append_getElem h, List.filter_append]
  congr 1
  by_cases hb : a[i] ∈ b <;> simp [hb]
set_option maxRecDepth 100000 in
set_option maxHeartbeats 8000000 in
theorem meet_any (A B : Option Addr) (ca cb : Nat) (a b : List Wd) (w : World) (ha : SlR eW w w.heap.size (.slice A a.length ca) a) (hb : SlR eW w w.heap.size (.slice B b.length cb) b) (la : a.length ≤ 1048576) (lb : b.length ≤ 1048576) :
    Calls Tryz.prog 69 #[.slice A a.length ca, .slice B b.length cb] w (MeetTo w (meetW a b)) := by
  have HA := Lib.hid ha
  have HB := Lib.hid hb
  obtain ⟨na, hna⟩ : ∃ n, n = a.length := ⟨_, rfl⟩
  obtain ⟨nb, hnb⟩ : ∃ n, n = b.length := ⟨_, rfl⟩
  rw [← hna] at HA la ⊢
  rw [← hnb] at HB lb ⊢
  have HNA := Lib.hid hna
  have HNB := Lib.hid hnb
  clear ha hb hna hnb
  have hmm := @run_makeMap Tryz.prog
  go_enter Tryz.func69, Tryz.ntmps69
  go_wp2_with fail
  have HM1 := Lib.hid (MapR.made (κ := wv) w)
  have HB1 := Lib.hid ((Below.refl w.heap.size w).alloc (Nat.le_refl _) (.map #[] 0))
  have HZ1 := Lib.hid (World.size_alloc w (.map #[] 0))
  generalize w.alloc (.map #[] 0) = w1 at *
  clear hmm
  go_loopg [14] nb (fun left v14 wr => ∃ (i : Nat) (l : List (Wd × Value)), i ≤ nb ∧ nb - i ≤ left ∧ v14 = .int .i64 i ∧ Hid (MapR wv wr w.heap.size l) ∧ Hid (SeenL l (b.take i) i) ∧ Hid (Below w.heap.size w wr) ∧ Hid (wr.heap.size = w.heap.size + 1))
  case atStart => exact ⟨0, [], by omega, by omega, rfl, HM1.out, SeenL.nil, HB1.out, HZ1.out⟩
  case round =>
    clear HM1 HB1 HZ1
    obtain ⟨i, l, hi, hleft, rfl, HM, HS, HBR, HZ⟩ := hrel
    by_cases hib : i < nb
    · have hil : i < b.length := by rw [← HNB.out]; exact hib
      obtain ⟨b2, o2, rfl, _, hb2, hc2⟩ := (HB.out.below HBR.out).wd hil
      have HT := Lib.hid (List.take_succ_eq_append_getElem hil)
      obtain ⟨x, hx⟩ : ∃ x, x = b[i] := ⟨_, rfl⟩
      rw [← hx] at hc2 HT
      clear hx hil
      obtain ⟨n, hn, hnN, _⟩ := HS.out x
      have hlk := HM.out.lookup wdInt_keys zero_intW x
      rw [hn] at hlk
      have hnb : (n : Int) ≤ 1048576 := by omega
      have HS2 := Lib.hid ((HS.out.put x hn hnN).congr (L' := b.take (i + 1)) (fun y => by rw [mem_putW, HT.out, List.mem_append, List.mem_singleton]))
      clear hn hnN
      go_wp2_with (at_mapUpdate; refine wpList_update wdInt_keys rfl rfl rfl rfl rfl HM.out ?_)
      intro w2 hmp2 hg2 hs2
      have HM2 := Lib.hid hmp2
      have HB2 := Lib.hid (HBR.out.grown hg2 HBR.out.size (fun k hk => by injection hk with hk; subst hk; exact Nat.le_refl _))
      have HZ2 := Lib.hid (hs2.trans HZ.out)
      clear hmp2 hg2 hs2 hlk
      go_wp2_with fail
      go_roundg (gk - 1)
      case measure => omega
      case rel => exact ⟨i + 1, _, by omega, by omega, by go_num, HM2.out, HS2.out, HB2.out, HZ2.out⟩
    · have hin : i = nb := by omega
      have HSF := Lib.hid (show SeenL l b i by
        have := HS.out
        rwa [hin, HNB.out, List.take_of_length_le (Nat.le_refl _), ← HNB.out, ← hin] at this)
      have HG := Lib.hid HM.out.lt
      clear hin HS
      obtain ⟨wm, hwm⟩ : ∃ wm, wm = wr := ⟨_, rfl⟩
      rw [← hwm] at HM HBR HZ HG ⊢
      clear hwm
      go_wp2_with fail
      go_loopg [25, 8] na (fun left v25 v8 wt => ∃ (j : Nat), j ≤ na ∧ na - j ≤ left ∧ v25 = .int .i64 j ∧ Hid (wt.ownsRow (w.heap.size + 1) 9 1 v8 (meetW (a.take j) b).length (wcells (meetW (a.take j) b))) ∧ Hid (Below (w.heap.size + 1) wm wt))
      case atStart => exact ⟨0, by omega, by omega, rfl, by simp only [List.take_zero, meetW, List.filter_nil]; exact World.ownsRow_nil _ _ _ _, Below.refl _ _⟩
      case round =>
        obtain ⟨j, hj, hleft2, rfl, HO, HBT⟩ := hrel
        have HBW := Lib.hid (HBR.out.trans (HBT.out.mono (by omega : w.heap.size ≤ w.heap.size + 1)))
        obtain ⟨L, hL⟩ : ∃ L, L = meetW (a.take j) b := ⟨_, rfl⟩
        rw [← hL] at HO
        have HLE := Lib.hid (show L.length ≤ na by
          rw [hL]
          unfold meetW
          refine Nat.le_trans (List.length_filter_le _ _) ?_
          rw [List.length_take]
          omega)
        have HLL := Lib.hid hL
        obtain ⟨A8, c8, rfl, hl8, hl9⟩ := own_form HO.out
        obtain ⟨nl, hnl⟩ : ∃ nl, nl = L.length := ⟨_, rfl⟩
        rw [← hnl] at HO HLE hl8 ⊢
        have HNL := Lib.hid hnl
        clear hL hnl
        by_cases hja : j < na
        · have hjl : j < a.length := by rw [← HNA.out]; exact hja
          obtain ⟨b2, o2, rfl, _, hb2, hc2⟩ := (HA.out.below HBW.out).wd hjl
          have HMT := Lib.hid (meet_take (b := b) hjl)
          obtain ⟨x, hx⟩ : ∃ x, x = a[j] := ⟨_, rfl⟩
          rw [← hx, ← HLL.out] at HMT
          rw [← hx] at hc2
          clear hx hjl
          obtain ⟨n, hn, hnN, hn0⟩ := HSF.out x
          have hlk := (HM.out.below HBT.out (by omega : w.heap.size < w.heap.size + 1)).lookup wdInt_keys zero_intW x
          rw [hn] at hlk
          by_cases hin : x ∈ b
          · have hpos : (0 : Int) < (n : Int) := by
              have : n ≠ 0 := fun e => (hn0.1 e) hin
              omega
            have HMT2 := Lib.hid (show meetW (a.take (j + 1)) b = L ++ [x] by rw [HMT.out, if_pos hin])
            have HWS := Lib.hid (show w.heap.size + 1 ≤ wr.heap.size by have := HBT.out.size; have := HZ.out; omega)
            have hle := HLE.out
            clear hn0 hn hin
            go_wp2_with (at_builtin; refine wpList_app (m := 1) (n := nl) str_appW rfl rfl rfl rfl (HO.out.alloc _) (Rd.row (B := wr.heap.size + 1) (Go.heap_alloc_new wr _) (by omega)) rfl (fun u hu => by simp at hu; subst hu; rfl) (by unfold maxLen; omega) (by omega) (by rw [World.size_alloc]; have := HWS.out; omega) ?_)
            intro v' w' ho hg _ _
            have HO2 := Lib.hid (show w'.ownsRow (w.heap.size + 1) 9 1 v' (meetW (a.take (j + 1)) b).length (wcells (meetW (a.take (j + 1)) b)) by
              rw [HMT2.out, List.length_append, ← HNL.out]
              simp only [wcells, List.map_append]
              exact ho)
            have HB3 := Lib.hid (grown_below (HBT.out.alloc (by have := HWS.out; omega) _) hg (HO.out.alloc _) (Nat.le_refl _) (by rw [World.size_alloc]; have := HWS.out; omega))
            obtain ⟨A6, c6, rfl, hl7, hl10⟩ := own_form ho
            clear ho hg hlk
            go_wp2_with fail
            go_roundg (gk - 1)
            case measure => omega
            case rel => exact ⟨j + 1, by omega, by omega, by go_num, HO2.out, HB3.out⟩
          · have hz : n = 0 := hn0.2 hin
            subst hz
            have HMT2 := Lib.hid (show meetW (a.take (j + 1)) b = L by rw [HMT.out, if_neg hin, List.append_nil])
            have HO2 := Lib.hid (show wr.ownsRow (w.heap.size + 1) 9 1 (.slice A8 nl c8) (meetW (a.take (j + 1)) b).length (wcells (meetW (a.take (j + 1)) b)) by rw [HMT2.out, ← HNL.out]; exact HO.out)
            clear hn0 hn hin
            go_wp2_with fail
            go_roundg (gk - 1)
            case measure => omega
            case rel => exact ⟨j + 1, by omega, by omega, by go_num, HO2.out, HBT.out⟩
        · have HFIN := Lib.hid (show meetW a b = L by rw [HLL.out, List.take_of_length_le (by rw [← HNA.out]; omega)])
          go_wp2_with fail
          go_ret
          refine ⟨_, rfl, ?_, HBW.out⟩
          rw [HFIN.out, ← HNL.out]
          exact own_more HO.out (by omega)
def CommonTo (w : World) (o : Option Wd) (e : Ending) (w' : World) : Prop := Below w.heap.size w w' ∧ match o with
  | none => e = .returned (.tuple #[.string ⟨#[]⟩, .bool false])
  | some x => e = .returned (.tuple #[wv x, .bool true])
theorem commonW_meet (a b : List Wd) : commonW a b = (meetW a b).head? := rfl
set_option maxRecDepth 100000 in
set_option maxHeartbeats 8000000 in
theorem common_any (g : Nat) (A B : Option Addr) (ca cb : Nat) (a b : List Wd) (w : World) (h0 : w.cell? ⟨g, 0, none⟩ = some (.slice A a.length ca)) (h1 : w.cell? ⟨g, 1, none⟩ = some (.slice B b.length cb)) (ha : SlR eW w w.heap.size (.slice A a.length ca) a) (hb : SlR eW w w.heap.size (.slice B b.length cb) b) (la : a.length ≤ 1048576) (lb : b.length ≤ 1048576) :
    Calls Tryz.prog 45 #[.slice (some ⟨g, 0, none⟩) 2 2] w (CommonTo w (commonW a b)) := by
  have HME := Lib.hid (meet_any A B ca cb a b w ha hb la lb)
  rw [commonW_meet]
  have HLE := Lib.hid (show (meetW a b).length ≤ 1048576 from Nat.le_trans (List.length_filter_le _ _) la)
  obtain ⟨L, hL⟩ : ∃ L, L = meetW a b := ⟨_, rfl⟩
  rw [← hL] at HME HLE ⊢
  have hgl := World.block_lt_of_cell? w _ h0
  simp only at hgl
  clear hL ha hb
  obtain ⟨na, hna⟩ : ∃ n, n = a.length := ⟨_, rfl⟩
  obtain ⟨nb, hnb⟩ : ∃ n, n = b.length := ⟨_, rfl⟩
  rw [← hna] at HME la h0
  rw [← hnb] at HME lb h1
  clear hna hnb
  go_enter Tryz.func45, Tryz.ntmps45
  go_wp2_with fail
  go_loopg [13, 4] 1 (fun left v13 v4 wr => (v13 = .int .i64 0 ∧ v4 = .slice A na ca ∧ wr = w ∧ left = 1) ∨ (v13 = .int .i64 1 ∧ Hid (wr.ownsRow w.heap.size 9 1 v4 L.length (wcells L)) ∧ Hid (Below w.heap.size w wr)))
  case atStart => exact .inl ⟨rfl, rfl, rfl, rfl⟩
  case round =>
    rcases hrel with ⟨rfl, rfl, rfl, hgk⟩ | ⟨rfl, HO, HB⟩
    · go_wp2_with fail
      refine HME.out.mono ?_
      rintro e w2 ⟨v, rfl, hown, hb2⟩
      have HO := Lib.hid hown
      have HB := Lib.hid hb2
      obtain ⟨A2, c2, rfl, _, _⟩ := own_form hown
      clear hown hb2
      go_wp2_with fail
      go_roundg 0
      case measure => omega
      case rel => exact .inr ⟨by go_num, HO.out, HB.out⟩
    · obtain ⟨A2, c2, rfl, hl1, hl2⟩ := own_form HO.out
      cases L with
      | nil =>
        go_wp2_with fail
        go_ret2
        exact ⟨HB.out, rfl⟩
      | cons x L =>
        have HRD := Lib.hid (Rd.of_own HO.out)
        obtain ⟨b2, o2, rfl, hbl, hcell⟩ := HRD.out.at_ (k := 0) (by rw [wcells_len]; simp)
        have hcell0 : wr.cell? ⟨b2, o2, none⟩ = some (wv x) := by rw [Nat.add_zero] at hcell; exact hcell
        have hne : (((x :: L).length : Int) == 0) = false := by simp; omega
        clear hcell
        obtain ⟨nl, hnl⟩ : ∃ nl, nl = (x :: L).length := ⟨_, rfl⟩
        have hpos : 0 < nl := by rw [hnl]; simp
        rw [← hnl] at hne hl1 ⊢
        clear hnl
        go_wp2_with fail
        go_ret2
        exact ⟨HB.out, rfl⟩
end Go.Proofs.YtkedmiememnmjaaGreat
namespace Go.Proofs.YtkedmiememnmjaaGreat
open Go.RowKit Go.Sort

structure Calm (N0 : Nat) (w w' : World) : Prop where
  below : Below N0 w w'
  size : w.heap.size ≤ w'.heap.size
  typed : ∀ (g : Nat) (cs : Array Value) (t : TypeId) (fr : Nat × Nat), w.heap[g]? = some (.cells cs t fr) → t ≠ 46 → t ≠ 29 → w'.heap[g]? = some (.cells cs t fr)
theorem Calm.refl (N0 : Nat) (w : World) : Calm N0 w w := ⟨Below.refl _ _, Nat.le_refl _, fun _ _ _ _ h _ _ => h⟩
theorem Calm.trans {N0 : Nat} {w w1 w2 : World} (h : Calm N0 w w1) (h2 : Calm N0 w1 w2) : Calm N0 w w2 := ⟨h.below.trans h2.below, Nat.le_trans h.size h2.size, fun g cs t fr hg h3 h4 => h2.typed g cs t fr (h.typed g cs t fr hg h3 h4) h3 h4⟩
theorem Calm.of_below {N0 : Nat} {w w' : World} (h : Below w.heap.size w w') (hN : N0 ≤ w.heap.size) : Calm N0 w w' := ⟨h.mono hN, h.size, fun _ _ _ _ hg _ _ => (h.block _ (Array.getElem?_eq_some_iff.1 hg).1).trans hg⟩
def pairsOf : List Nat → List (Nat × Nat)
  | [] => []
  | a :: l => l.map (fun b => (a, b)) ++ pairsOf l
def StepP {σ : Type} (F : FuncId) (cap : Array Value) (l : List Nat) (N0 : Nat) (f : σ → Nat × Nat → σ) (s0 : σ) (I : σ → World → Prop) : Prop :=
  ∀ (pre post : List (Nat × Nat)) (w1 : World) (a b : Nat), pairsOf l = pre ++ (a, b) :: post → a ∈ l → b ∈ l → I (pre.foldl f s0) w1 → N0 ≤ w1.heap.size → Calls Tryz.prog F (#[.int .i64 a, .int .i64 b] ++ cap) w1 fun e w2 => e = .returned (.tuple #[]) ∧ I (f (pre.foldl f s0) (a, b)) w2 ∧ Calm N0 w1 w2
def LeftP {σ : Type} (l : List Nat) (f : σ → Nat × Nat → σ) (s0 s : σ) (rest : List (Nat × Nat)) : Prop := ∃ pre, s = pre.foldl f s0 ∧ pairsOf l = pre ++ rest
theorem LeftP.next {σ : Type} {l : List Nat} {f : σ → Nat × Nat → σ} {s0 s : σ} {p : Nat × Nat} {rest : List (Nat × Nat)} (h : LeftP l f s0 s (p :: rest)) : LeftP l f s0 (f s p) rest := by
  obtain ⟨pre, rfl, h⟩ := h
  exact ⟨pre ++ [p], by simp, by simp [h]⟩
theorem LeftP.done {σ : Type} {l : List Nat} {f : σ → Nat × Nat → σ} {s0 s : σ} (h : LeftP l f s0 s []) : s = (pairsOf l).foldl f s0 := by
  obtain ⟨pre, rfl, h⟩ := h
  rw [h, List.append_nil]
theorem ofTo_rules (rs : RuleL) (left : Int) : ofTo rs left rs.length = (rulesOf rs left).map fun i : Nat => (i : Int) := rfl
set_option maxRecDepth 100000 in
set_option maxHeartbeats 8000000 in
theorem pairs_any {σ : Type} (F : FuncId) (cap : Array Value) (hF : ∀ (args : Array Value) (w : World), (callFunc F args).run Tryz.prog w = .ok (.enter F args) w) (f : σ → Nat × Nat → σ) (I : σ → World → Prop) {A1 A2 A3 : Option Addr} {n m q c1 c2 c3 N0 : Nat} {g : Gram} (left : Int) (s0 : σ) (w : World)
    (h : GramR w w.heap.size A1 A2 A3 n m q c1 c2 c3 g) (hN : N0 ≤ w.heap.size) (hI : ∀ s w1 w2, I s w1 → Below w1.heap.size w1 w2 → I s w2) (h0 : I s0 w) (hstep : StepP F cap (rulesOf g.2.2 left) N0 f s0 I) :
    Calls Tryz.prog 43 #[gramV A1 A2 A3 n m q c1 c2 c3, .int .i64 left, .func (.func F) #[] cap] w fun e w' => e = .returned (.tuple #[]) ∧ I ((pairsOf (rulesOf g.2.2 left)).foldl f s0) w' ∧ Calm N0 w w' := by
  have hbx := (Below.refl w.heap.size w).alloc (Nat.le_refl _) (.cells #[.slice A1 n c1, .slice A2 m c2, .slice A3 q c3] 25)
  have HZ := Lib.hid (World.size_alloc w (.cells #[.slice A1 n c1, .slice A2 m c2, .slice A3 q c3] 25))
  have HV := Lib.hid (h.fut (B' := w.heap.size + 1) hbx (Nat.le_refl _) (by omega))
  have HBX := Lib.hid hbx
  have HI := Lib.hid hI
  have HI1 := Lib.hid (hI _ _ _ h0 hbx)
  have HF := Lib.hid hF
  have HS := Lib.hid hstep
  have hsm := h.small
  have HQ := Lib.hid h.ln.2.2
  have HLE := Lib.hid (show (rulesOf g.2.2 left).length ≤ 1048576 by
    unfold rulesOf
    refine Nat.le_trans (List.length_filter_le _ _) ?_
    rw [List.length_range, ← h.ln.2.2]
    exact hsm.2.2)
  clear h hbx hI h0 hF hstep
  go_enter Tryz.func43, Tryz.ntmps43
  go_wp2_with fail
  generalize w.alloc (.cells #[.slice A1 n c1, .slice A2 m c2, .slice A3 q c3] 25) = w1 at *
  refine (gram_of A1 A2 (.slice A3 q c3) n m c1 c2 left g.2.2 w1 (by rw [HZ.out]; exact HV.out.rules) (by rw [← HQ.out]; omega)).mono ?_
  rintro e w2 ⟨v, rfl, hown, hb2⟩
  rw [ofTo_rules] at hown
  obtain ⟨l, hl⟩ : ∃ l, l = rulesOf g.2.2 left := ⟨_, rfl⟩
  rw [← hl] at hown HLE
  have HLL := Lib.hid hl
  have HI2 := Lib.hid (HI.out _ _ _ HI1.out hb2)
  have HC2 := Lib.hid (Calm.of_below (HBX.out.trans (hb2.mono (by rw [HZ.out]; omega))) hN)
  have HO := Lib.hid hown
  rw [List.length_map] at HO hown
  obtain ⟨nl, hnl⟩ : ∃ nl, nl = l.length := ⟨_, rfl⟩
  rw [← hnl] at HO HLE hown
  have HNL := Lib.hid hnl
  obtain ⟨tot, htot⟩ : ∃ tot, tot = (pairsOf l).foldl f s0 := ⟨_, rfl⟩
  have HTOT := Lib.hid htot
  have HFIN : Hid (∀ (e : Ending) (w' : World), e = .returned (.tuple #[]) → I tot w' → Calm N0 w w' → e = .returned (.tuple #[]) ∧ I ((pairsOf (rulesOf g.2.2 left)).foldl f s0) w' ∧ Calm N0 w w') := by
    intro e w' h1 h2 h3
    rw [← HLL.out, ← HTOT.out]
    exact ⟨h1, h2, h3⟩
  rcases hown.2 with ⟨rfl, hz⟩ | ⟨gl, cap', cur, rfl, hbase, hgl, hl1, hl2, hl3, hl4⟩
  · have HT0 := Lib.hid (show tot = s0 by
      rw [htot, (List.eq_nil_of_length_eq_zero (by rw [← hnl]; exact hz) : l = [])]
      rfl)
    have hnl0 : nl = 0 := hz
    clear hown hb2 hl hnl htot hz
    go_wp2_with fail
    go_loopg [16] 0 (fun lft v16 wr => v16 = .int .i64 0 ∧ wr = w2)
    case atStart => exact ⟨rfl, rfl⟩
    case round =>
      obtain ⟨rfl, rfl⟩ := hrel
      go_wp2_with fail
      go_end0
      exact HFIN.out _ _ rfl (by rw [HT0.out]; exact HI2.out) HC2.out
  · have HGL := Lib.hid hgl
    have HCUR : Hid (∀ (w' : World), w'.heap[gl]? = some (.cells cur 3 (0, 0)) → ∀ i (hi : i < l.length), w'.cell? ⟨gl, i, none⟩ = some (.int .i64 ((l[i] : Nat) : Int))) := by
      intro w' hw i hi
      rw [cell_of_row w' gl i _ _ _ hw, ← Array.getElem?_toList]
      have : (cur.toList.take (nl * 1))[i]? = cur.toList[i]? := List.getElem?_take_of_lt (by omega)
      rw [← this, hl4]
      simp [icells, hi]
    have hle := HLE.out
    clear hown hb2 hl hnl htot hgl hl4
    go_wp2_with fail
    go_loopg [16] nl (fun lft v16 wr => ∃ (i : Nat) (s : σ), i ≤ nl ∧ nl - i ≤ lft ∧ v16 = .int .i64 i ∧ Hid (LeftP l f s0 s (pairsOf (l.drop i))) ∧ Hid (I s wr) ∧ Hid (Calm N0 w2 wr))
    case atStart => exact ⟨0, s0, by omega, by omega, rfl, ⟨[], rfl, rfl⟩, HI2.out, Calm.refl _ _⟩
    case round =>
      clear HI2
      obtain ⟨i, s, hi, hlft, rfl, HTI, HIS, HCA⟩ := hrel
      obtain ⟨gas, hgas⟩ : ∃ gas, gas = gk := ⟨_, rfl⟩
      rw [← hgas] at hlft
      have HGK := Lib.hid hgas
      clear hgas
      have hg3 := HCA.out.typed gl cur _ _ HGL.out (by decide) (by decide)
      by_cases hin : i < nl
      · have hil : i < l.length := by rw [← HNL.out]; exact hin
        have hc0 := HCUR.out _ hg3 i hil
        have HMEM := Lib.hid (List.getElem_mem hil)
        have HTI2 := Lib.hid (show LeftP l f s0 s (((l.drop (i + 1)).map fun b => (l[i], b)) ++ pairsOf (l.drop (i + 1))) by have := HTI.out; rwa [List.drop_eq_getElem_cons hil] at this)
        obtain ⟨a, ha⟩ : ∃ a, a = l[i] := ⟨_, rfl⟩
        rw [← ha] at hc0 HMEM HTI2
        clear ha hil hg3 HTI
        by_cases hci : cap' = i + 1
        · have hni : nl = i + 1 := by omega
          have HTI3 := Lib.hid (show LeftP l f s0 s (pairsOf (l.drop (i + 1))) by
            have := HTI2.out
            rwa [List.drop_eq_nil_of_le (by rw [← HNL.out]; omega)] at this ⊢)
          subst hci
          subst hni
          go_wp2_with fail
          go_loopg [26] 0 (fun lft v26 wt => v26 = .int .i64 0 ∧ wt = wr)
          case atStart => exact ⟨rfl, rfl⟩
          case round =>
            obtain ⟨rfl, rfl⟩ := hrel
            go_wp2_with fail
            go_roundg (gas - 1)
            case measure => have := HGK.out; omega
            case rel => exact ⟨i + 1, s, by omega, by omega, by go_num, HTI3.out, HIS.out, HCA.out⟩
        · go_wp2_with fail
          go_loopg [26] (nl - (i + 1)) (fun lft v26 wt => ∃ (j : Nat) (t : σ), j ≤ nl - (i + 1) ∧ nl - (i + 1) - j ≤ lft ∧ v26 = .int .i64 j ∧ Hid (LeftP l f s0 t ((((l.drop (i + 1)).drop j).map fun b => (a, b)) ++ pairsOf (l.drop (i + 1)))) ∧ Hid (I t wt) ∧ Hid (Calm N0 w2 wt))
          case atStart => exact ⟨0, s, by omega, by omega, rfl, HTI2.out, HIS.out, HCA.out⟩
          case round =>
            clear HTI2 HIS HCA hc0
            obtain ⟨j, t, hj, hlft2, rfl, HTJ, HIT, HCA⟩ := hrel
            have hg3 := HCA.out.typed gl cur _ _ HGL.out (by decide) (by decide)
            by_cases hjn : j < nl - (i + 1)
            · have hjl : i + 1 + j < l.length := by rw [← HNL.out]; omega
              have hc1 := HCUR.out _ hg3 (i + 1 + j) hjl
              have HMEM2 := Lib.hid (List.getElem_mem hjl)
              have HTJ2 := Lib.hid (show LeftP l f s0 t ((a, l[i + 1 + j]) :: ((((l.drop (i + 1)).drop (j + 1)).map fun b => (a, b)) ++ pairsOf (l.drop (i + 1)))) by
                have hj2 : j < (l.drop (i + 1)).length := by rw [List.length_drop]; omega
                have := HTJ.out
                rwa [List.drop_eq_getElem_cons hj2, List.map_cons, List.cons_append, List.getElem_drop] at this)
              obtain ⟨b, hb⟩ : ∃ b, b = l[i + 1 + j] := ⟨_, rfl⟩
              rw [← hb] at hc1 HMEM2 HTJ2
              clear hb hjl hg3 HTJ
              go_wp2_with fail
              rw [HF.out]
              obtain ⟨pre, hpre, hall⟩ := HTJ2.out
              refine (HS.out pre _ _ a b (by rw [← HLL.out]; exact hall) (by rw [← HLL.out]; exact HMEM.out) (by rw [← HLL.out]; exact HMEM2.out) (by rw [← hpre]; exact HIT.out) (Nat.le_trans hN (Nat.le_trans HC2.out.size HCA.out.size))).mono ?_
              rw [← hpre]
              clear hpre hall
              rintro e w5 ⟨rfl, hi5, hc5⟩
              have HI5 := Lib.hid hi5
              have HC5 := Lib.hid (HCA.out.trans hc5)
              clear hi5 hc5
              go_wp2_with fail
              go_roundg (gk - 1)
              case measure => omega
              case rel => exact ⟨j + 1, f t (a, b), by omega, by omega, by go_num, HTJ2.out.next, HI5.out, HC5.out⟩
            · have HTJ2 := Lib.hid (show LeftP l f s0 t (pairsOf (l.drop (i + 1))) by
                have := HTJ.out
                rwa [show (l.drop (i + 1)).drop j = [] from List.drop_eq_nil_of_le (by rw [List.length_drop, ← HNL.out]; omega)] at this)
              clear hg3 HTJ
              go_wp2_with fail
              go_roundg (gas - 1)
              case measure => have := HGK.out; omega
              case rel => exact ⟨i + 1, t, by omega, by omega, by go_num, HTJ2.out, HIT.out, HCA.out⟩
      · have HT0 := Lib.hid (show tot = s by
          have := HTI.out
          rw [List.drop_eq_nil_of_le (by rw [← HNL.out]; omega)] at this
          exact HTOT.out.trans (LeftP.done this).symm)
        go_wp2_with fail
        go_end0
        exact HFIN.out _ _ rfl (by rw [HT0.out]; exact HIS.out) (HC2.out.trans HCA.out)
end Go.Proofs.YtkedmiememnmjaaGreat
namespace Go.Proofs.YtkedmiememnmjaaGreat
open Go.RowKit

theorem clash_app : AppTy Tryz.prog 29 46 4 40 (.agg #[.int .i64 0, .string ⟨#[]⟩, .int .i64 0, .int .i64 0]) := appTy (by kernel_rfl) (by kernel_rfl) rfl (by omega)
abbrev clc (x : Clash) : List Value := [.int .i64 x.1, wv x.2.1, .int .i64 x.2.2.1, .int .i64 x.2.2.2]
def ccells (xs : List Clash) : List Value := (xs.map clc).flatten
theorem ccells_snoc (xs : List Clash) (x : Clash) : ccells (xs ++ [x]) = ccells xs ++ clc x := by simp [ccells]
def clashF (left : Int) (sets : Sets) (s : List Clash) (p : Nat × Nat) : List Clash := s ++ pairW left sets p.1 p.2
def ofOpt (left : Int) (a b : Nat) : Option Wd → List Clash
  | none => []
  | some w => [(left, w, (a : Int), (b : Int))]
theorem pairW_opt (left : Int) (sets : Sets) (a b : Nat) : pairW left sets a b = ofOpt left a b (commonW (sets.getD a []) (sets.getD b [])) := by
  unfold pairW ofOpt
  cases commonW (sets.getD a []) (sets.getD b []) <;> rfl
theorem pairW_le (left : Int) (sets : Sets) (a b : Nat) : (pairW left sets a b).length ≤ 1 := by
  unfold pairW
  split <;> simp
theorem clashF_fold (left : Int) (sets : Sets) : ∀ (l : List (Nat × Nat)) (s : List Clash), l.foldl (clashF left sets) s = s ++ l.flatMap fun p => pairW left sets p.1 p.2
  | [], s => by simp
  | p :: l, s => by rw [List.foldl_cons, clashF_fold left sets l]; simp [clashF]
theorem clashF_len (left : Int) (sets : Sets) : ∀ (l : List (Nat × Nat)) (s : List Clash), (l.foldl (clashF left sets) s).length ≤ s.length + l.length
  | [], s => by simp
  | p :: l, s => by
    rw [List.foldl_cons]
    have h1 := clashF_len left sets l (clashF left sets s p)
    have h2 := pairW_le left sets p.1 p.2
    simp only [clashF, List.length_append, List.length_cons] at h1 ⊢
    omega
theorem pairs_len : ∀ l : List Nat, (pairsOf l).length ≤ l.length * l.length
  | [] => by simp [pairsOf]
  | a :: l => by
    have := pairs_len l
    simp only [pairsOf, List.length_append, List.length_map, List.length_cons, Nat.mul_add, Nat.add_mul]
    omega
theorem pairsW_eq (left : Int) (sets : Sets) : ∀ l : List Nat, ((pairsOf l).flatMap fun p => pairW left sets p.1 p.2) = pairsW left sets l
  | [] => rfl
  | a :: l => by
    simp only [pairsOf, List.flatMap_append, pairsW, pairsW_eq left sets l, List.flatMap_map]
structure ClSt (N0 GS GO GL : Nat) (A : Option Addr) (ns c : Nat) (left : Int) (sets : Sets) (s : List Clash) (w : World) : Prop where
  hs : w.heap[GS]? = some (.cells #[.slice A ns c] 42 (0, 0))
  hl : w.heap[GL]? = some (.cells #[.int .i64 left] 3 (0, 0))
  ho : ∃ v, w.heap[GO]? = some (.cells #[v] 29 (0, 0)) ∧ w.ownsRow N0 46 4 v s.length (ccells s)
  sl : SlR (eSl eW) w N0 (.slice A ns c) sets
  hN : N0 ≤ w.heap.size
  hO : N0 ≤ GO
theorem ClSt.below {N0 GS GO GL : Nat} {A : Option Addr} {ns c : Nat} {left : Int} {sets : Sets} {s : List Clash} {w w' : World} (h : ClSt N0 GS GO GL A ns c left sets s w) (hb : Below w.heap.size w w') : ClSt N0 GS GO GL A ns c left sets s w' := by
  obtain ⟨v, h1, h2⟩ := h.ho
  have l1 := (Array.getElem?_eq_some_iff.1 h.hs).1
  have l2 := (Array.getElem?_eq_some_iff.1 h.hl).1
  have l3 := (Array.getElem?_eq_some_iff.1 h1).1
  exact ⟨(hb.block _ l1).trans h.hs, (hb.block _ l2).trans h.hl, ⟨v, (hb.block _ l3).trans h1, own_below h2 hb⟩, h.sl.below (hb.mono h.hN), Nat.le_trans h.hN hb.size, h.hO⟩
set_option maxRecDepth 100000 in
set_option maxHeartbeats 8000000 in
theorem clash1_any {N0 GS GO GL : Nat} {A : Option Addr} {ns c : Nat} {left : Int} {sets : Sets} {s : List Clash} {a b : Nat} (w : World) (h : ClSt N0 GS GO GL A ns c left sets s w) (hls : s.length ≤ 1099511627776) (ha : a < ns) (hb : b < ns) (hsz : ∀ x ∈ sets, x.length ≤ 1048576) :
    Calls Tryz.prog 44 #[.int .i64 a, .int .i64 b, .pointer (some ⟨GS, 0, none⟩), .pointer (some ⟨GO, 0, none⟩), .pointer (some ⟨GL, 0, none⟩)] w fun e w' => e = .returned (.tuple #[]) ∧ ClSt N0 GS GO GL A ns c left sets (clashF left sets s (a, b)) w' ∧ Calm N0 w w' := by
  obtain ⟨v, h1, h2⟩ := h.ho
  have cS := cell0 h.hs
  have cL := cell0 h.hl
  have cO := cell0 h1
  have HN := h.sl.n_eq
  have hal : a < sets.length := by omega
  have hbl : b < sets.length := by omega
  obtain ⟨b1, o1, cs1, rfl, _, hb1, hrep1, hcell1⟩ := h.sl.get hal (by decide)
  obtain ⟨v1, rfl, hv1⟩ := hrep1
  have x1 := hcell1 0 _ rfl
  obtain ⟨b2, o2, cs2, he2, _, hb2, hrep2, hcell2⟩ := h.sl.get hbl (by decide)
  obtain ⟨v2, rfl, hv2⟩ := hrep2
  injection he2 with he2
  injection he2 with e1 e2
  subst e1 e2
  have x2 := hcell2 0 _ rfl
  simp only [show (eSl eW).size = 1 from rfl, Nat.mul_one, Nat.add_zero] at x1 x2
  have HP := Lib.hid (show clashF left sets s (a, b) = s ++ ofOpt left a b (commonW sets[a] sets[b]) by
    unfold clashF
    rw [pairW_opt]
    simp only [List.getD_eq_getElem?_getD, List.getElem?_eq_getElem hal, List.getElem?_eq_getElem hbl, Option.getD_some])
  have z1 := hsz _ (List.getElem_mem hal)
  have z2 := hsz _ (List.getElem_mem hbl)
  obtain ⟨p1, hp1⟩ : ∃ p1, p1 = sets[a] := ⟨_, rfl⟩
  obtain ⟨p2, hp2⟩ : ∃ p2, p2 = sets[b] := ⟨_, rfl⟩
  rw [← hp1] at HP hv1 z1
  rw [← hp2] at HP hv2 z2
  obtain ⟨A3, c3, rfl, _, _⟩ := hv1.form
  obtain ⟨A4, c4, rfl, _, _⟩ := hv2.form
  have HV1 := Lib.hid hv1
  have HV2 := Lib.hid hv2
  have HH := Lib.hid h
  have HO := Lib.hid h2
  have HZ1 := Lib.hid z1
  have HZ2 := Lib.hid z2
  have HNN := Lib.hid h.hN
  clear hp1 hp2 hv1 hv2 h h2 hcell1 hcell2 hsz hal hbl z1 z2
  go_enter Tryz.func44, Tryz.ntmps44
  go_wp2_with fail
  refine Text.wp_text [] (by kernel_rfl) (by kernel_rfl) (fun Q' hQ' => ?_)
  go_wp2_with fail
  have HW := Lib.hid (((Below.refl w.heap.size w).alloc (Nat.le_refl _) (.cells #[.slice A3 p1.length c3, .slice A4 p2.length c4] 22)).drew)
  have HK := Lib.hid (show (w.alloc (.cells #[.slice A3 p1.length c3, .slice A4 p2.length c4] 22)).drew.heap[w.heap.size]? = _ from Go.heap_alloc_new w (.cells #[.slice A3 p1.length c3, .slice A4 p2.length c4] 22))
  have HS2 := Lib.hid (show (w.alloc (.cells #[.slice A3 p1.length c3, .slice A4 p2.length c4] 22)).drew.heap.size = w.heap.size + 1 from World.size_alloc w _)
  generalize (w.alloc (.cells #[.slice A3 p1.length c3, .slice A4 p2.length c4] 22)).drew = w2 at *
  refine (common_any w.heap.size A3 A4 c3 c4 p1 p2 w2 (by rw [cell_of_row _ _ _ _ _ _ HK.out]; rfl) (by rw [cell_of_row _ _ _ _ _ _ HK.out]; rfl) (HV1.out.fut (HW.out.mono HNN.out) (Nat.le_refl _) (by rw [HS2.out]; have := HNN.out; omega)) (HV2.out.fut (HW.out.mono HNN.out) (Nat.le_refl _) (by rw [HS2.out]; have := HNN.out; omega)) HZ1.out HZ2.out).mono ?_
  rintro e w5 ⟨hb5, hres⟩
  have HB5 := Lib.hid (HW.out.trans (hb5.mono (by rw [HS2.out]; omega)))
  have H5 := Lib.hid (HH.out.below HB5.out)
  have HC5 := Lib.hid (Calm.of_below HB5.out HNN.out)
  cases hco : commonW p1 p2 with
  | none =>
    rw [hco] at hres HP
    simp only at hres
    subst hres
    have HP2 := Lib.hid (show clashF left sets s (a, b) = s by rw [HP.out]; simp [ofOpt])
    clear hco hb5
    go_wp2_with fail
    refine ⟨by rfl, ?_⟩
    go_wp2_with fail
    go_end0
    exact ⟨rfl, by rw [HP2.out]; exact H5.out, HC5.out⟩
  | some x =>
    rw [hco] at hres HP
    simp only at hres
    subst hres
    have HP2 := Lib.hid (show clashF left sets s (a, b) = s ++ [(left, x, (a : Int), (b : Int))] by rw [HP.out]; rfl)
    obtain ⟨l1, l2, l3⟩ : GS < w.heap.size ∧ GL < w.heap.size ∧ GO < w.heap.size := ⟨(Array.getElem?_eq_some_iff.1 HH.out.hs).1, (Array.getElem?_eq_some_iff.1 HH.out.hl).1, (Array.getElem?_eq_some_iff.1 h1).1⟩
    have HO5 := Lib.hid (own_below HO.out HB5.out)
    have HG5 := Lib.hid ((HB5.out.block _ l3).trans h1)
    have HL3 := Lib.hid (Nat.lt_of_lt_of_le l3 HB5.out.size)
    have HN5 := Lib.hid (Nat.le_trans HNN.out HB5.out.size)
    clear hco hb5 cS cO cL x1 x2 l1 l2 l3 h1
    have cO := cell0 HG5.out
    have cL := cell0 H5.out.hl
    go_wp2_with fail
    refine ⟨by rfl, ?_⟩
    go_wp2_with (at_builtin; refine wpList_app (m := 1) (n := s.length) clash_app rfl rfl rfl rfl (HO5.out.alloc _) (Rd.row (B := w5.heap.size + 1) (Go.heap_alloc_new w5 _) (by omega)) rfl (by simp [Value.oneCell']) (by unfold maxLen; omega) (by omega) (by rw [World.size_alloc]; have := HN5.out; omega) ?_)
    intro v' w7 ho7 hg7 hv7 _
    have HT7 := Lib.hid (show ∀ (g : Nat) (cs : Array Value) (t : TypeId) (fr : Nat × Nat), w5.heap[g]? = some (.cells cs t fr) → t ≠ 46 → w7.heap[g]? = some (.cells cs t fr) from fun g cs t fr hg ht => by
      refine grown_other (HO5.out.alloc _) hg7 ?_ ht
      rw [Below.heap_alloc _ _ _ (Array.getElem?_eq_some_iff.1 hg).1]
      exact hg)
    have HG7 := Lib.hid (HT7.out _ _ _ _ HG5.out (by decide))
    have HB7 := Lib.hid (show Below N0 w5 w7 from grown_below (((Below.refl w5.heap.size w5).mono HN5.out).alloc HN5.out (.cells (clc (left, x, (a : Int), (b : Int))).toArray 46)) hg7 (HO5.out.alloc _) (Nat.le_refl _) (by rw [World.size_alloc]; have := HN5.out; omega))
    have HS7 := Lib.hid (show w5.heap.size ≤ w7.heap.size by have := hg7.size; rw [World.size_alloc] at this; omega)
    obtain ⟨A7, c7, rfl, h71, h72⟩ := own_form ho7
    have HO7 := Lib.hid ho7
    have cO7 := cell0 HG7.out
    have fO : w7.frozen? ⟨GO, 0, none⟩ = false := by simp [World.frozen?, HG7.out]
    clear ho7 hg7 hv7 cO cL
    go_wp2_with fail
    go_end0
    have hgo : N0 ≤ GO := HH.out.hO
    have HT8 : ∀ (g : Nat) (cs : Array Value) (t : TypeId) (fr : Nat × Nat), w5.heap[g]? = some (.cells cs t fr) → t ≠ 46 → t ≠ 29 → (w7.setCell ⟨GO, 0, none⟩ (.slice A7 (s.length + 1) c7)).heap[g]? = some (.cells cs t fr) := fun g cs t fr hg ht ht2 => by
      rw [Below.heap_setCell _ _ _ _ (fun e => ht2 ?_)]
      · exact HT7.out g cs t fr hg ht
      · have e2 : g = GO := e
        rw [e2, HG5.out] at hg
        injection hg with hg
        injection hg with _ hg
        exact hg.symm
    have HB8 : Below N0 w5 (w7.setCell ⟨GO, 0, none⟩ (.slice A7 (s.length + 1) c7)) := HB7.out.setCell (p := ⟨GO, 0, none⟩) hgo _
    have hz8 : w5.heap.size ≤ (w7.setCell ⟨GO, 0, none⟩ (.slice A7 (s.length + 1) c7)).heap.size := by have := HS7.out; simp [World.setCell]; omega
    have hbox : (w7.setCell ⟨GO, 0, none⟩ (.slice A7 (s.length + 1) c7)).heap[GO]? = some (.cells #[.slice A7 (s.length + 1) c7] 29 (0, 0)) := by
      simp only [World.setCell, Array.getElem?_modify, if_true, HG7.out, Option.map_some]
      rfl
    have hown : (w7.setCell ⟨GO, 0, none⟩ (.slice A7 (s.length + 1) c7)).ownsRow N0 46 4 (.slice A7 (s.length + 1) c7) (s.length + 1) (ccells s ++ clc (left, x, (a : Int), (b : Int))) := World.ownsRow.kept HO7.out (grown_set w7 GO 0 _) (.inr (own_not2 HO7.out HG7.out (by decide)))
    refine ⟨rfl, ?_, HC5.out.trans ⟨HB8, hz8, HT8⟩⟩
    refine ⟨HT8 _ _ _ _ H5.out.hs (by decide) (by decide), HT8 _ _ _ _ H5.out.hl (by decide) (by decide), ⟨_, hbox, ?_⟩, H5.out.sl.below HB8, Nat.le_trans HN5.out hz8, hgo⟩
    rw [HP2.out, List.length_append, ccells_snoc]
    exact hown
end Go.Proofs.YtkedmiememnmjaaGreat
