/- Walks of word.Cut, ladfa.Predict, slices.Clone and Reverse at []int, Place.Left. -/
import Derived.Test.YtkgmdoiadhafeaaTrie
import Derived.Test.YtkgmdoiadhafeaaGram3
namespace Go.Proofs.Ytkgmdoiadhafeaa
open Go.RowKit

/-- a word's beginning -/
def cutB (s : ByteArray) (k : Nat) : ByteArray := s.extract 0 (min k s.size)
theorem cut_any (s : ByteArray) (k : Nat) (w : World) (hk : k ≤ 1099511627776) (hs : s.size ≤ 1099511627776) :
    Calls Try.prog 22 #[.string s, .int .i64 k] w fun e w' => e = .returned (.string (cutB s k)) ∧ w = w' := by
  have hE1 : s.size ≤ k → Hid (cutB s k = s) := fun h => by
    show _ = _
    unfold cutB
    rw [Nat.min_eq_right h]
    simp
  have hE2 : k ≤ s.size → Hid (cutB s k = s.extract 0 k) := fun h => by
    show _ = _
    unfold cutB
    rw [Nat.min_eq_left h]
  rcases Nat.lt_or_ge s.size k with h | h
  · have HE := hE1 (by omega)
    clear hE1 hE2
    rcases Nat.eq_zero_or_pos s.size with h0 | h0
    · have HB : Hid (s = ByteArray.empty) := by
        show _ = _
        apply ByteArray.ext
        exact Array.eq_empty_of_size_eq_zero h0
      go_enter Try.func22, Try.ntmps22
      go_wp2_with fail
      go_ret
      exact ⟨rt1 (congrArg Value.string (by rw [HE.out, HB.out])), rfl⟩
    · go_enter Try.func22, Try.ntmps22
      go_wp2_with fail
      go_ret
      exact ⟨rt1 (congrArg Value.string HE.out.symm), rfl⟩
  · have HE := hE2 h
    clear hE1 hE2
    rcases Nat.eq_zero_or_pos k with h0 | h0
    · subst h0
      go_enter Try.func22, Try.ntmps22
      go_wp2_with fail
      go_ret
      exact ⟨rt1 (congrArg Value.string (by rw [HE.out]; simp)), rfl⟩
    · go_enter Try.func22, Try.ntmps22
      go_wp2_with fail
      go_ret
      exact ⟨rt1 (congrArg Value.string (by rw [HE.out])), rfl⟩
def predictR (ms : List Mach) (left : Int) (l : List UInt8) : Int := if 0 ≤ left ∧ left < ms.length then runM (ms.getD left.toNat []) l else -1
theorem predict_any (v : Value) (ms : List Mach) (left : Int) (s : ByteArray) (w : World) (hv : SlR (eSl eState) w w.heap.size v ms) (hs : s.size ≤ 1099511627776) :
    Calls Try.prog 21 #[v, .int .i64 left, .string s] w fun e w' => e = .returned (.tuple #[.int .i64 (max (predictR ms left s.data.toList) 0), .bool (decide (0 ≤ predictR ms left s.data.toList))]) ∧ Below w.heap.size w w' := by
  obtain ⟨A, c, rfl, hc1, hc2⟩ := hv.form
  unfold maxLen at hc2
  by_cases hl : 0 ≤ left ∧ left < ms.length
  · obtain ⟨h1, h2⟩ := hl
    obtain ⟨k, rfl⟩ : ∃ k : Nat, left = k := ⟨left.toNat, by omega⟩
    have hk : k < ms.length := by omega
    have HP : Hid (predictR ms k s.data.toList = runM ms[k] s.data.toList) := by
      show _ = _
      unfold predictR
      rw [if_pos ⟨h1, h2⟩, List.getD_eq_getElem?_getD, Int.toNat_natCast, List.getElem?_eq_getElem hk]
      rfl
    obtain ⟨ab, ao, cs, rfl, _, hab, hrep, hcell⟩ := hv.get hk (by decide)
    obtain ⟨u, rfl, hu⟩ := hrep
    obtain ⟨A4, e4, rfl, he1, he2⟩ := hu.form
    have hc0 := hcell 0 _ rfl
    clear hcell
    simp only [show (eSl eState).size = 1 from rfl, Nat.add_zero, Nat.mul_one] at hc0
    go_enter Try.func21, Try.ntmps21
    go_wp2_with fail
    refine (trie_run _ ms[k] s w hu hs).mono ?_
    rintro e w1 ⟨rfl, hb1⟩
    go_wp2_with fail
    all_goals
      go_ret2
      exact ⟨rt2 (vint (by rw [HP.out]; omega)) (vbool (by rw [HP.out, eq_comm]; first | done | (simp; done) | (simp; omega))), hb1⟩
  · have HP : Hid (predictR ms left s.data.toList = -1) := by
      show _ = _
      unfold predictR
      rw [if_neg hl]
    have hc : left < 0 ∨ (0 ≤ left ∧ (ms.length : Int) ≤ left) := by omega
    rcases hc with h | ⟨h, h'⟩
    all_goals
      go_enter Try.func21, Try.ntmps21
      go_wp2_with fail
      all_goals first
        | (exfalso; omega)
        | (go_ret2; exact ⟨rt2 (vint (by rw [HP.out]; first | done | rfl)) (vbool (by rw [HP.out]; first | done | decide)), Below.refl _ _⟩)

/-! slices.Clone and slices.Reverse of numbers -/
theorem icells_length (l : List Int) : (icells l).length = l.length := by simp [icells]
theorem icells_one (l : List Int) : ∀ u ∈ icells l, u.oneCell' = true := by
  intro u hu
  simp only [icells, List.mem_map] at hu
  obtain ⟨x, _, rfl⟩ := hu
  rfl
/-- a row of numbers, read as its cells -/
theorem sl_int_rd {w : World} {B : Nat} {A : Option Addr} {n c : Nat} {xs : List Int} (h : SlR eInt w B (.slice A n c) xs) : Rd w B A (icells xs) := by
  obtain ⟨A', c', css, e, h1, h2, h3, h4, h5⟩ := h
  injection e with e1 e2 e3
  subst e1
  have : css.flatten = icells xs := by
    have hc : css = xs.map fun x => [Value.int .i64 x] := by
      apply List.ext_getElem (by rw [List.length_map, h3])
      intro i g1 g2
      rw [List.getElem_map]
      exact (h5 i _ _ (List.getElem?_eq_getElem g1) (List.getElem?_eq_getElem (by simpa using g2))).1
    rw [hc]
    unfold icells
    clear hc h1 h2 h3 h4 h5 e2 
    induction xs with
    | nil => rfl
    | cons x xs ih => rw [List.map_cons, List.flatten_cons, ih]; rfl
  rwa [this] at h4
theorem own_empty (w : World) (e : TypeId) (size : Nat) : (w.alloc (Obj.cells #[] e)).ownsRow w.heap.size e size (.slice (some ⟨w.heap.size, 0, none⟩) 0 0) 0 [] :=
  ⟨by simp, .inr ⟨w.heap.size, 0, #[], rfl, Nat.le_refl _, heap_alloc_new w _, Nat.le_refl _, Nat.zero_le _, by simp, by simp⟩⟩
set_option maxHeartbeats 800000 in
theorem clone_int (v : Value) (xs : List Int) (w : World) (hv : SlR eInt w w.heap.size v xs) (hx : xs.length ≤ 1099511627776) :
    Calls Try.prog 23 #[v] w fun e w' => ∃ v', e = .returned v' ∧ w'.ownsRow w.heap.size 3 1 v' xs.length (icells xs) ∧ Below w.heap.size w w' := by
  obtain ⟨A, c, rfl, hc1, hc2⟩ := hv.form
  unfold maxLen at hc2
  have hrd := sl_int_rd hv
  cases A with
  | none =>
    have he : ∀ w : World, (binOp .eql 24 (.slice none xs.length c) (.slice none 0 0)).run Try.prog w = .ok (.bool true) w := fun _ => rfl
    have HX : Hid (xs = []) := by
      show _ = _
      cases xs with
      | nil => rfl
      | cons x r =>
        obtain ⟨b, off, e, _⟩ := hrd (by simp [icells])
        cases e
    go_enter Try.func23, Try.ntmps23
    go_wp2_with fail
    go_ret
    refine ⟨_, rfl, ?_, Below.refl _ _⟩
    rw [HX.out]
    exact World.ownsRow_nil _ _ _ _
  | some ad =>
    have he : ∀ w : World, (binOp .eql 24 (.slice (some ad) xs.length c) (.slice none 0 0)).run Try.prog w = .ok (.bool false) w := fun _ => rfl
    go_enter Try.func23, Try.ntmps23
    go_wp2_with (at_builtin; refine wpList_app int_app rfl rfl rfl rfl (base := w.heap.size) (n := 0) (xs := []) ?hown (hrd.fut (B' := w.heap.size) ((Below.refl _ _).alloc (Nat.le_refl _) _) (Nat.le_refl _) (Nat.le_refl _)) (by rw [icells_length, Nat.mul_one]) (icells_one _) ?h63 ?hby ?hbase ?_)
    case hown => exact own_empty w 3 1
    case h63 => simp only [maxLen]; omega
    case hby => omega
    case hbase => simp
    intro v1 w3 hown3 hg3 _ _
    go_wp2
    go_ret
    exact ⟨_, rfl, hown3, grown_below ((Below.refl _ _).alloc (Nat.le_refl _) _) hg3 (own_empty w 3 1) (Nat.le_refl _) (by simp)⟩


theorem grown_setCell {w w' : World} {g : Nat} (h : w.grownBy w' (some g)) (i : Nat) (v : Value) : w.grownBy (w'.setCell ⟨g, i, none⟩ v) (some g) :=
  ⟨h.os, h.tape, h.output, by rw [World.size_setCell]; exact h.size, fun k hk hne => by
    rw [heap_setCell_other _ _ _ _ (show k ≠ g from fun e => hne (by rw [e]))]
    exact h.block k hk hne⟩
set_option maxHeartbeats 1000000 in
theorem reverse_int (g c : Nat) (cur : Array Value) (xs : List Int) (w : World) (hh : w.heap[g]? = some (.cells cur 3 (0, 0))) (hcur : cur.toList.take xs.length = icells xs) (hc : xs.length ≤ c) (hc2 : c ≤ 9223372036854775807) :
    Calls Try.prog 24 #[.slice (some ⟨g, 0, none⟩) xs.length c] w fun e w' => e = .returned (.tuple #[]) ∧ ∃ cur', w'.heap[g]? = some (.cells cur' 3 (0, 0)) ∧ cur'.size = cur.size ∧ cur'.toList.take xs.length = icells xs.reverse ∧ w.grownBy w' (some g) := by
  go_enter Try.func24, Try.ntmps24
  go_wp2_with fail
  go_loopw [2, 3] (fun v2 v3 wr => ∃ (i : Nat) (cur' : Array Value), 2 * i ≤ xs.length ∧ v2 = .int .i64 i ∧ v3 = .int .i64 (xs.length - 1 - i) ∧ wr.heap[g]? = some (.cells cur' 3 (0, 0)) ∧ cur'.size = cur.size ∧
    Hid (∀ k, k < xs.length → cur'[k]? = some (.int .i64 (if k < i ∨ xs.length ≤ k + i then xs.getD (xs.length - 1 - k) 0 else xs.getD k 0))) ∧ w.grownBy wr (some g)) (fun v2 _ _ => xs.length - (intOf v2).toNat)
  case atStart =>
    refine ⟨0, cur, by omega, rfl, by simp, hh, rfl, fun k hk => ?_, ⟨rfl, rfl, rfl, Nat.le_refl _, fun _ _ _ => rfl⟩⟩
    rw [if_neg (by omega)]
    have h1 : cur.toList[k]? = (icells xs)[k]? := by rw [← hcur, List.getElem?_take, if_pos hk]
    rw [← Array.getElem?_toList, h1]
    simp [icells, List.getElem?_eq_getElem hk, List.getD_eq_getElem?_getD]
  case round =>
    obtain ⟨i, cur', hi, rfl, rfl, hw, hsz, hall, hgr⟩ := hrel
    by_cases hlt : 2 * i + 1 < xs.length
    · obtain ⟨j, hj⟩ : ∃ j : Nat, j + i + 1 = xs.length := ⟨xs.length - 1 - i, by omega⟩
      have hji : ((xs.length : Int) - 1 - i) = j := by omega
      have hij : i < j := by omega
      have hjx : j < xs.length := by omega
      have ci := (cell_of_row wr g i cur' _ _ hw).trans (hall.out i (by omega))
      have cj := (cell_of_row wr g j cur' _ _ hw).trans (hall.out j (by omega))
      rw [if_neg (by omega)] at ci cj
      have fi := frozen_of_row wr g i cur' _ hw
      have fj := frozen_of_row wr g j cur' _ hw
      obtain ⟨a, ha⟩ : ∃ a, a = xs.getD i 0 := ⟨_, rfl⟩
      obtain ⟨b, hb⟩ : ∃ b, b = xs.getD j 0 := ⟨_, rfl⟩
      rw [← ha] at ci
      rw [← hb] at cj
      have HA := Lib.hid ha
      have HB := Lib.hid hb
      clear ha hb
      rw [hji]
      have HJ := Lib.hid hj
      clear hj hji hlt hi
      go_wp2_with fail
      refine Text.wp_text [] (by kernel_rfl) (by kernel_rfl) (fun Q' hQ' => ?_)
      go_wp2
      refine ⟨by rfl, ?_⟩
      go_wp2
      go_roundw
      case rel => 
        have hJ := HJ.out
        have hcs : j < cur'.size := (Array.getElem?_eq_some_iff.1 (hall.out j hjx)).1
        refine ⟨i + 1, (cur'.setIfInBounds i (.int .i64 b)).setIfInBounds j (.int .i64 a), by omega, by simp, vint (by omega), heap_setCell_same _ g j _ _ _ (heap_setCell_same wr g i cur' _ _ hw), by simp [hsz], fun k hk => ?_, ?_⟩
        · rw [Array.getElem?_setIfInBounds, Array.getElem?_setIfInBounds]
          by_cases hkj : j = k
          · subst hkj
            rw [if_pos rfl, if_pos (by simpa using hcs), if_pos (by omega), HA.out, show xs.length - 1 - j = i by omega]
          · rw [if_neg hkj]
            by_cases hki : i = k
            · subst hki
              rw [if_pos rfl, if_pos (by omega), if_pos (by omega), HB.out, show xs.length - 1 - i = j by omega]
            · rw [if_neg hki, hall.out k hk]
              by_cases hc : k < i ∨ xs.length ≤ k + i
              · rw [if_pos hc, if_pos (by omega)]
              · rw [if_neg hc, if_neg (by omega)]
        · have h2 := grown_setCell (grown_setCell hgr i (.int .i64 b)) j (.int .i64 a)
          exact ⟨h2.os, h2.tape, h2.output, h2.size, h2.block⟩
      case measure => simp [intOf]; omega
    · go_wp2
      go_end0
      refine ⟨rfl, cur', hw, hsz, ?_, hgr⟩
      apply List.ext_getElem?
      intro k
      by_cases hk : k < xs.length
      · rw [List.getElem?_take, if_pos hk, Array.getElem?_toList, hall.out k hk]
        simp only [icells, List.getElem?_map]
        rw [List.getElem?_reverse hk, List.getElem?_eq_getElem (by omega)]
        have hv : (if k < i ∨ xs.length ≤ k + i then xs.getD (xs.length - 1 - k) 0 else xs.getD k 0) = xs.getD (xs.length - 1 - k) 0 := by
          split
          · rfl
          · rw [show xs.length - 1 - k = k by omega]
        rw [hv, List.getD_eq_getElem?_getD, List.getElem?_eq_getElem (by omega)]
        rfl
      · rw [List.getElem?_take, if_neg hk]
        symm
        rw [List.getElem?_eq_none_iff]
        simp [icells]
        omega
end Go.Proofs.Ytkgmdoiadhafeaa
