/- Texts of this proof joined: Rec1, Rep2, Key2, Key3. -/
import Derived.Test.YtplbcbamnjnhlaaGreatDoorMB08
import Derived.Test.YtplbcbamnjnhlaaGreatDoorMB04
import Derived.OpenShut
import Derived.WalkLawsBesides
import Derived.Test.YtplbcbamnjnhlaaGreatDoorMB05
import Derived.Deep.QuietTactic
import Derived.BigQuiet
namespace Go.Proofs.YtplbcbamnjnhlaaGreatDoor
open Go.RowKit

set_option maxRecDepth 100000 in
set_option maxHeartbeats 1000000 in
theorem plain_any (kind seq : Int) (kh : List UInt8) (kk : Int) (mh : List UInt8) (ms : Int) (A : Option Addr) (n c : Nat) (w : World) (hk : kh.length = 32) (hm : mh.length = 32) :
    Calls Tryz.prog 11 #[recv kind seq kh kk mh ms (.slice A n c)] w fun e w' => e = .returned (recv kind seq kh kk mh ms (.slice A n c)) ∧ Below w.heap.size w w' := by
  go_enter Tryz.func11, Tryz.ntmps11
  go_wp2_with (refine stop_at (some 1) rfl ?_)
  refine Stop.go (wpList_box rfl _ rfl rfl rfl (wpList_alloc rfl _ rfl zero_rec32 rfl ?_))
  have hr : RecAt ((w.alloc (.cells (recCells kind seq kh kk mh ms (.slice A n c)).toArray 38)).alloc (.cells (recCells 0 0 z32 0 z32 0 (.slice none 0 0)).toArray 42)) w.heap.size 38 kind seq kh kk mh ms (.slice A n c) :=
    (RecAt.new w hk hm).later ((Below.refl _ _).alloc (Nat.le_refl _) _)
  have c0 := hr.kind_
  have c1 := hr.seq_
  have c2 := hr.size_
  have c3 := hr.keys_
  have HR := Lib.hid hr
  clear hr
  go_wp2_with (refine stop_at (some 3) rfl ?_)
  refine Stop.go (wpList_seg 5 _ _ _ (fun Q' hQ' => ?_))
  simp only [List.take_succ_cons, List.take_zero]
  go_wp2_with fail
  simp only [List.drop_succ_cons, List.drop_zero]
  refine Stop.go (wpList_load_agg rfl 34 rfl rfl keyTy.ut rfl (key_size _ _ hk) HR.out.key_ ?_)
  refine wpList_seg 2 _ _ _ (fun Q' hQ' => ?_)
  simp only [List.take_succ_cons, List.take_zero]
  go_wp2_with fail
  simp only [List.drop_succ_cons, List.drop_zero]
  refine Stop.go (wpList_load_agg rfl 32 rfl rfl hashTy.ua rfl (hash_size _ hm) HR.out.hash_ ?_)
  refine wpList_seg 5 _ _ _ (fun Q' hQ' => ?_)
  simp only [List.take_succ_cons, List.take_zero]
  go_wp2_with fail
  simp only [List.drop_succ_cons, List.drop_zero]
  refine Stop.go (wpList_build rfl 42 rfl (vs := #[(0, .int .i64 kind), (1, .int .i64 seq), (2, hkv kh kk), (3, hashv mh), (4, .int .i64 ms), (5, .slice A n c)]) (by rfl) (build_rec32 _ _ _ _ _ _ _ _ _ hk hm _) ?_)
  refine wpList_store_agg rfl 42 rfl rfl rfl (store_new2 (Array.size_push _).symm (recv_cells ..) (rec32_size _ _ _ _ _ _ _ hk hm) (by rw [List.size_toArray, recCells_length, recCells_length, hk, hm]; rfl) (recCells_one _ _ _ _ _ _ _ _ _)) ?_
  go_wp2_with fail
  refine bodyPost_ret (results_cell_row rfl _ _ (w.heap.size + 1) 42 (recCells kind seq kh kk mh ms (.slice A n c)).toArray (0, 0) _ rfl (Go.heap_alloc2_new w _ _) rec32Ty_u rfl (rec32_size _ _ _ _ _ _ _ hk hm)) rfl ?_
  exact ⟨rfl, ((Below.refl _ _).alloc (Nat.le_refl _) _).alloc (Nat.le_of_lt (by show _ < (Array.push _ _).size; rw [Array.size_push]; exact Nat.lt_succ_self _)) _⟩
end Go.Proofs.YtplbcbamnjnhlaaGreatDoor
namespace Go.Proofs.YtplbcbamnjnhlaaGreatDoor
open Go.ChangeShapes Go.WideShapes Go.ChangeAt Go.RowKit

section
variable {H : Type} {enc : TypeId × Value → H} {P : Program}
theorem opens_bytes {n : Nat} {t e : TypeId} (ht : P.underlying t = some (.array n e)) (he : P.underlying e = some (.int .u8)) (h1 : P.cellsOf e = 1) (hn : P.cellsOf t = n) : Opens enc P (eBytes n) t := by
  intro W fuel cs x h
  obtain ⟨xs, m, _, _, hc, hl, hel⟩ := DataW.trod_array ht h
  rw [hn] at hc
  rw [h1] at hel
  have hex : ∀ i, i < n → ∃ (u : Value) (b : UInt8), cs[i]? = some u ∧ u = bcell b := by
    intro i hi
    have h2 := hel i hi
    rw [List.getElem?_eq_getElem (by omega), Nat.mul_one] at h2
    obtain ⟨b, hb⟩ := opens_byte he W m _ _ h2
    have hb' : (cs.drop i).take 1 = [bcell b] := hb
    refine ⟨bcell b, b, ?_, rfl⟩
    have h3 : ((cs.drop i).take 1)[0]? = some (bcell b) := by rw [hb']; rfl
    rw [List.getElem?_take, if_pos (by omega), List.getElem?_drop] at h3
    simpa using h3
  obtain ⟨us, bs, l1, l2, hall⟩ := choose_list n (fun i (u : Value) (b : UInt8) => cs[i]? = some u ∧ u = bcell b) hex
  refine ⟨bs, ?_, l2⟩
  apply List.ext_getElem?
  intro i
  rcases Nat.lt_or_ge i n with hi | hi
  · obtain ⟨q1, q2⟩ := hall i _ _ (List.getElem?_eq_getElem (by omega)) (List.getElem?_eq_getElem (by omega))
    rw [q1, q2]
    unfold bcells
    rw [List.getElem?_map, List.getElem?_eq_getElem (by omega)]
    rfl
  · rw [List.getElem?_eq_none (by omega), List.getElem?_eq_none (by rw [bcells_length]; omega)]
def eKey : Elt (List UInt8 × Int) := eProd (eBytes 32) eInt
theorem eKey_rep {w : World} {B : Nat} {cs : List Value} {x : List UInt8 × Int} (h : eKey.rep w B cs x) : cs = hkCells x.1 x.2 ∧ x.1.length = 32 ∧ -9223372036854775808 ≤ x.2 ∧ x.2 ≤ 9223372036854775807 := by
  obtain ⟨c1, c2, rfl, ⟨rfl, h2⟩, rfl, h3, h4⟩ := h
  exact ⟨rfl, h2, h3, h4⟩
theorem eKey_of {w : World} {B : Nat} {x : List UInt8 × Int} (h1 : x.1.length = 32) (h2 : -9223372036854775808 ≤ x.2) (h3 : x.2 ≤ 9223372036854775807) : eKey.rep w B (hkCells x.1 x.2) x :=
  ⟨_, _, rfl, ⟨rfl, h1⟩, rfl, h2, h3⟩
end
end Go.Proofs.YtplbcbamnjnhlaaGreatDoor
namespace Go.Proofs.YtplbcbamnjnhlaaGreatDoor
open Go.RowKit

set_option maxRecDepth 100000 in
set_option maxHeartbeats 400000 in
theorem refText_any (h : List UInt8) (k : Int) (w : World) (hh : h.length = 32) :
    Calls Tryz.prog 77 #[hkv h k] w fun e w' => e = .returned (.string ⟨(keyText h k).toArray⟩) ∧ Below w.heap.size w w' := by
  have hck : (w.alloc (.cells (hkCells h k).toArray 34)).cell? ⟨w.heap.size, 32, none⟩ = some (.int .i64 k) := by
    rw [cell_of_row _ _ _ _ _ _ (Go.heap_alloc_new w _), ← Array.getElem?_toList]
    exact hkCells_get h k hh
  have hgk : (hkCells h k)[32]? = some (.int .i64 k) := hkCells_get h k hh
  have hi32 : (Tryz.prog.info? 32).map (·.size) = some (bcells h).length := by rw [bcells_length, hh]; kernel_rfl
  have hcs : ∀ j u, (bcells h)[j]? = some u → (w.alloc (.cells (hkCells h k).toArray 34)).drew.cell? ⟨w.heap.size, 0 + j, none⟩ = some u := by
    intro j u hu
    rw [Nat.zero_add]
    refine (cell_of_row _ _ _ _ _ _ (Go.heap_alloc_new w _)).trans ?_
    rw [← Array.getElem?_toList]
    simp only [hkCells]
    rw [List.getElem?_append_left (List.getElem?_eq_some_iff.1 hu).1]
    exact hu
  obtain ⟨u0, hu0⟩ : ∃ u0, (w.alloc (.cells (hkCells h k).toArray 34)).cell? ⟨w.heap.size, 0, none⟩ = some u0 := ⟨_, hcs 0 _ (List.getElem?_eq_getElem (by rw [bcells_length]; omega))⟩
  have HCS := Lib.hid hcs
  have HU0 := Lib.hid hu0
  have HI := Lib.hid hi32
  clear hcs hu0 hi32
  have HH := Lib.hid hh
  clear hh
  rcases Bool.eq_false_or_eq_true (kOk k) with hb | hb
  · have hq : k = 1 ∨ k = 2 ∨ k = 3 ∨ k = 4 := by unfold kOk at hb; simp at hb; omega
    have HB := Lib.hid hb
    clear hb
    rcases hq with rfl | rfl | rfl | rfl
    all_goals
      go_enter Tryz.func77, Tryz.ntmps77
      go_wp2_with fail
      refine Text.wp_grow [2] [1, 6, 8] [] (by kernel_rfl) (by kernel_rfl) ?_
      refine Text.wpS_seg 1 _ _ _ _ (by decide) (fun Q' hQ' => ?_)
      simp only [List.take_succ_cons, List.take_zero]
      go_wp2_with fail
      try simp only [Nat.zero_add, List.drop_succ_cons, List.drop_zero]
      refine Text.wpS_seg 1 _ _ _ _ (by decide) (fun Q' hQ' => ?_)
      simp only [List.take_succ_cons, List.take_zero]
      refine wpList_load_agg rfl 32 rfl rfl hashTy.ua rfl HI.out HCS.out ?_
      go_wp2_with fail
      try simp only [Nat.zero_add, List.drop_succ_cons, List.drop_zero]
      refine Text.wpS_one (fun Q' hQ' => ?_)
      go_wp2_with fail
      refine (digits_any h _ HH.out).mono ?_
      rintro e w2 ⟨rfl, hb2⟩
      have hb2' : Below w.heap.size w w2 := ((Below.refl _ _).alloc (Nat.le_refl _) _).trans ((below_drew hb2).mono (by simp))
      have hck2 : w2.cell? ⟨w.heap.size, 32, none⟩ = _ := (hb2.cell (p := ⟨w.heap.size, 32, none⟩) (by show w.heap.size < (w.alloc _).heap.size; simp)).trans hck
      have HB2 := Lib.hid hb2
      have HB2' := Lib.hid hb2'
      clear hb2 hb2'
      obtain ⟨sh, hsh⟩ : ∃ sh : ByteArray, sh = ⟨(hexOf h).toArray⟩ := ⟨_, rfl⟩
      have hsz : sh.size ≤ 64 := by
        rw [hsh]
        show (hexOf h).toArray.size ≤ 64
        have := hexOf_length h
        have := HH.out
        simp; omega
      rw [← hsh]
      have HSH := Lib.hid hsh
      clear hsh
      go_wp2_with fail
      refine ⟨HB2.out, ?_⟩
      refine Text.wpS_seg 10 _ _ _ _ (by decide) (fun Q' hQ' => ?_)
      simp only [List.take_succ_cons, List.take_zero]
      go_wp2_with fail
      refine ⟨by rfl, ⟨fun _ => ⟨_, _, rfl, HU0.out⟩, fun _ => ⟨_, _, rfl, hck⟩, fun _ => ⟨_, _, rfl, hck⟩, trivial⟩, ?_⟩
      go_wp2
      go_ret
      refine ⟨rt1 (vstr ?_), HB2'.out⟩
      unfold keyText
      rw [HB.out, if_pos rfl, HSH.out]
      apply ByteArray.ext
      simp
  · have hq : k < 1 ∨ 4 < k := by unfold kOk at hb; simp at hb; omega
    have HB := Lib.hid hb
    clear hb
    have HK := Lib.hid (show keyText h k = [] by unfold keyText; rw [HB.out]; rfl)
    rcases Int.lt_or_le k 1 with h1 | h1
    all_goals
      go_enter Tryz.func77, Tryz.ntmps77
      go_wp2
      go_ret
      exact ⟨rt1 (vstr (by rw [HK.out])), (Below.refl _ _).alloc (Nat.le_refl _) _⟩
end Go.Proofs.YtplbcbamnjnhlaaGreatDoor
namespace Go.Proofs.YtplbcbamnjnhlaaGreatDoor
open Go.RowKit

theorem less_step (x y : List UInt8) (i : Nat) (h1 : i < x.length) (h2 : i < y.length) :
    Op.bytesLess (x.drop i) (y.drop i) = (decide (x[i].toNat < y[i].toNat) || (x[i] == y[i] && Op.bytesLess (x.drop (i + 1)) (y.drop (i + 1)))) := by
  rw [List.drop_eq_getElem_cons h1, List.drop_eq_getElem_cons h2, Op.bytesLess]
  rfl
theorem below_drewN' {B : Nat} {w w' : World} (h : Below B w w') (n : Nat) : Below B w (w'.drewN n) := ⟨h.os, h.tape, h.output, h.size, h.block⟩
set_option maxRecDepth 100000 in
set_option maxHeartbeats 400000 in
theorem less09_any (x y : List UInt8) (w : World) (hx : x.length ≤ 68719476736) (hy : y.length ≤ 68719476736) :
    Calls Tryz.prog 76 #[.string ⟨x.toArray⟩, .string ⟨y.toArray⟩] w fun e w' => e = .returned (.bool (Op.bytesLess x y)) ∧ Below w.heap.size w w' := by
  obtain ⟨X, hX⟩ : ∃ X : ByteArray, X = ⟨x.toArray⟩ := ⟨_, rfl⟩
  obtain ⟨Y, hY⟩ : ∃ Y : ByteArray, Y = ⟨y.toArray⟩ := ⟨_, rfl⟩
  have hXs : X.size = x.length := by rw [hX]; rfl
  have hYs : Y.size = y.length := by rw [hY]; rfl
  rw [← hX, ← hY]
  have HXX := Lib.hid hX
  have HYY := Lib.hid hY
  clear hX hY
  go_enter Tryz.func76, Tryz.ntmps76
  go_wp2_with fail
  go_loopw [5] (fun v5 wr => ∃ (i : Nat), i ≤ x.length ∧ i ≤ y.length ∧ v5 = .int .i64 i ∧ Hid (Op.bytesLess (x.drop i) (y.drop i) = Op.bytesLess x y) ∧ Hid (Below w.heap.size w wr)) (fun v5 _ => x.length - (intOf v5).toNat)
  case atStart => exact ⟨0, by omega, by omega, rfl, rfl, (Below.refl _ _)⟩
  case round =>
    obtain ⟨i, hi, hj, rfl, HB, HW⟩ := hrel
    by_cases h1 : i < x.length
    · by_cases h2 : i < y.length
      · have hXi : ∀ (h : i < X.size), X[i] = x[i] := fun h => by
          have := HXX.out
          subst this
          rfl
        have hYi : ∀ (h : i < Y.size), Y[i] = y[i] := fun h => by
          have := HYY.out
          subst this
          rfl
        have HXI := Lib.hid hXi
        have HYI := Lib.hid hYi
        clear hXi hYi
        have HS := Lib.hid (less_step x y i h1 h2)
        go_wp2_with fail
        go_quiet (fail)
        go_wp2_with (go_quiet (fail))
        · rename_i _ hne
          go_ret
          refine ⟨rt1 (vbool ?_), below_drewN' (below_drewN' HW.out _) _⟩
          rw [← HB.out, HS.out]
          rw [HXI.out, HYI.out] at hne ⊢
          have : (x[i] == y[i]) = false := by
            rw [beq_eq_false_iff_ne]
            intro h
            rw [h] at hne
            simp at hne
          rw [this]
          simp
        · rename_i hne
          rw [HXI.out, HYI.out] at hne
          have he : x[i] = y[i] := UInt8.toNat_inj.1 (Int.ofNat_inj.1 (bne_eq_false_iff_eq.1 hne))
          refine ⟨⟨i + 1, by omega, by omega, by simp, ?_, below_drewN' HW.out _⟩, ?_⟩
          · show Op.bytesLess _ _ = _
            rw [← HB.out, HS.out, he]
            simp
          · simp [intOf]; omega
      · have HS := Lib.hid (show Op.bytesLess (x.drop i) (y.drop i) = decide (x.length < y.length) by
          have := HXX
          rw [List.drop_eq_nil_of_le (show y.length ≤ i by omega), List.drop_eq_getElem_cons h1]
          simp [Op.bytesLess]; omega)
        go_wp2_with fail
        go_ret
        exact ⟨rt1 (vbool (by rw [← HB.out, HS.out])), HW.out⟩
    · have HS := Lib.hid (show Op.bytesLess (x.drop i) (y.drop i) = decide (x.length < y.length) by
        rw [List.drop_eq_nil_of_le (show x.length ≤ i by omega)]
        by_cases h2 : i < y.length
        · rw [List.drop_eq_getElem_cons h2]
          simp [Op.bytesLess]; omega
        · rw [List.drop_eq_nil_of_le (show y.length ≤ i by omega)]
          simp [Op.bytesLess]; omega)
      go_wp2_with fail
      go_ret
      exact ⟨rt1 (vbool (by rw [← HB.out, HS.out])), HW.out⟩
theorem key_size' (h : List UInt8) (k : Int) (hh : h.length = 32) : (Tryz.prog.info? 34).map (·.size) = some (hkCells h k).length := by rw [hkCells_length, hh]; kernel_rfl
theorem bytesLess_self : ∀ (x : List UInt8), Op.bytesLess x x = false
  | [] => rfl
  | a :: x => by rw [Op.bytesLess, bytesLess_self x]; simp
def keyLess (h : List UInt8) (k : Int) (h' : List UInt8) (k' : Int) : Bool := Op.bytesLess (keyText h k) (keyText h' k')
set_option maxRecDepth 100000 in
set_option maxHeartbeats 400000 in
theorem keyLess_any (h h' : List UInt8) (k k' : Int) (w : World) (hh : h.length = 32) (hh' : h'.length = 32) :
    Calls Tryz.prog 73 #[hkv h k, hkv h' k'] w fun e w' => e = .returned (.bool (keyLess h k h' k')) ∧ Below w.heap.size w w' := by
  go_enter Tryz.func73, Tryz.ntmps73
  go_wp2_with fail
  have HG1 := Lib.hid (row_cells (Go.heap_alloc2_old w (.cells (hkCells h k).toArray 34) (.cells (hkCells h' k').toArray 34)))
  have HG2 := Lib.hid (row_cells (Go.heap_alloc2_new w (.cells (hkCells h k).toArray 34) (.cells (hkCells h' k').toArray 34)))
  have HH := Lib.hid hh
  have HH' := Lib.hid hh'
  clear hh hh'
  refine Text.wp_grow [2, 5, 7] [0, 1, 4, 6] [2] (by kernel_rfl) (by kernel_rfl) ?_
  refine Text.wpS_seg 2 _ _ _ _ (by decide) (fun Q' hQ' => ?_)
  simp only [List.take_succ_cons, List.take_zero]
  refine wpList_load_agg rfl 34 rfl rfl keyTy.ut rfl (key_size' h k HH.out) HG1.out ?_
  refine wpList_load_agg rfl 34 rfl rfl keyTy.ut rfl (key_size' h' k' HH'.out) HG2.out ?_
  refine hQ' _ _ ?_
  simp only [List.drop_succ_cons, List.drop_zero]
  generalize ha : Act.put _ _ _ = a9
  simp [Act.put] at ha
  subst ha
  refine Text.wpS_one (fun Q1 hQ1 => ?_)
  refine wpList_bin rfl .neq 34 rfl rfl rfl (hkv_guard keyTy.gd ..) (hkv_neq keyTy HH.out HH'.out) ?_
  by_cases he : h = h' ∧ k = k'
  · rw [show (!(decide (h = h') && decide (k = k'))) = false by simp [he]]
    have hle : keyLess h k h' k' = false := by
      obtain ⟨rfl, rfl⟩ := he
      exact bytesLess_self _
    have HLE := Lib.hid hle
    clear hle he
    refine hQ1 _ _ ⟨Below.refl _ _, ?_⟩
    generalize ha : Act.put _ _ _ = a9
    simp [Act.put] at ha
    subst ha
    refine Text.wpS_seg 2 _ _ _ _ (by decide) (fun Q2 hQ2 => ?_)
    simp only [List.take_succ_cons, List.take_zero]
    refine wpList_val rfl (v := .bool false) rfl ?_
    refine wpList_skip rfl ?_
    refine hQ2 _ _ ?_
    simp only [List.drop_succ_cons, List.drop_zero]
    generalize ha : Act.put _ _ _ = a9
    simp [Act.put] at ha
    subst ha
    refine Text.wpS_one (fun Q3 hQ3 => ?_)
    refine wpList_skip rfl ?_
    refine hQ3 _ _ ⟨Below.refl _ _, ?_⟩
    generalize ha : Act.put _ _ _ = a9
    simp [Act.put] at ha
    subst ha
    refine Text.wpS_seg 1 _ _ _ _ (by decide) (fun Q4 hQ4 => ?_)
    simp only [List.take_succ_cons, List.take_zero]
    refine wpList_skip rfl ?_
    refine hQ4 _ _ ?_
    simp only [List.drop_succ_cons, List.drop_zero]
    generalize ha : Act.put _ _ _ = a9
    simp [Act.put] at ha
    subst ha
    refine Text.wpS_one (fun Q5 hQ5 => ?_)
    refine wpList_skip rfl ?_
    refine hQ5 _ _ ⟨Below.refl _ _, ?_⟩
    generalize ha : Act.put _ _ _ = a9
    simp [Act.put] at ha
    subst ha
    refine Text.wpS_seg 3 _ _ _ _ (by decide) (fun Q6 hQ6 => ?_)
    simp only [List.take_succ_cons, List.take_zero]
    refine wpList_skip rfl ?_
    refine wpList_val rfl (v := .bool false) rfl ?_
    refine wpList_val rfl (v := .bool false) rfl ?_
    refine hQ6 _ _ ?_
    generalize ha : Act.put _ _ _ = a9
    simp [Act.put] at ha
    subst ha
    simp only [List.drop_succ_cons, List.drop_zero]
    refine ⟨by rfl, ⟨fun _ => ⟨_, _, rfl, HG1.out 0 _ (List.getElem?_eq_getElem (by rw [hkCells_length]; omega))⟩, fun _ => ⟨_, _, rfl, HG2.out 0 _ (List.getElem?_eq_getElem (by rw [hkCells_length]; omega))⟩, (fun hh => absurd hh Bool.false_ne_true), (fun hh => absurd hh Bool.false_ne_true), trivial⟩, ?_⟩
    go_wp2_with fail
    go_ret
    exact ⟨rt1 (vbool HLE.out.symm), (((Below.refl _ _).alloc (Nat.le_refl _) _).alloc (Nat.le_of_lt (by show _ < (Array.push _ _).size; rw [Array.size_push]; exact Nat.lt_succ_self _)) _).drew⟩
  · rw [show (!(decide (h = h') && decide (k = k'))) = true by by_cases h1 : h = h' <;> by_cases h2 : k = k' <;> simp_all]
    clear he
    refine hQ1 _ _ ⟨Below.refl _ _, ?_⟩
    generalize ha : Act.put _ _ _ = a9
    simp [Act.put] at ha
    subst ha
    refine Text.wpS_seg 2 _ _ _ _ (by decide) (fun Q2 hQ2 => ?_)
    simp only [List.take_succ_cons, List.take_zero]
    refine wpList_val rfl (v := .bool true) rfl ?_
    refine wpList_load_aggG rfl 34 rfl rfl keyTy.ut rfl (key_size' h k HH.out) HG1.out ?_
    refine hQ2 _ _ ?_
    simp only [List.drop_succ_cons, List.drop_zero]
    generalize ha : Act.put _ _ _ = a9
    simp [Act.put] at ha
    subst ha
    refine Text.wpS_one (fun Q3 hQ3 => ?_)
    go_wp2_with fail
    refine (text_any h k _ HH.out).mono ?_
    rintro e w2 ⟨rfl, hb2⟩
    have HB2 := Lib.hid hb2
    clear hb2
    obtain ⟨s1, hs1⟩ : ∃ s1 : ByteArray, s1 = ⟨(keyText h k).toArray⟩ := ⟨_, rfl⟩
    rw [← hs1]
    have HS1 := Lib.hid hs1
    clear hs1
    go_wp2_with fail
    refine ⟨HB2.out, ?_⟩
    refine Text.wpS_seg 1 _ _ _ _ (by decide) (fun Q4 hQ4 => ?_)
    simp only [List.take_succ_cons, List.take_zero]
    refine wpList_load_aggG rfl 34 rfl rfl keyTy.ut rfl (key_size' h' k' HH'.out) (fun j u hu => (HB2.out.cell (p := ⟨w.heap.size + 1, 0 + j, none⟩) (by show _ < (Array.push (Array.push _ _) _).size; rw [Array.size_push, Array.size_push]; show w.heap.size + 1 < _; omega)).trans (HG2.out j u hu)) ?_
    refine hQ4 _ _ ?_
    simp only [List.drop_succ_cons, List.drop_zero]
    generalize ha : Act.put _ _ _ = a9
    simp [Act.put] at ha
    subst ha
    refine Text.wpS_one (fun Q5 hQ5 => ?_)
    go_wp2_with fail
    refine (text_any h' k' _ HH'.out).mono ?_
    rintro e w3 ⟨rfl, hb3⟩
    have HB3 := Lib.hid (HB2.out.trans (hb3.mono HB2.out.size))
    clear hb3
    obtain ⟨s2, hs2⟩ : ∃ s2 : ByteArray, s2 = ⟨(keyText h' k').toArray⟩ := ⟨_, rfl⟩
    rw [← hs2]
    have HS2 := Lib.hid hs2
    clear hs2
    go_wp2_with fail
    refine ⟨HB3.out, ?_⟩
    have HLE := Lib.hid (show Op.bytesLess s1.toList s2.toList = keyLess h k h' k' by rw [HS1.out, HS2.out]; unfold keyLess; simp)
    refine Text.wpS_seg 3 _ _ _ _ (by decide) (fun Q6 hQ6 => ?_)
    simp only [List.take_succ_cons, List.take_zero]
    go_wp2_with fail
    simp only [List.drop_succ_cons, List.drop_zero]
    refine ⟨by rfl, ⟨fun _ => ⟨_, _, rfl, HG1.out 0 _ (List.getElem?_eq_getElem (by rw [hkCells_length]; omega))⟩, fun _ => ⟨_, _, rfl, HG2.out 0 _ (List.getElem?_eq_getElem (by rw [hkCells_length]; omega))⟩, fun _ => ⟨_, _, rfl, HG1.out 0 _ (List.getElem?_eq_getElem (by rw [hkCells_length]; omega))⟩, fun _ => ⟨_, _, rfl, HG2.out 0 _ (List.getElem?_eq_getElem (by rw [hkCells_length]; omega))⟩, trivial⟩, ?_⟩
    go_wp2_with fail
    go_ret
    refine ⟨rt1 (vbool HLE.out), ?_⟩
    exact (((Below.refl _ _).alloc (Nat.le_refl _) _).alloc (Nat.le_of_lt (by show _ < (Array.push _ _).size; rw [Array.size_push]; exact Nat.lt_succ_self _)) _).trans ((below_drew HB3.out).mono (by show _ ≤ (Array.push (Array.push _ _) _).size; rw [Array.size_push, Array.size_push]; omega))
end Go.Proofs.YtplbcbamnjnhlaaGreatDoor
