/- Texts of this proof joined: RecParsesLaw, Laid32. -/
import Derived.Test.YtplbcbamnjnhlaaDoorMP29
import Derived.Test.YtplbcbamnjnhlaaDoorMP11
import Derived.Test.YtplbcbamnjnhlaaDoorMP14
import Derived.Deep.Cut
import Derived.Deep.CutBlock
import Derived.Deep.DeepCutAuto
import Derived.Test.YtplbcbamnjnhlaaDoorCards
import Derived.Test.YtplbcbamnjnhlaaDoorTie
import Derived.Test.YtplbcbamnjnhlaaDoorMP05
import Derived.WalkKit
import Derived.ProofKit
import Derived.OpenShut
import Derived.Deep.DeepHandedRow
/- The law RecParses walked (under way). -/
namespace Go.Proofs.YtplbcbamnjnhlaaDoor
open Go.RowKit

theorem cell_block {w w' : World} {b : Nat} (h : w'.heap[b]? = w.heap[b]?) (o : Nat) : w'.cell? ⟨b, o, none⟩ = w.cell? ⟨b, o, none⟩ := by
  unfold World.cell?
  simp only [h]
theorem hs_parse {l : List UInt8} {r : RecD} (h : parseL l = some r) : Hs r := (parseL_some h).1.2.1
/-- both Parses' answers, told at once -/
theorem parse_both {l : List UInt8} {w w' : World} {e : Ending} (h : ParseTo l w e w') : ∃ r v b, e = .returned (.tuple #[rv r v, .int .i64 (if b then 0 else 3)]) ∧ Hs r ∧ KeysOwn w' w.heap.size v r.keys ∧ (parseL l = if b then some r else none) ∧ (b = false → r = zeroD) ∧ Below w.heap.size w w' := by
  obtain ⟨hb, h⟩ := h
  rcases h with ⟨hn, rfl⟩ | ⟨r, v, hs, rfl, hk⟩
  · exact ⟨zeroD, _, false, rfl, ⟨rfl, rfl⟩, KeysOwn.nil _ _, hn, fun _ => rfl, hb⟩
  · exact ⟨r, v, true, rfl, hs_parse hs, hk, hs, (fun h => nomatch h), hb⟩
theorem refParse_both {l : List UInt8} {w w' : World} {e : Ending} (h : RefParseTo l w e w') : ∃ r v b, e = .returned (.tuple #[rv r v, .bool b]) ∧ Hs r ∧ KeysOwn w' w.heap.size v r.keys ∧ (parseL l = if b then some r else none) ∧ (b = false → r = zeroD) ∧ Below w.heap.size w w' := by
  obtain ⟨hb, h⟩ := h
  rcases h with ⟨hn, rfl⟩ | ⟨r, v, hs, rfl, hk⟩
  · exact ⟨zeroD, _, false, rfl, ⟨rfl, rfl⟩, KeysOwn.nil _ _, hn, fun _ => rfl, hb⟩
  · exact ⟨r, v, true, rfl, hs_parse hs, hk, hs, (fun h => nomatch h), hb⟩
theorem both_same {l : List UInt8} {r r' : RecD} {b b' : Bool} (h : parseL l = if b then some r else none) (h0 : b = false → r = zeroD) (h' : parseL l = if b' then some r' else none) (h0' : b' = false → r' = zeroD) : b = b' ∧ r = r' := by
  rw [h] at h'
  cases b <;> cases b'
  · exact ⟨rfl, (h0 rfl).trans (h0' rfl).symm⟩
  · cases h'
  · cases h'
  · injection h' with h'
    exact ⟨rfl, h'⟩
set_option maxRecDepth 100000 in
set_option maxHeartbeats 8000000 in
theorem recParses_any (l : List UInt8) (A : Option Addr) (c B : Nat) (w : World) (hr : Rd w B A (bcells l)) (hB : B ≤ w.heap.size) (hc : l.length ≤ c) :
    Calls Tryd.prog 3 #[.slice A l.length c] w fun e w' => e = .returned (.bool true) ∧ Below w.heap.size w w' := by
  have HBW := Lib.hid hB
  have HR := Lib.hid hr
  have HC := Lib.hid hc
  clear hr hB hc
  go_enter Tryd.func3, Tryd.ntmps3
  by_cases hl : 1500 < l.length
  · go_wp2_with fail
    refine (awake32_any w).mono ?_
    rintro e w2 ⟨rfl, hb2⟩
    go_wp2_with fail
    go_ret
    exact ⟨rfl, hb2⟩
  go_wp2_with fail
  refine (parse32_any l A c B w HR.out HBW.out (by omega) HC.out).mono ?_
  intro e w2 hp
  obtain ⟨r, v, b, rfl, hhs, hks, hpl, hz, hb2⟩ := parse_both hp
  obtain ⟨A2, c2, rfl, _, _⟩ := own_form hks.1
  have HHS := Lib.hid hhs
  have HP1 := Lib.hid (And.intro hpl hz)
  obtain ⟨y, hy⟩ : ∃ y : Int, y = if b then 0 else 3 := ⟨_, rfl⟩
  rw [← hy]
  have HY := Lib.hid hy
  clear hp hhs hpl hz hy
  go_wp2_with (refine stop_at (some 3) rfl ?_)
  refine Stop.go (wpList_alloc rfl 31 rfl zero_rec rfl ?_)
  refine wpList_store_agg rfl 31 rfl rfl rfl (store_new2 (g := w2.heap.size) rfl (recv_cells ..) (rec_size _ _ _ _ _ _ _ HHS.out.1 HHS.out.2) (by rw [List.size_toArray, recCells_length, recCells_length, HHS.out.1, HHS.out.2]; rfl) (recCells_one _ _ _ _ _ _ _ _ _)) ?_
  have hb3 : Below w2.heap.size w2 (w2.alloc (.cells (recCells r.kind r.seq r.kh r.kk r.mh r.ms (.slice A2 r.keys.length c2)).toArray 31)) := (Below.refl _ _).alloc (Nat.le_refl _) _
  have HRA := Lib.hid (RecAt.new (t := 31) (v := .slice A2 r.keys.length c2) (kind := r.kind) (seq := r.seq) (kk := r.kk) (ms := r.ms) w2 HHS.out.1 HHS.out.2)
  have HK1 := Lib.hid (hks.later hb3)
  have HB3 := Lib.hid (hb2.trans (hb3.mono hb2.size))
  clear hb3 hb2 hks
  generalize w2.alloc (.cells (recCells r.kind r.seq r.kh r.kk r.mh r.ms (.slice A2 r.keys.length c2)).toArray 31) = w3 at *
  generalize w2.heap.size = m3 at *
  generalize hac : Act.put _ _ _ = a9
  simp [Act.put] at hac
  subst hac
  go_wp2_with fail
  refine (refParse_any l A c B w3 (HR.out.below (HB3.out.mono HBW.out)) (Nat.le_trans HBW.out HB3.out.size) (by omega) HC.out).mono ?_
  intro e w4 hp
  obtain ⟨r', v, b', rfl, hhs, hks, hpl, hz, hb4⟩ := refParse_both hp
  obtain ⟨rfl, rfl⟩ := both_same HP1.out.1 HP1.out.2 hpl hz
  obtain ⟨A4, c4, rfl, _, _⟩ := own_form hks.1
  have HRA4 := HRA.out.later hb4
  have hK14 := HK1.out.later hb4
  clear hp hhs hpl hz
  go_wp2_with (refine stop_at (some 5) rfl ?_)
  refine Stop.go (wpList_alloc rfl 36 rfl zero_rec32 rfl ?_)
  refine wpList_store_agg rfl 36 rfl rfl rfl (store_new2 (g := w4.heap.size) rfl (recv_cells ..) (rec32_size _ _ _ _ _ _ _ HHS.out.1 HHS.out.2) (by rw [List.size_toArray, recCells_length, recCells_length, HHS.out.1, HHS.out.2]; rfl) (recCells_one _ _ _ _ _ _ _ _ _)) ?_
  have hb5 : Below w4.heap.size w4 (w4.alloc (.cells (recCells r.kind r.seq r.kh r.kk r.mh r.ms (.slice A4 r.keys.length c4)).toArray 36)) := (Below.refl _ _).alloc (Nat.le_refl _) _
  have HRP5 := Lib.hid (RecAt.new (t := 36) (v := .slice A4 r.keys.length c4) (kind := r.kind) (seq := r.seq) (kk := r.kk) (ms := r.ms) w4 HHS.out.1 HHS.out.2)
  have HRA5 := Lib.hid (HRA4.later hb5)
  have HK15 := Lib.hid (hK14.later hb5)
  have HK25 := Lib.hid (hks.later hb5)
  have HB5 := Lib.hid ((HB3.out.trans (hb4.mono HB3.out.size)).trans (hb5.mono (HB3.out.trans (hb4.mono HB3.out.size)).size))
  clear hb5 hb4 hks HRA4 hK14 HRA HK1 HB3
  generalize w4.alloc (.cells (recCells r.kind r.seq r.kh r.kk r.mh r.ms (.slice A4 r.keys.length c4)).toArray 36) = w5 at *
  generalize w4.heap.size = m5 at *
  generalize hac : Act.put _ _ _ = a9
  simp [Act.put] at hac
  subst hac
  have hyb : (y == 0) = b := by rw [HY.out]; cases b <;> rfl
  have hbb : (b != b) = false := by cases b <;> rfl
  have hy3 : (y != 3) = b := by rw [HY.out]; cases b <;> rfl
  go_upto_region 5 with fail
  go_cut [44] from 26 (fun v wx => v = .bool false ∧ Hid (Below w.heap.size w wx ∧ Below w5.heap.size w5 wx))
  case first =>
    go_wp2_with fail
    refine wpT_grow [6, 8] [5, 7] [] (by kernel_rfl) (by kernel_rfl) ?_
    refine wpT_seg 5 (by decide) (fun Q1 hQ1 => ?_)
    simp only [List.take_succ_cons, List.take_zero]
    go_wp2_with fail
    try simp only [List.drop_succ_cons, List.drop_zero]
    refine wpT_seg 1 (by decide) (fun Q1 hQ1 => ?_)
    simp only [List.take_succ_cons, List.take_zero]
    refine wpList_load_aggG (by rfl) 31 rfl rfl recTy_u rfl (rec_size _ _ _ _ _ _ _ HHS.out.1 HHS.out.2) HRA5.out.all_ ?_
    refine hQ1 _ _ ?_
    simp only [List.drop_succ_cons, List.drop_zero]
    generalize hac : Act.put _ _ _ = a9
    simp [Act.put] at hac
    subst hac
    refine wpT_one (fun Q1 hQ1 => ?_)
    go_wp2_with fail
    refine (plain_any r.kind r.seq r.kh r.kk r.mh r.ms A2 r.keys.length c2 _ HHS.out.1 HHS.out.2).mono ?_
    rintro e w6 ⟨rfl, hb⟩
    have HD6 := Lib.hid hb
    have HT6 := Lib.hid (below_drew HD6.out)
    have HB6 := Lib.hid (HB5.out.trans (HT6.out.mono HB5.out.size))
    have HRP6 := Lib.hid (HRP5.out.later HT6.out)
    clear hb
    go_wp2_with fail
    refine ⟨HD6.out, ?_⟩
    refine wpT_seg 1 (by decide) (fun Q1 hQ1 => ?_)
    simp only [List.take_succ_cons, List.take_zero]
    refine wpList_load_aggG (by rfl) 36 rfl rfl rec32Ty_u rfl (rec32_size _ _ _ _ _ _ _ HHS.out.1 HHS.out.2) HRP6.out.all_ ?_
    refine hQ1 _ _ ?_
    simp only [List.drop_succ_cons, List.drop_zero]
    generalize hac : Act.put _ _ _ = a9
    simp [Act.put] at hac
    subst hac
    refine wpT_one (fun Q1 hQ1 => ?_)
    go_wp2_with fail
    refine (same32_any r r A2 A4 r.keys.length c2 r.keys.length c4 w6.heap.size w6.heap.size w6 HHS.out HHS.out (HK15.out.later HT6.out).sl (HK25.out.later HT6.out).sl (Nat.le_refl _) (Nat.le_refl _)).mono ?_
    rintro e w7 ⟨rfl, hb⟩
    have HD7 := Lib.hid (HD6.out.trans (hb.mono HD6.out.size))
    have HB7 := Lib.hid (HB6.out.trans (hb.mono HB6.out.size))
    clear hb
    rw [sameD_self]
    go_wp2_with fail
    refine ⟨HD7.out, ?_⟩
    cases b with
    | true =>
      refine wpT_seg 10 (by decide) (fun Q1 hQ1 => ?_)
      simp only [List.take_succ_cons, List.take_zero]
      go_wp2_with fail
      try simp only [List.drop_succ_cons, List.drop_zero]
      refine wpT_end ⟨by rfl, ⟨(fun _ => ⟨_, _, rfl, by simpa using HRA5.out.all_ 0 _ rfl⟩), (fun _ => ⟨_, _, rfl, by simpa using HRP5.out.all_ 0 _ rfl⟩), trivial⟩, ?_⟩
      go_wp2_with fail
      go_meet
      case rel => exact ⟨rfl, Lib.hid ⟨HB7.out, below_drew HD7.out⟩⟩
    | false =>
      refine wpT_seg 10 (by decide) (fun Q1 hQ1 => ?_)
      simp only [List.take_succ_cons, List.take_zero]
      go_wp2_with fail
      try simp only [List.drop_succ_cons, List.drop_zero]
      refine wpT_end ⟨by rfl, ⟨(fun _ => ⟨_, _, rfl, by simpa using HRA5.out.all_ 0 _ rfl⟩), (fun _ => ⟨_, _, rfl, by simpa using HRP5.out.all_ 0 _ rfl⟩), trivial⟩, ?_⟩
      go_wp2_with fail
      go_meet
      case rel => exact ⟨rfl, Lib.hid ⟨HB7.out, below_drew HD7.out⟩⟩
  case rest =>
    obtain ⟨rfl, hw⟩ := hcut
    have HB7 := Lib.hid hw.out.1
    clear hw
    generalize wc = w7 at *
    go_wp2_with fail
    refine (all32_any l A c B w7 (HR.out.below (HB7.out.mono HBW.out)) (Nat.le_trans HBW.out HB7.out.size) (by omega) HC.out).mono ?_
    rintro e w8 ⟨rs, n, v, rfl, hall, hown, hb8⟩
    obtain ⟨A8, c8, rfl, hc8, _⟩ := hown.form
    have HB8 := Lib.hid (HB7.out.trans (hb8.mono HB7.out.size))
    have HLL := Lib.hid (all_len hall.lines)
    have HALL := Lib.hid hall
    have HO8 := Lib.hid hown
    clear hall hown hb8
    go_wp2_with fail
    refine (refAll_any l A c B w8 (HR.out.below (HB8.out.mono HBW.out)) (Nat.le_trans HBW.out HB8.out.size) (by omega) HC.out).mono ?_
    rintro e w9 ⟨rs', n', v', rfl, hall, hown, hb9⟩
    obtain ⟨rfl, rfl⟩ := all_one HALL.out hall
    obtain ⟨A9, c9, rfl, hc9, _⟩ := hown.form
    have HB9 := Lib.hid (HB8.out.trans (hb9.mono HB8.out.size))
    have HS8 := Lib.hid (HO8.out.later hb9).sl
    have HS9 := Lib.hid hown.sl
    have hrl : rs.length ≤ 1500 := by have := HLL.out; omega
    clear hall hown hb9 HO8 HALL HB8 HB7
    go_wp2_with fail
    go_loopw [11] (fun v11 wr => ∃ i : Nat, i ≤ rs.length ∧ v11 = .int .i64 i ∧ Hid (Below w9.heap.size w9 wr)) (fun v11 _ => rs.length - (intOf v11).toNat)
    case atStart => exact ⟨0, by omega, rfl, Below.refl _ _⟩
    case round =>
      obtain ⟨i, hi, rfl, HW⟩ := hrel
      by_cases hlt : i < rs.length
      · obtain ⟨b1, o1, A5, k5, rfl, hq1, hb1, hhs1, hks1, hcell1⟩ := rec_at (HS8.out.below HW.out) (k := i) hlt
        obtain ⟨b2, o2, A6, k6, rfl, hq2, hb2, hhs2, hks2, hcell2⟩ := rec_at (HS9.out.below HW.out) (k := i) hlt
        obtain ⟨r2, hr⟩ : ∃ r2, r2 = rs[i] := ⟨_, rfl⟩
        rw [← hr] at hhs1 hks1 hcell1 hhs2 hks2 hcell2
        have HHS2 := Lib.hid hhs1
        have HK1 := Lib.hid hks1
        have HK2 := Lib.hid hks2
        have HC1 := Lib.hid hcell1
        have HC2 := Lib.hid hcell2
        clear hr hhs1 hks1 hcell1 hhs2 hks2 hcell2
        go_wp2_with fail
        refine wpT_grow [4, 9] [3, 8] [] (by kernel_rfl) (by kernel_rfl) ?_
        refine wpT_seg 3 (by decide) (fun Q1 hQ1 => ?_)
        simp only [List.take_succ_cons, List.take_zero]
        go_wp2_with fail
        try simp only [List.drop_succ_cons, List.drop_zero]
        refine wpT_seg 1 (by decide) (fun Q1 hQ1 => ?_)
        simp only [List.take_succ_cons, List.take_zero]
        refine wpList_load_agg rfl 31 rfl rfl recTy_u rfl (rec_size _ _ _ _ _ _ _ HHS2.out.1 HHS2.out.2) HC1.out ?_
        refine hQ1 _ _ ?_
        simp only [List.drop_succ_cons, List.drop_zero]
        generalize hac : Act.put _ _ _ = a9
        simp [Act.put] at hac
        subst hac
        refine wpT_one (fun Q1 hQ1 => ?_)
        go_wp2_with fail
        refine (plain_any r2.kind r2.seq r2.kh r2.kk r2.mh r2.ms A5 r2.keys.length k5 _ HHS2.out.1 HHS2.out.2).mono ?_
        rintro e wx ⟨rfl, hb⟩
        have HDx := Lib.hid hb
        have HTx := Lib.hid (below_drew HDx.out)
        have HC3 := Lib.hid (fun j u (hu : (recCells r2.kind r2.seq r2.kh r2.kk r2.mh r2.ms (.slice A6 r2.keys.length k6))[j]? = some u) => (show wx.cell? ⟨b2, o2 + i * 69 + j, none⟩ = some u from (cell_block (HTx.out.block b2 (Nat.lt_of_lt_of_le hb2 HW.out.size)) _).trans (HC2.out j u hu)))
        clear hb
        go_wp2_with fail
        refine ⟨HDx.out, ?_⟩
        refine wpT_seg 3 (by decide) (fun Q1 hQ1 => ?_)
        simp only [List.take_succ_cons, List.take_zero]
        go_wp2_with fail
        try simp only [List.drop_succ_cons, List.drop_zero]
        refine wpT_seg 1 (by decide) (fun Q1 hQ1 => ?_)
        simp only [List.take_succ_cons, List.take_zero]
        refine wpList_load_agg rfl 36 rfl rfl rec32Ty_u rfl (rec32_size _ _ _ _ _ _ _ HHS2.out.1 HHS2.out.2) HC3.out ?_
        refine hQ1 _ _ ?_
        simp only [List.drop_succ_cons, List.drop_zero]
        generalize hac : Act.put _ _ _ = a9
        simp [Act.put] at hac
        subst hac
        refine wpT_one (fun Q1 hQ1 => ?_)
        go_wp2_with fail
        refine (same32_any r2 r2 A5 A6 r2.keys.length k5 r2.keys.length k6 w9.heap.size w9.heap.size wx HHS2.out HHS2.out (HK1.out.below (HTx.out.mono HW.out.size)) (HK2.out.below (HTx.out.mono HW.out.size)) (Nat.le_trans HW.out.size HTx.out.size) (Nat.le_trans HW.out.size HTx.out.size)).mono ?_
        rw [sameD_self]
        rintro e wy ⟨rfl, hb⟩
        have HDy := Lib.hid (HDx.out.trans (hb.mono HDx.out.size))
        clear hb
        go_wp2_with fail
        refine ⟨HDy.out, ?_⟩
        refine wpT_seg 1 (by decide) (fun Q1 hQ1 => ?_)
        simp only [List.take_succ_cons, List.take_zero]
        go_wp2_with fail
        try simp only [List.drop_succ_cons, List.drop_zero]
        refine wpT_end ⟨by rfl, ⟨(fun _ => ⟨_, _, rfl, by simpa using HC1.out 0 _ rfl⟩), (fun _ => ⟨_, _, rfl, by simpa using HC2.out 0 _ rfl⟩), trivial⟩, ?_⟩
        go_wp2_with fail
        refine ⟨⟨i + 1, by omega, by go_num, HW.out.trans ((below_drew HDy.out).mono HW.out.size)⟩, ?_⟩
        simp [intOf]; omega
      · go_wp2_with fail
        refine (awake32_any _).mono ?_
        rintro e wz ⟨rfl, hb⟩
        go_wp2_with fail
        go_ret
        exact ⟨rfl, (HB9.out.trans (HW.out.mono HB9.out.size)).trans (hb.mono (Nat.le_trans HB9.out.size HW.out.size))⟩
end Go.Proofs.YtplbcbamnjnhlaaDoor
/- A world in which the tables that the rows of law 32 list lie as the program's text lays them. -/
namespace Go.Proofs.YtplbcbamnjnhlaaDoor
open Go.ChangeShapes Go.WideShapes Go.ChangeAt Go.RowKit

theorem own : ownKnob Tryd.prog.godebug = none := by kernel_rfl
theorem laidOut : laidOutB Tryd.prog = true := by kernel_rfl
abbrev list32 : List (String × DataW Unit) := Rows.recParsesRow.laid
def tab32 : Array Value := (#[0, 1, 28, 2, 29, 14, 24, 3, 30, 22, 20, 15, 25, 17, 4, 8, 31, 27, 13, 23, 21, 19, 16, 7, 26, 12, 18, 6, 11, 5, 10, 9] : Array Int).map fun z => .int .u8 z
def tab64 : Array Value := (#[0, 1, 56, 2, 57, 49, 28, 3, 61, 58, 42, 50, 38, 29, 17, 4, 62, 47, 59, 36, 45, 43, 51, 22, 53, 39, 33, 30, 24, 18, 12, 5, 63, 55, 48, 27, 60, 41, 37, 16, 46, 35, 44, 21, 52, 32, 23, 11, 54, 26, 40, 15, 34, 20, 31, 10, 25, 14, 19, 9, 13, 8, 7, 6] : Array Int).map fun z => .int .u8 z
def tabPow : Array Value := (#[1, 10, 100, 1000, 10000, 100000, 1000000, 10000000, 100000000, 1000000000, 10000000000, 100000000000, 1000000000000, 10000000000000, 100000000000000, 1000000000000000, 10000000000000000, 100000000000000000, 1000000000000000000, 10000000000000000000] : Array Int).map fun z => .int .u64 z
def putIn (cs : Array Value) : Obj → Obj
  | .cells _ t frozen => .cells cs t frozen
  | o => o
/-- a world in which the listed variables lie as the program's text lays them -/
noncomputable def laidWorld (os : Os) : World :=
  let w0 := World.holding Tryd.prog os ⟨#[], #[], []⟩
  { w0 with heap := ((w0.heap.modify 1 (putIn tab32)).modify 2 (putIn tab64)).modify 0 (putIn tabPow) }
theorem laid32_met (os : Os) (args : Array Value) : laidMet Tryd.prog list32 ((laidWorld os).forCall (fun _ _ => 0) ⟨#[], args, []⟩).memory :=
  laidMet_of_run' 8 (by kernel_rfl) (by kernel_rfl)
end Go.Proofs.YtplbcbamnjnhlaaDoor
