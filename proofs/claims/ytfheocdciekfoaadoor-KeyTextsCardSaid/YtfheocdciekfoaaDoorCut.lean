/- Contract of strings.Cut at one byte, every world. -/
import Derived.Test.YtfheocdciekfoaaDoorChecked
import Derived.Test.YtfheocdciekfoaaDoorWords
import Derived.Test.YtfheocdciekfoaaDoorGrow2
import Derived.Test.YtfheocdciekfoaaDoorAgg
import Derived.Lib.Bytealg
import Derived.Lib.IndexLaws
import Derived.Deep.QuietTactic
import Derived.BigQuiet
namespace Go.Proofs.YtfheocdciekfoaaDoor
open Go.RowKit

set_option maxRecDepth 100000 in
theorem indexByte_any (s : ByteArray) (c : Int) (w : World) :
    Calls Tryd.prog 118 #[.string s, .int .u8 c] w fun e w' => e = .returned (.int .i64 (Lib.indexByte s.data.toList c.toNat.toUInt8)) ∧ w' = w := by
  go_enter Tryd.func118, Tryd.ntmps118
  go_wp2
  rw [run_callFunc_extern Tryd.func129 (by kernel_rfl) (by kernel_rfl) (by kernel_rfl) (e := Extern.BytealgIndexByte.indexByte) (by kernel_rfl), Lib.run_indexByteString]
  simp only [Result.andThen]
  rw [Oper.upon_value]
  go_wp2
  go_ret
  exact ⟨rfl, rfl⟩
theorem index1_any (s : ByteArray) (c : UInt8) (w : World) :
    Calls Tryd.prog 107 #[.string s, .string ⟨#[c]⟩] w fun e w' => e = .returned (.int .i64 (Lib.indexByte s.data.toList c)) ∧ Below w.heap.size w w' := by
  obtain ⟨sp, hsp⟩ : ∃ sp : ByteArray, sp = ⟨#[c]⟩ := ⟨_, rfl⟩
  have hss : sp.size = 1 := by rw [hsp]; rfl
  rw [← hsp]
  have HSP := Lib.hid hsp
  clear hsp
  go_enter Tryd.func107, Tryd.ntmps107
  go_wp2_with fail
  · rename_i heq
    have he : sp.toList = s.toList := by simpa using heq
    rw [Lib.toList_data, Lib.toList_data, HSP.out] at he
    go_ret
    refine ⟨rt1 ?_, Below.refl _ _⟩
    rw [← he]
    simp [Lib.indexByte]
  · have hc : sp[0].toNat = c.toNat := by
      have := HSP.out
      subst this
      rfl
    rw [hc]
    refine (indexByte_any s _ w).mono ?_
    rintro e w' ⟨rfl, rfl⟩
    go_wp2_with fail
    go_ret
    refine ⟨rt1 ?_, Below.refl _ _⟩
    simp
def cutL (l : List UInt8) (c : UInt8) : List UInt8 × List UInt8 × Bool :=
  if Lib.indexByte l c = -1 then (l, [], false) else (l.take (Lib.indexByte l c).toNat, l.drop ((Lib.indexByte l c).toNat + 1), true)
set_option maxRecDepth 100000 in
theorem cut0_any (l : List UInt8) (c : UInt8) (w : World) (hl : l.length ≤ 1099511627776) :
    Calls Tryd.prog 90 #[.string ⟨l.toArray⟩, .string ⟨#[c]⟩] w fun e w' =>
      e = .returned (.tuple #[.string ⟨(cutL l c).1.toArray⟩, .string ⟨(cutL l c).2.1.toArray⟩, .bool (cutL l c).2.2]) ∧ Below w.heap.size w w' := by
  obtain ⟨s, hs⟩ : ∃ s : ByteArray, s = ⟨l.toArray⟩ := ⟨_, rfl⟩
  obtain ⟨sp, hsp⟩ : ∃ sp : ByteArray, sp = ⟨#[c]⟩ := ⟨_, rfl⟩
  have hss : sp.size = 1 := by rw [hsp]; rfl
  have hsz : s.size = l.length := by rw [hs]; rfl
  rw [← hsp, ← hs]
  have HSP := Lib.hid hsp
  have HS := Lib.hid hs
  have HIX := Lib.hid (show Lib.indexByte s.data.toList c = Lib.indexByte l c by rw [hs])
  clear hsp hs
  have hge := Lib.indexByte_ge l c
  by_cases hm : Lib.indexByte l c = -1
  · have HC := Lib.hid (show cutL l c = (l, [], false) by unfold cutL; rw [if_pos hm])
    have HM := Lib.hid hm
    clear hm hge
    go_enter Tryd.func90, Tryd.ntmps90
    go_wp2_with (go_at_call 107; rw [HSP.out]; refine (index1_any s c _).mono ?_; rintro e w1 ⟨rfl, hb1⟩; rw [HIX.out, HM.out, ← HSP.out])
    refine bodyPost_ret (results_tmp3 rfl _ _ _) rfl ?_
    refine ⟨?_, hb1⟩
    rw [HC.out]
    simp only
    rw [← HS.out]
    rfl
  · obtain ⟨i, hi⟩ : ∃ i : Nat, Lib.indexByte l c = i := ⟨(Lib.indexByte l c).toNat, by omega⟩
    have hil : i < l.length := by
      have := (Lib.indexByte_some hi).1
      exact (List.getElem?_eq_some_iff.1 this).1
    have HC := Lib.hid (show cutL l c = (l.take i, l.drop (i + 1), true) by unfold cutL; rw [if_neg hm, hi]; rfl)
    have HM := Lib.hid hi
    clear hm hge hi
    go_enter Tryd.func90, Tryd.ntmps90
    go_wp2_with (go_at_call 107; rw [HSP.out]; refine (index1_any s c _).mono ?_; rintro e w1 ⟨rfl, hb1⟩; rw [HIX.out, HM.out, ← HSP.out])
    have HB1 := Lib.hid hb1
    clear hb1
    have c1 : (0 : Int) ≤ ↑i := by omega
    have c2 : (↑i : Int) ≤ ↑s.size := by omega
    have c3 : (0 : Int) ≤ ↑i + 1 := by omega
    have c4 : (↑i + 1 : Int) ≤ ↑s.size := by omega
    go_quiet (fail)
    go_wp2_with fail
    refine bodyPost_ret (results_tmp3 rfl _ _ _) rfl ?_
    refine ⟨?_, ⟨HB1.out.os, HB1.out.tape, HB1.out.output, HB1.out.size, HB1.out.block⟩⟩
    rw [HC.out]
    simp only
    have e1 : s.extract 0 i = ⟨(l.take i).toArray⟩ := by
      rw [HS.out]
      apply ByteArray.ext
      simp
    have e2 : s.extract (i + 1) l.length = ⟨(l.drop (i + 1)).toArray⟩ := by
      rw [HS.out]
      apply ByteArray.ext
      simp [List.extract_eq_take_drop]
      exact List.take_of_length_le (by simp)
    rw [e1, e2]
    rfl
set_option maxRecDepth 100000 in
theorem cut_str (l : List UInt8) (c : UInt8) (w : World) (hl : l.length ≤ 1099511627776) :
    Calls Tryd.prog 55 #[.string ⟨l.toArray⟩, .string ⟨#[c]⟩] w fun e w' =>
      e = .returned (.tuple #[.string ⟨(cutL l c).1.toArray⟩, .string ⟨(cutL l c).2.1.toArray⟩, .bool (cutL l c).2.2]) ∧ Below w.heap.size w w' := by
  go_enter Tryd.func55, Tryd.ntmps55
  go_wp2_with (go_at_call 90; refine (cut0_any l c _ hl).mono ?_; rintro e w1 ⟨rfl, hb1⟩)
  refine bodyPost_ret (results_tmp3 rfl _ _ _) rfl ?_
  exact ⟨rfl, hb1⟩
end Go.Proofs.YtfheocdciekfoaaDoor
