/- Proved: the given statement RecLinesCardSaid: for every input the law RecLines returns true and the input reads afterwards as before; the library's listed variables begin as the program's text lays them (tied by the card). -/
import Derived.Test.YtfheocdciekfoaaDoorMC04
import Derived.Test.YtfheocdciekfoaaDoorMA39
namespace Go.Proofs.YtfheocdciekfoaaDoor
open Go.ChangeMaps (open_string)
open Go.ChangeShapes Go.WideShapes Go.ChangeAt Go.RowKit

def zrecD32 {H : Type} : DataW H := .agg [.lit (.int .i64 0), .lit (.int .i64 0), zkeyD32, zkeyD32, .nil]
set_option maxRecDepth 100000 in
theorem recLines_contract (H : Type) (enc : TypeId × Value → H) (W : World) (base : Nat) (args : Array Value) (ds gs : List (DataW H)) (before : List MemPlace)
    (hval : ∀ (j : Nat) t v, Tryd.f3.params[j]? = some t → args[j]? = some v → Value.okWide Tryd.prog W .any base t v)
    (hW : DataW.Whole enc Tryd.prog Tryd.f3.params.toList Rows.recLinesSpec.vars false W args.toList ds gs before) (_hL : laidMetH Tryd.prog Rows.recLinesRow.laid W) :
    Calls Tryd.prog 3 args W fun e W' => ∃ v, e = .returned v ∧ Rows.recLinesSpec.post enc Tryd.prog Tryd.f3 false true false false W args v W' := by
  have hW' := hW
  obtain ⟨p, q, hA0, hV, rfl, hfz, hnd⟩ := hW
  have hA : DataW.TrodAll enc Tryd.prog W 0 (fun _ => true) true Tryd.f3.params.toList args.toList ds p := hA0
  rw [Tryd.params3] at hA hval
  obtain ⟨v0, v1, d0, d1, p0, p1, rfl, rfl, rfl, h0, h1⟩ := trodAll_two hA
  obtain ⟨rfl, rfl⟩ := trodVars_none hV
  obtain ⟨cs, a, rfl, hx⟩ := open_agg (opens_rec32 (enc := enc)) Tryd.underlying29 (hval 0 29 v0 rfl rfl) h0
  obtain ⟨va, rfl, hla, hma, hsa⟩ := hx
  obtain ⟨A1, c1, rfl, _, _⟩ := hsa.form
  obtain ⟨cs, b, rfl, hy⟩ := open_agg (opens_rec32 (enc := enc)) Tryd.underlying29 (hval 1 29 v1 rfl rfl) h1
  obtain ⟨vb, rfl, hlb, hmb, hsb⟩ := hy
  obtain ⟨A2, c2, rfl, _, _⟩ := hsb.form
  clear hA0
  have hc := recLines_any a b A1 _ c1 A2 _ c2 W.heap.size W ⟨hla, hma⟩ ⟨hlb, hmb⟩ hsa hsb (keys_len32 hsa) (keys_len32 hsb) (Nat.le_refl _)
  refine hc.mono fun e W' ⟨he, hb⟩ => ?_
  subst he
  exact ⟨_, rfl, law_post laidOut (by kernel_rfl) rfl rfl Tryd.underlying4 rfl hW' hb⟩
theorem recLines_reads (os : Os) {H : Type} (enc : TypeId × Value → H) : ∃ places, DataW.whole enc Tryd.prog ((laidWorld os).forCall (fun _ _ => 0) ⟨#[], #[.agg (recCells 0 0 z32 0 z32 0 (.slice none 0 0)).toArray, .agg (recCells 0 0 z32 0 z32 0 (.slice none 0 0)).toArray], []⟩).memory Tryd.f3.params.toList Rows.recLinesSpec.vars false (#[.agg (recCells 0 0 z32 0 z32 0 (.slice none 0 0)).toArray, .agg (recCells 0 0 z32 0 z32 0 (.slice none 0 0)).toArray] : Array Value).toList 8 = some ([zrecD32, zrecD32], [], places) :=
  ⟨[], by kernel_rfl⟩
set_option maxRecDepth 100000 in
theorem recLines_lifted (os : Os) (started : os.Started) (H : Type) (enc : TypeId × Value → H) (F : Stop.Interp) :
    ReturnsInHanded {} Tryd.checked os 3 .any ((OpenSpec.ofChange Rows.recLinesSpec).preRow enc Tryd.prog Tryd.f3 Rows.recLinesRow.domain false Rows.recLinesRow.laid) (((OpenSpec.ofChange Rows.recLinesSpec).at F).post enc Tryd.prog Tryd.f3 false true false false) := by
  obtain ⟨places, hx⟩ := recLines_reads os enc
  refine returnsInHanded_of_row (C := Tryd.checked) (s := OpenSpec.ofChange Rows.recLinesSpec) own started (by kernel_rfl) Tryd.func3
    (witness_row_at (enc := enc) (C := Tryd.checked) false (laidWorld os) #[.agg (recCells 0 0 z32 0 z32 0 (.slice none 0 0)).toArray, .agg (recCells 0 0 z32 0 z32 0 (.slice none 0 0)).toArray] rfl (by kernel_rfl) (by kernel_rfl) (by kernel_rfl)
      (OpenSpec.preRow_of_cond 8 hx (by kernel_rfl) (fun k hk => by cases hk) (by kernel_rfl) (laid32_met os _))) ?_
  intro W base args ds gs before hval hW _ _ _ hL _ _
  exact recLines_contract H enc W base args ds gs before hval hW hL
theorem recLines_said : Rows.RecLinesSaid :=
  OpenClaim.holds_of_cond 3 Tryd.f3 rfl rfl rfl rfl rfl rfl rfl ⟨rfl, rfl, rfl, rfl, rfl⟩ rfl rfl rfl rfl rfl (by kernel_rfl) Tryd.func3 (by kernel_rfl)
    (of_decide_eq_true (by kernel_rfl)) (by unfold Func.isWrapper; first | (rw [if_pos (by decide +kernel)]; kernel_rfl) | (rw [if_neg (by decide +kernel)]; exact ⟨rfl, rfl⟩))
    (fun os started H enc _ F => by rw [OpenClaim.pre_eq_preRow]; exact recLines_lifted os started H enc F)
theorem recLines_plain (f : FuncId) (fn : Func) (hf : Tryd.pinned.checked.prog.funcNamed "repertory/repertorylaw32.RecLines" = some f) (hfn : Tryd.pinned.checked.prog.funcs[f]? = some fn) :
    true = Tryd.pinned.checked.prog.looks [] ∧ ∀ (j : Nat) t, fn.params[j]? = some t → Tryd.pinned.checked.prog.wantsStandIn t = false := by
  obtain rfl : f = 3 := Option.some.inj ((show Tryd.prog.funcNamed "repertory/repertorylaw32.RecLines" = some 3 by kernel_rfl).symm.trans hf) |>.symm
  obtain rfl : fn = Tryd.f3 := (Option.some.inj (Tryd.func3.symm.trans hfn)).symm
  refine ⟨by kernel_rfl, fun j t ht => ?_⟩
  rw [Tryd.params3] at ht
  obtain rfl : t = 29 := by simpa using Array.mem_of_getElem? ht
  exact (show Tryd.prog.wantsStandIn 29 = false by kernel_rfl)
theorem recLines_holds : Rows.RecLinesCardSaid :=
  Claim7.holds_tied_plain_at .later [] _ _ _ _ recLines_said (fun _ h => by cases h) (by kernel_rfl) (fun _ h => by cases h) recLines_row_tie rfl ⟨rfl, rfl⟩ (by kernel_rfl) rfl recLines_plain (by kernel_rfl)
end Go.Proofs.YtfheocdciekfoaaDoor
