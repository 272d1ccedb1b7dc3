/- Proved: the given statement HistoryTouchesCardSaid: for every input the law HistoryTouches returns true and the input reads afterwards as before; the library's listed variables begin as the program's text lays them (tied by the card). -/
import Derived.Test.YtplbcbamnjnhlaaGreatDoorMT00
import Derived.Test.YtplbcbamnjnhlaaGreatDoorMT45
set_option maxRecDepth 100000
set_option maxHeartbeats 40000000
namespace Go.Proofs.YtplbcbamnjnhlaaGreatDoor
open Go.ChangeMaps (open_string)
open Go.ChangeShapes Go.WideShapes Go.ChangeAt Go.RowKit

theorem opens_key {H : Type} {enc : TypeId × Value → H} : qba enc Tryz.prog eKey 34 := qtg Tryz.underlying34 (qlr Tryz.underlying32 Tryz.underlying5 (by kernel_rfl) (by kernel_rfl)) (qth Tryz.underlying3) (by kernel_rfl) (by kernel_rfl) rfl rfl (by kernel_rfl)
def zkeyD {H : Type} : DataW H := .agg [.agg (List.replicate 32 (.lit (.int .u8 0))), .lit (.int .i64 0)]
theorem historyTouches_contract (H : Type) (enc : TypeId × Value → H) (W : World) (base : Nat) (args : Array Value) (ds gs : List (DataW H)) (before : List MemPlace)
    (hval : ∀ (j : Nat) t v, Tryz.f5.params[j]? = some t → args[j]? = some v → Value.okWide Tryz.prog W .any base t v)
    (hW : DataW.Whole enc Tryz.prog Tryz.f5.params.toList Rows.historyTouchesSpec.vars false W args.toList ds gs before) (_hL : laidMetH Tryz.prog Rows.historyTouchesRow.laid W) :
    Calls Tryz.prog 5 args W fun e W' => ∃ v, e = .returned v ∧ Rows.historyTouchesSpec.post enc Tryz.prog Tryz.f5 false true false false W args v W' := by
  have hW' := hW
  obtain ⟨p, q, hA0, hV, rfl, hfz, hnd⟩ := hW
  have hA : DataW.TrodAll enc Tryz.prog W 0 (fun _ => true) true Tryz.f5.params.toList args.toList ds p := hA0
  rw [Tryz.params5] at hA hval
  obtain ⟨v0, v1, d0, d1, p0, p1, rfl, rfl, rfl, h0, h1⟩ := trodAll_two hA
  obtain ⟨rfl, rfl⟩ := trodVars_none hV
  obtain ⟨A0, c0, l0, rfl, r0, hlc, hm0⟩ := qop Tryz.underlying44 Tryz.underlying5 (by kernel_rfl) (hval 0 44 v0 rfl rfl) h0
  obtain ⟨cs, x, rfl, hx⟩ := open_agg (opens_key (enc := enc)) Tryz.underlying34 (hval 1 34 v1 rfl rfl) h1
  obtain ⟨rfl, hxl, _, _⟩ := tm hx
  clear hA0
  have hc := ze l0 A0 c0 W.heap.size ⟨x, hxl⟩ W r0 (nr _) hlc hm0
  refine hc.mono fun e W' ⟨he, hb⟩ => ?_
  subst he
  exact ⟨_, rfl, law_post laidOut (by kernel_rfl) rfl rfl Tryz.underlying4 rfl hW' hb⟩
theorem historyTouches_reads (os : Os) {H : Type} (enc : TypeId × Value → H) : ∃ places, DataW.whole enc Tryz.prog ((qbt os).forCall (fun _ _ => 0) ⟨#[], #[.slice none 0 0, .agg (af z32 0).toArray], []⟩).memory Tryz.f5.params.toList Rows.historyTouchesSpec.vars false (#[.slice none 0 0, .agg (af z32 0).toArray] : Array Value).toList 8 = some ([.nil, zkeyD], [], places) :=
  ⟨[], by kernel_rfl⟩
theorem historyTouches_lifted (os : Os) (started : os.Started) (H : Type) (enc : TypeId × Value → H) (F : Stop.Interp) :
    ReturnsInHanded {} Tryz.checked os 5 .any ((OpenSpec.ofChange Rows.historyTouchesSpec).preRow enc Tryz.prog Tryz.f5 Rows.historyTouchesRow.domain false Rows.historyTouchesRow.laid) (((OpenSpec.ofChange Rows.historyTouchesSpec).at F).post enc Tryz.prog Tryz.f5 false true false false) := by
  obtain ⟨places, hx⟩ := historyTouches_reads os enc
  refine returnsInHanded_of_row (C := Tryz.checked) (s := OpenSpec.ofChange Rows.historyTouchesSpec) own started (by kernel_rfl) Tryz.func5
    (witness_row_at (enc := enc) (C := Tryz.checked) false (qbt os) #[.slice none 0 0, .agg (af z32 0).toArray] rfl (by kernel_rfl) (by kernel_rfl) (by kernel_rfl)
      (OpenSpec.preRow_of_cond 8 hx (by kernel_rfl) (fun k hk => by cases hk) (by kernel_rfl) (qov os _))) ?_
  intro W base args ds gs before hval hW _ _ _ hL _ _
  exact historyTouches_contract H enc W base args ds gs before hval hW hL
theorem historyTouches_said : Rows.HistoryTouchesSaid :=
  OpenClaim.holds_of_cond 5 Tryz.f5 rfl rfl rfl rfl rfl rfl rfl ⟨rfl, rfl, rfl, rfl, rfl⟩ rfl rfl rfl rfl rfl (by kernel_rfl) Tryz.func5 (by kernel_rfl)
    (of_decide_eq_true (by kernel_rfl)) (by unfold Func.isWrapper; first | (rw [if_pos (by decide +kernel)]; kernel_rfl) | (rw [if_neg (by decide +kernel)]; exact ⟨rfl, rfl⟩))
    (fun os started H enc _ F => by rw [OpenClaim.pre_eq_preRow]; exact historyTouches_lifted os started H enc F)
theorem historyTouches_plain (f : FuncId) (fn : Func) (hf : Tryz.pinned.checked.prog.funcNamed "repertory/repertorylaw49.HistoryTouches" = some f) (hfn : Tryz.pinned.checked.prog.funcs[f]? = some fn) :
    false = Tryz.pinned.checked.prog.looks [] ∧ ∀ (j : Nat) t, fn.params[j]? = some t → Tryz.pinned.checked.prog.wantsStandIn t = false := by
  obtain rfl : f = 5 := Option.some.inj ((show Tryz.prog.funcNamed "repertory/repertorylaw49.HistoryTouches" = some 5 by kernel_rfl).symm.trans hf) |>.symm
  obtain rfl : fn = Tryz.f5 := (Option.some.inj (Tryz.func5.symm.trans hfn)).symm
  refine ⟨by kernel_rfl, fun j t ht => ?_⟩
  rw [Tryz.params5] at ht
  have hm := Array.mem_of_getElem? ht
  simp only [List.mem_toArray, List.mem_cons, List.not_mem_nil, or_false] at hm
  rcases hm with rfl | rfl
  · exact (show Tryz.prog.wantsStandIn 44 = false by kernel_rfl)
  · exact (show Tryz.prog.wantsStandIn 34 = false by kernel_rfl)
theorem historyTouches_holds : Rows.HistoryTouchesCardSaid :=
  Claim7.holds_tied_plain_at .later [] _ _ _ _ historyTouches_said (fun _ h => by cases h) (by kernel_rfl) (fun _ h => by cases h) historyTouches_row_tie rfl ⟨rfl, rfl⟩ (by kernel_rfl) rfl historyTouches_plain (by kernel_rfl)
end Go.Proofs.YtplbcbamnjnhlaaGreatDoor
