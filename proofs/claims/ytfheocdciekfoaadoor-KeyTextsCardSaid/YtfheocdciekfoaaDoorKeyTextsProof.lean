/- Proved: the given statement KeyTextsCardSaid: for every input the law KeyTexts returns true and the input reads afterwards as before; the library's listed variables begin as the program's text lays them (tied by the card). -/
import Derived.Test.YtfheocdciekfoaaDoorKeyTextsLaw
import Derived.Test.YtfheocdciekfoaaDoorLaid17
import Derived.Test.YtfheocdciekfoaaDoorRep2
namespace Go.Proofs.YtfheocdciekfoaaDoor
open Go.ChangeMaps (open_string)
open Go.ChangeShapes Go.WideShapes Go.ChangeAt Go.RowKit

theorem opens_key {H : Type} {enc : TypeId × Value → H} : Opens enc Tryd.prog eKey 24 := opens_two Tryd.underlying24 (opens_bytes Tryd.underlying22 Tryd.underlying5 (by kernel_rfl) (by kernel_rfl)) (opens_int Tryd.underlying3) (by kernel_rfl) (by kernel_rfl) rfl rfl (by kernel_rfl)
def zkeyD {H : Type} : DataW H := .agg [.agg (List.replicate 32 (.lit (.int .u8 0))), .lit (.int .i64 0)]
set_option maxRecDepth 100000 in
theorem keyTexts_contract (H : Type) (enc : TypeId × Value → H) (W : World) (base : Nat) (args : Array Value) (ds gs : List (DataW H)) (before : List MemPlace)
    (hval : ∀ (j : Nat) t v, Tryd.f10.params[j]? = some t → args[j]? = some v → Value.okWide Tryd.prog W .any base t v)
    (hW : DataW.Whole enc Tryd.prog Tryd.f10.params.toList Rows.keyTextsSpec.vars false W args.toList ds gs before) (hL : laidMetH Tryd.prog Rows.keyTextsRow.laid W) :
    Calls Tryd.prog 10 args W fun e W' => ∃ v, e = .returned v ∧ Rows.keyTextsSpec.post enc Tryd.prog Tryd.f10 false true false false W args v W' := by
  have hW' := hW
  obtain ⟨p, q, hA0, hV, rfl, hfz, hnd⟩ := hW
  have hA : DataW.TrodAll enc Tryd.prog W 0 (fun _ => true) true Tryd.f10.params.toList args.toList ds p := hA0
  rw [Tryd.params10] at hA hval
  obtain ⟨v0, v1, d0, d1, p0, p1, rfl, rfl, rfl, h0, h1⟩ := trodAll_two hA
  obtain ⟨rfl, rfl⟩ := trodVars_none hV
  obtain ⟨cs, x, rfl, hx⟩ := open_agg (opens_key (enc := enc)) Tryd.underlying24 (hval 0 24 v0 rfl rfl) h0
  obtain ⟨rfl, hxl, _, _⟩ := eKey_rep hx
  obtain ⟨cs, y, rfl, hy⟩ := open_agg (opens_key (enc := enc)) Tryd.underlying24 (hval 1 24 v1 rfl rfl) h1
  obtain ⟨rfl, hyl, _, _⟩ := eKey_rep hy
  clear hA0
  have hc := keyTexts_any x.1 y.1 x.2 y.2 W hxl hyl (tabs_of hL)
  refine hc.mono fun e W' ⟨he, hb⟩ => ?_
  subst he
  exact ⟨_, rfl, law_post laidOut (by kernel_rfl) rfl rfl Tryd.underlying4 rfl hW' hb⟩
theorem keyTexts_reads (os : Os) {H : Type} (enc : TypeId × Value → H) : ∃ places, DataW.whole enc Tryd.prog ((laidWorld os).forCall (fun _ _ => 0) ⟨#[], #[.agg (hkCells z32 0).toArray, .agg (hkCells z32 0).toArray], []⟩).memory Tryd.f10.params.toList Rows.keyTextsSpec.vars false (#[.agg (hkCells z32 0).toArray, .agg (hkCells z32 0).toArray] : Array Value).toList 8 = some ([zkeyD, zkeyD], [], places) :=
  ⟨[], by kernel_rfl⟩
set_option maxRecDepth 100000 in
theorem keyTexts_lifted (os : Os) (started : os.Started) (H : Type) (enc : TypeId × Value → H) (F : Stop.Interp) :
    ReturnsInHanded {} Tryd.checked os 10 .any ((OpenSpec.ofChange Rows.keyTextsSpec).preRow enc Tryd.prog Tryd.f10 Rows.keyTextsRow.domain false Rows.keyTextsRow.laid) (((OpenSpec.ofChange Rows.keyTextsSpec).at F).post enc Tryd.prog Tryd.f10 false true false false) := by
  obtain ⟨places, hx⟩ := keyTexts_reads os enc
  refine returnsInHanded_of_row (C := Tryd.checked) (s := OpenSpec.ofChange Rows.keyTextsSpec) own started (by kernel_rfl) Tryd.func10
    (witness_row_at (enc := enc) (C := Tryd.checked) false (laidWorld os) #[.agg (hkCells z32 0).toArray, .agg (hkCells z32 0).toArray] rfl (by kernel_rfl) (by kernel_rfl) (by kernel_rfl)
      (OpenSpec.preRow_of_cond 8 hx (by kernel_rfl) (fun k hk => by cases hk) (by kernel_rfl) (laid17_met os _))) ?_
  intro W base args ds gs before hval hW _ _ _ hL _ _
  exact keyTexts_contract H enc W base args ds gs before hval hW hL
theorem keyTexts_said : Rows.KeyTextsSaid :=
  OpenClaim.holds_of_cond 10 Tryd.f10 rfl rfl rfl rfl rfl rfl rfl ⟨rfl, rfl, rfl, rfl, rfl⟩ rfl rfl rfl rfl rfl (by kernel_rfl) Tryd.func10 (by kernel_rfl)
    (of_decide_eq_true (by kernel_rfl)) (by unfold Func.isWrapper; first | (rw [if_pos (by decide +kernel)]; kernel_rfl) | (rw [if_neg (by decide +kernel)]; exact ⟨rfl, rfl⟩))
    (fun os started H enc _ F => by rw [OpenClaim.pre_eq_preRow]; exact keyTexts_lifted os started H enc F)
theorem keyTexts_plain (f : FuncId) (fn : Func) (hf : Tryd.pinned.checked.prog.funcNamed "repertory/repertorylaw17.KeyTexts" = some f) (hfn : Tryd.pinned.checked.prog.funcs[f]? = some fn) :
    true = Tryd.pinned.checked.prog.looks [] ∧ ∀ (j : Nat) t, fn.params[j]? = some t → Tryd.pinned.checked.prog.wantsStandIn t = false := by
  obtain rfl : f = 10 := Option.some.inj ((show Tryd.prog.funcNamed "repertory/repertorylaw17.KeyTexts" = some 10 by kernel_rfl).symm.trans hf) |>.symm
  obtain rfl : fn = Tryd.f10 := (Option.some.inj (Tryd.func10.symm.trans hfn)).symm
  refine ⟨by kernel_rfl, fun j t ht => ?_⟩
  rw [Tryd.params10] at ht
  obtain rfl : t = 24 := by simpa using Array.mem_of_getElem? ht
  exact (show Tryd.prog.wantsStandIn 24 = false by kernel_rfl)
theorem keyTexts_holds : Rows.KeyTextsCardSaid :=
  Claim7.holds_tied_plain_at .later [] _ _ _ _ keyTexts_said (fun _ h => by cases h) (by kernel_rfl) (fun _ h => by cases h) keyTexts_row_tie rfl ⟨rfl, rfl⟩ (by kernel_rfl) rfl keyTexts_plain (by kernel_rfl)
end Go.Proofs.YtfheocdciekfoaaDoor
