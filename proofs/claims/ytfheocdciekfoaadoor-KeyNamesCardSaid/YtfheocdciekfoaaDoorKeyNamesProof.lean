/- Proved: the given statement KeyNamesCardSaid: for every input the law KeyNames returns true and the input reads afterwards as before; the library's listed variables begin as the program's text lays them (tied by the card). -/
import Derived.Test.YtfheocdciekfoaaDoorKeyNamesLaw
import Derived.Test.YtfheocdciekfoaaDoorLaid17
import Derived.Test.YtfheocdciekfoaaDoorRep2
namespace Go.Proofs.YtfheocdciekfoaaDoor
open Go.ChangeMaps (open_string)
open Go.ChangeShapes Go.WideShapes Go.ChangeAt Go.RowKit

theorem opens_key {H : Type} {enc : TypeId × Value → H} : Opens enc Tryd.prog eKey 24 := opens_two Tryd.underlying24 (opens_bytes Tryd.underlying22 Tryd.underlying5 (by kernel_rfl) (by kernel_rfl)) (opens_int Tryd.underlying3) (by kernel_rfl) (by kernel_rfl) rfl rfl (by kernel_rfl)
def zkeyD {H : Type} : DataW H := .agg [.agg (List.replicate 32 (.lit (.int .u8 0))), .lit (.int .i64 0)]
set_option maxRecDepth 100000 in
theorem keyNames_contract (H : Type) (enc : TypeId × Value → H) (W : World) (base : Nat) (args : Array Value) (ds gs : List (DataW H)) (before : List MemPlace)
    (hval : ∀ (j : Nat) t v, Tryd.f8.params[j]? = some t → args[j]? = some v → Value.okWide Tryd.prog W .any base t v)
    (hW : DataW.Whole enc Tryd.prog Tryd.f8.params.toList Rows.keyNamesSpec.vars false W args.toList ds gs before) (hL : laidMetH Tryd.prog Rows.keyNamesRow.laid W) :
    Calls Tryd.prog 8 args W fun e W' => ∃ v, e = .returned v ∧ Rows.keyNamesSpec.post enc Tryd.prog Tryd.f8 false true false false W args v W' := by
  have hW' := hW
  obtain ⟨p, q, hA0, hV, rfl, hfz, hnd⟩ := hW
  have hA : DataW.TrodAll enc Tryd.prog W 0 (fun _ => true) true Tryd.f8.params.toList args.toList ds p := hA0
  rw [Tryd.params8] at hA hval
  obtain ⟨v0, v1, v2, d0, d1, d2, p0, p1, p2, rfl, rfl, rfl, h0, h1, h2⟩ := trodAll_three hA
  obtain ⟨rfl, rfl⟩ := trodVars_none hV
  obtain ⟨n0, rfl, _, _, _⟩ := open_int Tryd.underlying3 (hval 0 3 v0 rfl rfl) h0
  obtain ⟨cs, x, rfl, hx⟩ := open_agg (opens_key (enc := enc)) Tryd.underlying24 (hval 1 24 v1 rfl rfl) h1
  obtain ⟨rfl, hxl, _, _⟩ := eKey_rep hx
  obtain ⟨n2, rfl, _, _, _⟩ := open_int Tryd.underlying3 (hval 2 3 v2 rfl rfl) h2
  clear hA0
  have hc := keyNames_any n0 x.1 x.2 n2 W hxl (tabs_of hL)
  refine hc.mono fun e W' ⟨he, hb⟩ => ?_
  subst he
  exact ⟨_, rfl, law_post laidOut (by kernel_rfl) rfl rfl Tryd.underlying4 rfl hW' hb⟩
theorem keyNames_reads (os : Os) {H : Type} (enc : TypeId × Value → H) : ∃ places, DataW.whole enc Tryd.prog ((laidWorld os).forCall (fun _ _ => 0) ⟨#[], #[.int .i64 0, .agg (hkCells z32 0).toArray, .int .i64 0], []⟩).memory Tryd.f8.params.toList Rows.keyNamesSpec.vars false (#[.int .i64 0, .agg (hkCells z32 0).toArray, .int .i64 0] : Array Value).toList 8 = some ([.lit (.int .i64 0), zkeyD, .lit (.int .i64 0)], [], places) :=
  ⟨[], by kernel_rfl⟩
set_option maxRecDepth 100000 in
theorem keyNames_lifted (os : Os) (started : os.Started) (H : Type) (enc : TypeId × Value → H) (F : Stop.Interp) :
    ReturnsInHanded {} Tryd.checked os 8 .any ((OpenSpec.ofChange Rows.keyNamesSpec).preRow enc Tryd.prog Tryd.f8 Rows.keyNamesRow.domain false Rows.keyNamesRow.laid) (((OpenSpec.ofChange Rows.keyNamesSpec).at F).post enc Tryd.prog Tryd.f8 false true false false) := by
  obtain ⟨places, hx⟩ := keyNames_reads os enc
  refine returnsInHanded_of_row (C := Tryd.checked) (s := OpenSpec.ofChange Rows.keyNamesSpec) own started (by kernel_rfl) Tryd.func8
    (witness_row_at (enc := enc) (C := Tryd.checked) false (laidWorld os) #[.int .i64 0, .agg (hkCells z32 0).toArray, .int .i64 0] rfl (by kernel_rfl) (by kernel_rfl) (by kernel_rfl)
      (OpenSpec.preRow_of_cond 8 hx (by kernel_rfl) (fun k hk => by cases hk) (by kernel_rfl) (laid17_met os _))) ?_
  intro W base args ds gs before hval hW _ _ _ hL _ _
  exact keyNames_contract H enc W base args ds gs before hval hW hL
theorem keyNames_said : Rows.KeyNamesSaid :=
  OpenClaim.holds_of_cond 8 Tryd.f8 rfl rfl rfl rfl rfl rfl rfl ⟨rfl, rfl, rfl, rfl, rfl⟩ rfl rfl rfl rfl rfl (by kernel_rfl) Tryd.func8 (by kernel_rfl)
    (of_decide_eq_true (by kernel_rfl)) (by unfold Func.isWrapper; first | (rw [if_pos (by decide +kernel)]; kernel_rfl) | (rw [if_neg (by decide +kernel)]; exact ⟨rfl, rfl⟩))
    (fun os started H enc _ F => by rw [OpenClaim.pre_eq_preRow]; exact keyNames_lifted os started H enc F)
theorem keyNames_plain (f : FuncId) (fn : Func) (hf : Tryd.pinned.checked.prog.funcNamed "repertory/repertorylaw17.KeyNames" = some f) (hfn : Tryd.pinned.checked.prog.funcs[f]? = some fn) :
    true = Tryd.pinned.checked.prog.looks [] ∧ ∀ (j : Nat) t, fn.params[j]? = some t → Tryd.pinned.checked.prog.wantsStandIn t = false := by
  obtain rfl : f = 8 := Option.some.inj ((show Tryd.prog.funcNamed "repertory/repertorylaw17.KeyNames" = some 8 by kernel_rfl).symm.trans hf) |>.symm
  obtain rfl : fn = Tryd.f8 := (Option.some.inj (Tryd.func8.symm.trans hfn)).symm
  refine ⟨by kernel_rfl, fun j t ht => ?_⟩
  rw [Tryd.params8] at ht
  have hm := Array.mem_of_getElem? ht
  simp only [List.mem_toArray, List.mem_cons, List.not_mem_nil, or_false] at hm
  rcases hm with rfl | rfl | rfl
  · exact (show Tryd.prog.wantsStandIn 3 = false by kernel_rfl)
  · exact (show Tryd.prog.wantsStandIn 24 = false by kernel_rfl)
  · exact (show Tryd.prog.wantsStandIn 3 = false by kernel_rfl)
theorem keyNames_holds : Rows.KeyNamesCardSaid :=
  Claim7.holds_tied_plain_at .later [] _ _ _ _ keyNames_said (fun _ h => by cases h) (by kernel_rfl) (fun _ h => by cases h) keyNames_row_tie rfl ⟨rfl, rfl⟩ (by kernel_rfl) rfl keyNames_plain (by kernel_rfl)
end Go.Proofs.YtfheocdciekfoaaDoor
