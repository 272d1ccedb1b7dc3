/- Proved: the given statement ValueMakesCardSaid: for every input the law ValueMakes returns true and the input reads afterwards as before; the library's listed variables begin as the program's text lays them (tied by the card). -/
import Derived.Test.YtmaojnmnbpomeaaGreatDoorVM17
set_option maxRecDepth 100000
set_option maxHeartbeats 64000000
namespace Go.Proofs.YtmaojnmnbpomeaaGreatDoor
open Go.ChangeMaps (open_string)
open Go.ChangeShapes Go.WideShapes Go.ChangeAt Go.RowKit
theorem valueMakes_contract(H:Type)(enc:TypeId×Value->H)(W:World)(base:Nat)(args:Array Value)(ds gs:List (DataW H))(before:List MemPlace)
    (qlH:∀(j:Nat) t v,Tryz.f4.params[j]? = some t->args[j]? = some v->Value.okWide Tryz.prog W .any base t v)
    (hW:DataW.Whole enc Tryz.prog Tryz.f4.params.toList Rows.valueMakesSpec.vars false W args.toList ds gs before) (hL:laidMetH Tryz.prog Rows.valueMakesRow.laid W) :
    Calls Tryz.prog 4 args W fun e W'=>∃ v,e=.returned v/\Rows.valueMakesSpec.post enc Tryz.prog Tryz.f4 false true false false W args v W':=by
  have hW':=hW;obtain⟨p,q,hA0,hV,rfl,hfz,So⟩:=hW;have hA:DataW.TrodAll enc Tryz.prog W 0 (fun _=>true) true Tryz.f4.params.toList args.toList ds p:=hA0;rw[Tryz.params4] at hA qlH;obtain⟨v0,v1,d0,d1,p0,p1,rfl,rfl,rfl,h0,h1⟩:=trodAll_two hA;obtain⟨rfl,rfl⟩:=trodVars_none hV;obtain⟨s0,rfl,_,_,znS⟩:=open_string Tryz.underlying9 (qlH 0 9 v0 rfl rfl) h0;obtain⟨n1,rfl,_⟩:=open_int Tryz.underlying3 (qlH 1 3 v1 rfl rfl) h1;clear hA0;have hc:=rB s0 n1 W znS (qrG hL);refine hc.mono fun e W' ⟨he,hb⟩=>?_;subst he;exact⟨_,rfl,qlA qsN (by kernel_rfl) rfl rfl Tryz.underlying4 rfl hW' hb⟩
theorem valueMakes_reads(os:Os){H:Type}(enc:TypeId×Value->H):∃ places,DataW.whole enc Tryz.prog ((mH os).forCall (fun _ _=>0) ⟨#[],#[.string .empty,.int .i64 0],[]⟩).memory Tryz.f4.params.toList Rows.valueMakesSpec.vars false (#[.string .empty,.int .i64 0]:Array Value).toList 8=some ([.lit (.string []),.lit (.int .i64 0)],[],places) :=
  ⟨[],by kernel_rfl⟩
theorem valueMakes_lifted(os:Os)(started:os.Started)(H:Type)(enc:TypeId×Value->H)(F:Stop.Interp) :
    ReturnsInHanded {} Tryz.checked os 4 .any ((OpenSpec.ofChange Rows.valueMakesSpec).preRow enc Tryz.prog Tryz.f4 Rows.valueMakesRow.domain false Rows.valueMakesRow.laid) (((OpenSpec.ofChange Rows.valueMakesSpec).at F).post enc Tryz.prog Tryz.f4 false true false false):=by
  obtain⟨places,hx⟩:=valueMakes_reads os enc;refine returnsInHanded_of_row (C:=Tryz.checked) (s:=OpenSpec.ofChange Rows.valueMakesSpec) own started (by kernel_rfl) Tryz.func4
    (witness_row_at (enc:=enc) (C:=Tryz.checked) false (mH os) #[.string .empty,.int .i64 0] rfl (by kernel_rfl) (by kernel_rfl) (by kernel_rfl)
      (OpenSpec.preRow_of_cond 8 hx (by kernel_rfl) (fun k hk=>by cases hk) (by kernel_rfl) (xb os _))) ?_
  intro W base args ds gs before qlH hW _ _ _ hL _ _;exact valueMakes_contract H enc W base args ds gs before qlH hW hL
theorem valueMakes_said:Rows.ValueMakesSaid :=
  OpenClaim.holds_of_cond 4 Tryz.f4 rfl rfl rfl rfl rfl rfl rfl ⟨rfl,rfl,rfl,rfl,rfl⟩ rfl rfl rfl rfl rfl (by kernel_rfl) Tryz.func4 (by kernel_rfl)
    (of_decide_eq_true (by kernel_rfl)) (by unfold Func.isWrapper;first | (rw[if_pos (by decide +kernel)];kernel_rfl) | (rw[if_neg (by decide +kernel)];exact⟨rfl,rfl⟩))
    (fun os started H enc _ F=>by rw[OpenClaim.pre_eq_preRow];exact valueMakes_lifted os started H enc F)
theorem valueMakes_plain (f : FuncId) (fn : Func) (hf : Tryz.pinned.checked.prog.funcNamed "repertory/repertorylaw29.ValueMakes" = some f) (hfn : Tryz.pinned.checked.prog.funcs[f]? = some fn) :
    false=Tryz.pinned.checked.prog.looks []/\∀(j:Nat) t,fn.params[j]? = some t->Tryz.pinned.checked.prog.wantsStandIn t=false:=by
  obtain rfl : f = 4 := Option.some.inj ((show Tryz.prog.funcNamed "repertory/repertorylaw29.ValueMakes" = some 4 by kernel_rfl).symm.trans hf) |>.symm;obtain rfl : fn = Tryz.f4 := (Option.some.inj (Tryz.func4.symm.trans hfn)).symm;refine ⟨by kernel_rfl, fun j t ht => ?_⟩;rw [Tryz.params4] at ht;have hm := Array.mem_of_getElem? ht;simp only [List.mem_toArray, List.mem_cons, List.not_mem_nil, or_false] at hm;rcases hm with rfl | rfl
  · exact (show Tryz.prog.wantsStandIn 9=false by kernel_rfl)
  · exact (show Tryz.prog.wantsStandIn 3=false by kernel_rfl)
theorem valueMakes_holds:Rows.ValueMakesCardSaid :=
  Claim7.holds_tied_plain_at .later [] _ _ _ _ valueMakes_said (fun _ h=>by cases h) (by kernel_rfl) (fun _ h=>by cases h) valueMakes_row_tie rfl ⟨rfl,rfl⟩ (by kernel_rfl) rfl valueMakes_plain (by kernel_rfl)
end Go.Proofs.YtmaojnmnbpomeaaGreatDoor
