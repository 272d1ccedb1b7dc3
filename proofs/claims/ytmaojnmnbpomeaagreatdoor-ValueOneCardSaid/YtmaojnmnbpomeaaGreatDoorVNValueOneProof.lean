/- Proved: the given statement ValueOneCardSaid: for every input the law ValueOne returns true and the input reads afterwards as before; the library's listed variables begin as the program's text lays them (tied by the card). -/
import Derived.Test.YtmaojnmnbpomeaaGreatDoorVN19
set_option maxRecDepth 100000
set_option maxHeartbeats 64000000
namespace Go.Proofs.YtmaojnmnbpomeaaGreatDoor
open Go.ChangeMaps (open_string)
open Go.ChangeShapes Go.WideShapes Go.ChangeAt Go.RowKit
theorem valueOne_contract(H:Type)(enc:TypeId×Value->H)(W:World)(base:Nat)(args:Array Value)(ds gs:List (DataW H))(before:List MemPlace)
    (qhZ:∀(j:Nat) t v,Tryz.f5.params[j]?=some t->args[j]?=some v->Value.okWide Tryz.prog W .any base t v)
    (hW:DataW.Whole enc Tryz.prog Tryz.f5.params.toList Rows.valueOneSpec.vars false W args.toList ds gs before) (hL:laidMetH Tryz.prog Rows.valueOneRow.laid W) :
    Calls Tryz.prog 5 args W fun e W'=>∃v,e=.returned v/\Rows.valueOneSpec.post enc Tryz.prog Tryz.f5 false true false false W args v W':=by
  have hW':=hW;obtain⟨p,q,hA0,hV,rfl,hfz,Te⟩:=hW;have hA:DataW.TrodAll enc Tryz.prog W 0 (fun _=>true) true Tryz.f5.params.toList args.toList ds p:=hA0;rw[Tryz.params5]at hA qhZ;obtain⟨v0,v1,v2,d0,d1,d2,p0,p1,p2,rfl,rfl,rfl,h0,h1,h2⟩:=trodAll_three hA;obtain⟨rfl,rfl⟩:=trodVars_none hV;obtain⟨s0,rfl,_,_,ztN⟩:=open_string Tryz.underlying9 (qhZ 0 9 v0 rfl rfl) h0;obtain⟨s1,rfl,_,_,ztM⟩:=open_string Tryz.underlying9 (qhZ 1 9 v1 rfl rfl) h1;obtain⟨n2,rfl,_⟩:=open_int Tryz.underlying3 (qhZ 2 3 v2 rfl rfl) h2;clear hA0;have hc:=ik s0 s1 n2 W ztN ztM (qvN hL);refine hc.mono fun e W' ⟨he,hb⟩=>?_;subst he;exact⟨_,rfl,qoU qwU (by kernel_rfl) rfl rfl Tryz.underlying4 rfl hW' hb⟩
theorem valueOne_reads(os:Os){H:Type}(enc:TypeId×Value->H):∃places,DataW.whole enc Tryz.prog ((oB os).forCall (fun _ _=>0) ⟨#[],#[.string .empty,.string .empty,.int .i64 0],[]⟩).memory Tryz.f5.params.toList Rows.valueOneSpec.vars false (#[.string .empty,.string .empty,.int .i64 0]:Array Value).toList 8=some ([.lit (.string []),.lit (.string []),.lit (.int .i64 0)],[],places) :=
  ⟨[],by kernel_rfl⟩
theorem valueOne_lifted(os:Os)(started:os.Started)(H:Type)(enc:TypeId×Value->H)(F:Stop.Interp) :
    ReturnsInHanded {} Tryz.checked os 5 .any ((OpenSpec.ofChange Rows.valueOneSpec).preRow enc Tryz.prog Tryz.f5 Rows.valueOneRow.domain false Rows.valueOneRow.laid) (((OpenSpec.ofChange Rows.valueOneSpec).at F).post enc Tryz.prog Tryz.f5 false true false false):=by
  obtain⟨places,hx⟩:=valueOne_reads os enc;refine returnsInHanded_of_row (C:=Tryz.checked) (s:=OpenSpec.ofChange Rows.valueOneSpec) own started (by kernel_rfl) Tryz.func5
    (witness_row_at (enc:=enc) (C:=Tryz.checked) false (oB os) #[.string .empty,.string .empty,.int .i64 0] rfl (by kernel_rfl) (by kernel_rfl) (by kernel_rfl)
      (OpenSpec.preRow_of_cond 8 hx (by kernel_rfl) (fun k hk=>by cases hk) (by kernel_rfl) (b_ os _))) ?_
  intro W base args ds gs before qhZ hW _ _ _ hL _ _;exact valueOne_contract H enc W base args ds gs before qhZ hW hL
theorem valueOne_said:Rows.ValueOneSaid :=
  OpenClaim.holds_of_cond 5 Tryz.f5 rfl rfl rfl rfl rfl rfl rfl ⟨rfl,rfl,rfl,rfl,rfl⟩ rfl rfl rfl rfl rfl (by kernel_rfl) Tryz.func5 (by kernel_rfl)
    (of_decide_eq_true (by kernel_rfl)) (by unfold Func.isWrapper;first|(rw[if_pos (by decide +kernel)];kernel_rfl)|(rw[if_neg (by decide +kernel)];exact⟨rfl,rfl⟩))
    (fun os started H enc _ F=>by rw[OpenClaim.pre_eq_preRow];exact valueOne_lifted os started H enc F)
theorem valueOne_plain (f : FuncId) (fn : Func) (hf : Tryz.pinned.checked.prog.funcNamed "repertory/repertorylaw29.ValueOne" = some f) (hfn : Tryz.pinned.checked.prog.funcs[f]?=some fn) :
    false=Tryz.pinned.checked.prog.looks []/\∀(j:Nat) t,fn.params[j]?=some t->Tryz.pinned.checked.prog.wantsStandIn t=false:=by
  obtain rfl : f = 5 := Option.some.inj ((show Tryz.prog.funcNamed "repertory/repertorylaw29.ValueOne" = some 5 by kernel_rfl).symm.trans hf) |>.symm;obtain rfl : fn = Tryz.f5 := (Option.some.inj (Tryz.func5.symm.trans hfn)).symm;refine ⟨by kernel_rfl, fun j t ht => ?_⟩;rw [Tryz.params5]at ht;have hm := Array.mem_of_getElem? ht;simp only [List.mem_toArray, List.mem_cons, List.not_mem_nil, or_false]at hm;rcases hm with rfl|rfl|rfl
  · exact (show Tryz.prog.wantsStandIn 9=false by kernel_rfl)
  · exact (show Tryz.prog.wantsStandIn 9=false by kernel_rfl)
  · exact (show Tryz.prog.wantsStandIn 3=false by kernel_rfl)
theorem valueOne_holds:Rows.ValueOneCardSaid :=
  Claim7.holds_tied_plain_at .later [] _ _ _ _ valueOne_said (fun _ h=>by cases h) (by kernel_rfl) (fun _ h=>by cases h) valueOne_row_tie rfl ⟨rfl,rfl⟩ (by kernel_rfl) rfl valueOne_plain (by kernel_rfl)
end Go.Proofs.YtmaojnmnbpomeaaGreatDoor
