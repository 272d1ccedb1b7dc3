/- Proved: the given statement ValueOfCardSaid: for every input the law ValueOf returns true and the input reads afterwards as before; the library's listed variables begin as the program's text lays them (tied by the card). -/
import Derived.Test.YtmaojnmnbpomeaaGreatDoorVO18
set_option maxRecDepth 100000
set_option maxHeartbeats 64000000
namespace Go.Proofs.YtmaojnmnbpomeaaGreatDoor
open Go.ChangeMaps (open_string)
open Go.ChangeShapes Go.WideShapes Go.ChangeAt Go.RowKit
theorem valueOf_contract(H:Type)(enc:TypeId×Value->H)(W:World)(base:Nat)(args:Array Value)(ds gs:List (DataW H))(before:List MemPlace)
    (zt:∀(j:Nat) t v,Tryz.f3.params[j]? = some t->args[j]? = some v->Value.okWide Tryz.prog W .any base t v)
    (hW:DataW.Whole enc Tryz.prog Tryz.f3.params.toList Rows.valueOfSpec.vars false W args.toList ds gs before) (hL:laidMetH Tryz.prog Rows.valueOfRow.laid W) :
    Calls Tryz.prog 3 args W fun e W'=>∃ v,e=.returned v/\Rows.valueOfSpec.post enc Tryz.prog Tryz.f3 false true false false W args v W':=by
  have hW':=hW;obtain⟨p,q,hA0,hV,rfl,hfz,Id⟩:=hW;have hA:DataW.TrodAll enc Tryz.prog W 0 (fun _=>true) true Tryz.f3.params.toList args.toList ds p:=hA0;rw[Tryz.params3] at hA zt;obtain⟨v0,v1,d0,d1,p0,p1,rfl,rfl,rfl,h0,h1⟩:=trodAll_two hA;obtain⟨rfl,rfl⟩:=trodVars_none hV;obtain⟨cs,g,rfl,hg⟩:=qlK (yf (enc:=enc)) Tryz.underlying25 (zt 0 25 v0 rfl rfl) h0;obtain⟨c1,c2,rfl,⟨u1,rfl,Ea⟩,c3,c4,rfl,⟨u2,rfl,Le⟩,u3,rfl,hs3⟩:=hg;obtain⟨B1,e1,rfl,_,_⟩:=Ea.form;obtain⟨B2,e2,rfl,_,_⟩:=Le.form;obtain⟨B3,e3,rfl,_,_⟩:=hs3.form;obtain⟨n1,rfl,_⟩:=open_int Tryz.underlying3 (zt 1 3 v1 rfl rfl) h1;clear hA0;have hc:=kn _ _ _ g n1 W ⟨Ea,Le,hs3⟩ (qsT hL);refine hc.mono fun e W' ⟨he,hb⟩=>?_;subst he;exact⟨_,rfl,qmJ qtY (by kernel_rfl) rfl rfl Tryz.underlying4 rfl hW' hb⟩
theorem valueOf_reads(os:Os){H:Type}(enc:TypeId×Value->H):∃ places,DataW.whole enc Tryz.prog ((lV os).forCall (fun _ _=>0) ⟨#[],#[.agg #[.slice none 0 0,.slice none 0 0,.slice none 0 0],.int .i64 0],[]⟩).memory Tryz.f3.params.toList Rows.valueOfSpec.vars false (#[.agg #[.slice none 0 0,.slice none 0 0,.slice none 0 0],.int .i64 0]:Array Value).toList 8=some ([.agg [.nil,.nil,.nil],.lit (.int .i64 0)],[],places) :=
  ⟨[],by kernel_rfl⟩
theorem valueOf_lifted(os:Os)(started:os.Started)(H:Type)(enc:TypeId×Value->H)(F:Stop.Interp) :
    ReturnsInHanded {} Tryz.checked os 3 .any ((OpenSpec.ofChange Rows.valueOfSpec).preRow enc Tryz.prog Tryz.f3 Rows.valueOfRow.domain false Rows.valueOfRow.laid) (((OpenSpec.ofChange Rows.valueOfSpec).at F).post enc Tryz.prog Tryz.f3 false true false false):=by
  obtain⟨places,hx⟩:=valueOf_reads os enc;refine returnsInHanded_of_row (C:=Tryz.checked) (s:=OpenSpec.ofChange Rows.valueOfSpec) own started (by kernel_rfl) Tryz.func3
    (witness_row_at (enc:=enc) (C:=Tryz.checked) false (lV os) #[.agg #[.slice none 0 0,.slice none 0 0,.slice none 0 0],.int .i64 0] rfl (by kernel_rfl) (by kernel_rfl) (by kernel_rfl)
      (OpenSpec.preRow_of_cond 8 hx (by kernel_rfl) (fun k hk=>by cases hk) (by kernel_rfl) (zh os _))) ?_
  intro W base args ds gs before zt hW _ _ _ hL _ _;exact valueOf_contract H enc W base args ds gs before zt hW hL
theorem valueOf_said:Rows.ValueOfSaid :=
  OpenClaim.holds_of_cond 3 Tryz.f3 rfl rfl rfl rfl rfl rfl rfl ⟨rfl,rfl,rfl,rfl,rfl⟩ rfl rfl rfl rfl rfl (by kernel_rfl) Tryz.func3 (by kernel_rfl)
    (of_decide_eq_true (by kernel_rfl)) (by unfold Func.isWrapper;first | (rw[if_pos (by decide +kernel)];kernel_rfl) | (rw[if_neg (by decide +kernel)];exact⟨rfl,rfl⟩))
    (fun os started H enc _ F=>by rw[OpenClaim.pre_eq_preRow];exact valueOf_lifted os started H enc F)
theorem valueOf_plain (f : FuncId) (fn : Func) (hf : Tryz.pinned.checked.prog.funcNamed "repertory/repertorylaw29.ValueOf" = some f) (hfn : Tryz.pinned.checked.prog.funcs[f]? = some fn) :
    false=Tryz.pinned.checked.prog.looks []/\∀(j:Nat) t,fn.params[j]? = some t->Tryz.pinned.checked.prog.wantsStandIn t=false:=by
  obtain rfl : f = 3 := Option.some.inj ((show Tryz.prog.funcNamed "repertory/repertorylaw29.ValueOf" = some 3 by kernel_rfl).symm.trans hf) |>.symm;obtain rfl : fn = Tryz.f3 := (Option.some.inj (Tryz.func3.symm.trans hfn)).symm;refine ⟨by kernel_rfl, fun j t ht => ?_⟩;rw [Tryz.params3] at ht;have hm := Array.mem_of_getElem? ht;simp only [List.mem_toArray, List.mem_cons, List.not_mem_nil, or_false] at hm;rcases hm with rfl | rfl
  · exact (show Tryz.prog.wantsStandIn 25=false by kernel_rfl)
  · exact (show Tryz.prog.wantsStandIn 3=false by kernel_rfl)
theorem valueOf_holds:Rows.ValueOfCardSaid :=
  Claim7.holds_tied_plain_at .later [] _ _ _ _ valueOf_said (fun _ h=>by cases h) (by kernel_rfl) (fun _ h=>by cases h) valueOf_row_tie rfl ⟨rfl,rfl⟩ (by kernel_rfl) rfl valueOf_plain (by kernel_rfl)
end Go.Proofs.YtmaojnmnbpomeaaGreatDoor
