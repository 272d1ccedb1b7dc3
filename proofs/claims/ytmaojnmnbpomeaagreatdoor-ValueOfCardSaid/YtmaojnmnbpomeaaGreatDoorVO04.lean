/- A part. -/
import Derived.Test.YtmaojnmnbpomeaaGreatDoorVO03
import Derived.OrdersHeld
import Derived.Great.BuildSlice
import Derived.Laws.EntriesVeiled
set_option maxRecDepth 100000
set_option maxHeartbeats 64000000
namespace Go.Proofs.YtmaojnmnbpomeaaGreatDoor.TextI
open Go Go.RowKit Go.Proofs.YtmaojnmnbpomeaaGreatDoor.Text
variable {P:Program} {ops:Array Oper} {I:World->Prop}
def YOld(P:Program)(ops:Array Oper)(I:World->Prop)(o:Oper)(v:Value)(a:Act):Prop :=
 (Region.wanted o (yielded ops a.tmps)=true/\∀ w,I w->(execOp a.eval o).run P w=.ok (.value v) w)\/(Region.wanted o (yielded ops a.tmps)=false/\v=undef)
theorem yold_keep{o:Oper}{v:Value}{a a':Act}{d:Option Tmp}(Wp:∀ cs b,o.op≠.select cs b)(h1:∀ t,d=some t->t∉o.looksAt ops)(hs:Cr a a' d) :
  YOld P ops I o v a↔YOld P ops I o v a':=by
 obtain⟨u,ds,rfl⟩:=hs;have e1:execOp (({ a with defers:=ds }:Act).put d u).eval o=execOp a.eval o:=(execOp_put (ops:=ops) o Wp _ d u h1).trans rfl;have e2:Region.wanted o (yielded ops (({ a with defers:=ds }:Act).put d u).tmps)=Region.wanted o (yielded ops a.tmps):=wanted_put o _ d u h1;unfold YOld;rw[e1,e2]
theorem yold_one{w0:World}(h0:I w0){o:Oper}{v v':Value}{a:Act}(h:YOld P ops I o v a)(h':YOld P ops I o v' a):v=v':=by
 rcases h with ⟨hw,h⟩ | ⟨hw,rfl⟩ <;> rcases h' with ⟨av,h'⟩ | ⟨av,rfl⟩
 ·have:=(h w0 h0).symm.trans (h' w0 h0);injection this with h1 _;injection h1
 ·rw[hw] at av;cases av
 ·rw[hw] at av;cases av
 ·rfl
def Yc(P:Program)(ops:Array Oper)(I:World->Prop)(c:Nat)(o:Oper)(v:Value)(a:Act):Prop:=if c=0 then Yields P ops o v a else YOld P ops I o v a
theorem yc_keep{c:Nat}{o:Oper}{v:Value}{a a':Act}{d:Option Tmp}(Wp:∀ cs b,o.op≠.select cs b)(h1:∀ t,d=some t->t∉o.looksAt ops)(hs:Cr a a' d) :
  Yc P ops I c o v a↔Yc P ops I c o v a':=by
 unfold Yc;split
 ·exact En Wp h1 hs
 ·exact yold_keep Wp h1 hs
theorem yc_one{w0:World}(h0:I w0){c:Nat}{o:Oper}{v v':Value}{a:Act}(h:Yc P ops I c o v a)(h':Yc P ops I c o v' a):v=v':=by
 unfold Yc at h h';split at h
 ·rename_i hc;rw[if_pos hc] at h';exact fA w0 h h'
 ·rename_i hc;rw[if_neg hc] at h';exact yold_one h0 h h'
def stG(P:Program)(ops:Array Oper)(I:World->Prop)(c:Nat)(o:Oper)(K:Act->World->Prop)(a:Act)(w:World):Prop :=
 if c<=1 then ∃ v,Yc P ops I c o v a/\K (a.put o.dst v) w
 else if Region.wanted o (yielded ops a.tmps)=true then o.wp P a w (fun a' w'=>(c=3->I w')/\K a' w') tc else K (a.put o.dst undef) w
theorem stG_mono{c:Nat}{o:Oper}{K K':Act->World->Prop}{a:Act}{w:World}(h:∀ a w,K a w->K' a w)(hh:stG P ops I c o K a w):stG P ops I c o K' a w:=by
 unfold stG at *;split at hh
 ·rename_i hc;rw[if_pos hc];obtain⟨v,h1,h2⟩:=hh;exact⟨v,h1,h _ _ h2⟩
 ·rename_i hc;rw[if_neg hc];split at hh
  ·rename_i hw;rw[if_pos hw];exact Oper.wp_mono (fun a w hk=>⟨hk.1,h _ _ hk.2⟩) hh
  ·rename_i hw;rw[if_neg hw];exact h _ _ hh
theorem stG_some{c:Nat}{o:Oper}{K:Act->World->Prop}{a:Act}{w:World}(hh:stG P ops I c o K a w):∃ a' w',Cr a a' o.dst/\K a' w':=by
 unfold stG at hh;split at hh
 ·obtain⟨v,_,h⟩:=hh;exact⟨_,_,Jf _ _ _,h⟩
 ·split at hh
  ·obtain⟨a',w',hs,_,hk⟩:=Ba iV hh;exact⟨a',w',hs,hk⟩
  ·exact⟨_,_,Jf _ _ _,hh⟩
theorem stG_put{c:Nat}{o:Oper}{K K':Act->World->Prop}{a:Act}{w:World}{dst:Option Tmp}{v:Value}
  (Wp:∀ cs b,o.op≠.select cs b) (h1:∀ d,dst=some d->d∉o.looksAt ops) (h2:∀ d,dst=some d->o.dst≠some d)
  (hK:∀ a' w',Cr a a' o.dst->K a' w'->K' (a'.put dst v) w') (hh:stG P ops I c o K a w):stG P ops I c o K' (a.put dst v) w:=by
 unfold stG at *;split at hh
 ·rename_i hc;rw[if_pos hc];obtain⟨u,hy,h⟩:=hh;refine⟨u,(yc_keep Wp h1 (Jf a dst v)).1 hy,?_⟩;rw[Act.put_comm a v u h2];exact hK _ _ (Jf _ _ _) h
 ·rename_i hc;rw[if_neg hc,wanted_put o a dst v h1];split at hh
  ·rename_i hw;rw[if_pos hw];exact kS Wp h1 h2 (fun a' w' hs hk=>⟨hk.1,hK _ _ hs hk.2⟩) hh
  ·rename_i hw;rw[if_neg hw,Act.put_comm a v undef h2];exact hK _ _ (Jf _ _ _) hh
theorem stG_unput{c:Nat}{o:Oper}{K K':Act->World->Prop}{a:Act}{w:World}{dst:Option Tmp}{v:Value}
  (Wp:∀ cs b,o.op≠.select cs b) (h1:∀ d,dst=some d->d∉o.looksAt ops) (h2:∀ d,dst=some d->o.dst≠some d)
  (hK:∀ a' w',Cr a a' o.dst->K (a'.put dst v) w'->K' a' w') (hh:stG P ops I c o K (a.put dst v) w):stG P ops I c o K' a w:=by
 unfold stG at *;split at hh
 ·rename_i hc;rw[if_pos hc];obtain⟨u,hy,h⟩:=hh;refine⟨u,(yc_keep Wp h1 (Jf a dst v)).2 hy,?_⟩;rw[Act.put_comm a v u h2] at h;exact hK _ _ (Jf _ _ _) h
 ·rename_i hc;rw[if_neg hc];rw[wanted_put o a dst v h1] at hh;split at hh
  ·rename_i hw;rw[if_pos hw];exact fE Wp h1 h2 (fun a' w' hs hk=>⟨hk.1,hK _ _ hs hk.2⟩) hh
  ·rename_i hw;rw[if_neg hw];rw[Act.put_comm a v undef h2] at hh;exact hK _ _ (Jf _ _ _) hh
theorem swapG{w0:World}(h0:I w0){cx cy:Nat}{x y:Oper}{K:Act->World->Prop}{a:Act}{w:World}(Ld:∀ cs b,x.op≠.select cs b)(hsy:∀ cs b,y.op≠.select cs b)
  (hap:x.apart ops y=true) (hc:cx<=1\/cy<=1) (h:stG P ops I cx x (stG P ops I cy y K) a w):stG P ops I cy y (stG P ops I cx x K) a w:=by
 obtain⟨p1,p2,p3⟩:=Oper.apart_spec hap;have p2':∀ d,y.dst=some d->x.dst≠some d:=fun d hd hx=>p2 d hx hd;rcases hc with hx | hy
 ·have h':=h;unfold stG at h';rw[if_pos hx] at h';obtain⟨v,hv,h2⟩:=h';refine stG_unput hsy p1 p2 (fun a' w' hs hk=>?_) h2;unfold stG;rw[if_pos hx];exact⟨v,(yc_keep Ld p3 hs).1 hv,hk⟩
 ·obtain⟨a1,w1,hs,hst⟩:=stG_some h;unfold stG at hst;rw[if_pos hy] at hst;obtain⟨v,hv,_⟩:=hst;have kb:=(yc_keep hsy p1 hs).2 hv;have goal:stG P ops I cx x K (a.put y.dst v) w:=stG_put Ld p3 p2' (fun a' w' hs' hk=>by
   unfold stG at hk
   rw[if_pos hy] at hk
   obtain⟨v',hv',hk⟩:=hk
   have:=yc_one h0 hv' ((yc_keep hsy p1 hs').1 kb)
   subst this
   exact hk) h
  unfold stG;rw[if_pos hy];exact⟨v,kb,goal⟩
def wpG(P:Program)(ops:Array Oper)(I:World->Prop)(cl:Nat->Nat)(Q:Act->World->Prop):List Nat->Act->World->Prop
 |[],a,w=>Q a w
 |i::r,a,w=>match ops[i]? with
  |none=>wpG P ops I cl Q r a w
  |some o=>stG P ops I (cl i) o (wpG P ops I cl Q r) a w
theorem frontG{w0:World}(h0:I w0){cl:Nat->Nat}{Q:Act->World->Prop}(Wp:Region.noSelect ops=true)(i:Nat)(l2:List Nat):∀(l1:List Nat)(a:Act)(w:World),(∀ x∈l1,dE ops cl x i=true) ->
  wpG P ops I cl Q (l1++i::l2) a w->wpG P ops I cl Q (i::(l1++l2)) a w
 |[],_,_,_,h=>h
 |x::l1,a,w,hc,h=>by
  have hx:=hc x (by simp);have ih:=fun a w=>frontG h0 (cl:=cl) (Q:=Q) Wp i l2 l1 a w (fun y hy=>hc y (by simp[hy]));cases hox:ops[x]? with
  |none =>
   have h':wpG P ops I cl Q (l1++i::l2) a w:=by simpa[wpG,hox] using h
   have:=ih a w h';unfold wpG at this |-;split at this
   ·simpa[wpG,hox] using this
   ·exact stG_mono (fun a w hh=>by simpa[wpG,hox] using hh) this
  |some ox =>
   have h1:stG P ops I (cl x) ox (wpG P ops I cl Q (l1++i::l2)) a w:=by simpa[wpG,hox] using h
   have h2:=stG_mono ih h1;cases hoi:ops[i]? with
   |none=>simpa[wpG,hox,hoi] using h2
   |some oi =>
    simp only[dE,hox,hoi,Yk,Ys,Yi] at hx;have h3:stG P ops I (cl x) ox (stG P ops I (cl i) oi (wpG P ops I cl Q (l1++l2))) a w:=by simpa[wpG,hoi] using h2
    have h4:=swapG h0 (fun cs b=>Region.noSelect_spec Wp x ox cs b hox) (fun cs b=>Region.noSelect_spec Wp i oi cs b hoi) hx.1 hx.2 h3;have h5:stG P ops I (cl i) oi (wpG P ops I cl Q (x::(l1++l2))) a w:=stG_mono (fun a w hh=>by simpa[wpG,hox] using hh) h4;simpa[wpG,hoi] using h5
theorem wpOp_of_stG{i c:Nat}{o:Oper}{K:Act->World->Prop}{Q:Exit->Act->World->Prop}{a:Act}{w:World}(hc3:c<=3)(ho:ops[i]? = some o)(hold:c=1->I w)
  (h:stG P ops I c o K a w):wpOp P ops Q i (fun a' w'=>(c≠2->I w->I w')/\K a' w') a w:=by
 unfold wpOp;simp only[ho];unfold stG at h;split at h
 ·rename_i hc;obtain⟨v,hy,hk⟩:=h;unfold Yc at hy;split at hy
  ·rcases hy with ⟨hw,hv⟩ | ⟨hw,rfl⟩
   ·rw[if_pos hw];left;unfold Oper.wp;rw[hv w];exact⟨fun _ hb=>hb,hk⟩
   ·rw[if_neg (by simp[hw])];exact⟨fun _ hb=>hb,hk⟩
  ·rename_i Vi;rcases hy with ⟨hw,hv⟩ | ⟨hw,rfl⟩
   ·rw[if_pos hw];left;unfold Oper.wp;rw[hv w (hold (by omega))];exact⟨fun _ hb=>hb,hk⟩
   ·rw[if_neg (by simp[hw])];exact⟨fun _ hb=>hb,hk⟩
 ·rename_i hc;split at h
  ·rename_i hw;rw[if_pos hw];left;have h':o.wp P a w (fun a' w'=>(c≠2->I w->I w')/\K a' w') tc\/c≠2/\c≠3:=by
    by_cases h3:c=3
    ·exact .inl (Oper.wp_mono (fun a w hk=>⟨fun _ _=>hk.1 h3,hk.2⟩) h)
    ·by_cases h2:c=2
     ·exact .inl (Oper.wp_mono (fun a w hk=>⟨fun hn=>absurd h2 hn,hk.2⟩) h)
     ·exact .inr ⟨h2,h3⟩
   rcases h' with h' | ⟨h2,h3⟩
   ·unfold Oper.wp at *;generalize (execOp a.eval o).run P w=r at *;cases r with
    |ok n w' =>
     cases n <;> simp only[Oper.upon] at h' |- <;> first
      |exact h'
      |exact Calls.mono h' fun e w'' he=>by
        cases e with
        |returned u=>exact he
        |panicked c=>exact absurd he id
        |outgrown=>exact absurd he aV
    |halt x w'=>cases x <;> simp only[Oper.upon] at h' |- <;> first | exact h' | exact absurd h' id
   ·omega
  ·rename_i hw;rw[if_neg hw];exact⟨fun _ hb=>hb,h⟩
theorem any_of_G{w0:World}(hI0:I w0){cl:Nat->Nat}{Q:Exit->Act->World->Prop}(Wp:Region.noSelect ops=true)(Bz:bP ops=true)(hp:fc ops cl=true)(jG:an ops cl=true)(hc3:∀ i,cl i<=3) :
  ∀(rem:List Nat)(listed:Array Bool)(a:Act)(w:World),listed.size=ops.size->rem.Pairwise (·<·)->(∀ j,j∈rem↔j<ops.size/\listed.getD j false=false)->js ops listed ->
   ((∀ j,j<ops.size->cl j=2->listed.getD j false=false)->I w) ->
   wpG P ops I cl (fun a w=>Q .normal a w) rem a w->wpAny P .any ops Q rem.length listed a w:=by
 intro rem
 induction hn:rem.length generalizing rem with
 |zero =>
  intro listed a w hs _ hm _ _ h;have he:rem=[]:=Xv hn;subst he;refine⟨?_,h⟩;apply List.eq_nil_iff_forall_not_mem.2;intro j hj;obtain⟨h0,o,ho,_⟩:=mem_ready.1 hj;have Jo:j<ops.size:=(gl ho);rw[Fe hs Jo] at h0;exact absurd ((hm j).2 ⟨Jo,h0⟩) (by simp)
 |succ n ih =>
  intro listed a w hs wJ hm hc hinv h;have tQ:Region.ready .any ops listed≠[]:=by
   cases hr:rem with
   |nil=>rw[hr] at hn;cases hn
   |cons i0 r =>
    have qa:=(hm i0).1 (by rw[hr];simp);intro xZ;have Uz:i0∈Region.ready .any ops listed:=by
     refine mem_ready.2 ⟨by rw[Fe hs qa.1];exact qa.2,ops[i0],Array.getElem?_eq_getElem qa.1,fun e he hb=>?_⟩;have h1:=Xp.1 Bz i0 (Xy.2 qa.1);simp only[Array.getElem?_eq_getElem qa.1] at h1;have h2:=Array.all_eq_true_iff_forall_mem.1 h1 e he;simp only[hb,Bool.not_true,Yr,Yi] at h2;rcases Ym (listed.getD e.on false) with h3 | h3
     ·exact h3
     ·have h4:=(hm e.on).2 ⟨by omega,h3⟩;rw[hr] at h4 wJ;rcases List.mem_cons.1 h4 with h5 | h5
      ·omega
      ·have:=(Qx.1 wJ).1 _ h5;omega
    rw[xZ] at Uz;cases Uz
  refine⟨fun h0=>absurd h0 tQ,fun i hi=>?_⟩;obtain⟨h0,o,ho,Vj⟩:=mem_ready.1 hi;have Jo:i<ops.size:=(gl ho);rw[Fe hs Jo] at h0;have hir:i∈rem:=(hm i).2 ⟨Jo,h0⟩;obtain⟨l1,l2,hl⟩:=List.append_of_mem hir;subst hl;rw[List.pairwise_append] at wJ;obtain⟨pw1,pw2,pw3⟩:=wJ;have mz:=Qx.1 pw2;have hf:=frontG hI0 Wp i l2 l1 a w (fun x hx=>by
   have hxi:x<i:=pw3 x hx i (by simp)
   rcases nW hp Jo hxi with hd | hcp
   ·have:=Cc hc hd (fun o' wL e he hb=>by rw[ho] at wL;injection wL with e2;subst e2;exact Vj e he hb)
    have h2:=((hm x).1 (by simp[hx])).2
    rw[this] at h2
    cases h2
   ·exact hcp) h
  have hst:stG P ops I (cl i) o (wpG P ops I cl (fun a w=>Q .normal a w) (l1++l2)) a w:=by simpa[wpG,ho] using hf
  have hold:cl i=1->I w:=fun J_=>hinv fun j hj hcj=>by
   rcases Ym (listed.getD j false) with h3 | h3
   ·exfalso;have hd:=Ph jG Jo hj J_ hcj;have:=Cc hc hd (fun o' wL e he hb=>hc j o' wL h3 e he hb);rw[h0] at this;cases this
   ·exact h3
  refine wpOp_mono (fun a' w' hh=>?_) (wpOp_of_stG (Q:=Q) (hc3 i) ho hold hst);have hlen:(l1++l2).length=n:=by simp at hn |-;omega
  refine ih (l1++l2) hlen (listed.setIfInBounds i true) a' w' (by simpa using hs) ?_ (fun j=>?_) ?_ ?_ hh.2
  ·rw[List.pairwise_append];exact⟨pw1,mz.2,fun x hx y hy=>pw3 x hx y (by simp[hy])⟩
  ·by_cases Td:j=i
   ·subst Td;constructor
    ·intro hj;rcases Qh.1 hj with h5 | h5
     ·have:=pw3 j h5 j (by simp);omega
     ·have:=mz.1 j h5;omega
    ·intro ⟨_,h5⟩;have:j<listed.size:=by omega
     simp[this] at h5
   ·rw[getD_set_ne false (Ne.symm Td),<-hm j];simp[Td]
  ·intro j oj wK hj e he hb;by_cases Td:j=i
   ·subst Td;rw[ho] at wK;injection wK with e2;subst e2;exact getD_set_true (Vj e he hb)
   ·rw[getD_set_ne false (Ne.symm Td)] at hj;exact getD_set_true (hc j oj wK hj e he hb)
  ·intro hno;have J_:cl i≠2:=fun J_=>by
    have:=hno i Jo J_;have Fd:i<listed.size:=by omega
    simp[Fd] at this
   refine hh.1 J_ (hinv fun j hj hcj=>?_);have:=hno j hj hcj;by_cases Td:j=i
   ·subst Td;exact absurd hcj J_
   ·rwa [getD_set_ne false (Ne.symm Td)] at this
def wpS(P:Program)(ops:Array Oper)(I:World->Prop)(G:List Nat)(Q:Act->World->Prop):Nat->List Oper->Act->World->Prop
 |_,[],a,w=>Q a w
 |k,o::r,a,w=>if Region.wanted o (yielded ops a.tmps)=true then
   o.wp P a w (fun a' w'=>(G.contains k=true->I w')/\wpS P ops I G Q (k+1) r a' w') tc
  else wpS P ops I G Q (k+1) r (a.put o.dst undef) w
theorem wpS_seg{G:List Nat}{Q:Act->World->Prop}:∀(n k:Nat)(l:List Oper)(a:Act)(w:World),(List.range' k n).all (fun i=>!G.contains i)=true ->
  (∀ Q':Exit->Act->World->Prop,(∀ a w,wpS P ops I G Q (k+n) (l.drop n) a w->Q' .normal a w)->wpList P ops Q' (l.take n) a w)->wpS P ops I G Q k l a w
 |0,k,l,a,w,_,h=>by
  have:=h (fun e a w=>e=.normal/\wpS P ops I G Q k l a w) (fun a w hh=>⟨rfl,by simpa using hh⟩);simpa[wpList] using this
 |n+1,k,[],a,w,_,h=>by
  have:=h (fun e a w=>e=.normal/\Q a w) (fun a w hh=>⟨rfl,by simpa[wpS] using hh⟩);simpa[wpList,wpS] using this
 |n+1,k,o::r,a,w,hG,h=>by
  rw[List.range'_succ,List.all_cons,Yk] at hG;have hk:G.contains k=false:=by simpa using hG.1
  have h0:=h (fun e a w=>e=.normal/\wpS P ops I G Q (k+(n+1)) ((o::r).drop (n+1)) a w) (fun a w hh=>⟨rfl,hh⟩);have eM:¬ LetsOut (fun e a w=>e=Exit.normal/\wpS P ops I G Q (k+(n+1)) ((o::r).drop (n+1)) a w):=fun⟨_,_,hh⟩=>by cases hh.1
  have hno:∀(e:Exit)(a:Act)(w:World),e≠.normal->¬ (e=Exit.normal/\wpS P ops I G Q (k+(n+1)) ((o::r).drop (n+1)) a w):=fun _ _ _ hn hh=>hn hh.1;have ih:∀ a w,wpList P ops (fun e a w=>e=.normal/\wpS P ops I G Q (k+(n+1)) ((o::r).drop (n+1)) a w) (r.take n) a w->wpS P ops I G Q (k+1) r a w:=fun a w hl =>
   wpS_seg n (k+1) r a w hG.2 fun Q' hQ'=>by
    refine Tv (fun e a w hh=>?_) _ _ _ hl;obtain⟨rfl,hh⟩:=hh;exact hQ' _ _ (by simpa[Yv,Nat.add_comm 1 n] using hh)
  rw[List.take_succ_cons] at h0;unfold wpList at h0;unfold wpS;split at h0
  ·rename_i hw;rw[if_pos hw];have h1:=h0.resolve_right fun hh=>eM hh.2;have h2:=Oper.wp_mono (K':=fun a' w'=>(G.contains k=true->I w')/\wpS P ops I G Q (k+1) r a' w') (fun a w hh=>⟨fun oK=>(by rw[hk] at oK;cases oK),ih a w hh⟩) h1;exact qW hno eM h2
  ·rename_i hw;rw[if_neg hw];exact ih _ _ h0
def oldAt(P:Program)(ops:Array Oper)(I:World->Prop)(a:Act)(i:Nat):Prop :=
 match ops[i]? with
 |some o=>match o.op with
  |.load t x=>Region.wanted o (yielded ops a.tmps)=true->∃ v,∀ w',I w'->(Instr.loadAt t (a.eval x)).run P w'=.ok v w'
  |.convert s d x=>Region.wanted o (yielded ops a.tmps)=true->∃ v,∀ w',I w'->(convert s d (a.eval x)).run P w'=.ok v w'
  |_=>True
 |none=>True
def oldAll(P:Program)(ops:Array Oper)(I:World->Prop)(a:Act):List Nat->Prop
 |[]=>True
 |i::r=>oldAt P ops I a i/\oldAll P ops I a r
theorem oldAll_mem{a:Act}:∀{l:List Nat}{i:Nat},oldAll P ops I a l->i∈l->oldAt P ops I a i
 |j::r,i,h,hi=>by
  rcases List.mem_cons.1 hi with rfl | hi
  ·exact h.1
  ·exact oldAll_mem h.2 hi
theorem reachS{G LD ex:List Nat}{Q:Act->World->Prop}:∀(l:List Oper)(k:Nat)(a:Act)(w:World),(∀ j,l[j]? = ops[k+j]?) ->
  wpS P ops I G (fun a w=>chk ops ex a=true/\oldAll P ops I a LD/\Q a w) k l a w->∃ a',chk ops ex a'=true/\oldAll P ops I a' LD/\jd ops (List.range' k l.length) a a'
 |[],k,a,w,_,h=>⟨a,h.1,h.2.1,fun _ _=>rfl⟩
 |o::r,k,a,w,hl,h=>by
  have ho:ops[k]? = some o:=by simpa using (hl 0).symm
  have kM:∀ j,r[j]? = ops[k+1+j]? := fun j=>by have:=hl (j+1);simpa[Yv,Nat.add_comm 1 j] using this
  unfold wpS at h;have hn:∃ a1 w1,Cr a a1 o.dst/\wpS P ops I G (fun a w=>chk ops ex a=true/\oldAll P ops I a LD/\Q a w) (k+1) r a1 w1:=by
   split at h
   ·obtain⟨a1,w1,hs,_,hk⟩:=Ba iV h;exact⟨a1,w1,hs,hk⟩
   ·exact⟨_,_,Jf _ _ _,h⟩
  obtain⟨a1,w1,hs,h1⟩:=hn;obtain⟨a',h2,h3,h4⟩:=reachS r (k+1) a1 w1 kM h1;refine⟨a',h2,h3,fun t ht=>(h4 t fun j hj=>ht j ?_).trans (rS hs (ht k ?_ o ho))⟩
  ·rw[Qu,List.range'_succ];simp[hj]
  ·rw[Qu,List.range'_succ];simp
theorem list_G{G LD ex:List Nat}{Q:Act->World->Prop}:∀(l:List Oper)(k:Nat)(a:Act)(w:World),(∀ j,l[j]? = ops[k+j]?)->k+l.length=ops.size ->
  an ops (aF P ops G LD ex)=true->bP ops=true->((∀ j,j<k->aF P ops G LD ex j≠2)->I w) ->
  wpS P ops I G (fun a w=>chk ops ex a=true/\oldAll P ops I a LD/\Q a w) k l a w->wpG P ops I (aF P ops G LD ex) Q (List.range' k l.length) a w
 |[],k,a,w,_,_,_,_,_,h=>h.2.2
 |o::r,k,a,w,hl,Fd,jG,Bz,hinv,h=>by
  have ho:ops[k]? = some o:=by simpa using (hl 0).symm
  have Jo:k<ops.size:=(gl ho);have kM:∀ j,r[j]? = ops[k+1+j]? := fun j=>by have:=hl (j+1);simpa[Yv,Nat.add_comm 1 j] using this
  have zaB:k+1+r.length=ops.size:=by simp at Fd;omega
  obtain⟨a',fz,hold,qnH⟩:=reachS (o::r) k a w hl h;have ih:∀ a w,((∀ j,j<k+1->aF P ops G LD ex j≠2)->I w)->wpS P ops I G (fun a w=>chk ops ex a=true/\oldAll P ops I a LD/\Q a w) (k+1) r a w->wpG P ops I (aF P ops G LD ex) Q (List.range' (k+1) r.length) a w:=fun a w=>list_G r (k+1) a w kM zaB jG Bz;rw[Qu,List.range'_succ];unfold wpG;simp only[ho];unfold wpS at h;have pn:Ef ops k o=true->(∀ t∈o.looksAt ops,a'.tmps[t]? = a.tmps[t]?):=by
   intro hst t ht;refine qnH t fun j hj oj wK=>?_;have h5:=Xp.1 hst t ht;have fu:k<=j/\j<ops.size:=by have:=List.mem_range'_1.1 hj;omega
   have h6:=Xp.1 h5 j (Xy.2 fu.2);simp only[wK,Ys,Yi,bne_iff_ne] at h6;rcases h6 with h6 | h6
   ·omega
   ·exact h6
  have fp:(∀ t∈o.looksAt ops,a'.tmps[t]? = a.tmps[t]?)->∀ x∈o.op.operands,a'.eval x=a.eval x:=fun Ky x hx =>
   uM fun t hxt=>Ky t (List.mem_append_left _ (List.mem_filterMap.2 ⟨x,by simpa using hx,by rw[hxt]⟩))
  have jE:(∀ t∈o.looksAt ops,a'.tmps[t]? = a.tmps[t]?)->Region.wanted o (yielded ops a'.tmps)=Region.wanted o (yielded ops a.tmps):=by
   intro Ky;unfold Region.wanted;cases hg:o.guard with
   |none=>rfl
   |some gw =>
    obtain⟨g,want⟩:=gw;have hy:yielded ops a'.tmps g=yielded ops a.tmps g:=by
     unfold yielded;cases hb:(ops[g]?).bind (·.dst) with
     |none=>rfl
     |some t =>
      have:=Ky t (List.mem_append_right _ (by simp[hg,hb]));simp[this]
    simp only[hy]
  by_cases hw:Region.wanted o (yielded ops a.tmps)=true
  ·rw[if_pos hw] at h;have dP:∀(hp:∀ n w',(execOp a.eval o).run P w=.ok n w'->w'=w/\∃ v,n=.value v),∃ v,(execOp a.eval o).run P w=.ok (.value v) w /\
     wpS P ops I G (fun a w=>chk ops ex a=true/\oldAll P ops I a LD/\Q a w) (k+1) r (a.put o.dst v) w:=by
    intro hp;unfold Oper.wp at h;cases hr:(execOp a.eval o).run P w with
    |ok n1 w1 =>
     obtain⟨rfl,v,rfl⟩:=hp n1 w1 hr;rw[hr] at h;exact⟨v,rfl,h.2⟩
    |halt x w1 =>
     rw[hr] at h;cases x <;> exact absurd h id
   by_cases hc1:aF P ops G LD ex k<=1
   ·have tU:∀ w',w'=w->((∀ j,j<k+1->aF P ops G LD ex j≠2)->I w'):=fun w' e hj=>by subst e;exact hinv fun j hjk=>hj j (by omega)
    unfold stG;rw[if_pos hc1];have hc:=hc1;unfold aF at hc;simp only[ho] at hc;by_cases V_:G.contains k=true
    ·rw[if_pos V_] at hc;omega
    rw[if_neg V_] at hc;by_cases qG:LD.contains k=true
    ·rw[if_pos qG] at hc;have bc:(fX o&&Ef ops k o)=true:=by
      by_cases bc:(fX o&&Ef ops k o)=true
      ·exact bc
      ·rw[if_neg bc] at hc;omega
     rw[Yk] at bc;have Hx:aF P ops G LD ex k=1:=by
      unfold aF;simp only[ho];rw[if_neg V_,if_pos qG,if_pos (by simp[bc])]
     have zaN:∀ j,j<k->aF P ops G LD ex j≠2:=fun j hj hcj=>by
      have hd:=Ph jG Jo (show j<ops.size by omega) Hx hcj;have:=qoT Bz hd;omega
     have tz:=hinv zaN;have Ky:=pn bc.2;have hoa:=oldAll_mem hold (by simpa using qG);have ke:(∃ t x,o.op=.load t x)\/∃ s d x,o.op=.convert s d x:=by
      have:=bc.1;unfold fX at this;split at this
      ·exact .inl ⟨_,_,by assumption⟩
      ·exact .inr ⟨_,_,_,by assumption⟩
      ·cases this
     rcases ke with ⟨t,x,qF⟩ | ⟨s,d,x,qF⟩
     ·have hx:=fp Ky x (by rw[qF];simp[Op.operands]);unfold oldAt at hoa;simp only[ho,qF] at hoa;obtain⟨v0,kb⟩:=hoa (by rw[jE Ky];exact hw);rw[hx] at kb;have hex:∀ w2,I w2->(execOp a.eval o).run P w2=.ok (.value v0) w2:=by
       intro w2 Zy;obtain⟨dst,op,type,pos,after,guard⟩:=o;simp only at qF;subst qF;simp only[execOp];rw[Zd,kb w2 Zy];rfl
      obtain⟨v,hv,hk⟩:=dP fun n w' h=>by
       rw[hex w tz] at h;injection h with h1 h2;exact⟨h2.symm,v0,h1.symm⟩
      rw[hex w tz] at hv;injection hv with h1 _;injection h1 with h1;subst h1;refine⟨v0,?_,ih _ _ (tU _ rfl) hk⟩;unfold Yc;rw[if_neg (by omega)];exact .inl ⟨hw,hex⟩
     ·have hx:=fp Ky x (by rw[qF];simp[Op.operands]);unfold oldAt at hoa;simp only[ho,qF] at hoa;obtain⟨v0,kb⟩:=hoa (by rw[jE Ky];exact hw);rw[hx] at kb;have hex:∀ w2,I w2->(execOp a.eval o).run P w2=.ok (.value v0) w2:=by
       intro w2 Zy;obtain⟨dst,op,type,pos,after,guard⟩:=o;simp only at qF;subst qF;simp only[execOp];rw[Zd,kb w2 Zy];rfl
      obtain⟨v,hv,hk⟩:=dP fun n w' h=>by
       rw[hex w tz] at h;injection h with h1 h2;exact⟨h2.symm,v0,h1.symm⟩
      rw[hex w tz] at hv;injection hv with h1 _;injection h1 with h1;subst h1;refine⟨v0,?_,ih _ _ (tU _ rfl) hk⟩;unfold Yc;rw[if_neg (by omega)];exact .inl ⟨hw,hex⟩
    ·rw[if_neg qG] at hc;by_cases hcE:ex.contains k=true
     ·rw[if_pos hcE] at hc;omega
     rw[if_neg hcE] at hc;by_cases tR:(Er o&&!Ef ops k o)=true
     ·rw[if_pos tR] at hc;omega
     rw[if_neg tR] at hc;have tV:jQ P o=0:=by
      by_cases tV:jQ P o=0
      ·exact tV
      ·rw[if_neg tV] at hc;omega
     have Hx:aF P ops G LD ex k=0:=by
      unfold aF;simp only[ho];rw[if_neg V_,if_neg qG,if_neg hcE,if_neg tR,if_pos tV]
     have hpv:qiF P (execOp a.eval o):=by
      refine uS tV ?_;by_cases Id:Er o=true
      ·have qmW:Ef ops k o=true:=by
        rw[Id] at tR;simpa using tR
       have Ky:=pn qmW;have hc2:=Xp.1 fz k (Xy.2 Jo);simp only[ho,Ys,Id,Bool.not_true,Bool.false_eq_true,false_or] at hc2;rcases hc2 with hc2 | hc2 | hc2
       ·exact absurd hc2 hcE
       ·rw[jE Ky,hw] at hc2;cases hc2
       ·rw[mJ (fp Ky)] at hc2;exact hc2
      ·unfold Er at Id;unfold Hs;split at Id <;> first | (exact absurd rfl Id) | rfl | (split <;> first | rfl | (simp_all;done))
     obtain⟨v,hv,hk⟩:=dP fun n w' hr=>let ⟨e,v,hn,_⟩:=hpv w n w' hr;⟨e,v,hn⟩;obtain⟨_,v',hn,Vj⟩:=hpv _ _ _ hv;injection hn with hn;subst hn;refine⟨v,?_,ih _ _ (tU _ rfl) hk⟩;unfold Yc;rw[if_pos Hx];exact .inl ⟨hw,Vj⟩
   ·unfold stG;rw[if_neg hc1,if_pos hw];refine Oper.wp_mono (fun a1 w1 hh=>?_) h;have h3:aF P ops G LD ex k=3->G.contains k=true:=by
     intro h3;unfold aF at h3;simp only[ho] at h3;by_cases V_:G.contains k=true
     ·exact V_
     ·rw[if_neg V_] at h3
      repeat' (split at h3)
      all_goals omega
    refine⟨fun hc3=>hh.1 (h3 hc3),ih _ _ (fun hj=>?_) hh.2⟩;have oJ:=hj k (by omega);have hk3:aF P ops G LD ex k=3:=by have:=io (P:=P) (ops:=ops) G LD ex k;omega
    exact hh.1 (h3 hk3)
  ·rw[if_neg hw] at h;have hwf:Region.wanted o (yielded ops a.tmps)=false:=by simpa using hw
   have h2:=ih _ _ (fun hj=>hinv fun j hjk=>hj j (by omega)) h;unfold stG;split
   ·refine⟨undef,?_,h2⟩;unfold Yc;split
    ·exact .inr ⟨hwf,rfl⟩
    ·exact .inr ⟨hwf,rfl⟩
   ·exact h2
theorem wp_inv{id:Nat}{Q:Exit->Act->World->Prop}{a:Act}{w:World}{l:List Oper}(G LD ex:List Nat)(I:World->Prop)(hI:I w.drew)(hm:P.follows .mixedOrders=true)(hB:growB P l.toArray G LD ex=true)
  (h:wpS P l.toArray I G (fun a' w'=>chk l.toArray ex a'=true/\oldAll P l.toArray I a' LD/\Q .normal a' w') 0 l a w.drew):(Code.region id l.toArray true).wp P Q a w:=by
 simp only[growB,Yk] at hB;refine wp_region_any hm ?_;have h2:=list_G l 0 a w.drew (by simp) (by simp) hB.2 hB.1.1.2 (fun _=>hI) h;have h3:=any_of_G (I:=I) hI hB.1.1.1 hB.1.1.2 hB.1.2 hB.2 (fun i=>io G LD ex i) (List.range' 0 l.length) (Array.replicate l.toArray.size false) a w.drew (by simp) (List.pairwise_lt_range') (fun j=>by
  rw[List.mem_range'_1]
  constructor
  ·intro hj
   have Uh:j<l.length:=by simpa using hj.2
   exact⟨by simpa using Uh,by simp[Uh]⟩
  ·intro hj;have:=hj.1;simp at this;exact⟨by omega,by omega⟩) (fun j o ho hj=>by
   exfalso
   have:j<l.toArray.size:=(gl ho)
   simp at this
   simp[this] at hj) (fun _=>hI) h2
 simpa using h3
theorem wpS_one{G:List Nat}{Q:Act->World->Prop}{k:Nat}{o:Oper}{r:List Oper}{a:Act}{w:World}
  (h:∀ Q':Exit->Act->World->Prop,(∀ a' w',I w'/\wpS P ops I G Q (k+1) r a' w'->Q' .normal a' w')->wpList P ops Q' [o] a w):wpS P ops I G Q k (o::r) a w:=by
 have h0:=h (fun e a w=>e=.normal/\I w/\wpS P ops I G Q (k+1) r a w) (fun a w hh=>⟨rfl,hh⟩);have eM:¬ LetsOut (fun e a w=>e=Exit.normal/\I w/\wpS P ops I G Q (k+1) r a w):=fun⟨_,_,hh⟩=>by cases hh.1
 have hno:∀(e:Exit)(a:Act)(w:World),e≠.normal->¬ (e=Exit.normal/\I w/\wpS P ops I G Q (k+1) r a w):=fun _ _ _ hn hh=>hn hh.1;unfold wpList at h0;unfold wpS;split at h0
 ·rename_i hw;rw[if_pos hw];have h1:=h0.resolve_right fun hh=>eM hh.2;have h2:=Oper.wp_mono (K':=fun a' w'=>(G.contains k=true->I w')/\wpS P ops I G Q (k+1) r a' w') (fun a w hh=>by
   simp only[wpList] at hh
   exact⟨fun _=>hh.2.1,hh.2.2⟩) h1
  exact qW hno eM h2
 ·rename_i hw;rw[if_neg hw];simp only[wpList] at h0;exact h0.2.2
end Go.Proofs.YtmaojnmnbpomeaaGreatDoor.TextI
namespace Go.Proofs.YtmaojnmnbpomeaaGreatDoor.TextI
open Go Go.RowKit Go.Proofs.YtmaojnmnbpomeaaGreatDoor.Text
variable {P:Program} {ops:Array Oper} {I:World->Prop}
section
variable {cl:Nat->Nat} {Q:Act->World->Prop} {f:Nat} {fo:Oper} {w0:World}
end
end Go.Proofs.YtmaojnmnbpomeaaGreatDoor.TextI
namespace Go.Proofs.YtmaojnmnbpomeaaGreatDoor.TextI
open Go Go.RowKit Go.Proofs.YtmaojnmnbpomeaaGreatDoor.Text
variable {P:Program} {ops:Array Oper} {I:World->Prop}
end Go.Proofs.YtmaojnmnbpomeaaGreatDoor.TextI
namespace Go.Proofs.YtmaojnmnbpomeaaGreatDoor
open Go.RowKit
section
variable {P:Program} {ops:Array Oper} {I:World->Prop} {G:List Nat} {f:Nat} {fo:Oper}
end
end Go.Proofs.YtmaojnmnbpomeaaGreatDoor
namespace Go.Proofs.YtmaojnmnbpomeaaGreatDoor.TextU
open Go Go.RowKit Go.Proofs.YtmaojnmnbpomeaaGreatDoor.Text
def Q0(K:Act->World->Prop):Exit->Act->World->Prop:=fun e a w=>e=.normal/\K a w
def need(us:List Nat)(listed:Array Bool):Prop:=∃ u∈us,listed.getD u true=false
variable {P:Program} {ops:Array Oper} {K:Act->World->Prop} {S:World->Prop} {us:List Nat}
def wpU(P:Program)(ops:Array Oper)(K:Act->World->Prop)(S:World->Prop)(us:List Nat):Nat->Array Bool->Act->World->Prop
 |0,listed,a,w=>Region.ready .any ops listed=[]/\K a w
 |fuel+1,listed,a,w=>(Region.ready .any ops listed=[]->K a w) /\
  ∀ j∈Region.ready .any ops listed,wpOp P ops (Q0 K) j (fun a' w'=>(need us (listed.setIfInBounds j true)->S w')/\wpU P ops K S us fuel (listed.setIfInBounds j true) a' w') a w
theorem any_of_U:∀(fuel:Nat)(listed:Array Bool)(a:Act)(w:World),wpU P ops K S us fuel listed a w->wpAny P .any ops (Q0 K) fuel listed a w
 |0,_,_,_,h=>⟨h.1,rfl,h.2⟩
 |fuel+1,_,_,_,h=>⟨fun h0=>⟨rfl,h.1 h0⟩,fun j hj=>wpOp_mono (fun a' w' hh=>any_of_U fuel _ a' w' hh.2) (h.2 j hj)⟩
theorem first_U{i:Nat}{oi:Oper}{v:Value}(hi:ops[i]? = some oi)(Wp:∀(j:Nat)(o:Oper) cs b,ops[j]? = some o->o.op≠.select cs b){T:World->Prop}
  (zaM:i∉us) (hT:(∀ w,T w)\/((∀ w,S w->T w)/\∃ u∈us,u≠i/\∀ o,ops[u]? = some o->∃ e∈o.after,Region.binds .any e=true/\e.on=i)) :
  ∀(fuel:Nat)(listed:Array Bool)(a:Act)(w:World),
   (∀ j oj,ops[j]? = some oj->j≠i->listed.getD j true=false->(∀ e∈oj.after,Region.binds .any e=true->e.on≠i)->oi.apart ops oj=true) ->
   i∈Region.ready .any ops listed->(∀ u∈us,(∀ o,ops[u]? = some o->∃ e∈o.after,Region.binds .any e=true/\e.on=i)->listed.getD u true=false)->YieldsIf P ops T oi v a->T w->(need us (listed.setIfInBounds i true)->S w) ->
   wpU P ops K S us fuel (listed.setIfInBounds i true) (a.put oi.dst v) w->wpU P ops K S us (fuel+1) listed a w:=by
 intro fuel
 induction fuel with
 |zero =>
  intro listed a w _ hr _ hy hTw hS H;refine⟨fun h=>(by rw[h] at hr;cases hr),fun j hj=>?_⟩;by_cases Td:j=i
  ·subst Td;exact hy.wpOp hi hTw ⟨hS,H⟩
  ·have:=ready_mono hj Td;rw[H.1] at this;cases this
 |succ fuel ih =>
  intro listed a w qyC hr hus hy hTw hS H;refine⟨fun h=>(by rw[h] at hr;cases hr),fun j hj=>?_⟩;by_cases Td:j=i
  ·subst Td;exact hy.wpOp hi hTw ⟨hS,H⟩
  have h1:=H.2 j (ready_mono hj Td);obtain⟨zhU,oj,wK,Vj⟩:=mem_ready.1 hj;have Mq:=(mem_ready.1 hr).1;have zhG:∀ e∈oj.after,Region.binds .any e=true->e.on≠i:=fun e he hb heq=>by
   have h5:=Vj e he hb;rw[heq] at h5;have:listed.getD i true=listed.getD i false:=by
    unfold Array.getD;split
    ·rfl
    ·rename_i hn;unfold Array.getD at h5;rw[dif_neg hn] at h5;cases h5
   rw[this,h5] at Mq;cases Mq
  have hju:∀ u∈us,(∀ o,ops[u]? = some o->∃ e∈o.after,Region.binds .any e=true/\e.on=i)->u≠j:=fun u _ hed hju=>by
   subst hju;obtain⟨e,he,hb,hon⟩:=hed oj wK;exact zhG e he hb hon
  have h2:=wpOp_putIf wK (qyC j oj wK Td zhU zhG) (fun cs b=>Wp i oi cs b hi) (fun cs b=>Wp j oj cs b wK) (fun c a w hh=>by cases hh.1) hy h1;refine wpOp_mono (fun a' w' h3=>?_) h2;obtain⟨pl,hS3,H3⟩:=h3;rw[<-Array.setIfInBounds_comm _ _ Td] at hS3 H3;have zgJ:∀ u∈us,(∀ o,ops[u]? = some o->∃ e∈o.after,Region.binds .any e=true/\e.on=i)->(listed.setIfInBounds j true).getD u true=false:=fun u hu hed=>by
   rw[getD_set_ne true (Ne.symm (hju u hu hed))];exact hus u hu hed
  have hS':(need us (listed.setIfInBounds j true)->S w')/\T w':=by
   rcases hT with hT | ⟨hST,u,hu,hui,hed⟩
   ·refine⟨fun hn=>?_,hT w'⟩;by_cases tu:need us ((listed.setIfInBounds j true).setIfInBounds i true)
    ·exact hS3 tu
    ·obtain⟨u,hu,hun⟩:=hn;by_cases hui:i=u
     ·subst hui;exact absurd hu zaM
     ·exact absurd ⟨u,hu,by rw[getD_set_ne true hui];exact hun⟩ tu
   ·have tu:need us ((listed.setIfInBounds j true).setIfInBounds i true):=⟨u,hu,by rw[getD_set_ne true (Ne.symm hui)];exact zgJ u hu hed⟩;exact⟨fun _=>hS3 tu,hST w' (hS3 tu)⟩
  refine⟨hS'.1,ih (listed.setIfInBounds j true) a' w' ?_ (ready_mono hr (Ne.symm Td)) zgJ pl hS'.2 hS3 H3⟩;intro k ok hk X_ hun hno;refine qyC k ok hk X_ ?_ hno;by_cases hjk:j=k
  ·subst hjk;exact zhU
  ·rwa [getD_set_ne true hjk] at hun
theorem qjT{o:Oper}{a:Act}{w:World}{K:Act->World->Prop}{Q:Exit->Act->World->Prop}(h:o.wp P a w K tc):o.wp P a w K Q:=by
 unfold Oper.wp at *;generalize (execOp a.eval o).run P w=r at *;cases r with
 |ok n w' =>
  cases n <;> simp only[Oper.upon] at h |- <;>
   first
    |exact h
    |exact Calls.mono h (fun e w'' he=>by cases e <;> first | exact he | (obtain⟨_,_,hh⟩:=(he:LetsOut tc);exact hh.elim) | exact (he:False).elim)
 |halt x w'=>cases x <;> simp only[Oper.upon] at h |- <;> first | exact h | exact h.elim
theorem node_U{i:Nat}{o:Oper}{a:Act}{w:World}{K':Act->World->Prop}(ho:ops[i]? = some o)(h:∀ Q':Exit->Act->World->Prop,(∀ a' w',K' a' w'->Q' .normal a' w')->wpList P ops Q' [o] a w):wpOp P ops (Q0 K) i K' a w:=by
 have h0:=h (fun e a w=>e=.normal/\K' a w) (fun a w hh=>⟨rfl,hh⟩);have eM:¬ LetsOut (fun e a w=>e=Exit.normal/\K' a w):=fun⟨_,_,hh⟩=>by cases hh.1
 have hno:∀(e:Exit)(a:Act)(w:World),e≠.normal->¬ (e=Exit.normal/\K' a w):=fun _ _ _ hn hh=>hn hh.1;unfold wpList at h0;unfold wpOp;simp only[ho];split at h0
 ·rename_i hw;rw[if_pos hw];have h1:=h0.resolve_right fun hh=>eM hh.2;have h2:=Oper.wp_mono (K':=K') (fun a w hh=>by
   simp only[wpList] at hh
   exact hh.2) h1
  exact .inl (qjT (qW hno eM h2))
 ·rename_i hw;rw[if_neg hw];simp only[wpList] at h0;exact h0.2
end Go.Proofs.YtmaojnmnbpomeaaGreatDoor.TextU
namespace Go.Proofs.YtmaojnmnbpomeaaGreatDoor
open Go.RowKit
structure OkU(us:List Nat)(S:World->Prop)(listed:Array Bool)(w:World):Prop where
 o:TextU.need us listed->S w
theorem cU{us:List Nat}{S:World->Prop}{listed:Array Bool}{w:World}(h:S w):OkU us S listed w:=⟨fun _=>h⟩
theorem Kk{us:List Nat}{S:World->Prop}{listed:Array Bool}{w:World}(h:(us.all fun u=>listed.getD u true)=true):OkU us S listed w:=⟨fun⟨u,hu,hn⟩=>by
 have:=Xp.1 h u hu
 rw[hn] at this
 cases this⟩
section
variable {P:Program} {ops:Array Oper} {K:Act->World->Prop} {S:World->Prop} {us:List Nat} {fuel:Nat} {listed:Array Bool} {a:Act} {w:World}
theorem Nn{id:Nat}{Q:Exit->Act->World->Prop}{l:List Oper}(S:World->Prop)(us:List Nat)(n:Nat)(hm:P.follows .mixedOrders=true)(hn:l.length=n)(h:Stop (TextU.wpU P l.toArray (fun a w=>Q .normal a w) S us n (Array.replicate n false) a w.drew)):(Code.region id l.toArray true).wp P Q a w:=by
 subst hn;refine Code.wp_mono (Q:=TextU.Q0 fun a w=>Q .normal a w) ?_ (wp_region_any hm ?_)
 ·rintro e a w ⟨rfl,h⟩;exact h
 ·have:=TextU.any_of_U _ _ _ _ h.o;simpa using this
theorem qjV{i:Nat}{oi:Oper}{v:Value}(hi:ops[i]? = some oi)(hs:Region.noSelect ops=true)(hf:Region.free .any ops listed i=true)(hr:(Region.ready .any ops listed).contains i=true)(hni:us.contains i=false)(hun:(us.all fun u=>!listed.getD u true)=true)
  (hw:Region.wanted oi (yielded ops a.tmps)=true) (hy:∀ w,(execOp a.eval oi).run P w=.ok (.value v) w) (hS:S w) (h:Stop (TextU.wpU P ops K S us fuel (listed.setIfInBounds i true) (a.put oi.dst v) w)):Stop (TextU.wpU P ops K S us (fuel+1) listed a w) :=
 ⟨TextU.first_U hi (Region.noSelect_spec hs) (by simpa using hni) (T:=fun _=>True) (.inl fun _=>trivial) fuel listed a w (Region.free_spec hi hf) (by simpa using hr) (fun u hu _=>by have:=Xp.1 hun u hu;simpa using this) (.inl ⟨hw,fun w _=>hy w⟩) trivial (fun _=>hS) h.o⟩
theorem qjW{i:Nat}{oi:Oper}{v:Value}(hi:ops[i]? = some oi)(hs:Region.noSelect ops=true)(hf:Region.free .any ops listed i=true)(hr:(Region.ready .any ops listed).contains i=true)(hni:us.contains i=false)(hun:(us.all fun u=>!listed.getD u true)=true)
  (hed:(us.any fun u=>match ops[u]? with | some o=>o.after.any (fun e=>Region.binds .any e&&e.on==i) | none=>false)=true)
  (hw:Region.wanted oi (yielded ops a.tmps)=true) (hy:∀ w,S w->(execOp a.eval oi).run P w=.ok (.value v) w) (hS:S w) (h:Stop (TextU.wpU P ops K S us fuel (listed.setIfInBounds i true) (a.put oi.dst v) w)):Stop (TextU.wpU P ops K S us (fuel+1) listed a w) :=
 ⟨TextU.first_U hi (Region.noSelect_spec hs) (by simpa using hni) (T:=S) (.inr ⟨fun _ h=>h,by
  obtain⟨u,hu,h1⟩:=Xq.1 hed
  refine⟨u,hu,fun e=>?_,fun o ho=>?_⟩
  ·rw[<-e] at hni
   simp[hu] at hni
  ·simp only[ho] at h1
   obtain⟨e,he,h2⟩:=Array.any_eq_true'.1 h1
   rw[Yk,beq_iff_eq] at h2
   exact⟨e,he,h2.1,h2.2⟩⟩) fuel listed a w (Region.free_spec hi hf) (by simpa using hr) (fun u hu _=>by have:=Xp.1 hun u hu;simpa using this) (.inl ⟨hw,hy⟩) hS (fun _=>hS) h.o⟩
def okW(ops:Array Oper)(listed:Array Bool)(us:List Nat)(i:Nat):Bool:=Region.noSelect ops&&Region.free .any ops listed i&&(Region.ready .any ops listed).contains i&&!us.contains i
theorem Gm(i:Nat){oi:Oper}(v:Value)(hi:ops[i]? = some oi)(hc:(okW ops listed us i&&us.all fun u=>!listed.getD u true)=true)(hw:Region.wanted oi (yielded ops a.tmps)=true)(hy:∀ w,(execOp a.eval oi).run P w=.ok (.value v) w)(hS:S w)
    (h:Stop (TextU.wpU P ops K S us fuel (listed.setIfInBounds i true) (a.put oi.dst v) w)):Stop (TextU.wpU P ops K S us (fuel+1) listed a w):=by
  unfold okW at hc;simp only[Yk,Bool.not_eq_true'] at hc;exact qjV hi hc.1.1.1.1 hc.1.1.1.2 hc.1.1.2 hc.1.2 hc.2 hw hy hS h
theorem gY(i:Nat){oi:Oper}(v:Value)(hi:ops[i]? = some oi)(hc:((okW ops listed us i&&us.all fun u=>!listed.getD u true)&&us.any fun u=>match ops[u]? with | some o=>o.after.any (fun e=>Region.binds .any e&&e.on==i) | none=>false)=true)
    (hw:Region.wanted oi (yielded ops a.tmps)=true) (hy:∀ w,S w->(execOp a.eval oi).run P w=.ok (.value v) w) (hS:S w) (h:Stop (TextU.wpU P ops K S us fuel (listed.setIfInBounds i true) (a.put oi.dst v) w)):Stop (TextU.wpU P ops K S us (fuel+1) listed a w):=by
  obtain⟨hc,hd⟩:=Bool.and_eq_true_iff.1 hc;unfold okW at hc;simp only[Yk,Bool.not_eq_true'] at hc;exact qjW hi hc.1.1.1.1 hc.1.1.1.2 hc.1.1.2 hc.1.2 hc.2 hd hw hy hS h
theorem Zw{i:Nat}{o:Oper}(hr:Region.ready .any ops listed=[i])(ho:ops[i]? = some o)
  (h:∀ Q':Exit->Act->World->Prop,(∀ a' w',OkU us S (listed.setIfInBounds i true) w'/\Stop (TextU.wpU P ops K S us fuel (listed.setIfInBounds i true) a' w')->Q' .normal a' w')->wpList P ops Q' [o] a w):Stop (TextU.wpU P ops K S us (fuel+1) listed a w) :=
 ⟨(fun h0=>by rw[hr] at h0;cases h0),fun j hj=>by
  rw[hr,Qi] at hj
  subst hj
  exact TextU.node_U ho fun Q' hQ'=>h Q' fun a w hh=>hQ' a w ⟨hh.1.o,hh.2.o⟩⟩
theorem qaJ{i j:Nat}{o p:Oper}(hr:Region.ready .any ops listed=[i,j])(ho:ops[i]? = some o)(hp:ops[j]? = some p)
  (h:∀ Q':Exit->Act->World->Prop,(∀ a' w',OkU us S (listed.setIfInBounds i true) w'/\Stop (TextU.wpU P ops K S us fuel (listed.setIfInBounds i true) a' w')->Q' .normal a' w')->wpList P ops Q' [o] a w)
  (k:∀ Q':Exit->Act->World->Prop,(∀ a' w',OkU us S (listed.setIfInBounds j true) w'/\Stop (TextU.wpU P ops K S us fuel (listed.setIfInBounds j true) a' w')->Q' .normal a' w')->wpList P ops Q' [p] a w):Stop (TextU.wpU P ops K S us (fuel+1) listed a w) :=
 ⟨(fun h0=>by rw[hr] at h0;cases h0),fun l hl=>by
  rw[hr] at hl
  rcases List.mem_cons.1 hl with rfl | hl
  ·exact TextU.node_U ho fun Q' hQ'=>h Q' fun a w hh=>hQ' a w ⟨hh.1.o,hh.2.o⟩
  ·rw[Qi] at hl
   subst hl
   exact TextU.node_U hp fun Q' hQ'=>k Q' fun a w hh=>hQ' a w ⟨hh.1.o,hh.2.o⟩⟩
theorem Ew(hr:Region.ready .any ops listed=[])(h:K a w):∀ fuel,Stop (TextU.wpU P ops K S us fuel listed a w)
 |0=>⟨hr,h⟩
 |_+1=>⟨fun _=>h,fun j hj=>by rw[hr] at hj;cases hj⟩
end
def qzJ(w:World)(g n B m:Nat)(vA:Value)(cA:List Value)(e:Ending)(w':World):Prop :=
 e=.returned (.tuple #[])/\∃ cC w2 w1,Below w.heap.size w w2/\w2.grownBy w1 vA.ownBlock/\w1.ownsRow B 228 1 cC (m+1) (cA++[.slice none 0 0])/\w'=w1.setCell ⟨g,n*2+1,none⟩ cC
theorem qcE(w:World)(R N g n c m:Nat)(B:Nat)(X:List Value)(x0 u1 u2:Value)(vA:Value)(cA:List Value)
  (Wv:w.heap[R]? = some (.cells #[.slice (some ⟨g,0,none⟩) (n+1) c,u1,u2] 219 (0,0)))
  (hl:w.ownsRow N 227 2 (.slice (some ⟨g,0,none⟩) (n+1) c) (n+1) (X++[x0,vA])) (hX:X.length=2*n)
  (hr:w.ownsRow B 228 1 vA m cA) (hB:B<=w.heap.size) (hm:m<=1048576) (hn:n<=1048576) :
  Calls Tryz.prog 268 #[.pointer (some ⟨R,0,none⟩)] w (qzJ w g n B m vA cA):=by
 obtain⟨g',c',e,_,hgw,hc1,hc2,⟨cur,pK⟩,Zj,hfz⟩:=Kw hl;injection e with e1 e2 e3;injection e1 with e1;injection e1 with e1;subst e1 e3;have U_:=Zj (n*2+1) vA (by rw[Qn (by omega),hX,show n*2+1 - 2*n=1 by omega];rfl);have hfA:=hfz (n*2+1);have Vi:w.cell? ⟨R,0,none⟩=some (.slice (some ⟨g,0,none⟩) (n+1) c):=Xc Wv rfl;have HL:=Lh hl;have HR:=Lh hr;have HX:=Lh hX;obtain⟨A,cA0,rfl,Oi,hr2⟩:=Zk hr;obtain⟨L,hL⟩:=Xe (n+1);rw[<-hL] at Vi hc1;have hLn:n<L:=by omega
 have eL:(L:Int) - 1=(n:Int):=by omega
 clear Wv hl hr hX Zj hfz hL;unfold maxLen at hc2 hr2;go_enter Tryz.func268,Tryz.ntmps268;go_wp2_with fail;refine Text.wt (by kernel_rfl) fun Q' hQ'=>?_;go_wp2_with fail;refine⟨by rfl,?_⟩;have vS:Hid (Below w.heap.size w w.drew):=(Xr _ _).drew;have HL1:=Lh (Jk HL.o vS.o);have HR1:=Lh (Jk HR.o vS.o);have hcA1:w.drew.cell? ⟨g,n*2+1,none⟩=some (.slice A m cA0):=U_;have hZ:Hid (w.drew.heap.size=w.heap.size):=rfl;have hB1:B<=w.drew.heap.size:=hB;have Cp:g<w.drew.heap.size:=hgw;clear HL HR U_ hfA pK hB hgw Vi;generalize w.drew=wd at *;have Zy:Below wd.heap.size wd (wd.alloc (.cells #[.slice none 0 0] 228)):=(Xr _ _).alloc (Xz _) _;have HR2:=Lh (Jk HR1.o Zy);have HL2:=Lh (Jk HL1.o Zy);have HB2:=Lh (vS.o.trans (Zy.mono (by rw[hZ.o];exact Xz _)));have Ci:=Lh (Xn wd (.cells #[.slice none 0 0] 228));have HS2:=Lh (Xs wd (.cells #[.slice none 0 0] 228));clear Zy HL1 HR1;go_wp2_with (at_builtin;refine Ja (m:=1) qpR rfl rfl rfl rfl HR2.o (Rd.row (B:=wd.heap.size+1) Ci.o (Yd _)) rfl (by simp[Value.oneCell']) ?h63 ?hby ?hbase ?_)
 case h63=>simp only[maxLen];omega
 case hby=>omega
 case hbase=>rw[HS2.o];omega
 intro v' w7 Ss jI _ _;obtain⟨A8,c8,lY,_,_⟩:=Zk Ss;subst lY;obtain⟨g',c',e,_,_,_,_,⟨cur7,zzY⟩,qnX,ziB⟩:=Kw (Mw HL2.o HR2.o (by decide) jI);injection e with e1 e2 e3;injection e1 with e1;injection e1 with e1;subst e1;have Zj:=qnX (n*2+1) _ (by rw[Qn (by rw[HX.o];omega),HX.o,show n*2+1 - 2*n=1 by omega];rfl);have wN:=ziB (n*2+1);clear qnX ziB;have zkR:Hid (qzJ w g n B m (.slice A m cA0) cA (.returned (.tuple #[])) (w7.setCell ⟨g,n*2+1,none⟩ (.slice A8 (m+1) c8))):=⟨rfl,_,_,_,HB2.o,jI,Ss,rfl⟩;go_wp2_with fail;refine Ze (results_none rfl _ _ _) rfl ?_;exact zkR.o
section
variable {P:Program} {ops:Array Oper} {Q:Exit->Act->World->Prop} {a:Act} {w:World} {rest:List Oper} {o:Oper}
theorem Vw{ty e:TypeId}{v:Value}{p:Addr}(hu:P.underlying ty=some (.slice e))(hc:w.cell? p=some v):(Instr.loadAt ty (.pointer (some p))).run P w=.ok v w:=by
 have gE:(isAgg ty).run P w=.ok false w:=by
  unfold isAgg;rw[Zd,run_underlying hu w];rfl
 simp[Instr.loadAt,Instr.sureAddr,loadVar,gE,hc]
end
theorem Ln{P:Program}{w:World}{ty:TypeId}{v:Value}{p:Addr}(hu:P.underlying ty=some .string)(hc:w.cell? p=some v):(Instr.loadAt ty (.pointer (some p))).run P w=.ok v w:=by
 have gE:(isAgg ty).run P w=.ok false w:=by
  unfold isAgg;rw[Zd,run_underlying hu w];rfl
 simp[Instr.loadAt,Instr.sureAddr,loadVar,gE,hc]
def yR:PSt->FuncId
 |.name _=>173
 |.colon _ _=>239
 |.item _ _ _ _=>269
def Ui(R:Nat)(st:PSt):Value:=.func (.func (yR st)) #[.pointer (some ⟨R,0,none⟩)] #[]
def zfU:PSt->Bool
 |.name _=>false
 |_=>true
def zuV(w:World)(R:Nat)(vL:Value):PSt->Prop
 |.name done=>∃ css,Oc 227 228 277 w (R+1) vL done css
 |.colon done nm=>∃ css B,Cm 227 228 277 w (R+1) vL done nm css B
 |.item done nm alts alt=>∃ css vA cA vI cI B1 B2,Rk 227 228 277 w (R+1) vL done nm alts alt css vA cA vI cI B1 B2
def yI(w:World)(R:Nat)(st:PSt):Prop:=∃ vL,w.heap[R]? = some (.cells #[vL,Ui R st,.bool (zfU st)] 219 (0,0))/\zuV w R vL st
theorem yI.below{w w':World}{R:Nat}{st:PSt}(h:yI w R st)(hb:Below w.heap.size w w'):yI w' R st:=by
 obtain⟨vL,h1,h2⟩:=h;refine⟨vL,(hb.block R (gl h1)).trans h1,?_⟩;cases st with
 |name done=>obtain⟨css,h2⟩:=h2;exact⟨css,h2.below hb⟩
 |colon done nm=>obtain⟨css,B,h2⟩:=h2;exact⟨css,B,h2.below hb⟩
 |item done nm alts alt=>obtain⟨css,vA,cA,vI,cI,B1,B2,h2⟩:=h2;exact⟨css,vA,cA,vI,cI,B1,B2,h2.below hb⟩
def qpW(k:Nat):PSt->Prop
 |.name done=>done.length<=k
 |.colon done _=>done.length+1<=k
 |.item done _ alts alt=>done.length+1<=k/\alts.length<=k/\alt.length<=k
def ja(R:Nat)(st:PSt)(t:Un)(w:World)(e:Ending)(w':World):Prop :=
 ∃ b,e=.returned (.bool b)/\Below R w w'/\Jq [220] w w'/\((To st t=none/\b=false)\/∃ st',To st t=some st'/\b=true/\yI w' R st')
theorem qlV(R:Nat)(done:List Vp)(k i:Nat)(txt:Wd)(w:World)(h:yI w R (.name done))(hd:done.length<=65536)(ht:(Ki txt).size<=maxLen) :
  Calls Tryz.prog 173 #[.pointer (some ⟨R,0,none⟩),.agg #[.int .i64 k,.string (Ki txt),.int .i64 i]] w (ja R (.name done) (k,txt,i) w):=by
 obtain⟨vL,Wv,css,Uz⟩:=h;have hRw:=(gl Wv);have Cq:Below w.heap.size w (w.alloc (.cells #[.int .i64 k,.string (Ki txt),.int .i64 i] 220)):=(Xr _ _).alloc (Xz _) _;have Gl:=Lh ((Cq.block R hRw).trans Wv);have Tn:=Lh (Uz.below Cq);have HB0:=Lh (Cq.mono (Yf hRw));have qS:=Lh (Jq.of_below (ts:=[220]) Cq);have pT:=Lh (Xn w (.cells #[.int .i64 k,.string (Ki txt),.int .i64 i] 220));obtain⟨K0,jM⟩:=Xe w.heap.size;have HK0:=Lh (show R<K0 by omega);rw[<-jM] at pT;have HT:=Lh ht;clear Cq Wv Uz ht;go_enter Tryz.func173,Tryz.ntmps173;go_wp2_with fail;rw[<-jM];clear jM;generalize w.alloc (.cells #[.int .i64 k,.string (Ki txt),.int .i64 i] 220)=w1 at *;have hcx:∀ W:World,W.heap[R]? = some (.cells #[vL,Ui R (.name done),.bool false] 219 (0,0))->W.heap[K0]? = some (.cells #[.int .i64 k,.string (Ki txt),.int .i64 i] 220 (0,0))->W.cell? ⟨R,0,none⟩=some vL/\W.cell? ⟨K0,1,none⟩=some (.string (Ki txt)):=fun W h1 h2=>⟨Xc h1 rfl,Xc h2 rfl⟩;have mZ:=Lh hcx;clear hcx;have Ws:=Lh (mZ.o w1.drew Gl.o pT.o);refine Nn (fun w'=>w'.cell? ⟨R,0,none⟩=some vL/\w'.cell? ⟨K0,1,none⟩=some (.string (Ki txt))) [10] 13 (by kernel_rfl) rfl ?_;have Ei:Hid (w1.drew.heap[R]? = some (.cells #[vL,Ui R (.name done),.bool false] 219 (0,0))):=Gl.o;have Pz:Hid (w1.drew.heap[K0]? = some (.cells #[.int .i64 k,.string (Ki txt),.int .i64 i] 220 (0,0))):=pT.o;have eZ:=Lh (Tn.o.below ((Xr w1.heap.size w1).drew));have HBD:=Lh (HB0.o.drew);have aH:=Lh (qS.o.trans (Jq.of_below ((Xr w1.heap.size w1).drew)));clear Gl pT Tn HB0 qS;generalize w1.drew=wd at *;refine Gm 0 (.pointer (some ⟨R,0,none⟩)) rfl (by kernel_rfl) rfl (fun wq=>by go_simp) Ws.o ?_;generalize ha:Act.put _ _ _=z9;simp[Act.put] at ha;subst ha;refine Gm 1 (.pointer (some ⟨R,0,none⟩)) rfl (by kernel_rfl) rfl (fun wq=>by go_simp) Ws.o ?_;generalize ha:Act.put _ _ _=z9;simp[Act.put] at ha;subst ha;refine Gm 2 (.pointer (some ⟨R,0,none⟩)) rfl (by kernel_rfl) rfl (fun wq=>by go_simp) Ws.o ?_;generalize ha:Act.put _ _ _=z9;simp[Act.put] at ha;subst ha;refine Gm 3 (.pointer (some ⟨R,0,none⟩)) rfl (by kernel_rfl) rfl (fun wq=>by go_simp) Ws.o ?_;generalize ha:Act.put _ _ _=z9;simp[Act.put] at ha;subst ha;refine gY 4 (vL) rfl (by kernel_rfl) rfl (fun wq Gk=>Jy rfl rfl (Vw (e:=227) (by kernel_rfl) Gk.1)) Ws.o ?_;generalize ha:Act.put _ _ _=z9;simp[Act.put] at ha;subst ha;refine Gm 5 (.pointer (some ⟨K0,1,none⟩)) rfl (by kernel_rfl) rfl (fun wq=>by go_simp) Ws.o ?_;generalize ha:Act.put _ _ _=z9;simp[Act.put] at ha;subst ha;refine gY 6 (.string (Ki txt)) rfl (by kernel_rfl) rfl (fun wq Gk=>Jy rfl rfl (Ln (by kernel_rfl) Gk.2)) Ws.o ?_;generalize ha:Act.put _ _ _=z9;simp[Act.put] at ha;subst ha;refine Zw (i:=7) (by kernel_rfl) rfl (fun Q' hQ'=>?_);go_wp2_with fail;refine⟨cU Ws.o,?_⟩;have HB3:=Lh ((Xr wd.heap.size wd).alloc (Xz _) (.cells #[.string (Ki txt),.slice none 0 0] 227));have Ek:=Lh (Xn wd (.cells #[.string (Ki txt),.slice none 0 0] 227));have wQ:Hid (wd.heap.size+1=(wd.alloc (.cells #[.string (Ki txt),.slice none 0 0] 227)).heap.size):=(Xs _ _).symm;refine Zw (i:=8) (by kernel_rfl) rfl (fun Q' hQ'=>?_);go_wp2_with fail;generalize wd.alloc (.cells #[.string (Ki txt),.slice none 0 0] 227)=w3 at *;have Gi:=Lh ((HB3.o.block R (gl Ei.o)).trans Ei.o);have vW:=Lh ((HB3.o.block K0 (gl Pz.o)).trans Pz.o);have HM3:=Lh (eZ.o.below HB3.o);have dU:=Lh (HBD.o.trans (HB3.o.mono (Yf (gl Ei.o))));have iD:=Lh (aH.o.trans (Jq.of_below HB3.o));refine⟨cU (mZ.o w3 Gi.o vW.o),?_⟩;refine Zw (i:=9) (by kernel_rfl) rfl (fun Q' hQ'=>?_);refine Ja (m:=1) qmE rfl rfl rfl rfl HM3.o.lines (Rd.row (B:=w3.heap.size) Ek.o (by rw[<-wQ.o];exact Yd _)) rfl (by simp[Value.oneCell']) (by simp only[maxLen];omega) (by omega) (by have:=HM3.o.nB;omega) ?_;intro vL' Cn hown hg _ _;obtain⟨A8,c8,lY,_,_⟩:=Zk hown;subst lY;have Ik:=Lh (Jd HM3.o.lines hg Gi.o (by decide));have x_:=Lh (Jd HM3.o.lines hg vW.o (by decide));have HM4:=Lh (Oc.name HM3.o (by decide) (by decide) HT.o hown hg);have zxL:=Lh (Zr dU.o hg HM3.o.lines (Yg _) (Yf (gl Gi.o)));have HK4:=Lh (iD.o.trans (Jq.of_grown HM3.o.lines hg (by decide)));clear hown hg;generalize ha:Act.put _ _ _=z9;simp[Act.put] at ha;subst ha;refine hQ' _ _ ⟨cU (mZ.o Cn Ik.o x_.o),?_⟩;clear Gi vW HM3 dU Ei Pz eZ HBD Ws HB3 Ek wQ;refine Zw (i:=10) (by kernel_rfl) rfl (fun Q' hQ'=>?_);go_wp2_with fail;refine⟨Kk (by kernel_rfl),?_⟩;refine Zw (i:=11) (by kernel_rfl) rfl (fun Q' hQ'=>?_);go_wp2_with fail;refine⟨Kk (by kernel_rfl),?_⟩;have r0:Cn.cell? ⟨R,0,none⟩=some vL:=(mZ.o Cn Ik.o x_.o).1;have r1:Cn.cell? ⟨R,1,none⟩=some (Ui R (.name done)):=Xc Ik.o rfl;have r2:Cn.cell? ⟨R,2,none⟩=some (.bool false):=Xc Ik.o rfl;have f0:Cn.frozen? ⟨R,0,none⟩=false:=by simp[World.frozen?,Ik.o]
 have f1:Cn.frozen? ⟨R,1,none⟩=false:=by simp[World.frozen?,Ik.o]
 have f2:Cn.frozen? ⟨R,2,none⟩=false:=by simp[World.frozen?,Ik.o]
 have k0:Cn.cell? ⟨K0,0,none⟩=some (.int .i64 k):=Xc x_.o rfl;have n1:K0≠R:=by have:=HK0.o;omega
 have n2:R≠K0:=by have:=HK0.o;omega
 refine Zw (i:=12) (by kernel_rfl) rfl (fun Q' hQ'=>?_);go_wp2_with fail;refine⟨Kk (by kernel_rfl),?_⟩;refine Ew (by kernel_rfl) ?_ _;go_wp2_with fail;go_ret;have b1:=Uw (k:=0) Ik.o (.slice A8 (done.length+1) c8);have b2:=Uw (k:=1) b1 (Ui R (.colon done (Ki txt)));have b3:=Uw (k:=2) b2 (.bool true);have m1:=HM4.o.set (k:=0) Ik.o (Yd R) (by decide) (.slice A8 (done.length+1) c8);have m2:=m1.set (k:=1) b1 (Yd R) (by decide) (Ui R (.colon done (Ki txt)));have m3:=m2.set (k:=2) b2 (Yd R) (by decide) (.bool true);have pM:=((zxL.o.setCell (p:=⟨R,0,none⟩) (Xz _) (.slice A8 (done.length+1) c8)).setCell (p:=⟨R,1,none⟩) (Xz _) (Ui R (.colon done (Ki txt)))).setCell (p:=⟨R,2,none⟩) (Xz _) (.bool true);have iA:=((HK4.o.trans (Ud (k:=0) Ik.o (by decide) (.slice A8 (done.length+1) c8))).trans (Ud (k:=1) b1 (by decide) (Ui R (.colon done (Ki txt))))).trans (Ud (k:=2) b2 (by decide) (.bool true));refine⟨_,rfl,pM,iA,?_⟩;by_cases hk:k=1
 ·subst hk;exact .inr ⟨.colon done (Ki txt),rfl,rfl,.slice A8 (done.length+1) c8,b3,css,_,m3⟩
 ·exact .inl ⟨if_neg hk,by simp;omega⟩
theorem Dd{w:World}{g k R:Nat}{o:Obj}(h:w.heap[R]? = some o)(hne:g≠R)(v:Value):(w.setCell ⟨g,k,none⟩ v).heap[R]? = some o:=by
 rw[Yz _ _ _ _ (Ne.symm hne)];exact h
theorem qhQ(R:Nat)(done:List Vp)(nm:ByteArray)(k i:Nat)(txt:Wd)(w:World)(h:yI w R (.colon done nm))(hd:done.length<=65536) :
  Calls Tryz.prog 239 #[.pointer (some ⟨R,0,none⟩),.agg #[.int .i64 k,.string (Ki txt),.int .i64 i]] w (ja R (.colon done nm) (k,txt,i) w):=by
 obtain⟨vL,Wv,css,B,Uz⟩:=h;have hRw:=(gl Wv);obtain⟨g,c,rfl,Cp,aE,_,_,_,_⟩:=Kw Uz.lines;have Cq:Below w.heap.size w (w.alloc (.cells #[.int .i64 k,.string (Ki txt),.int .i64 i] 220)):=(Xr _ _).alloc (Xz _) _;have Gl:=Lh ((Cq.block R hRw).trans Wv);have Tn:=Lh (Uz.below Cq);have HB0:=Lh (Cq.mono (Yf hRw));have qS:=Lh (Jq.of_below (ts:=[220]) Cq);have pT:=Lh (Xn w (.cells #[.int .i64 k,.string (Ki txt),.int .i64 i] 220));obtain⟨K0,jM⟩:=Xe w.heap.size;have HNE:=Lh (show R<K0/\g<K0/\R<g by omega);rw[<-jM] at pT;clear Cq Wv Uz;go_enter Tryz.func239,Tryz.ntmps239;go_wp2_with fail;rw[<-jM];clear jM;generalize w.alloc (.cells #[.int .i64 k,.string (Ki txt),.int .i64 i] 220)=w1 at *;refine (qcE w1 R (R+1) g done.length c 0 B css.flatten (.string nm) (Ui R (.colon done nm)) (.bool true) (.slice none 0 0) [] Gl.o Tn.o.lines (dD Tn.o.dn) (Yx _ _ _ _) Tn.o.bB (Ye _) (by omega)).mono ?_;rintro e w4 ⟨rfl,cC,w2,w3,Zy,mA,hown,rfl⟩;have HM2:=Lh (Tn.o.below Zy);have HM3:=Lh (Cm.colon HM2.o (by decide) (by decide) hown mA (k:=done.length*2+1) (by omega));have Tu:=Lh ((Zy.block R (gl Gl.o)).trans Gl.o);have ji:=Lh ((Zy.block K0 (gl pT.o)).trans pT.o);have Gi:=Lh (Dd (g:=g) (k:=done.length*2+1) ((mA.block R (gl Tu.o) (by simp[Value.ownBlock])).trans Tu.o) (by have:=HNE.o;omega) cC);have vW:=Lh (Dd (g:=g) (k:=done.length*2+1) ((mA.block K0 (gl ji.o) (by simp[Value.ownBlock])).trans ji.o) (by have:=HNE.o;omega) cC);have HB3:=Lh ((((HB0.o.trans (Zy.mono (Yf (gl Gl.o)))).grown mA (Yf (gl Tu.o)) (fun k hk=>by simp[Value.ownBlock] at hk))).setCell (p:=⟨g,done.length*2+1,none⟩) (Yf HNE.o.2.2) cC);have zbG:Below w2.heap.size w2 w3:=(Xr _ _).grown mA (Xz _) (fun k hk=>by simp[Value.ownBlock] at hk);have iD:=Lt (Jq [220] w (w3.setCell ⟨g,done.length*2+1,none⟩ cC)) (by
  obtain⟨g',c',e,_,_,_,_,⟨cur,pK⟩,_⟩:=Kw (HM2.o.below zbG).lines
  injection e with e
  injection e with e
  injection e with e
  subst e
  exact ((qS.o.trans (.of_below Zy)).trans (.of_below zbG)).trans (Ud pK (by decide) cC))
 clear Zy mA hown zbG HM2 qS Tu ji Tn Gl pT HB0;generalize w3.setCell ⟨g,done.length*2+1,none⟩ cC=w5 at *;have r1:w5.cell? ⟨R,1,none⟩=some (Ui R (.colon done nm)):=Xc Gi.o rfl;have f1:w5.frozen? ⟨R,1,none⟩=false:=by simp[World.frozen?,Gi.o]
 have k0:w5.cell? ⟨K0,0,none⟩=some (.int .i64 k):=Xc vW.o rfl;have n1:K0≠R:=by have:=HNE.o;omega
 have n2:R≠K0:=by have:=HNE.o;omega
 go_wp2_with fail;go_ret;have b2:=Uw (k:=1) Gi.o (Ui R (.item done nm [] []));have m2:=HM3.o.set (k:=1) Gi.o (Yd R) (by decide) (Ui R (.item done nm [] []));have pM:=HB3.o.setCell (p:=⟨R,1,none⟩) (Xz _) (Ui R (.item done nm [] []));have iA:=iD.o.trans (Ud (k:=1) Gi.o (by decide) (Ui R (.item done nm [] [])));refine⟨_,rfl,pM,iA,?_⟩;by_cases hk:k=3
 ·subst hk;exact .inr ⟨.item done nm [] [],rfl,rfl,.slice (some ⟨g,0,none⟩) (done.length+1) c,b2,css,_,_,_,_,_,_,m2⟩
 ·exact .inl ⟨if_neg hk,by simp;omega⟩
theorem zj(R:Nat)(done:List Vp)(nm:ByteArray)(alts:List (List Nv))(alt:List Nv)(k i:Nat)(txt:Wd)(w:World)(h:yI w R (.item done nm alts alt))(hd:done.length<=65536)(ha:alts.length<=65536)(hi:alt.length<=65536)(ht:(Ki txt).size<=maxLen) :
  Calls Tryz.prog 269 #[.pointer (some ⟨R,0,none⟩),.agg #[.int .i64 k,.string (Ki txt),.int .i64 i]] w (ja R (.item done nm alts alt) (k,txt,i) w):=by
 obtain⟨vL,Wv,css,vA,cA,vI,cI,B1,B2,Uz⟩:=h;have hRw:=(gl Wv);obtain⟨g,c,rfl,Cp,aE,hc1,hc2,_,qG,_⟩:=Kw Uz.lines;obtain⟨gA,c2,rfl,hA1,hA2,hc3,tx,_,U_,_⟩:=Kw Uz.row;have qnY:cA.length=alts.length:=by have:=Uz.al.len;rwa [Qk] at this
 have Cq:Below w.heap.size w (w.alloc (.cells #[.int .i64 k,.string (Ki txt),.int .i64 i] 220)):=(Xr _ _).alloc (Xz _) _;have Gl:=Lh ((Cq.block R hRw).trans Wv);have Tn:=Lh (Uz.below Cq);have HB0:=Lh (Cq.mono (Yf hRw));have qS:=Lh (Jq.of_below (ts:=[220]) Cq);have pT:=Lh (Xn w (.cells #[.int .i64 k,.string (Ki txt),.int .i64 i] 220));have ziP:=qG (done.length*2+1) (.slice (some ⟨gA,0,none⟩) (alts.length+1) c2) (by rw[Qn (by rw[dD Uz.dn];omega),dD Uz.dn,show done.length*2+1 - 2*done.length=1 by omega];rfl);have ziQ:=U_ alts.length vI (by rw[Qn (by omega),qnY,Nat.sub_self];rfl);have Mp:=Lh (And.intro ((Cq.cell (p:=⟨g,done.length*2+1,none⟩) aE).trans ziP) ((Cq.cell (p:=⟨gA,alts.length,none⟩) hA2).trans ziQ));obtain⟨K0,jM⟩:=Xe w.heap.size;have HNE:=Lh (show R<K0/\g<K0/\gA<K0/\R<g/\R<gA by have:=Uz.nB;omega);rw[<-jM] at pT;have HT:=Lh ht;clear Cq Wv Uz qG U_ ziP ziQ ht;have HCS:=Lh qnY;obtain⟨n,hn⟩:=Xe done.length;obtain⟨m,hm⟩:=Xe alts.length;obtain⟨L,hL⟩:=Xe (n+1);obtain⟨M,hM⟩:=Xe (m+1);have HEQ:Hid (done.length=n/\alts.length=m/\n+1=L/\m+1=M):=⟨hn.symm,hm.symm,hL.symm,hM.symm⟩;rw[<-hn] at hd hc1 Mp;rw[<-hm] at ha hc3 Mp;rw[<-hL] at hc1;rw[<-hM] at hc3 Mp;have l1:n<L:=by omega
 have l2:m<M:=by omega
 have e1:(L:Int) - 1=(n:Int):=by omega
 have e2:(M:Int) - 1=(m:Int):=by omega
 unfold maxLen at hc2 tx;clear hn hm hL hM qnY;have HBR:=Lh (show ∀ W:World,W.heap[R]? = some (.cells #[.slice (some ⟨g,0,none⟩) (done.length+1) c,Ui R (.item done nm alts alt),.bool true] 219 (0,0))->W.cell? ⟨R,0,none⟩=some (.slice (some ⟨g,0,none⟩) L c) from fun W h=>by
  rw[Za _ _ _ _ _ _ h,<-HEQ.o.2.2.1,<-HEQ.o.1];rfl)
 have HKR:Hid (∀ W:World,W.heap[K0]? = some (.cells #[.int .i64 k,.string (Ki txt),.int .i64 i] 220 (0,0))->W.cell? ⟨K0,0,none⟩=some (.int .i64 k)/\W.cell? ⟨K0,1,none⟩=some (.string (Ki txt))):=fun W h=>⟨Xc h rfl,Xc h rfl⟩;have eN:k=1\/k=2\/k=4\/k=5\/(k≠1/\k≠2/\k≠4/\k≠5):=by omega
 rcases eN with hk | hk | hk | hk | ⟨k1,k2,k4,k5⟩
 ·subst hk;go_enter Tryz.func269,Tryz.ntmps269;go_wp2_with fail;rw[<-jM];clear jM;generalize w.alloc (.cells #[.int .i64 1,.string (Ki txt),.int .i64 i] 220)=w1 at *;have Vi:=HBR.o w1 Gl.o;have qG:=Mp.o.1;have U_:=Mp.o.2;refine Text.wt (by kernel_rfl) fun Q' hQ'=>?_;go_wp2_with fail;refine⟨by rfl,?_⟩;go_wp2_with fail;refine Text.wt (by kernel_rfl) fun Q' hQ'=>?_;go_wp2_with fail;refine⟨by rfl,?_⟩;have Ei:Hid (w1.drew.drew.heap[R]? = some (.cells #[.slice (some ⟨g,0,none⟩) (done.length+1) c,Ui R (.item done nm alts alt),.bool true] 219 (0,0))):=Gl.o;have Pz:Hid (w1.drew.drew.heap[K0]? = some (.cells #[.int .i64 1,.string (Ki txt),.int .i64 i] 220 (0,0))):=pT.o;have eZ:=Lh (Tn.o.below ((Xr w1.heap.size w1).drew.drew));have HBD:=Lh (HB0.o.drew.drew);have aH:=Lh (qS.o.trans (Jq.of_below ((Xr w1.heap.size w1).drew.drew)));have HCD:Hid (w1.drew.drew.cell? ⟨g,n*2+1,none⟩=some (.slice (some ⟨gA,0,none⟩) M c2)/\w1.drew.drew.cell? ⟨gA,m,none⟩=some vI):=Mp.o;clear Gl pT Tn HB0 qS Mp Vi qG U_;generalize w1.drew.drew=wd at *;have hk0:=(HKR.o wd Pz.o).1;go_wp2_with fail;have mZ:Hid (∀ W:World,W.heap[K0]? = some (.cells #[.int .i64 1,.string (Ki txt),.int .i64 i] 220 (0,0))->W.cell? ⟨gA,m,none⟩=some vI->W.cell? ⟨K0,0,none⟩=some (.int .i64 1)/\W.cell? ⟨K0,1,none⟩=some (.string (Ki txt))/\W.cell? ⟨gA,m,none⟩=some vI):=fun W h1 h2=>⟨(HKR.o W h1).1,(HKR.o W h1).2,h2⟩;have Ws:=Lh (mZ.o wd.drew Pz.o HCD.o.2);refine Nn (fun w'=>w'.cell? ⟨K0,0,none⟩=some (.int .i64 1)/\w'.cell? ⟨K0,1,none⟩=some (.string (Ki txt))/\w'.cell? ⟨gA,m,none⟩=some vI) [12] 14 (by kernel_rfl) rfl ?_;have Tu:Hid (wd.drew.heap[R]? = some (.cells #[.slice (some ⟨g,0,none⟩) (done.length+1) c,Ui R (.item done nm alts alt),.bool true] 219 (0,0))):=Ei.o;have ji:Hid (wd.drew.heap[K0]? = some (.cells #[.int .i64 1,.string (Ki txt),.int .i64 i] 220 (0,0))):=Pz.o;have HM2:=Lh (eZ.o.below ((Xr wd.heap.size wd).drew));have HB2:=Lh (HBD.o.drew);have HK2:=Lh (aH.o.trans (Jq.of_below ((Xr wd.heap.size wd).drew)));have nA:Hid (wd.drew.cell? ⟨gA,m,none⟩=some vI):=HCD.o.2;clear Ei Pz eZ HBD aH HCD hk0;generalize wd.drew=w2 at *;refine Gm 0 (.pointer (some ⟨gA,m,none⟩)) rfl (by kernel_rfl) rfl (fun wq=>by go_simp) Ws.o ?_;generalize ha:Act.put _ _ _=z9;simp[Act.put] at ha;subst ha;refine Gm 1 (.pointer (some ⟨gA,m,none⟩)) rfl (by kernel_rfl) rfl (fun wq=>by go_simp) Ws.o ?_;generalize ha:Act.put _ _ _=z9;simp[Act.put] at ha;subst ha;refine Gm 2 (.pointer (some ⟨gA,m,none⟩)) rfl (by kernel_rfl) rfl (fun wq=>by go_simp) Ws.o ?_;generalize ha:Act.put _ _ _=z9;simp[Act.put] at ha;subst ha;refine gY 3 (vI) rfl (by kernel_rfl) rfl (fun wq Gk=>Jy rfl rfl (Vw (e:=277) (by kernel_rfl) Gk.2.2)) Ws.o ?_;generalize ha:Act.put _ _ _=z9;simp[Act.put] at ha;subst ha;refine Gm 4 (.pointer (some ⟨K0,0,none⟩)) rfl (by kernel_rfl) rfl (fun wq=>by go_simp) Ws.o ?_;generalize ha:Act.put _ _ _=z9;simp[Act.put] at ha;subst ha;refine gY 5 (.int .i64 1) rfl (by kernel_rfl) rfl (fun wq Gk=>Jy rfl rfl (tH (k:=.i64) (by kernel_rfl) Gk.1)) Ws.o ?_;generalize ha:Act.put _ _ _=z9;simp[Act.put] at ha;subst ha;refine Gm 6 (.bool false) rfl (by kernel_rfl) rfl (fun wq=>by go_simp) Ws.o ?_;generalize ha:Act.put _ _ _=z9;simp[Act.put] at ha;subst ha;refine Gm 7 (.pointer (some ⟨K0,1,none⟩)) rfl (by kernel_rfl) rfl (fun wq=>by go_simp) Ws.o ?_;generalize ha:Act.put _ _ _=z9;simp[Act.put] at ha;subst ha;refine gY 8 (.string (Ki txt)) rfl (by kernel_rfl) rfl (fun wq Gk=>Jy rfl rfl (Ln (by kernel_rfl) Gk.2.1)) Ws.o ?_;generalize ha:Act.put _ _ _=z9;simp[Act.put] at ha;subst ha;refine Zw (i:=9) (by kernel_rfl) rfl (fun Q' hQ'=>?_);go_wp2_with fail;refine⟨cU Ws.o,?_⟩;have HB3:=Lh ((Xr w2.heap.size w2).alloc (Xz _) (.cells #[.bool false,.string (Ki txt)] 277));have Ek:=Lh (Xn w2 (.cells #[.bool false,.string (Ki txt)] 277));have wQ:Hid (w2.heap.size+1=(w2.alloc (.cells #[.bool false,.string (Ki txt)] 277)).heap.size):=(Xs _ _).symm;refine Zw (i:=10) (by kernel_rfl) rfl (fun Q' hQ'=>?_);go_wp2_with fail;generalize w2.alloc (.cells #[.bool false,.string (Ki txt)] 277)=w3 at *;have Gi:=Lh ((HB3.o.block R (gl Tu.o)).trans Tu.o);have vW:=Lh ((HB3.o.block K0 (gl ji.o)).trans ji.o);have HM3:=Lh (HM2.o.below HB3.o);have dU:=Lh (HB2.o.trans (HB3.o.mono (Yf (gl Tu.o))));have HC3:=Lh ((HB3.o.cell (p:=⟨gA,m,none⟩) (by have h1:=HM2.o.row;obtain⟨g',c',e,_,h2,_⟩:=Kw h1;injection e with e;injection e with e;injection e with e;rw[e];exact h2)).trans nA.o);have iD:=Lh (HK2.o.trans (Jq.of_below HB3.o));refine⟨cU (mZ.o w3 vW.o HC3.o),?_⟩;refine Zw (i:=11) (by kernel_rfl) rfl (fun Q' hQ'=>?_);refine Ja (m:=1) pg rfl rfl rfl rfl HM3.o.last (Rd.row (B:=w3.heap.size) Ek.o (by rw[<-wQ.o];exact Yd _)) rfl (by simp[Value.oneCell']) (by simp only[maxLen];omega) (by omega) HM3.o.b2 ?_;intro vI' Cn hown hg _ _;obtain⟨A8,c8,lY,_,_⟩:=Zk hown;subst lY;have Ik:=Lh (Jd HM3.o.last hg Gi.o (by decide));have x_:=Lh (Jd HM3.o.last hg vW.o (by decide));have HM4:=Lh (Rk.item HM3.o (by decide) (by decide) (by decide) HT.o hown hg);have HB4:=Lh (Zr dU.o hg HM3.o.last (by have h1:=HM3.o.nB;have h2:=HM3.o.b12;omega) (Yf (gl Gi.o)));have HRW:=Lh (Mw HM3.o.row HM3.o.last (by decide) hg);obtain⟨g',c',e,_,_,_,_,⟨zuL,qnU⟩,qd,qnR⟩:=Kw HRW.o;injection e with e1' e2' e3';injection e1' with e1';injection e1' with e1';subst e1';have zbD:=qd m vI (by rw[Qn (by rw[HCS.o,HEQ.o.2.1];exact Xz _),HCS.o,HEQ.o.2.1,Nat.sub_self];rfl);have zsK:=qnR m;have HK4:=Lh ((iD.o.trans (Jq.of_grown HM3.o.last hg (by decide))).trans (Ud (k:=m) qnU (by decide) (.slice A8 (alt.length+1) c8)));rw[HEQ.o.2.1] at HM4;clear hown hg qd qnR;generalize ha:Act.put _ _ _=z9;simp[Act.put] at ha;subst ha;refine hQ' _ _ ⟨cU (mZ.o Cn x_.o zbD),?_⟩;refine Zw (i:=12) (by kernel_rfl) rfl (fun Q' hQ'=>?_);go_wp2_with fail;refine⟨Kk (by kernel_rfl),?_⟩;refine Zw (i:=13) (by kernel_rfl) rfl (fun Q' hQ'=>?_);go_wp2_with fail;refine⟨Kk (by kernel_rfl),?_⟩;refine Ew (by kernel_rfl) ?_ _;go_wp2_with fail;go_ret;have b3:=Dd (g:=gA) (k:=m) Ik.o (by have:=HNE.o;omega) (.slice A8 (alt.length+1) c8);have pM:=HB4.o.setCell (p:=⟨gA,m,none⟩) (Yf HNE.o.2.2.2.2) (.slice A8 (alt.length+1) c8);exact⟨true,rfl,pM,HK4.o,.inr ⟨.item done nm alts (alt++[(false,Ki txt)]),rfl,rfl,_,b3,css,_,_,_,_,_,_,HM4.o⟩⟩
 ·subst hk;go_enter Tryz.func269,Tryz.ntmps269;go_wp2_with fail;rw[<-jM];clear jM;generalize w.alloc (.cells #[.int .i64 2,.string (Ki txt),.int .i64 i] 220)=w1 at *;have Vi:=HBR.o w1 Gl.o;have qG:=Mp.o.1;have U_:=Mp.o.2;refine Text.wt (by kernel_rfl) fun Q' hQ'=>?_;go_wp2_with fail;refine⟨by rfl,?_⟩;go_wp2_with fail;refine Text.wt (by kernel_rfl) fun Q' hQ'=>?_;go_wp2_with fail;refine⟨by rfl,?_⟩;have Ei:Hid (w1.drew.drew.heap[R]? = some (.cells #[.slice (some ⟨g,0,none⟩) (done.length+1) c,Ui R (.item done nm alts alt),.bool true] 219 (0,0))):=Gl.o;have Pz:Hid (w1.drew.drew.heap[K0]? = some (.cells #[.int .i64 2,.string (Ki txt),.int .i64 i] 220 (0,0))):=pT.o;have eZ:=Lh (Tn.o.below ((Xr w1.heap.size w1).drew.drew));have HBD:=Lh (HB0.o.drew.drew);have aH:=Lh (qS.o.trans (Jq.of_below ((Xr w1.heap.size w1).drew.drew)));have HCD:Hid (w1.drew.drew.cell? ⟨g,n*2+1,none⟩=some (.slice (some ⟨gA,0,none⟩) M c2)/\w1.drew.drew.cell? ⟨gA,m,none⟩=some vI):=Mp.o;clear Gl pT Tn HB0 qS Mp Vi qG U_;generalize w1.drew.drew=wd at *;have hk0:=(HKR.o wd Pz.o).1;go_wp2_with fail;have mZ:Hid (∀ W:World,W.heap[K0]? = some (.cells #[.int .i64 2,.string (Ki txt),.int .i64 i] 220 (0,0))->W.cell? ⟨gA,m,none⟩=some vI->W.cell? ⟨K0,0,none⟩=some (.int .i64 2)/\W.cell? ⟨K0,1,none⟩=some (.string (Ki txt))/\W.cell? ⟨gA,m,none⟩=some vI):=fun W h1 h2=>⟨(HKR.o W h1).1,(HKR.o W h1).2,h2⟩;have Ws:=Lh (mZ.o wd.drew Pz.o HCD.o.2);refine Nn (fun w'=>w'.cell? ⟨K0,0,none⟩=some (.int .i64 2)/\w'.cell? ⟨K0,1,none⟩=some (.string (Ki txt))/\w'.cell? ⟨gA,m,none⟩=some vI) [12] 14 (by kernel_rfl) rfl ?_;have Tu:Hid (wd.drew.heap[R]? = some (.cells #[.slice (some ⟨g,0,none⟩) (done.length+1) c,Ui R (.item done nm alts alt),.bool true] 219 (0,0))):=Ei.o;have ji:Hid (wd.drew.heap[K0]? = some (.cells #[.int .i64 2,.string (Ki txt),.int .i64 i] 220 (0,0))):=Pz.o;have HM2:=Lh (eZ.o.below ((Xr wd.heap.size wd).drew));have HB2:=Lh (HBD.o.drew);have HK2:=Lh (aH.o.trans (Jq.of_below ((Xr wd.heap.size wd).drew)));have nA:Hid (wd.drew.cell? ⟨gA,m,none⟩=some vI):=HCD.o.2;clear Ei Pz eZ HBD aH HCD hk0;generalize wd.drew=w2 at *;refine Gm 0 (.pointer (some ⟨gA,m,none⟩)) rfl (by kernel_rfl) rfl (fun wq=>by go_simp) Ws.o ?_;generalize ha:Act.put _ _ _=z9;simp[Act.put] at ha;subst ha;refine Gm 1 (.pointer (some ⟨gA,m,none⟩)) rfl (by kernel_rfl) rfl (fun wq=>by go_simp) Ws.o ?_;generalize ha:Act.put _ _ _=z9;simp[Act.put] at ha;subst ha;refine Gm 2 (.pointer (some ⟨gA,m,none⟩)) rfl (by kernel_rfl) rfl (fun wq=>by go_simp) Ws.o ?_;generalize ha:Act.put _ _ _=z9;simp[Act.put] at ha;subst ha;refine gY 3 (vI) rfl (by kernel_rfl) rfl (fun wq Gk=>Jy rfl rfl (Vw (e:=277) (by kernel_rfl) Gk.2.2)) Ws.o ?_;generalize ha:Act.put _ _ _=z9;simp[Act.put] at ha;subst ha;refine Gm 4 (.pointer (some ⟨K0,0,none⟩)) rfl (by kernel_rfl) rfl (fun wq=>by go_simp) Ws.o ?_;generalize ha:Act.put _ _ _=z9;simp[Act.put] at ha;subst ha;refine gY 5 (.int .i64 2) rfl (by kernel_rfl) rfl (fun wq Gk=>Jy rfl rfl (tH (k:=.i64) (by kernel_rfl) Gk.1)) Ws.o ?_;generalize ha:Act.put _ _ _=z9;simp[Act.put] at ha;subst ha;refine Gm 6 (.bool true) rfl (by kernel_rfl) rfl (fun wq=>by go_simp) Ws.o ?_;generalize ha:Act.put _ _ _=z9;simp[Act.put] at ha;subst ha;refine Gm 7 (.pointer (some ⟨K0,1,none⟩)) rfl (by kernel_rfl) rfl (fun wq=>by go_simp) Ws.o ?_;generalize ha:Act.put _ _ _=z9;simp[Act.put] at ha;subst ha;refine gY 8 (.string (Ki txt)) rfl (by kernel_rfl) rfl (fun wq Gk=>Jy rfl rfl (Ln (by kernel_rfl) Gk.2.1)) Ws.o ?_;generalize ha:Act.put _ _ _=z9;simp[Act.put] at ha;subst ha;refine Zw (i:=9) (by kernel_rfl) rfl (fun Q' hQ'=>?_);go_wp2_with fail;refine⟨cU Ws.o,?_⟩;have HB3:=Lh ((Xr w2.heap.size w2).alloc (Xz _) (.cells #[.bool true,.string (Ki txt)] 277));have Ek:=Lh (Xn w2 (.cells #[.bool true,.string (Ki txt)] 277));have wQ:Hid (w2.heap.size+1=(w2.alloc (.cells #[.bool true,.string (Ki txt)] 277)).heap.size):=(Xs _ _).symm;refine Zw (i:=10) (by kernel_rfl) rfl (fun Q' hQ'=>?_);go_wp2_with fail;generalize w2.alloc (.cells #[.bool true,.string (Ki txt)] 277)=w3 at *;have Gi:=Lh ((HB3.o.block R (gl Tu.o)).trans Tu.o);have vW:=Lh ((HB3.o.block K0 (gl ji.o)).trans ji.o);have HM3:=Lh (HM2.o.below HB3.o);have dU:=Lh (HB2.o.trans (HB3.o.mono (Yf (gl Tu.o))));have HC3:=Lh ((HB3.o.cell (p:=⟨gA,m,none⟩) (by have h1:=HM2.o.row;obtain⟨g',c',e,_,h2,_⟩:=Kw h1;injection e with e;injection e with e;injection e with e;rw[e];exact h2)).trans nA.o);have iD:=Lh (HK2.o.trans (Jq.of_below HB3.o));refine⟨cU (mZ.o w3 vW.o HC3.o),?_⟩;refine Zw (i:=11) (by kernel_rfl) rfl (fun Q' hQ'=>?_);refine Ja (m:=1) pg rfl rfl rfl rfl HM3.o.last (Rd.row (B:=w3.heap.size) Ek.o (by rw[<-wQ.o];exact Yd _)) rfl (by simp[Value.oneCell']) (by simp only[maxLen];omega) (by omega) HM3.o.b2 ?_;intro vI' Cn hown hg _ _;obtain⟨A8,c8,lY,_,_⟩:=Zk hown;subst lY;have Ik:=Lh (Jd HM3.o.last hg Gi.o (by decide));have x_:=Lh (Jd HM3.o.last hg vW.o (by decide));have HM4:=Lh (Rk.item HM3.o (by decide) (by decide) (by decide) HT.o hown hg);have HB4:=Lh (Zr dU.o hg HM3.o.last (by have h1:=HM3.o.nB;have h2:=HM3.o.b12;omega) (Yf (gl Gi.o)));have HRW:=Lh (Mw HM3.o.row HM3.o.last (by decide) hg);obtain⟨g',c',e,_,_,_,_,⟨zuL,qnU⟩,qd,qnR⟩:=Kw HRW.o;injection e with e1' e2' e3';injection e1' with e1';injection e1' with e1';subst e1';have zbD:=qd m vI (by rw[Qn (by rw[HCS.o,HEQ.o.2.1];exact Xz _),HCS.o,HEQ.o.2.1,Nat.sub_self];rfl);have zsK:=qnR m;have HK4:=Lh ((iD.o.trans (Jq.of_grown HM3.o.last hg (by decide))).trans (Ud (k:=m) qnU (by decide) (.slice A8 (alt.length+1) c8)));rw[HEQ.o.2.1] at HM4;clear hown hg qd qnR;generalize ha:Act.put _ _ _=z9;simp[Act.put] at ha;subst ha;refine hQ' _ _ ⟨cU (mZ.o Cn x_.o zbD),?_⟩;refine Zw (i:=12) (by kernel_rfl) rfl (fun Q' hQ'=>?_);go_wp2_with fail;refine⟨Kk (by kernel_rfl),?_⟩;refine Zw (i:=13) (by kernel_rfl) rfl (fun Q' hQ'=>?_);go_wp2_with fail;refine⟨Kk (by kernel_rfl),?_⟩;refine Ew (by kernel_rfl) ?_ _;go_wp2_with fail;go_ret;have b3:=Dd (g:=gA) (k:=m) Ik.o (by have:=HNE.o;omega) (.slice A8 (alt.length+1) c8);have pM:=HB4.o.setCell (p:=⟨gA,m,none⟩) (Yf HNE.o.2.2.2.2) (.slice A8 (alt.length+1) c8);exact⟨true,rfl,pM,HK4.o,.inr ⟨.item done nm alts (alt++[(true,Ki txt)]),rfl,rfl,_,b3,css,_,_,_,_,_,_,HM4.o⟩⟩
 ·subst hk;go_enter Tryz.func269,Tryz.ntmps269;go_wp2_with fail;rw[<-jM];clear jM;generalize w.alloc (.cells #[.int .i64 4,.string (Ki txt),.int .i64 i] 220)=w1 at *;have Vi:=HBR.o w1 Gl.o;have qG:=Mp.o.1;have U_:=Mp.o.2;refine Text.wt (by kernel_rfl) fun Q' hQ'=>?_;go_wp2_with fail;refine⟨by rfl,?_⟩;go_wp2_with fail;refine Text.wt (by kernel_rfl) fun Q' hQ'=>?_;go_wp2_with fail;refine⟨by rfl,?_⟩;have Ei:Hid (w1.drew.drew.heap[R]? = some (.cells #[.slice (some ⟨g,0,none⟩) (done.length+1) c,Ui R (.item done nm alts alt),.bool true] 219 (0,0))):=Gl.o;have Pz:Hid (w1.drew.drew.heap[K0]? = some (.cells #[.int .i64 4,.string (Ki txt),.int .i64 i] 220 (0,0))):=pT.o;have eZ:=Lh (Tn.o.below ((Xr w1.heap.size w1).drew.drew));have HBD:=Lh (HB0.o.drew.drew);have aH:=Lh (qS.o.trans (Jq.of_below ((Xr w1.heap.size w1).drew.drew)));have HCD:Hid (w1.drew.drew.cell? ⟨g,n*2+1,none⟩=some (.slice (some ⟨gA,0,none⟩) M c2)/\w1.drew.drew.cell? ⟨gA,m,none⟩=some vI):=Mp.o;clear Gl pT Tn HB0 qS Mp Vi qG U_;generalize w1.drew.drew=wd at *;have hk0:=(HKR.o wd Pz.o).1;go_wp2_with fail;refine (qcE wd R (R+1) g done.length c (alts.length+1) B1 css.flatten (.string nm) (Ui R (.item done nm alts alt)) (.bool true) (.slice (some ⟨gA,0,none⟩) (alts.length+1) c2) (cA++[vI]) Ei.o eZ.o.lines (dD eZ.o.dn) eZ.o.row (by have h1:=eZ.o.b12;have h2:=eZ.o.b2;omega) (by have:=HEQ.o;omega) (by have:=HEQ.o;omega)).mono ?_;rintro e w4 ⟨rfl,cC,w2,w3,Zy,mA,hown,rfl⟩;have HM2:=Lh (eZ.o.below Zy);have HM3:=Lh (Rk.bar HM2.o (by decide) (by decide) (by decide) hown mA (k:=done.length*2+1) (by omega));have Tu:=Lh ((Zy.block R (gl Ei.o)).trans Ei.o);have Gi:=Lh (Dd (g:=g) (k:=done.length*2+1) (Jd HM2.o.row mA Tu.o (by decide)) (by have:=HNE.o;omega) cC);have HB3:=Lh ((Zr (HBD.o.trans (Zy.mono (Yf (gl Ei.o)))) mA HM2.o.row (by have:=HM2.o.nB;omega) (Yf (gl Tu.o))).setCell (p:=⟨g,done.length*2+1,none⟩) (Yf HNE.o.2.2.2.1) cC);have iD:=Lt (Jq [220] w (w3.setCell ⟨g,done.length*2+1,none⟩ cC)) (by
   obtain⟨g',c',e,_,_,_,_,⟨cur,pK⟩,_⟩:=Kw (Mw HM2.o.lines HM2.o.row (by decide) mA)
   injection e with e
   injection e with e
   injection e with e
   subst e
   exact ((aH.o.trans (.of_below Zy)).trans (.of_grown HM2.o.row mA (by decide))).trans (Ud pK (by decide) cC))
  clear Zy mA hown HM2 Tu aH;generalize w3.setCell ⟨g,done.length*2+1,none⟩ cC=w5 at *;go_wp2_with fail;go_ret;exact⟨true,rfl,HB3.o,iD.o,.inr ⟨.item done nm (alts++[alt]) [],rfl,rfl,_,Gi.o,css,_,_,_,_,_,_,HM3.o⟩⟩
 ·subst hk;go_enter Tryz.func269,Tryz.ntmps269;go_wp2_with fail;rw[<-jM];clear jM;generalize w.alloc (.cells #[.int .i64 5,.string (Ki txt),.int .i64 i] 220)=w1 at *;have Vi:=HBR.o w1 Gl.o;have qG:=Mp.o.1;have U_:=Mp.o.2;refine Text.wt (by kernel_rfl) fun Q' hQ'=>?_;go_wp2_with fail;refine⟨by rfl,?_⟩;go_wp2_with fail;refine Text.wt (by kernel_rfl) fun Q' hQ'=>?_;go_wp2_with fail;refine⟨by rfl,?_⟩;have Ei:Hid (w1.drew.drew.heap[R]? = some (.cells #[.slice (some ⟨g,0,none⟩) (done.length+1) c,Ui R (.item done nm alts alt),.bool true] 219 (0,0))):=Gl.o;have Pz:Hid (w1.drew.drew.heap[K0]? = some (.cells #[.int .i64 5,.string (Ki txt),.int .i64 i] 220 (0,0))):=pT.o;have eZ:=Lh (Tn.o.below ((Xr w1.heap.size w1).drew.drew));have HBD:=Lh (HB0.o.drew.drew);have aH:=Lh (qS.o.trans (Jq.of_below ((Xr w1.heap.size w1).drew.drew)));have HCD:Hid (w1.drew.drew.cell? ⟨g,n*2+1,none⟩=some (.slice (some ⟨gA,0,none⟩) M c2)/\w1.drew.drew.cell? ⟨gA,m,none⟩=some vI):=Mp.o;clear Gl pT Tn HB0 qS Mp Vi qG U_;generalize w1.drew.drew=wd at *;have hk0:=(HKR.o wd Pz.o).1;have r1:wd.cell? ⟨R,1,none⟩=some (Ui R (.item done nm alts alt)):=Xc Ei.o rfl;have r2:wd.cell? ⟨R,2,none⟩=some (.bool true):=Xc Ei.o rfl;have f1:wd.frozen? ⟨R,1,none⟩=false:=by simp[World.frozen?,Ei.o]
  have f2:wd.frozen? ⟨R,2,none⟩=false:=by simp[World.frozen?,Ei.o]
  go_wp2_with fail;go_ret;have hs:=eZ.o.semi;have b2:=Uw (k:=1) Ei.o (Ui R (.name (done++[(nm,alts++[alt])])));have b3:=Uw (k:=2) b2 (.bool false);have m2:=hs.set (k:=1) Ei.o (Yd R) (by decide) (Ui R (.name (done++[(nm,alts++[alt])])));have m3:=m2.set (k:=2) b2 (Yd R) (by decide) (.bool false);have pM:=(HBD.o.setCell (p:=⟨R,1,none⟩) (Xz _) (Ui R (.name (done++[(nm,alts++[alt])])))).setCell (p:=⟨R,2,none⟩) (Xz _) (.bool false);have iA:=(aH.o.trans (Ud (k:=1) Ei.o (by decide) (Ui R (.name (done++[(nm,alts++[alt])]))))).trans (Ud (k:=2) b2 (by decide) (.bool false));exact⟨true,rfl,pM,iA,.inr ⟨.name (done++[(nm,alts++[alt])]),rfl,rfl,_,b3,_,m3⟩⟩
 ·have d1:((k:Int)==1)=false:=by simp;omega
  have d2:((k:Int)==2)=false:=by simp;omega
  have d4:((k:Int)==4)=false:=by simp;omega
  have d5:((k:Int)==5)=false:=by simp;omega
  have HST:=Lt (To (.item done nm alts alt) (k,txt,i)=none) (by
   show (if k=1\/k=2 then _ else if k=4 then _ else if k=5 then _ else none)=none
   rw[if_neg (by omega),if_neg k4,if_neg k5])
  go_enter Tryz.func269,Tryz.ntmps269;go_wp2_with fail;rw[<-jM];clear jM;generalize w.alloc (.cells #[.int .i64 k,.string (Ki txt),.int .i64 i] 220)=w1 at *;have Vi:=HBR.o w1 Gl.o;have qG:=Mp.o.1;have U_:=Mp.o.2;refine Text.wt (by kernel_rfl) fun Q' hQ'=>?_;go_wp2_with fail;refine⟨by rfl,?_⟩;go_wp2_with fail;refine Text.wt (by kernel_rfl) fun Q' hQ'=>?_;go_wp2_with fail;refine⟨by rfl,?_⟩;have Ei:Hid (w1.drew.drew.heap[R]? = some (.cells #[.slice (some ⟨g,0,none⟩) (done.length+1) c,Ui R (.item done nm alts alt),.bool true] 219 (0,0))):=Gl.o;have Pz:Hid (w1.drew.drew.heap[K0]? = some (.cells #[.int .i64 k,.string (Ki txt),.int .i64 i] 220 (0,0))):=pT.o;have eZ:=Lh (Tn.o.below ((Xr w1.heap.size w1).drew.drew));have HBD:=Lh (HB0.o.drew.drew);have aH:=Lh (qS.o.trans (Jq.of_below ((Xr w1.heap.size w1).drew.drew)));have HCD:Hid (w1.drew.drew.cell? ⟨g,n*2+1,none⟩=some (.slice (some ⟨gA,0,none⟩) M c2)/\w1.drew.drew.cell? ⟨gA,m,none⟩=some vI):=Mp.o;clear Gl pT Tn HB0 qS Mp Vi qG U_;generalize w1.drew.drew=wd at *;have hk0:=(HKR.o wd Pz.o).1;go_wp2_with fail;go_ret;exact⟨false,rfl,HBD.o,aH.o,.inl ⟨HST.o,rfl⟩⟩
theorem qdE{l:Wd}{t:Nat×Wd×Nat}(h:Sm l=.ok t):t.2.1.length<=32:=by
 cases l with
 |nil=>cases h
 |cons c r =>
  change Ol c r=_ at h;unfold Ol at h
  repeat' split at h
  all_goals first
   |(cases h;done)
   |(injection h with h;subst h;show List.length _<=32;first | (simp;done) | (rw[Qq];omega))
def qvZ(s:Wd)(st:Nat×List Un):Prop:=st.2.length<=st.1/\st.2.length<=s.length/\∀ t∈st.2,t.2.1.length<=32
theorem qsY{s:Wd}{a b:Nat×List Un}(h:Rq s a=some b)(ha:qvZ s a):qvZ s b:=by
 have Jo:=(ld h);obtain⟨h1,h2,h3⟩:=ha;unfold Rq at h;split at h
 ·cases h
 ·split at h
  ·injection h with h;subst h;exact⟨Nat.le_succ_of_le h1,h2,h3⟩
  ·split at h
   ·injection h with h;subst h;exact⟨Ya h1 (Nat.le_add_right _ _),h2,h3⟩
   ·split at h
    ·rename_i t ht;injection h with h;subst h;have hp:=kU ht;refine⟨?_,?_,fun x hx=>?_⟩
     ·rw[Qe,Qf];omega
     ·rw[Qe,Qf];omega
     ·rcases Qh.1 hx with hx | hx
      ·exact h3 x hx
      ·rw[Qi.1 hx];show t.2.1.length<=32;exact qdE ht
    ·cases h
theorem qkW{s:Wd}:∀(f:Nat)(a:Nat×List Un),qvZ s a->qvZ s (xc s f a)
 |0,_,h=>h
 |f+1,a,h=>by
  unfold xc;split
  ·exact h
  ·rename_i b hb;exact qkW f b (qsY hb h)
theorem qmG(s:Wd):(Lo s).1.length<=65536/\∀ t∈(Lo s).1,t.2.1.length<=32:=by
 unfold Lo;split
 ·exact⟨Ye _,fun t ht=>by cases ht⟩
 ·rename_i hl;have hs:=qkW s.length (0,[]) (s:=s) ⟨Xz _,Ye _,fun t ht=>by cases ht⟩;unfold I_;split
  ·exact⟨by have:=hs.2.1;simp only;omega,hs.2.2⟩
  ·split <;> exact⟨Ye _,fun t ht=>by cases ht⟩
theorem vj{l:List Un}{k:Nat}(h:k<l.length):(Bh l)[k*3]? = some (.int .i64 l[k].1)/\(Bh l)[k*3+1]? = some (.string (Ki l[k].2.1))/\(Bh l)[k*3+2]? = some (.int .i64 l[k].2.2):=by
 have hg:(l.map pC)[k]? = some (pC l[k]):=by rw[Qv,Qa h];rfl
 have hl:∀ cs∈l.map pC,cs.length=3:=fun cs yA=>by obtain⟨t,_,rfl⟩:=Xa.1 yA;rfl
 have h0:=Lr 3 (l.map pC) hl k 0 (pC l[k]) (.int .i64 l[k].1) hg rfl;have h1:=Lr 3 (l.map pC) hl k 1 (pC l[k]) (.string (Ki l[k].2.1)) hg rfl;have h2:=Lr 3 (l.map pC) hl k 2 (pC l[k]) (.int .i64 l[k].2.2) hg rfl;exact⟨h0,h1,h2⟩
theorem qkQ{k:Nat}{st st':PSt}{t:Un}(h:To st t=some st')(hs:qpW k st):qpW (k+1) st':=by
 cases st with
 |name done =>
  change (if t.1=1 then some (PSt.colon done (Ki t.2.1)) else none)=some st' at h
  split at h
  ·injection h with h;subst h;exact Nat.succ_le_succ hs
  ·cases h
 |colon done nm =>
  change (if t.1=3 then some (PSt.item done nm [] []) else none)=some st' at h
  split at h
  ·injection h with h;subst h;exact⟨Nat.le_succ_of_le hs,Ye _,Ye _⟩
  ·cases h
 |item done nm alts alt =>
  obtain⟨h1,h2,h3⟩:=hs;change (if t.1=1\/t.1=2 then some (PSt.item done nm alts (alt++[(decide (t.1=2),Ki t.2.1)])) else if t.1=4 then some (PSt.item done nm (alts++[alt]) []) else if t.1=5 then some (PSt.name (done++[(nm,alts++[alt])])) else none)=some st' at h
  split at h
  ·injection h with h;subst h;exact⟨by omega,by omega,by rw[Qe,Qf];omega⟩
  ·split at h
   ·injection h with h;subst h;exact⟨by omega,by rw[Qe,Qf];omega,Ye _⟩
   ·split at h
    ·injection h with h;subst h;show List.length _<=_;rw[Qe,Qf];omega
    ·cases h
theorem kx(l:Wd):(Ki l).size=l.length:=by
 show l.toArray.size=_;simp
theorem qjY(R:Nat)(st:PSt)(t:Un)(w:World)(h:yI w R st)(hl:qpW 65535 st)(ht:t.2.1.length<=32):Calls Tryz.prog (yR st) #[.pointer (some ⟨R,0,none⟩),.agg #[.int .i64 t.1,.string (Ki t.2.1),.int .i64 t.2.2]] w (ja R st t w):=by
 have hs:(Ki t.2.1).size<=maxLen:=by rw[kx];unfold maxLen;omega
 cases st with
 |name done=>exact qlV R done t.1 t.2.2 t.2.1 w h (by have:done.length<=65535:=hl;omega) hs
 |colon done nm=>exact qhQ R done nm t.1 t.2.2 t.2.1 w h (by have:done.length+1<=65535:=hl;omega)
 |item done nm alts alt =>
  obtain⟨h1,h2,h3⟩:=hl;exact zj R done nm alts alt t.1 t.2.2 t.2.1 w h (by omega) (by omega) (by omega) hs
theorem qcV(st:PSt)(args:Array Value)(w:World):(callFunc (yR st) args).run Tryz.prog w=.ok (.enter (yR st) args) w:=by
 cases st <;> kernel_rfl
def eLn:Lf Vp:=Ra Mc (Ro (Ro (Ra rh Mc)))
def Rm(l:Wd)(w:World)(e:Ending)(w':World):Prop:=∃ v,e=.returned (.tuple #[v,.int .i64 (Tk l).2.1,.int .i64 (Tk l).2.2])/\Jb eLn w' w'.heap.size v (Tk l).1/\Below w.heap.size w w'
theorem Rm.of{l:Wd}{w w':World}{v:Value}{d:List Vp}{i e:Nat}(h:Tk l=(d,i,e))(ho:Jb eLn w' w'.heap.size v d)(hb:Below w.heap.size w w'):Rm l w (.returned (.tuple #[v,.int .i64 i,.int .i64 e])) w':=by
 unfold Rm;rw[h];exact⟨v,rfl,ho,hb⟩
theorem qiE(s:ByteArray)(w:World)(hs:s.size<=maxLen):Calls Tryz.prog 110 #[.string s] w (Rm s.data.toList w):=by
 have Ld:=hs;unfold maxLen at hs;have Cj:=Lh (show s.data.toList.length=s.size by simp);have qO:=Lh (qmG s.data.toList);have HLX:=Lh (zd s w Ld);obtain⟨toks,qi,er,hF⟩:∃ toks qi er,Lo s.data.toList=(toks,qi,er):=⟨_,_,_,rfl⟩;have HF:=Lh hF;rw[hF] at qO;unfold oZ at HLX;rw[hF] at HLX;simp only at qO HLX;clear hF;by_cases her:er=0
 ·subst her;go_enter Tryz.func110,Tryz.ntmps110;go_wp2_with fail;refine HLX.o.mono ?_;rintro e w1 ⟨vT,rfl,hown,hb1⟩;obtain⟨AT,cT,rfl,hT1,hT2⟩:=Zk hown;unfold maxLen at hT2;have HOWN:=Lh hown;have HB1:=Lh hb1;clear hown hb1;obtain⟨n,hn⟩:=Xe toks.length;rw[<-hn] at hT1 HOWN |-;have HN:=Lh hn;clear hn;go_wp2_with fail;obtain⟨R,hR⟩:=Xe w1.heap.size;have HW2:=Lh (Xn w1 (.cells #[.slice none 0 0,Ui R (.name []),.bool false] 219));have HZ2:=Lh (Xs w1 (.cells #[.slice none 0 0,Ui R (.name []),.bool false] 219));have Zy:Below w1.heap.size w1 (w1.alloc (.cells #[.slice none 0 0,Ui R (.name []),.bool false] 219)):=(Xr _ _).alloc (Xz _) _;have zkT:=Lh (Jk HOWN.o Zy);have HB2:=Lh (HB1.o.trans (Zy.mono HB1.o.size));have HRW:=Lh (show w.heap.size<=R by rw[hR];exact HB1.o.size);have HTR:=Lh (show ∀ b off,AT=some ⟨b,off,none⟩->b<R from fun b off e=>by
   rcases HOWN.o.2 with ⟨h0,_⟩ | ⟨g,cap,cur,hv,_,hh,_⟩
   ·injection h0 with h0;rw[e] at h0;cases h0
   ·injection hv with hv
    rw[e] at hv
    injection hv with hv
    injection hv with hv
    rw[hv,hR]
    exact (gl hh))
  rw[<-hR] at HW2 HZ2 |-;clear Zy hR HOWN;change Code.wp _ _ _ _ (w1.alloc (.cells #[.slice none 0 0,Ui R (.name []),.bool false] 219));generalize w1.alloc (.cells #[.slice none 0 0,Ui R (.name []),.bool false] 219)=w2 at *;have HR0:Hid (yI w2 R (.name [])):=⟨_,HW2.o,[],Yx _ _ _ _,Ul.nil _ _ _,by rw[HZ2.o];exact Xz _⟩;have HBW:=Lh (Xr R w2);have HRUN0:Hid (kX (.name []) (toks.take 0)=some (.name [])):=rfl;have HLE0:Hid (qpW 0 (.name [])):=Xz _;go_loopw [30] (fun v30 wr=>∃(k:Nat)(st:PSt),k<=n/\v30=.int .i64 k/\Hid (kX (.name []) (toks.take k)=some st)/\Hid (qpW k st)/\Hid (yI wr R st)/\Hid (Below R w2 wr)) (fun v30 _=>n - (intOf v30).toNat);exact⟨0,.name [],by omega,rfl,HRUN0.o,HLE0.o,HR0.o,HBW.o⟩;clear HR0 HBW HRUN0 HLE0;obtain⟨k,st,hk,rfl,HRUN,HLE,HR,HB⟩:=hrel;by_cases Jo:k<n
  ·have iA:k<toks.length:=by rw[<-HN.o];exact Jo
   have hk5:k<=65535:=by have:=qO.o.1;omega
   obtain⟨t0,t1,t2⟩:=vj iA;obtain⟨bT,oT,hAT,_,hcT⟩:=Rd.of_own zkT.o (fun e=>by rw[e] at t0;simp at t0);have hbR:=HTR.o bT oT hAT;have c0:=(HB.o.cell (p:=⟨bT,oT+k*3,none⟩) hbR).trans (hcT _ _ t0);have c1:=(HB.o.cell (p:=⟨bT,oT+(k*3+1),none⟩) hbR).trans (hcT _ _ t1);have c2:=(HB.o.cell (p:=⟨bT,oT+(k*3+2),none⟩) hbR).trans (hcT _ _ t2);rw[<-Yv] at c1 c2;have qyZ:=Lh (qO.o.2 toks[k] (Qg iA));have z_:Hid (toks.take (k+1)=toks.take k++[toks[k]]):=Qc iA;have Mv:=Lh (fun hb=>xv (len:=s.data.toList.length) iA HRUN.o hb);clear hcT t0 t1 t2;subst hAT;generalize toks[k]=tk at *;clear iA;obtain⟨kd,txt,ti⟩:=tk;simp only at c0 c1 c2 qyZ Mv;obtain⟨vL,Wv,Uz⟩:=HR.o;have zjG:=(gl Wv);have hb3:Below wr.heap.size wr (wr.alloc (.cells #[.int .i64 kd,.string (Ki txt),.int .i64 ti] 220)):=(Xr _ _).alloc (Xz _) _;have Gi:=Lh ((hb3.block R zjG).trans Wv);have HR3:=Lh (HR.o.below hb3);have HB3:=Lh (HB.o.trans (hb3.mono (Yf zjG)));have HTK:=Lh (Xn wr (.cells #[.int .i64 kd,.string (Ki txt),.int .i64 ti] 220));obtain⟨K0,jM⟩:=Xe wr.heap.size;rw[<-jM] at HTK;clear Wv Uz hb3 HR;go_wp2_with fail;rw[<-jM];clear jM c0 c1 c2;generalize wr.alloc (.cells #[.int .i64 kd,.string (Ki txt),.int .i64 ti] 220)=w3 at *;have r1:w3.cell? ⟨R,1,none⟩=some (Ui R st):=Xc Gi.o rfl;have k0:w3.cell? ⟨K0,0,none⟩=some (.int .i64 kd):=Xc HTK.o rfl;have k1:w3.cell? ⟨K0,1,none⟩=some (.string (Ki txt)):=Xc HTK.o rfl;have k2:w3.cell? ⟨K0,2,none⟩=some (.int .i64 ti):=Xc HTK.o rfl;have HW:=Lh (qjY R st (kd,txt,ti) w3.drew (HR3.o.below ((Xr w3.heap.size w3).drew)) (by
    have:=HLE.o
    cases st with
    |name done=>exact Ya this hk5
    |colon done nm=>exact Ya this hk5
    |item done nm alts alt=>exact⟨Ya this.1 hk5,Ya this.2.1 hk5,Ya this.2.2 hk5⟩) qyZ.o)
   have hF:=qcV st;rw[show Ui R st=.func (.func (yR st)) #[.pointer (some ⟨R,0,none⟩)] #[] from rfl] at r1;generalize yR st=F at *;refine Text.wt (by kernel_rfl) fun Q' hQ'=>?_;go_wp2_with fail;refine HW.o.mono ?_;rintro e w4 ⟨b,rfl,hb4,Y_,hst⟩;have HB4:=Lh (HB3.o.drew.trans hb4);rcases hst with ⟨hn,rfl⟩ | ⟨st',hs',rfl,xU⟩
   ·have k4:w4.cell? ⟨K0,2,none⟩=some (.int .i64 ti):=by
     rw[Za _ _ _ _ _ _ (Y_.2 K0 _ _ (by simp) (show w3.drew.heap[K0]? = _ from HTK.o))];rfl
    have Kl:=Lh (show Tk s.data.toList=([],ti,14) by
     unfold Tk
     rw[HF.o,if_neg (by simp)]
     exact Mv.o hn)
    have HBF:=Lh (HB2.o.trans (HB4.o.mono HRW.o));clear hb4 Y_ hn;go_wp2_with fail;refine⟨by rfl,?_⟩;go_wp2_with fail;refine Text.wt (by kernel_rfl) fun Q' hQ'=>?_;go_wp2_with fail;refine⟨by rfl,?_⟩;go_wp2_with fail;refine Ze (results_tmp3 rfl _ _ _) rfl ?_;exact Rm.of Kl.o Jb.nil_ HBF.o.drew
   ·have HR':=Lh xU;have HRUN':=Lh (show kX (.name []) (toks.take (k+1))=some st' by rw[z_.o];exact qdS HRUN.o hs');have HLE':=Lh (qkQ hs' HLE.o);clear hb4 Y_ xU hs';go_wp2_with fail;refine⟨by rfl,?_⟩;go_wp2_with fail;go_roundw;exact⟨k+1,st',by omega,by go_num,HRUN'.o,HLE'.o,HR'.o,HB4.o⟩;simp[intOf];omega
  ·obtain rfl:k=n:=by omega
   have Hb:=Lh (show Tk s.data.toList=goP s.data.toList.length st [] by
    unfold Tk
    rw[HF.o,if_neg (by simp)]
    have h:=HRUN.o
    rw[Qd (by rw[<-HN.o];exact Xz _)] at h
    exact xu h)
   rw[Cj.o] at Hb;have HBF:=Lh (HB2.o.trans (HB.o.mono HRW.o));cases st with
   |name done =>
    obtain⟨vL,Wv,css,Uz⟩:=HR.o;obtain⟨AL,cL,rfl,hL1,hL2⟩:=Zk Uz.lines;have r0:wr.cell? ⟨R,0,none⟩=some (.slice AL done.length cL):=Xc Wv rfl;have r2:wr.cell? ⟨R,2,none⟩=some (.bool false):=Xc Wv rfl;have HSL:Hid (Jb eLn wr wr.heap.size (.slice AL done.length cL) done):=Uz.sl;clear Wv Uz HR;by_cases hd:done=[]
    ·have Kl:Hid (Tk s.data.toList=([],s.size,14)):=Hb.o.trans (if_pos hd);subst hd;go_wp2_with fail;refine Ze (results_tmp3 rfl _ _ _) rfl ?_;exact Rm.of Kl.o Jb.nil_ HBF.o
    ·have Kl:Hid (Tk s.data.toList=(done,0,0)):=Hb.o.trans (if_neg hd);have Dh:((done.length:Int)==0)=false:=by
      have:=Qy.2 hd;simp;exact hd
     go_wp2_with fail;refine Ze (results_tmp3 rfl _ _ _) rfl ?_;exact Rm.of Kl.o HSL.o HBF.o
   |colon done nm =>
    obtain⟨vL,Wv,_⟩:=HR.o;have r2:wr.cell? ⟨R,2,none⟩=some (.bool true):=Xc Wv rfl;have Kl:Hid (Tk s.data.toList=([],s.size,14)):=Hb.o;clear Wv;go_wp2_with fail;refine Ze (results_tmp3 rfl _ _ _) rfl ?_;exact Rm.of Kl.o Jb.nil_ HBF.o
   |item done nm alts alt =>
    obtain⟨vL,Wv,_⟩:=HR.o;have r2:wr.cell? ⟨R,2,none⟩=some (.bool true):=Xc Wv rfl;have Kl:Hid (Tk s.data.toList=([],s.size,14)):=Hb.o;clear Wv;go_wp2_with fail;refine Ze (results_tmp3 rfl _ _ _) rfl ?_;exact Rm.of Kl.o Jb.nil_ HBF.o
 ·have g0:((er:Int) != 0)=true:=by simp;omega
  have Kl:=Lh (show Tk s.data.toList=([],qi,er) by
   unfold Tk
   rw[if_pos (by rw[HF.o];exact her),HF.o])
  go_enter Tryz.func110,Tryz.ntmps110;go_wp2_with fail;refine HLX.o.mono ?_;rintro e w1 ⟨vT,rfl,hown,hb1⟩;have HB1:=Lh hb1;clear hown hb1;go_wp2_with fail;refine Ze (results_tmp3 rfl _ _ _) rfl ?_;exact Rm.of Kl.o Jb.nil_ HB1.o
theorem uO{w:World}{B:Nat}{cs:List Value}{x:Vp}(h:eLn.rep w B cs x):∃ v,cs=[.string x.1,v]/\x.1.size<=maxLen/\Jb (Ro (Ra rh Mc)) w B v x.2:=by
 obtain⟨c1,c2,rfl,⟨rfl,h1⟩,v,rfl,hs⟩:=h;exact⟨v,rfl,h1,hs⟩
def Sw(l:List Vp):Nat:=(l.map fun x=>x.2.length).sum
def iZ(l:List Vp):Bool:=l.any fun x=>x.2.any fun a=>decide (64<a.length)
theorem bi(l:List Vp):Ca l=(iZ l||decide (4096<Sw l)||decide (256<l.length)):=rfl
theorem vF(l:List Vp){k:Nat}(h:k<l.length):Sw (l.take (k+1))=Sw (l.take k)+l[k].2.length:=by
 unfold Sw;rw[Qc h,Qt,List.sum_append];simp
theorem za(l:List Vp){k:Nat}(h:k<l.length):iZ (l.take (k+1))=(iZ (l.take k)||l[k].2.any fun a=>decide (64<a.length)):=by
 unfold iZ;rw[Qc h,List.any_append];simp
theorem qeZ(l:List Vp){k:Nat}(h:k<l.length)(ha:(l[k].2.any fun a=>decide (64<a.length))=true):iZ l=true:=by
 unfold iZ;rw[Xq];exact⟨l[k],Qg h,ha⟩
theorem qgW(v:Value)(l:List Vp)(w:World)(h:Jb eLn w w.heap.size v l)(hn:l.length<=1048576)(Tq:∀ x∈l,x.2.length<=1048576) :
  Calls Tryz.prog 174 #[v] w fun e w'=>e=.returned (.bool (Ca l))/\Below w.heap.size w w':=by
 obtain⟨A1,c1,rfl,kP,oN⟩:=h.form;unfold maxLen at oN;have H:=Lh h;have wS:=Lh Tq;clear h Tq;obtain⟨n,hn'⟩:=Xe l.length;rw[<-hn'] at H kP hn |-;have HN:=Lh hn';clear hn';have HGR:=Lh (bi l);go_enter Tryz.func174,Tryz.ntmps174;go_wp2_with fail;have H0:Hid (Sw (l.take 0)=0/\iZ (l.take 0)=false):=⟨rfl,rfl⟩;have HB0:=Lh (Xr w.heap.size w);go_loopw [3,10] (fun v3 v10 wr=>∃ k m:Nat,k<=n/\m<=k*1048576/\v3=.int .i64 m/\v10=.int .i64 k/\Hid (Sw (l.take k)=m)/\Hid (iZ (l.take k)=false)/\Hid (Below w.heap.size w wr)) (fun _ v10 _=>n - (intOf v10).toNat);exact⟨0,0,by omega,by omega,rfl,rfl,H0.o.1,H0.o.2,HB0.o⟩;clear H0 HB0;obtain⟨k,m,hk,hm,rfl,rfl,HM,HL,HB⟩:=hrel;by_cases Jo:k<n
 ·have Dl:k<l.length:=by rw[<-HN.o];exact Jo
  obtain⟨b,off,cs,rfl,_,_,Zt,Zj⟩:=(H.o.below HB.o).get Dl (by decide);obtain⟨v2,rfl,_,Uv⟩:=uO Zt;obtain⟨A2,c2,rfl,Tc,fY⟩:=Uv.form;unfold maxLen at fY;have xT:=Zj 0 _ rfl;have Oi:=Zj 1 _ rfl;simp only[show eLn.size=2 from rfl,Yo,<-Yv] at xT Oi;have HS1:=Lh (vF l Dl);have HS2:=Lh (za l Dl);have HS3:=Lh (qeZ l Dl);have jz:=wS.o l[k] (Qg Dl);have HSL:=Lh (Uv.below ((Xr w.heap.size wr).alloc HB.o.size (.cells #[.string l[k].1,.slice A2 l[k].2.length c2] 227)));have HBX:=Lh (HB.o.alloc HB.o.size (.cells #[.string l[k].1,.slice A2 l[k].2.length c2] 227));clear Zj Uv Zt;generalize l[k]=x at *;obtain⟨nm,al⟩:=x;simp only at xT Oi HS1 HS2 HS3 jz HSL HBX Tc;obtain⟨p,hp⟩:=Xe al.length;rw[<-hp] at Oi HS1 jz HSL HBX Tc;have HP:=Lh hp;clear hp Dl;go_wp2_with fail;generalize wr.alloc (.cells #[.string nm,.slice A2 p c2] 227)=wx at *;have HQ0:Hid (∀(j:Nat)(h:j<al.length),j<0->¬ 64<al[j].length):=fun j _ h=>by omega
  have HBY:=Lh (Xr wx.heap.size wx);go_loopw [22] (fun v22 wy=>∃ j:Nat,j<=p/\v22=.int .i64 j/\Hid (∀(i:Nat)(h:i<al.length),i<j->¬ 64<al[i].length)/\Hid (Below wx.heap.size wx wy)) (fun v22 _=>p - (intOf v22).toNat);exact⟨0,by omega,rfl,HQ0.o,HBY.o⟩;clear HQ0 HBY;obtain⟨j,hj,rfl,HQ,HBY⟩:=hrel;by_cases Uh:j<p
  ·have hja:j<al.length:=by rw[<-HP.o];exact Uh
   obtain⟨b7,o7,cs,rfl,_,_,Zt,Zj⟩:=(HSL.o.below (HBY.o.mono HBX.o.size)).get hja (by decide);obtain⟨v7,rfl,hs7⟩:=Zt;obtain⟨A7,c7,rfl,hl7,hl8⟩:=hs7.form;unfold maxLen at hl8;have hc7:=Zj 0 _ rfl;simp only[show (Ro (Ra rh Mc)).size=1 from rfl,Yq,Yo] at hc7;clear Zj hs7;by_cases h64:64<al[j].length
   ·have zdP:=Lh (show Ca l=true by
     rw[HGR.o,HS3.o (Xq.2 ⟨al[j],Qg hja,by simpa using h64⟩)];rfl)
    have g0:decide ((64:Int)<(al[j].length:Int))=true:=by simp;omega
    generalize al[j]=a at *;generalize a.length=q at *;clear h64;go_wp2_with fail;go_ret;exact⟨Kd (Zm zdP.o.symm),HBX.o.trans (HBY.o.mono HBX.o.size)⟩
   ·have g0:decide ((64:Int)<(al[j].length:Int))=false:=by simp;omega
    have HQ':=Lh (show ∀(i:Nat)(h:i<al.length),i<j+1->¬ 64<al[i].length from fun i h hi=>by
     by_cases e:i=j
     ·subst e;exact h64
     ·exact HQ.o i h (by omega))
    generalize al[j]=a at *;generalize a.length=q at *;clear h64;go_wp2_with fail;go_roundw;exact⟨j+1,by omega,by go_num,HQ'.o,HBY.o⟩;simp[intOf];omega
  ·obtain rfl:j=p:=by omega
   have HL':=Lh (show iZ (l.take (k+1))=false by
    rw[HS2.o,HL.o,Yr,List.any_eq_false]
    intro a ha
    obtain⟨i,hi,rfl⟩:=Qz ha
    have:=HQ.o i hi (by rw[HP.o];exact hi)
    simpa using this)
   have HM':=Lh (show Sw (l.take (k+1))=m+j by rw[HS1.o,HM.o]);have HBZ:=Lh (HBX.o.trans (HBY.o.mono HBX.o.size));go_wp2_with fail;go_roundw;exact⟨k+1,m+j,by omega,by omega,by go_num,by go_num,HM'.o,HL'.o,HBZ.o⟩;simp[intOf];omega
 ·obtain rfl:k=n:=by omega
  have HTK:Hid (l.take k=l):=Qd (by rw[<-HN.o];exact Xz _);rw[HTK.o] at HM HL;have Kl:=Lh (show Ca l=(decide (4096<m)||decide (256<k)) by rw[HGR.o,HL.o,HM.o,<-HN.o,Yr]);by_cases h1:4096<m
  ·have g1:decide ((4096:Int)<(m:Int))=true:=by simp;omega
   have HR1:=Lh (Kl.o.trans (show _=true by rw[Yt h1,Bool.true_or]));clear h1;go_wp2_with fail;go_ret;exact⟨Kd (Zm HR1.o.symm),HB.o⟩
  ·have g1:decide ((4096:Int)<(m:Int))=false:=by simp;omega
   have HR1:=Lh (Kl.o.trans (by rw[Yu h1,Yr]:_=decide (256<k)));have HR2:=Lh (show decide ((256:Int)<(k:Int))=decide (256<k) by rw[decide_eq_decide];omega);clear h1;go_wp2_with fail;go_ret;exact⟨Kd (Zm (by rw[HR1.o];first | exact HR2.o | (simp;done) | rfl)),HB.o⟩
def Gg:Lf (Int×Int):=Ra Vh Vh
theorem eT(s:ByteArray)(c:Nat):∀(j:Nat)(u:Value),(Re s.data.toList)[j]? = some u->(bytesRow s c)[j]? = some u:=by
 intro j u hu;have hj:j<s.data.size:=by
  have:=(Qj.1 hu).1;rw[eY] at this;simpa using this
 rw[bytesRow_at s c j hj];unfold Re at hu;rw[Qv,Qa (by simpa using hj)] at hu;simpa[sq] using hu
theorem qoV{P:Program}(w:World)(src dst e:TypeId)(s:ByteArray)(hs:P.underlying src=some .string)(hd:P.underlying dst=some (.slice e))(he:P.underlying e=some (.int .u8)) :
  ∃ w' c,(convert src dst (.string s)).run P w=.ok (.slice (some ⟨w.heap.size,0,none⟩) s.size c) w'/\Below w.heap.size w w'/\w'.heap.size=w.heap.size+1/\Rd w' (w.heap.size+1) (some ⟨w.heap.size,0,none⟩) (Re s.data.toList):=by
 refine⟨_,_,run_bytes_of_string w src dst e s hs hd he,((Xr _ _).drew).alloc (Xz _) _,by simp,?_⟩;have Zj:=Rd.row (w:=w.drew.alloc (.cells (bytesRow s (grownCap w s.size 0 e)) e ((bytesRow s (grownCap w s.size 0 e)).size,(bytesRow s (grownCap w s.size 0 e)).size+1))) (B:=w.heap.size+1) (g:=w.heap.size) (heap_alloc_new w.drew _) (Yd _);intro hne;obtain⟨b,off,e1,hb,hc⟩:=Zj (by
  intro e1
  cases hl:Re s.data.toList with
  |nil=>exact hne hl
  |cons u r =>
   have:=eT s (grownCap w s.size 0 e) 0 u (by rw[hl];rfl)
   rw[<-Array.getElem?_toList,e1] at this
   cases this)
 refine⟨b,off,e1,hb,fun j u hu=>hc j u ?_⟩;rw[Array.getElem?_toList];exact eT s _ j u hu
end Go.Proofs.YtmaojnmnbpomeaaGreatDoor
