/- A part. -/
import Derived.Test.YtmaojnmnbpomeaaGreatDoorVN01
import Derived.Test.YtmaojnmnbpomeaaGreatDoorChecked
import Derived.Lib.SlicesCompact
set_option maxRecDepth 100000
set_option maxHeartbeats 64000000
namespace Go.Proofs.YtmaojnmnbpomeaaGreatDoor.Text
open Go Go.RowKit
variable{a a':Act}{K K':Act->World->Prop}{Q Q':Exit->Act->World->Prop}{c i:Nat}{cl:Nat->Nat}{d dst:Option Tmp}{t:TypeId}{v v':Value}{w w' w1:World}
variable {P:Program} {ops:Array Oper} {w0:World}
def YOld(P:Program)(ops:Array Oper)(w0:World)(o:Oper)(v:Value)(a:Act):Prop :=
 (Region.wanted o (yielded ops a.tmps)=true/\∀w,Below w0.heap.size w0 w->(execOp a.eval o).run P w=.ok (.value v) w)\/(Region.wanted o (yielded ops a.tmps)=false/\v=undef)
theorem yold_keep{o:Oper}(Ug:∀cs b,o.op≠.select cs b)(h1:∀t,d=some t->t∉o.looksAt ops)(hs:Im a a' d) :
  YOld P ops w0 o v a↔YOld P ops w0 o v a':=by
 obtain⟨u,ds,rfl⟩:=hs;have e1:execOp (({ a with defers:=ds }:Act).put d u).eval o=execOp a.eval o:=(execOp_put (ops:=ops) o Ug _ d u h1).trans rfl;have e2:Region.wanted o (yielded ops (({ a with defers:=ds }:Act).put d u).tmps)=Region.wanted o (yielded ops a.tmps):=wanted_put o _ d u h1;unfold YOld;rw[e1,e2]
theorem yold_one{o:Oper}(h:YOld P ops w0 o v a)(h':YOld P ops w0 o v' a):v=v':=by
 rcases h with ⟨hw,h⟩|⟨hw,rfl⟩ <;> rcases h' with ⟨eh,h'⟩|⟨eh,rfl⟩
 .have:=(h w0 (Xr _ _)).symm.trans (h' w0 (Xr _ _));injection this with h1 _;injection h1
 .rw[hw]at eh;cases eh
 .rw[hw]at eh;cases eh
 rfl
def Yc(P:Program)(ops:Array Oper)(w0:World)(c:Nat)(o:Oper)(v:Value)(a:Act):Prop:=if c=0 then Yields P ops o v a else YOld P ops w0 o v a
theorem yc_keep{o:Oper}(Ug:∀cs b,o.op≠.select cs b)(h1:∀t,d=some t->t∉o.looksAt ops)(hs:Im a a' d) :
  Yc P ops w0 c o v a↔Yc P ops w0 c o v a':=by
 unfold Yc;split
 .exact Fe Ug h1 hs
 exact yold_keep Ug h1 hs
theorem yc_one{o:Oper}(h:Yc P ops w0 c o v a)(h':Yc P ops w0 c o v' a):v=v':=by
 unfold Yc at h h';split at h
 .rename_i hc;rw[if_pos hc]at h';exact gY w0 h h'
 rename_i hc;rw[if_neg hc]at h';exact yold_one h h'
def stG(P:Program)(ops:Array Oper)(w0:World)(c:Nat)(o:Oper)(K:Act->World->Prop)(a:Act)(w:World):Prop :=
 if c<=1 then ∃v,Yc P ops w0 c o v a/\K (a.put o.dst v) w
 else if Region.wanted o (yielded ops a.tmps)=true then o.wp P a w (fun a' w'=>(c=3->Below w0.heap.size w0 w')/\K a' w') xx else K (a.put o.dst undef) w
theorem stG_mono{o:Oper}(h:∀a w,K a w->K' a w)(hh:stG P ops w0 c o K a w):stG P ops w0 c o K' a w:=by
 unfold stG at*;split at hh
 .rename_i hc;rw[if_pos hc];obtain⟨v,h1,h2⟩:=hh;exact⟨v,h1,h _ _ h2⟩
 rename_i hc;rw[if_neg hc];split at hh
 .rename_i hw;rw[if_pos hw];exact Oper.wp_mono (fun a w hk=>⟨hk.1,h _ _ hk.2⟩) hh
 rename_i hw;rw[if_neg hw];exact h _ _ hh
theorem stG_some{o:Oper}(hh:stG P ops w0 c o K a w):∃a' w',Im a a' o.dst/\K a' w':=by
 unfold stG at hh;split at hh
 .obtain⟨v,_,h⟩:=hh;exact⟨_,_,Jm _ _ _,h⟩
 split at hh
 .obtain⟨a',w',hs,_,hk⟩:=Br kW hh;exact⟨a',w',hs,hk⟩
 exact⟨_,_,Jm _ _ _,hh⟩
theorem stG_put{o:Oper}
  (Ug:∀cs b,o.op≠.select cs b) (h1:∀d,dst=some d->d∉o.looksAt ops) (h2:∀d,dst=some d->o.dst≠some d)
  (hK:∀a' w',Im a a' o.dst->K a' w'->K' (a'.put dst v) w') (hh:stG P ops w0 c o K a w):stG P ops w0 c o K' (a.put dst v) w:=by
 unfold stG at*;split at hh
 .rename_i hc;rw[if_pos hc];obtain⟨u,hy,h⟩:=hh;refine⟨u,(yc_keep Ug h1 (Jm a dst v)).1 hy,?_⟩;rw[Act.put_comm a v u h2];exact hK _ _ (Jm _ _ _) h
 rename_i hc;rw[if_neg hc,wanted_put o a dst v h1];split at hh
 .rename_i hw;rw[if_pos hw];exact nD Ug h1 h2 (fun a' w' hs hk=>⟨hk.1,hK _ _ hs hk.2⟩) hh
 rename_i hw;rw[if_neg hw,Act.put_comm a v undef h2];exact hK _ _ (Jm _ _ _) hh
theorem stG_unput{o:Oper}
  (Ug:∀cs b,o.op≠.select cs b) (h1:∀d,dst=some d->d∉o.looksAt ops) (h2:∀d,dst=some d->o.dst≠some d)
  (hK:∀a' w',Im a a' o.dst->K (a'.put dst v) w'->K' a' w') (hh:stG P ops w0 c o K (a.put dst v) w):stG P ops w0 c o K' a w:=by
 unfold stG at*;split at hh
 .rename_i hc;rw[if_pos hc];obtain⟨u,hy,h⟩:=hh;refine⟨u,(yc_keep Ug h1 (Jm a dst v)).2 hy,?_⟩;rw[Act.put_comm a v u h2]at h;exact hK _ _ (Jm _ _ _) h
 rename_i hc;rw[if_neg hc];rw[wanted_put o a dst v h1]at hh;split at hh
 .rename_i hw;rw[if_pos hw];exact iC Ug h1 h2 (fun a' w' hs hk=>⟨hk.1,hK _ _ hs hk.2⟩) hh
 rename_i hw;rw[if_neg hw];rw[Act.put_comm a v undef h2]at hh;exact hK _ _ (Jm _ _ _) hh
theorem swapG{cx cy:Nat}{x y:Oper}(Be:∀cs b,x.op≠.select cs b)(hsy:∀cs b,y.op≠.select cs b)
  (hap:x.apart ops y=true) (hc:cx<=1\/cy<=1) (h:stG P ops w0 cx x (stG P ops w0 cy y K) a w):stG P ops w0 cy y (stG P ops w0 cx x K) a w:=by
 obtain⟨p1,p2,p3⟩:=Oper.apart_spec hap;have p2':∀d,y.dst=some d->x.dst≠some d:=fun d hd hx=>p2 d hx hd;rcases hc with hx|hy
 .have h':=h;unfold stG at h';rw[if_pos hx]at h';obtain⟨v,hv,h2⟩:=h';refine stG_unput hsy p1 p2 (fun a' w' hs hk=>?_) h2;unfold stG;rw[if_pos hx];exact⟨v,(yc_keep Be p3 hs).1 hv,hk⟩
 obtain⟨a1,w1,hs,hst⟩:=stG_some h;unfold stG at hst;rw[if_pos hy]at hst;obtain⟨v,hv,_⟩:=hst;have mw:=(yc_keep hsy p1 hs).2 hv;have goal:stG P ops w0 cx x K (a.put y.dst v) w:=stG_put Be p3 p2' (fun a' w' hs' hk=>by
  unfold stG at hk
  rw[if_pos hy]at hk
  obtain⟨v',hv',hk⟩:=hk
  have:=yc_one hv' ((yc_keep hsy p1 hs').1 mw)
  subst this
  exact hk) h
 unfold stG;rw[if_pos hy];exact⟨v,mw,goal⟩
def wpG(P:Program)(ops:Array Oper)(w0:World)(cl:Nat->Nat)(Q:Act->World->Prop):List Nat->Act->World->Prop
 |[],a,w=>Q a w
 |i::r,a,w=>match ops[i]? with
  |none=>wpG P ops w0 cl Q r a w
  |some o=>stG P ops w0 (cl i) o (wpG P ops w0 cl Q r) a w
def fB(ops:Array Oper)(cl:Nat->Nat)(i j:Nat):Bool :=
 match ops[i]?,ops[j]? with
 |some x,some y=>x.apart ops y&&(decide (cl i<=1)||decide (cl j<=1))
 |_,_=>true
theorem frontG{cl:Nat->Nat}{Q:Act->World->Prop}(Ug:Region.noSelect ops=true)(i:Nat)(l2:List Nat):∀(l1:List Nat)(a:Act)(w:World),(∀x∈l1,fB ops cl x i=true) ->
  wpG P ops w0 cl Q (l1++i::l2) a w->wpG P ops w0 cl Q (i::(l1++l2)) a w
 |[],_,_,_,h=>h
 |x::l1,a,w,hc,h=>by
  have hx:=hc x (by simp);have ih:=fun a w=>frontG (cl:=cl) (Q:=Q) Ug i l2 l1 a w (fun y hy=>hc y (by simp[hy]));cases hox:ops[x]? with
  |none =>
   have h':wpG P ops w0 cl Q (l1++i::l2) a w:=by simpa[wpG,hox]using h
   have:=ih a w h';unfold wpG at this |-;split at this
   .simpa[wpG,hox]using this
   exact stG_mono (fun a w hh=>by simpa[wpG,hox]using hh) this
  |some ox =>
   have h1:stG P ops w0 (cl x) ox (wpG P ops w0 cl Q (l1++i::l2)) a w:=by simpa[wpG,hox]using h
   have h2:=stG_mono ih h1;cases hoi:ops[i]? with
   |none=>simpa[wpG,hox,hoi]using h2
   |some oi =>
    simp only[fB,hox,hoi,Ym,Yu,Yk]at hx;have h3:stG P ops w0 (cl x) ox (stG P ops w0 (cl i) oi (wpG P ops w0 cl Q (l1++l2))) a w:=by simpa[wpG,hoi]using h2
    have h4:=swapG (fun cs b=>Region.noSelect_spec Ug x ox cs b hox) (fun cs b=>Region.noSelect_spec Ug i oi cs b hoi) hx.1 hx.2 h3;have h5:stG P ops w0 (cl i) oi (wpG P ops w0 cl Q (x::(l1++l2))) a w:=stG_mono (fun a w hh=>by simpa[wpG,hox]using hh) h4;simpa[wpG,hoi]using h5
def jo(ops:Array Oper)(cl:Nat->Nat):Bool :=
 let m:=dm ops.toList []
 (List.range ops.size).all fun i=>(List.range i).all fun x=>(m.getD i 0).testBit x||fB ops cl x i
def dz(ops:Array Oper)(cl:Nat->Nat):Bool :=
 let m:=dm ops.toList []
 (List.range ops.size).all fun j=>cl j != 2||(List.range ops.size).all fun i=>cl i != 1||(m.getD j 0).testBit i
theorem qB(h:jo ops cl=true){x:Nat}(hi:i<ops.size)(hx:x<i):Dep ops i x\/fB ops cl x i=true:=by
 have h1:=Xq.1 h i (Ya.2 hi);have h2:=Xq.1 h1 x (Ya.2 hx);rw[Yu]at h2;rcases h2 with h2|h2
 .exact .inl (Hj ops.toList [] (by simp) (fun i x hi=>absurd hi (by simp)) i x h2)
 exact .inr h2
theorem Hm(h:dz ops cl=true){j:Nat}(hi:i<ops.size)(hj:j<ops.size)(ci:cl i=1)(cj:cl j=2):Dep ops j i:=by
 have h1:=Xq.1 h j (Ya.2 hj);rw[cj]at h1;simp only[bne_self_eq_false,Yt]at h1;have h2:=Xq.1 h1 i (Ya.2 hi);rw[ci]at h2;simp only[bne_self_eq_false,Yt]at h2;exact Hj ops.toList [] (by simp) (fun i x hi=>absurd hi (by simp)) j i h2
theorem wpOp_of_stG{o:Oper}(hc3:c<=3)(ho:ops[i]?=some o)(hold:c=1->Below w0.heap.size w0 w)
  (h:stG P ops w0 c o K a w):wpOp P ops Q i (fun a' w'=>(c≠2->Below w0.heap.size w0 w->Below w0.heap.size w0 w')/\K a' w') a w:=by
 unfold wpOp;simp only[ho];unfold stG at h;split at h
 .rename_i hc;obtain⟨v,hy,hk⟩:=h;unfold Yc at hy;split at hy
  .rcases hy with ⟨hw,hv⟩|⟨hw,rfl⟩
   .rw[if_pos hw];left;unfold Oper.wp;rw[hv w];exact⟨fun _ hb=>hb,hk⟩
   rw[if_neg (by simp[hw])];exact⟨fun _ hb=>hb,hk⟩
  rename_i Vn;rcases hy with ⟨hw,hv⟩|⟨hw,rfl⟩
  .rw[if_pos hw];left;unfold Oper.wp;rw[hv w (hold (by omega))];exact⟨fun _ hb=>hb,hk⟩
  rw[if_neg (by simp[hw])];exact⟨fun _ hb=>hb,hk⟩
 rename_i hc;split at h
 .rename_i hw;rw[if_pos hw];left;have h':o.wp P a w (fun a' w'=>(c≠2->Below w0.heap.size w0 w->Below w0.heap.size w0 w')/\K a' w') xx\/c≠2/\c≠3:=by
   by_cases h3:c=3
   .exact .inl (Oper.wp_mono (fun a w hk=>⟨fun _ _=>hk.1 h3,hk.2⟩) h)
   by_cases h2:c=2
   .exact .inl (Oper.wp_mono (fun a w hk=>⟨fun hn=>absurd h2 hn,hk.2⟩) h)
   exact .inr ⟨h2,h3⟩
  rcases h' with h'|⟨h2,h3⟩
  .unfold Oper.wp at*;generalize (execOp a.eval o).run P w=r at*;cases r with
   |ok n w' =>
    cases n <;> simp only[Oper.upon]at h' |- <;> first
     |exact h'
     |exact Calls.mono h' fun e w'' he=>by
       cases e with
       |returned u=>exact he
       |panicked c=>exact absurd he id
       |outgrown=>exact absurd he cV
   |halt x w'=>cases x <;> simp only[Oper.upon]at h' |- <;> first|exact h'|exact absurd h' id
  omega
 rename_i hw;rw[if_neg hw];exact⟨fun _ hb=>hb,h⟩
theorem tB{o:Oper}(hno:∀(e:Exit)(a:Act)(w:World),e≠.normal->¬ Q e a w)(Ow:¬ LetsOut Q)(h:o.wp P a w K Q):o.wp P a w K xx:=by
 unfold Oper.wp at*;generalize (execOp a.eval o).run P w=r at*;cases r with
 |ok n w' =>
  cases n <;> simp only[Oper.upon]at h |- <;> first
   |exact h
   |exact Calls.mono h fun e w'' he=>by
     cases e with
     |returned u=>exact he
     |panicked c=>exact absurd he (hno _ _ _ (by simp))
     |outgrown=>exact absurd he Ow
 |halt x w'=>cases x <;> simp only[Oper.upon]at h |- <;> first|exact h|exact absurd h (hno _ _ _ (by simp))
theorem zsD{o:Oper}(hQ:∀e a w,Q e a w->Q' e a w)(h:o.wp P a w K Q):o.wp P a w K Q':=by
 unfold Oper.wp at*;generalize (execOp a.eval o).run P w=r at*;cases r with
 |ok n w' =>
  cases n <;> simp only[Oper.upon]at h |- <;> first
   |exact h
   |exact Calls.mono h fun e w'' he=>by
     cases e with
     |returned u=>exact he
     |panicked c=>exact hQ _ _ _ he
     |outgrown=>obtain⟨a2,w2,h2⟩:=(he:LetsOut Q);exact (⟨a2,w2,hQ _ _ _ h2⟩:LetsOut Q')
 |halt x w'=>cases x <;> simp only[Oper.upon]at h |- <;> first|exact h|exact hQ _ _ _ h
theorem Ap(hQ:∀e a w,Q e a w->Q' e a w):∀(l:List Oper)(a:Act)(w:World),wpList P ops Q l a w->wpList P ops Q' l a w
 |[],a,w,h=>hQ _ _ _ h
 |o::r,a,w,h=>by
  unfold wpList at*;split at h
  .rename_i hw;rw[if_pos hw];rcases h with h|⟨h1,a2,w2,h2⟩
   .exact .inl (zsD hQ (Oper.wp_mono (Ap hQ r) h))
   exact .inr ⟨h1,a2,w2,hQ _ _ _ h2⟩
  rename_i hw;rw[if_neg hw];exact Ap hQ r _ _ h
theorem any_of_G(Ug:Region.noSelect ops=true)(Cu:dR ops=true)(hp:jo ops cl=true)(lI:dz ops cl=true)(hc3:∀i,cl i<=3) :
  ∀(rem:List Nat)(listed:Array Bool)(a:Act)(w:World),listed.size=ops.size->rem.Pairwise (·<·)->(∀j,j∈rem↔j<ops.size/\listed.getD j false=false)->mj ops listed ->
   ((∀j,j<ops.size->cl j=2->listed.getD j false=false)->Below w0.heap.size w0 w) ->
   wpG P ops w0 cl (fun a w=>Q .normal a w) rem a w->wpAny P .any ops Q rem.length listed a w:=by
 intro rem
 induction hn:rem.length generalizing rem with
 |zero =>
  intro listed a w hs _ hm _ _ h;have he:rem=[]:=Xx hn;subst he;refine⟨?_,h⟩;apply List.eq_nil_iff_forall_not_mem.2;intro j hj;obtain⟨h0,o,ho,_⟩:=mem_ready.1 hj;have Jl:j<ops.size:=(gl ho);rw[Fz hs Jl]at h0;exact absurd ((hm j).2 ⟨Jl,h0⟩) (by simp)
 |succ n ih =>
  intro listed a w hs yP hm hc hinv h;have wG:Region.ready .any ops listed≠[]:=by
   cases hr:rem with
   |nil=>rw[hr]at hn;cases hn
   |cons i0 r =>
    have sz:=(hm i0).1 (by rw[hr];simp);intro zU;have Ml:i0∈Region.ready .any ops listed:=by
     refine mem_ready.2 ⟨by rw[Fz hs sz.1];exact sz.2,ops[i0],Array.getElem?_eq_getElem sz.1,fun e he hb=>?_⟩;have h1:=Xq.1 Cu i0 (Ya.2 sz.1);simp only[Array.getElem?_eq_getElem sz.1]at h1;have h2:=Array.all_eq_true_iff_forall_mem.1 h1 e he;simp only[hb,Bool.not_true,Yt,Yk]at h2;rcases Yo (listed.getD e.on false)with h3|h3
     .exact h3
     have h4:=(hm e.on).2 ⟨by omega,h3⟩;rw[hr]at h4 yP;rcases List.mem_cons.1 h4 with h5|h5
     .omega
     have:=(Qx.1 yP).1 _ h5;omega
    rw[zU]at Ml;cases Ml
  refine⟨fun h0=>absurd h0 wG,fun i hi=>?_⟩;obtain⟨h0,o,ho,Wc⟩:=mem_ready.1 hi;have Jl:i<ops.size:=(gl ho);rw[Fz hs Jl]at h0;have hir:i∈rem:=(hm i).2 ⟨Jl,h0⟩;obtain⟨l1,l2,hl⟩:=List.append_of_mem hir;subst hl;rw[List.pairwise_append]at yP;obtain⟨pw1,pw2,pw3⟩:=yP;have qg:=Qx.1 pw2;have hf:=frontG Ug i l2 l1 a w (fun x hx=>by
   have hxi:x<i:=pw3 x hx i (by simp)
   rcases qB hp Jl hxi with hd|hcp
   .have:=Cy hc hd (fun o' yR e he hb=>by rw[ho]at yR;injection yR with e2;subst e2;exact Wc e he hb)
    have h2:=((hm x).1 (by simp[hx])).2
    rw[this]at h2
    cases h2
   exact hcp) h
  have hst:stG P ops w0 (cl i) o (wpG P ops w0 cl (fun a w=>Q .normal a w) (l1++l2)) a w:=by simpa[wpG,ho]using hf
  have hold:cl i=1->Below w0.heap.size w0 w:=fun hci=>hinv fun j hj hcj=>by
   rcases Yo (listed.getD j false)with h3|h3
   .exfalso;have hd:=Hm lI Jl hj hci hcj;have:=Cy hc hd (fun o' yR e he hb=>hc j o' yR h3 e he hb);rw[h0]at this;cases this
   exact h3
  refine wpOp_mono (fun a' w' hh=>?_) (wpOp_of_stG (Q:=Q) (hc3 i) ho hold hst);have hlen:(l1++l2).length=n:=by simp at hn |-;omega
  refine ih (l1++l2) hlen (listed.setIfInBounds i true) a' w' (by simpa using hs) ?_ (fun j=>?_) ?_ ?_ hh.2
  .rw[List.pairwise_append];exact⟨pw1,qg.2,fun x hx y hy=>pw3 x hx y (by simp[hy])⟩
  .by_cases Aa:j=i
   .subst Aa;constructor
    .intro hj;rcases Qh.1 hj with h5|h5
     .have:=pw3 j h5 j (by simp);omega
     have:=qg.1 j h5;omega
    intro ⟨_,h5⟩;have:j<listed.size:=by omega
    simp[this]at h5
   rw[getD_set_ne false (Ne.symm Aa),<-hm j];simp[Aa]
  .intro j oj yQ hj e he hb;by_cases Aa:j=i
   .subst Aa;rw[ho]at yQ;injection yQ with e2;subst e2;exact getD_set_true (Wc e he hb)
   rw[getD_set_ne false (Ne.symm Aa)]at hj;exact getD_set_true (hc j oj yQ hj e he hb)
  intro hno;have hci:cl i≠2:=fun hci=>by
   have:=hno i Jl hci;have Fb:i<listed.size:=by omega
   simp[Fb]at this
  refine hh.1 hci (hinv fun j hj hcj=>?_);have:=hno j hj hcj;by_cases Aa:j=i
  .subst Aa;exact absurd hcj hci
  rwa [getD_set_ne false (Ne.symm Aa)]at this
theorem dw{p:Addr}{m:Mode}{cs:Array Value}{fr:Nat×Nat}(h1:w.heap[p.block]?=some (.cells cs t fr))(h2:w1.heap[p.block]?=some (.cells cs t fr))(h:(load p m).run P w=.ok v w') :
  w'=w/\(load p m).run P w1=.ok v w1:=by
 have hc:w.cell? p=w1.cell? p:=by simp[World.cell?,h1,h2]
 simp only[load,Sem.run]at h |-;rw[<-hc];cases Zn:w.cell? p with
 |some u=>rw[Zn]at h;injection h with e1 e2;subst e1;exact⟨e2.symm,rfl⟩
 |none =>
  rw[Zn]at h;simp only[World.farLoad,h1,World.noCell]at h;cases h
theorem cW{p:Addr}{w1:World}{cs:Array Value}{t:TypeId}{fr:Nat×Nat}:∀(n i:Nat)(acc vs:Array Value)(w w':World),w.heap[p.block]?=some (.cells cs t fr)->w1.heap[p.block]?=some (.cells cs t fr) ->
  (loadCellsFrom p i n acc).run P w=.ok vs w'->(loadCellsFrom p i n acc).run P w1=.ok vs w1
 |0,i,acc,vs,w,w',h1,h2,h=>by
  simp only[loadCellsFrom,Sem.run_pure]at h |-;injection h with e1 e2;subst e1;rfl
 |n+1,i,acc,vs,w,w',h1,h2,h=>by
  unfold loadCellsFrom at h |-;obtain⟨v,w2,g1,g2⟩:=Ft h;have hb:(p.add i).block=p.block:=by unfold Addr.add;split <;> rfl
  obtain⟨e,g3⟩:=dw (p:=p.add i) (by rw[hb];exact h1) (by rw[hb];exact h2) g1;subst e;rw[Zg,g3];exact cW n (i+1) _ vs _ w' h1 h2 g2
theorem rr{ad:Addr}{u:Value}(h0:w0.cell? ad=some u)(hw:Below w0.heap.size w0 w)(hw1:Below w0.heap.size w0 w1)(h:(Instr.loadAt t (.pointer (some ad))).run P w=.ok v w') :
  (Instr.loadAt t (.pointer (some ad))).run P w1=.ok v w1:=by
 have Jl:=Zm w0 _ h0;have tc:∃cs t fr,w0.heap[ad.block]?=some (.cells cs t fr):=by
  unfold World.cell? at h0;split at h0
  .exact⟨_,_,_,by assumption⟩
  cases h0
 obtain⟨cs,te,fr,hh⟩:=tc;have h1:w.heap[ad.block]?=some (.cells cs te fr):=(hw.block _ Jl).trans hh;have h2:w1.heap[ad.block]?=some (.cells cs te fr):=(hw1.block _ Jl).trans hh;unfold Instr.loadAt at h |-;obtain⟨a,wa,g1,g2⟩:=Ft h;simp only[Instr.sureAddr,Sem.run_pure]at g1;injection g1 with e1 e2;subst e1 e2;rw[Zg];simp only[Instr.sureAddr,Sem.run_pure,Result.andThen];unfold loadVar at g2 |-;obtain⟨b,wb,g3,g4⟩:=Ft g2;obtain⟨e3,g5⟩:=Uf (P:=P) t _ b wb g3;subst e3;rw[Zg,g5 w1];simp only[Result.andThen];cases b with
 |true =>
  rw[if_pos rfl]at g4 |-;obtain⟨n,wn,g6,g7⟩:=Ft g4;obtain⟨e4,g8⟩:=Vj (P:=P) t _ n wn g6;subst e4;obtain⟨vs,wv,g9,g10⟩:=Ft g7;rw[Zg,g8 w1];simp only[Result.andThen];unfold loadCells at g9 |-;rw[Zg,cW n 0 _ vs _ wv h1 h2 g9];simp only[Result.andThen,Sem.run_pure]at g10 |-;injection g10 with e5 _;rw[e5]
 |false =>
  rw[if_neg (by simp)]at g4 |-;exact (dw h1 h2 g4).2
def wpS(P:Program)(ops:Array Oper)(w0:World)(G:List Nat)(Q:Act->World->Prop):Nat->List Oper->Act->World->Prop
 |_,[],a,w=>Q a w
 |k,o::r,a,w=>if Region.wanted o (yielded ops a.tmps)=true then
   o.wp P a w (fun a' w'=>(G.contains k=true->Below w0.heap.size w0 w')/\wpS P ops w0 G Q (k+1) r a' w') xx
  else wpS P ops w0 G Q (k+1) r (a.put o.dst undef) w
theorem wpS_seg{G:List Nat}{Q:Act->World->Prop}:∀(n k:Nat)(l:List Oper)(a:Act)(w:World),(List.range' k n).all (fun i=>!G.contains i)=true ->
  (∀Q':Exit->Act->World->Prop,(∀a w,wpS P ops w0 G Q (k+n) (l.drop n) a w->Q' .normal a w)->wpList P ops Q' (l.take n) a w)->wpS P ops w0 G Q k l a w
 |0,k,l,a,w,_,h=>by
  have:=h (fun e a w=>e=.normal/\wpS P ops w0 G Q k l a w) (fun a w hh=>⟨rfl,by simpa using hh⟩);simpa[wpList]using this
 |n+1,k,[],a,w,_,h=>by
  have:=h (fun e a w=>e=.normal/\Q a w) (fun a w hh=>⟨rfl,by simpa[wpS]using hh⟩);simpa[wpList,wpS]using this
 |n+1,k,o::r,a,w,hG,h=>by
  rw[List.range'_succ,List.all_cons,Ym]at hG;have hk:G.contains k=false:=by simpa using hG.1
  have h0:=h (fun e a w=>e=.normal/\wpS P ops w0 G Q (k+(n+1)) ((o::r).drop (n+1)) a w) (fun a w hh=>⟨rfl,hh⟩);have Ow:¬ LetsOut (fun e a w=>e=Exit.normal/\wpS P ops w0 G Q (k+(n+1)) ((o::r).drop (n+1)) a w):=fun⟨_,_,hh⟩=>by cases hh.1
  have hno:∀(e:Exit)(a:Act)(w:World),e≠.normal->¬ (e=Exit.normal/\wpS P ops w0 G Q (k+(n+1)) ((o::r).drop (n+1)) a w):=fun _ _ _ hn hh=>hn hh.1;have ih:∀a w,wpList P ops (fun e a w=>e=.normal/\wpS P ops w0 G Q (k+(n+1)) ((o::r).drop (n+1)) a w) (r.take n) a w->wpS P ops w0 G Q (k+1) r a w:=fun a w hl =>
   wpS_seg n (k+1) r a w hG.2 fun Q' hQ'=>by
    refine Ap (fun e a w hh=>?_) _ _ _ hl;obtain⟨rfl,hh⟩:=hh;exact hQ' _ _ (by simpa[Yy,Nat.add_comm 1 n]using hh)
  rw[List.take_succ_cons]at h0;unfold wpList at h0;unfold wpS;split at h0
  .rename_i hw;rw[if_pos hw];have h1:=h0.resolve_right fun hh=>Ow hh.2;have h2:=Oper.wp_mono (K':=fun a' w'=>(G.contains k=true->Below w0.heap.size w0 w')/\wpS P ops w0 G Q (k+1) r a' w') (fun a w hh=>⟨fun qM=>(by rw[hk]at qM;cases qM),ih a w hh⟩) h1;exact tB hno Ow h2
  rename_i hw;rw[if_neg hw];exact ih _ _ h0
end Go.Proofs.YtmaojnmnbpomeaaGreatDoor.Text
namespace Go.Proofs.YtmaojnmnbpomeaaGreatDoor.Text
open Go Go.RowKit
variable{a:Act}{w:World}
variable {P:Program} {ops:Array Oper} {w0:World}
def iW(o:Oper):Bool:=match o.op with|.load ..=>true|.convert ..=>true|_=>false
def bQ(P:Program)(ops:Array Oper)(G LD ex:List Nat)(i:Nat):Nat :=
 match ops[i]? with
 |none=>2
 |some o=>if G.contains i then 3 else if LD.contains i then (if iW o&&Et ops i o then 1 else 2)else if ex.contains i then 2 else if Fi o&&!Et ops i o then 2 else if lR P o=0 then 0 else 2
theorem kw(G LD ex:List Nat)(i:Nat):bQ P ops G LD ex i<=3:=by
 unfold bQ;split
 .omega
 repeat' split
 all_goals omega
def oldAt(P:Program)(ops:Array Oper)(w0:World)(a:Act)(i:Nat):Prop :=
 match ops[i]? with
 |some o=>match o.op with
  |.load _ x=>Region.wanted o (yielded ops a.tmps)=true->∃ad u,a.eval x=.pointer (some ad)/\w0.cell? ad=some u
  |.convert s d x=>Region.wanted o (yielded ops a.tmps)=true->∃v,∀w',Below w0.heap.size w0 w'->(convert s d (a.eval x)).run P w'=.ok v w'
  |_=>True
 |none=>True
def oldAll(P:Program)(ops:Array Oper)(w0:World)(a:Act):List Nat->Prop
 |[]=>True
 |i::r=>oldAt P ops w0 a i/\oldAll P ops w0 a r
theorem oldAll_mem:∀{l:List Nat}{i:Nat},oldAll P ops w0 a l->i∈l->oldAt P ops w0 a i
 |j::r,i,h,hi=>by
  rcases List.mem_cons.1 hi with rfl|hi
  .exact h.1
  exact oldAll_mem h.2 hi
theorem qrH(Cu:dR ops=true){i x:Nat}(h:Dep ops i x):x<i:=by
 have step:∀(i:Nat)(o:Oper)(e:Edge),ops[i]?=some o->e∈o.after->Region.binds .any e=true->e.on<i:=fun i o e ho he hb=>by
  have Jl:i<ops.size:=(gl ho);have h1:=Xq.1 Cu i (Ya.2 Jl);simp only[ho]at h1;have h2:=Array.all_eq_true_iff_forall_mem.1 h1 e he;simpa[hb]using h2
 induction h with
 |here ho he hb=>exact step _ _ _ ho he hb
 |there ho he hb _ ih=>have:=step _ _ _ ho he hb;omega
theorem reachS{G LD ex:List Nat}{Q:Act->World->Prop}:∀(l:List Oper)(k:Nat)(a:Act)(w:World),(∀j,l[j]?=ops[k+j]?) ->
  wpS P ops w0 G (fun a w=>chk ops ex a=true/\oldAll P ops w0 a LD/\Q a w) k l a w->∃a',chk ops ex a'=true/\oldAll P ops w0 a' LD/\lr ops (List.range' k l.length) a a'
 |[],k,a,w,_,h=>⟨a,h.1,h.2.1,fun _ _=>rfl⟩
 |o::r,k,a,w,hl,h=>by
  have ho:ops[k]?=some o:=by simpa using (hl 0).symm
  have mT:∀j,r[j]?=ops[k+1+j]? := fun j=>by have:=hl (j+1);simpa[Yy,Nat.add_comm 1 j]using this
  unfold wpS at h;have hn:∃a1 w1,Im a a1 o.dst/\wpS P ops w0 G (fun a w=>chk ops ex a=true/\oldAll P ops w0 a LD/\Q a w) (k+1) r a1 w1:=by
   split at h
   .obtain⟨a1,w1,hs,_,hk⟩:=Br kW h;exact⟨a1,w1,hs,hk⟩
   exact⟨_,_,Jm _ _ _,h⟩
  obtain⟨a1,w1,hs,h1⟩:=hn;obtain⟨a',h2,h3,h4⟩:=reachS r (k+1) a1 w1 mT h1;refine⟨a',h2,h3,fun t ht=>(h4 t fun j hj=>ht j ?_).trans (uE hs (ht k ?_ o ho))⟩
  .rw[Qu,List.range'_succ];simp[hj]
  rw[Qu,List.range'_succ];simp
theorem list_G{G LD ex:List Nat}{Q:Act->World->Prop}:∀(l:List Oper)(k:Nat)(a:Act)(w:World),(∀j,l[j]?=ops[k+j]?)->k+l.length=ops.size ->
  dz ops (bQ P ops G LD ex)=true->dR ops=true->((∀j,j<k->bQ P ops G LD ex j≠2)->Below w0.heap.size w0 w) ->
  wpS P ops w0 G (fun a w=>chk ops ex a=true/\oldAll P ops w0 a LD/\Q a w) k l a w->wpG P ops w0 (bQ P ops G LD ex) Q (List.range' k l.length) a w
 |[],k,a,w,_,_,_,_,_,h=>h.2.2
 |o::r,k,a,w,hl,Fb,lI,Cu,hinv,h=>by
  have ho:ops[k]?=some o:=by simpa using (hl 0).symm
  have Jl:k<ops.size:=(gl ho);have mT:∀j,r[j]?=ops[k+1+j]? := fun j=>by have:=hl (j+1);simpa[Yy,Nat.add_comm 1 j]using this
  have zdH:k+1+r.length=ops.size:=by simp at Fb;omega
  obtain⟨a',ke,hold,qpS⟩:=reachS (o::r) k a w hl h;have ih:∀a w,((∀j,j<k+1->bQ P ops G LD ex j≠2)->Below w0.heap.size w0 w)->wpS P ops w0 G (fun a w=>chk ops ex a=true/\oldAll P ops w0 a LD/\Q a w) (k+1) r a w->wpG P ops w0 (bQ P ops G LD ex) Q (List.range' (k+1) r.length) a w:=fun a w=>list_G r (k+1) a w mT zdH lI Cu;rw[Qu,List.range'_succ];unfold wpG;simp only[ho];unfold wpS at h;have sk:Et ops k o=true->(∀t∈o.looksAt ops,a'.tmps[t]?=a.tmps[t]?):=by
   intro hst t ht;refine qpS t fun j hj oj yQ=>?_;have h5:=Xq.1 hst t ht;have jx:k<=j/\j<ops.size:=by have:=List.mem_range'_1.1 hj;omega
   have h6:=Xq.1 h5 j (Ya.2 jx.2);simp only[yQ,Yu,Yk,Yv]at h6;rcases h6 with h6|h6
   .omega
   exact h6
  have js:(∀t∈o.looksAt ops,a'.tmps[t]?=a.tmps[t]?)->∀x∈o.op.operands,a'.eval x=a.eval x:=fun Vd x hx =>
   xA fun t hxt=>Vd t (List.mem_append_left _ (List.mem_filterMap.2 ⟨x,by simpa using hx,by rw[hxt]⟩))
  have lD:(∀t∈o.looksAt ops,a'.tmps[t]?=a.tmps[t]?)->Region.wanted o (yielded ops a'.tmps)=Region.wanted o (yielded ops a.tmps):=by
   intro Vd;unfold Region.wanted;cases hg:o.guard with
   |none=>rfl
   |some gw =>
    obtain⟨g,want⟩:=gw;have hy:yielded ops a'.tmps g=yielded ops a.tmps g:=by
     unfold yielded;cases hb:(ops[g]?).bind (·.dst)with
     |none=>rfl
     |some t =>
      have:=Vd t (List.mem_append_right _ (by simp[hg,hb]));simp[this]
    simp only[hy]
  by_cases hw:Region.wanted o (yielded ops a.tmps)=true
  .rw[if_pos hw]at h;have fM:∀(hp:∀n w',(execOp a.eval o).run P w=.ok n w'->w'=w/\∃v,n=.value v),∃v,(execOp a.eval o).run P w=.ok (.value v) w /\
     wpS P ops w0 G (fun a w=>chk ops ex a=true/\oldAll P ops w0 a LD/\Q a w) (k+1) r (a.put o.dst v) w:=by
    intro hp;unfold Oper.wp at h;cases hr:(execOp a.eval o).run P w with
    |ok n1 w1 =>
     obtain⟨rfl,v,rfl⟩:=hp n1 w1 hr;rw[hr]at h;exact⟨v,rfl,h.2⟩
    |halt x w1 =>
     rw[hr]at h;cases x <;> exact absurd h id
   by_cases Nj:bQ P ops G LD ex k<=1
   .have wK:∀w',w'=w->((∀j,j<k+1->bQ P ops G LD ex j≠2)->Below w0.heap.size w0 w'):=fun w' e hj=>by subst e;exact hinv fun j hjk=>hj j (by omega)
    unfold stG;rw[if_pos Nj];have hc:=Nj;unfold bQ at hc;simp only[ho]at hc;by_cases hcG:G.contains k=true
    .rw[if_pos hcG]at hc;omega
    rw[if_neg hcG]at hc;by_cases sM:LD.contains k=true
    .rw[if_pos sM]at hc;have ep:(iW o&&Et ops k o)=true:=by
      by_cases ep:(iW o&&Et ops k o)=true
      .exact ep
      rw[if_neg ep]at hc;omega
     rw[Ym]at ep;have fP:bQ P ops G LD ex k=1:=by
      unfold bQ;simp only[ho];rw[if_neg hcG,if_pos sM,if_pos (by simp[ep])]
     have zdT:∀j,j<k->bQ P ops G LD ex j≠2:=fun j hj hcj=>by
      have hd:=Hm lI Jl (show j<ops.size by omega) fP hcj;have:=qrH Cu hd;omega
     have ez:=hinv zdT;have Vd:=sk ep.2;have hoa:=oldAll_mem hold (by simpa using sM);have my:(∃t x,o.op=.load t x)\/∃s d x,o.op=.convert s d x:=by
      have:=ep.1;unfold iW at this;split at this
      .exact .inl ⟨_,_,by assumption⟩
      .exact .inr ⟨_,_,_,by assumption⟩
      cases this
     rcases my with ⟨t,x,sI⟩|⟨s,d,x,sI⟩
     .have hx:=js Vd x (by rw[sI];simp[Op.operands]);unfold oldAt at hoa;simp only[ho,sI]at hoa;obtain⟨ad,u,had,Zn⟩:=hoa (by rw[lD Vd];exact hw);rw[hx]at had;have rG:zfJ P (execOp a.eval o):=by
       obtain⟨dst,op,type,pos,after,guard⟩:=o;simp only at sI;subst sI;exact qcW (uU _ _)
      obtain⟨v,hv,hk⟩:=fM fun n w' h=>rG w n w' h;refine⟨v,?_,ih _ _ (wK _ rfl) hk⟩;unfold Yc;rw[if_neg (by omega)];refine .inl ⟨hw,fun w2 Jd=>?_⟩;obtain⟨dst,op,type,pos,after,guard⟩:=o;simp only at sI;subst sI;simp only[execOp]at hv |-;rw[had]at hv |-;obtain⟨v1,w1,g1,g2⟩:=Ft hv;have:=rr Zn ez Jd g1;rw[Zg,this];simp only[Sem.run_pure]at g2;injection g2 with g3 _;injection g3 with g3;subst g3;rfl
     have hx:=js Vd x (by rw[sI];simp[Op.operands]);unfold oldAt at hoa;simp only[ho,sI]at hoa;obtain⟨v0,mw⟩:=hoa (by rw[lD Vd];exact hw);rw[hx]at mw;have hex:∀w2,Below w0.heap.size w0 w2->(execOp a.eval o).run P w2=.ok (.value v0) w2:=by
      intro w2 Jd;obtain⟨dst,op,type,pos,after,guard⟩:=o;simp only at sI;subst sI;simp only[execOp];rw[Zg,mw w2 Jd];rfl
     obtain⟨v,hv,hk⟩:=fM fun n w' h=>by
      rw[hex w ez]at h;injection h with h1 h2;exact⟨h2.symm,v0,h1.symm⟩
     rw[hex w ez]at hv;injection hv with h1 _;injection h1 with h1;subst h1;refine⟨v0,?_,ih _ _ (wK _ rfl) hk⟩;unfold Yc;rw[if_neg (by omega)];exact .inl ⟨hw,hex⟩
    rw[if_neg sM]at hc;by_cases hcE:ex.contains k=true
    .rw[if_pos hcE]at hc;omega
    rw[if_neg hcE]at hc;by_cases wH:(Fi o&&!Et ops k o)=true
    .rw[if_pos wH]at hc;omega
    rw[if_neg wH]at hc;have wL:lR P o=0:=by
     by_cases wL:lR P o=0
     .exact wL
     rw[if_neg wL]at hc;omega
    have fP:bQ P ops G LD ex k=0:=by
     unfold bQ;simp only[ho];rw[if_neg hcG,if_neg sM,if_neg hcE,if_neg wH,if_pos wL]
    have hpv:qkL P (execOp a.eval o):=by
     refine xF wL ?_;by_cases Te:Fi o=true
     .have qpI:Et ops k o=true:=by
       rw[Te]at wH;simpa using wH
      have Vd:=sk qpI;have Uw:=Xq.1 ke k (Ya.2 Jl);simp only[ho,Yu,Te,Bool.not_true,Bool.false_eq_true,false_or]at Uw;rcases Uw with Uw|Uw|Uw
      .exact absurd Uw hcE
      .rw[lD Vd,hw]at Uw;cases Uw
      rw[oQ (js Vd)]at Uw;exact Uw
     unfold Fi at Te;unfold aY;split at Te <;> first|(exact absurd rfl Te)|rfl|(split <;> first|rfl|(simp_all;done))
    obtain⟨v,hv,hk⟩:=fM fun n w' hr=>let ⟨e,v,hn,_⟩:=hpv w n w' hr;⟨e,v,hn⟩;obtain⟨_,v',hn,Wc⟩:=hpv _ _ _ hv;injection hn with hn;subst hn;refine⟨v,?_,ih _ _ (wK _ rfl) hk⟩;unfold Yc;rw[if_pos fP];exact .inl ⟨hw,Wc⟩
   unfold stG;rw[if_neg Nj,if_pos hw];refine Oper.wp_mono (fun a1 w1 hh=>?_) h;have h3:bQ P ops G LD ex k=3->G.contains k=true:=by
    intro h3;unfold bQ at h3;simp only[ho]at h3;by_cases hcG:G.contains k=true
    .exact hcG
    rw[if_neg hcG]at h3
    repeat' (split at h3)
    all_goals omega
   refine⟨fun hc3=>hh.1 (h3 hc3),ih _ _ (fun hj=>?_) hh.2⟩;have mU:=hj k (by omega);have jw:bQ P ops G LD ex k=3:=by have:=kw (P:=P) (ops:=ops) G LD ex k;omega
   exact hh.1 (h3 jw)
  rw[if_neg hw]at h;have hwf:Region.wanted o (yielded ops a.tmps)=false:=by simpa using hw
  have h2:=ih _ _ (fun hj=>hinv fun j hjk=>hj j (by omega)) h;unfold stG;split
  .refine⟨undef,?_,h2⟩;unfold Yc;split
   .exact .inr ⟨hwf,rfl⟩
   exact .inr ⟨hwf,rfl⟩
  exact h2
def growB(P:Program)(ops:Array Oper)(G LD ex:List Nat):Bool:=Region.noSelect ops&&dR ops&&jo ops (bQ P ops G LD ex)&&dz ops (bQ P ops G LD ex)
theorem wp_grow{id:Nat}{Q:Exit->Act->World->Prop}{l:List Oper}(G LD ex:List Nat)(hm:P.follows .mixedOrders=true)(hB:growB P l.toArray G LD ex=true)
  (h:wpS P l.toArray w.drew G (fun a' w'=>chk l.toArray ex a'=true/\oldAll P l.toArray w.drew a' LD/\Q .normal a' w') 0 l a w.drew):(Code.region id l.toArray true).wp P Q a w:=by
 simp only[growB,Ym]at hB;refine wp_region_any hm ?_;have h2:=list_G l 0 a w.drew (by simp) (by simp) hB.2 hB.1.1.2 (fun _=>Xr _ _) h;have h3:=any_of_G (w0:=w.drew) hB.1.1.1 hB.1.1.2 hB.1.2 hB.2 (fun i=>kw G LD ex i) (List.range' 0 l.length) (Array.replicate l.toArray.size false) a w.drew (by simp) (List.pairwise_lt_range') (fun j=>by
  rw[List.mem_range'_1]
  constructor
  .intro hj
   have Mw:j<l.length:=by simpa using hj.2
   exact⟨by simpa using Mw,by simp[Mw]⟩
  intro hj;have:=hj.1;simp at this;exact⟨by omega,by omega⟩) (fun j o ho hj=>by
  exfalso
  have:j<l.toArray.size:=(gl ho)
  simp at this
  simp[this]at hj) (fun _=>Xr _ _) h2
 simpa using h3
theorem wpS_one{G:List Nat}{Q:Act->World->Prop}{k:Nat}{o:Oper}{r:List Oper}
  (h:∀Q':Exit->Act->World->Prop,(∀a' w',Below w0.heap.size w0 w'/\wpS P ops w0 G Q (k+1) r a' w'->Q' .normal a' w')->wpList P ops Q' [o] a w):wpS P ops w0 G Q k (o::r) a w:=by
 have h0:=h (fun e a w=>e=.normal/\Below w0.heap.size w0 w/\wpS P ops w0 G Q (k+1) r a w) (fun a w hh=>⟨rfl,hh⟩);have Ow:¬ LetsOut (fun e a w=>e=Exit.normal/\Below w0.heap.size w0 w/\wpS P ops w0 G Q (k+1) r a w):=fun⟨_,_,hh⟩=>by cases hh.1
 have hno:∀(e:Exit)(a:Act)(w:World),e≠.normal->¬ (e=Exit.normal/\Below w0.heap.size w0 w/\wpS P ops w0 G Q (k+1) r a w):=fun _ _ _ hn hh=>hn hh.1;unfold wpList at h0;unfold wpS;split at h0
 .rename_i hw;rw[if_pos hw];have h1:=h0.resolve_right fun hh=>Ow hh.2;have h2:=Oper.wp_mono (K':=fun a' w'=>(G.contains k=true->Below w0.heap.size w0 w')/\wpS P ops w0 G Q (k+1) r a' w') (fun a w hh=>by
   simp only[wpList]at hh
   exact⟨fun _=>hh.2.1,hh.2.2⟩) h1
  exact tB hno Ow h2
 rename_i hw;rw[if_neg hw];simp only[wpList]at h0;exact h0.2.2
theorem no_want{b:Bool}{p:Prop}(h2:b=false)(h:b=true):p:=by rw[h]at h2;cases h2
end Go.Proofs.YtmaojnmnbpomeaaGreatDoor.Text
namespace Go.Proofs.YtmaojnmnbpomeaaGreatDoor
open Go.RowKit
variable{B i j k:Nat}{P:Program}{α:Type}{et kt mt:TypeId}{v:Value}{w w':World}
def Uv(c:Int):Bool:=decide (97<=c/\c<=122)||decide (65<=c/\c<=90)
def Ww(c:Int):Bool:=Uv c||decide (48<=c/\c<=57)||decide (c=95)
def Jg(c:Int):Bool:=decide (32<=c/\c<=126)&&decide (c≠39)&&decide (c≠92)
theorem Ta(c:Int)(w:World):Calls Tryz.prog 188 #[.int .u8 c] w fun e w'=>e=.returned (.bool (Uv c))/\w=w':=by
 have hc:c<65\/(65<=c/\c<=90)\/(90<c/\c<97)\/(97<=c/\c<=122)\/122<c:=by omega
 rcases hc with h|h|h|h|h
 all_goals
  go_enter Tryz.func188,Tryz.ntmps188;go_wp2
  all_goals first
   |(exfalso;omega)
   |(exfalso;simp at*;omega)
   |(go_ret;exact⟨Kw (Zw (by rw[Bool.eq_iff_iff];simp[Uv] <;> omega)),rfl⟩)
theorem tv(c:Int)(w:World):Calls Tryz.prog 190 #[.int .u8 c] w fun e w'=>e=.returned (.bool (Ww c))/\w=w':=by
 rcases Yo (Uv c)with hl|hl
 .have HL:=Lh hl;go_enter Tryz.func190,Tryz.ntmps190;go_wp2_with (go_call Ta c _ as e w1 ⟨rfl,rfl⟩);go_ret;exact⟨Kw (Zw (by unfold Ww;rw[HL.o];rfl)),rfl⟩
 have HL:=Lh hl;have hc:c<48\/(48<=c/\c<=57)\/(57<c/\c<95)\/(95<=c/\c<=95)\/95<c:=by omega
 rcases hc with h|h|h|h|h
 all_goals
  go_enter Tryz.func190,Tryz.ntmps190;go_wp2_with (go_call Ta c _ as e w1 ⟨rfl,rfl⟩)
  all_goals first
   |(exfalso;omega)
   |(exfalso;simp at*;omega)
   |(go_ret;exact⟨Kw (Zw (by rw[Bool.eq_iff_iff];simp[Ww,HL.o] <;> omega)),rfl⟩)
theorem tZ(c:Int)(w:World):Calls Tryz.prog 191 #[.int .u8 c] w fun e w'=>e=.returned (.bool (Jg c))/\w=w':=by
 have hc:c<32\/(32<=c/\c<39)\/(39<=c/\c<=39)\/(39<c/\c<92)\/(92<=c/\c<=92)\/(92<c/\c<=126)\/126<c:=by omega
 rcases hc with h|h|h|h|h|h|h
 all_goals
  go_enter Tryz.func191,Tryz.ntmps191;go_wp2
  all_goals first
   |(exfalso;omega)
   |(exfalso;simp at*;omega)
   |(go_ret;exact⟨Kw (Zw (by rw[Bool.eq_iff_iff];simp[Jg] <;> omega)),rfl⟩)
theorem Om(s:ByteArray)(w:World):Calls Tryz.prog 187 #[.string s] w fun e w'=>e=.returned (.bool (decide (1<=s.size/\s.size<=32)))/\w=w':=by
 have hc:s.size<1\/(1<=s.size/\s.size<=32)\/32<s.size:=by omega
 rcases hc with h|h|h
 all_goals
  go_enter Tryz.func187,Tryz.ntmps187;go_wp2
  all_goals first
   |(exfalso;omega)
   |(exfalso;simp at*;omega)
   |(go_ret;exact⟨Kw (Zw (by rw[Bool.eq_iff_iff];simp <;> omega)),rfl⟩)
def Ko(may:Int->Bool):List UInt8->Nat
 |[]=>0
 |b::r=>if may (b.toNat:Int)then Ko may r+1 else 0
theorem Tm(may:Int->Bool):∀l,Ko may l<=l.length
 |[]=>Yb _
 |b::r=>by unfold Ko;split;(have:=Tm may r;simp;omega);omega
theorem pl(may:Int->Bool):∀(l:List UInt8),(Ko may l=l.length↔∀b∈l,may (b.toNat:Int)=true)
 |[]=>by simp[Ko]
 |b::r=>by
  unfold Ko;have:=pl may r;have h2:=Tm may r;split
  .rename_i hb;simp[hb,this]
  rename_i hb;simp[hb]
theorem kN(F:FuncId)(may:Int->Bool)(hF:∀(args:Array Value)(w:World),(callFunc F args).run Tryz.prog w=.ok (.enter F args) w)(zkQ:∀(c:Int)(w:World),Calls Tryz.prog F #[.int .u8 c] w fun e w'=>e=.returned (.bool (may c))/\w=w')(s:ByteArray)(w:World)(hs:s.size<=maxLen) :
  Calls Tryz.prog 189 #[.string s,.func (.func F) #[] #[]] w fun e w'=>e=.returned (.int .i64 (Ko may s.data.toList))/\w=w':=by
 unfold maxLen at hs;have hbt:=fD s;have HM:=Lh zkQ;clear zkQ;go_enter Tryz.func189,Tryz.ntmps189;go_wp2_with fail;go_loop [5] (fun v5=>∃k:Nat,k<=s.size/\v5=.int .i64 k/\Hid (Ko may s.data.toList=k+Ko may (s.data.toList.drop k))) (fun v5=>s.size-(intOf v5).toNat);exact⟨0,by omega,rfl,by simp[Hid]⟩;obtain⟨k,hk,rfl,hr⟩:=hrel;by_cases Jl:k<s.size
 .have hlen:s.data.toList.length=s.size:=by simp
  have hd:=Lh (show Ko may (s.data.toList.drop k)=if may (Nf s k)then Ko may (s.data.toList.drop (k+1))+1 else 0 by
   rw[Ql (by omega),Ko,Fm s k (by omega)])
  rcases Yo (may (Nf s k))with hm|hm
  .have HB:=Lh hm;go_wp2_with fail;refine (HM.o (Nf s k) _).mono ?_;rintro e w1 ⟨rfl,rfl⟩;go_wp2;go_round;exact⟨k+1,by omega,by go_num,by show _=_;rw[hr.o,hd.o,HB.o];simp;omega⟩;simp[intOf];omega
  have HB:=Lh hm;go_wp2_with fail;refine (HM.o (Nf s k) _).mono ?_;rintro e w1 ⟨rfl,rfl⟩;go_wp2;go_ret;exact⟨Kw (Gn (by rw[hr.o,hd.o,HB.o];simp)),rfl⟩
 have hz:=Lh (show Ko may (s.data.toList.drop k)=0 by rw[List.drop_eq_nil_of_le (by simp;omega)];rfl);go_wp2;go_ret;exact⟨Kw (Gn (by rw[hr.o,hz.o];simp)),rfl⟩
def Eu(l:List UInt8):Bool:=decide (1<=l.length/\l.length<=32)&&Uv ((l.headD 0).toNat:Int)&&l.all fun b=>Ww (b.toNat:Int)
def Fx(l:List UInt8):Bool:=decide (1<=l.length/\l.length<=32)&&l.all fun b=>Jg (b.toNat:Int)
theorem qcU(may:Int->Bool)(l:List UInt8):((Ko may l:Int)==(l.length:Int))=l.all fun b=>may (b.toNat:Int):=by
 rw[Bool.eq_iff_iff];simp only[beq_iff_eq,Xq];rw[<-pl];omega
theorem qrY(s:ByteArray)(h:1<=s.size):Nf s 0=((s.data.toList.headD 0).toNat:Int):=by
 have h0:0<s.data.toList.length:=by simp;omega
 rw[Fm s 0 h0,List.headD_eq_head?_getD,List.head?_eq_getElem?,Qa h0];rfl
theorem i_(s:ByteArray)(w:World)(hs:s.size<=maxLen):Calls Tryz.prog 127 #[.string s] w fun e w'=>e=.returned (.bool (Eu s.data.toList))/\w=w':=by
 have hbt:=fD s;have hlen:s.data.toList.length=s.size:=by simp
 have hrl:=Tm Ww s.data.toList;have HR:=Lh (qcU Ww s.data.toList);have rZ:Hid (Eu s.data.toList=(decide (1<=s.size/\s.size<=32)&&Uv ((s.data.toList.headD 0).toNat:Int)&&s.data.toList.all fun b=>Ww (b.toNat:Int))):=by
  show _=_;unfold Eu;rw[hlen]
 by_cases h1:1<=s.size/\s.size<=32
 .have hd:decide (1<=s.size/\s.size<=32)=true:=by simpa using h1
  have HD:=Lh hd;have Dt:0<s.size:=by omega
  have HH:=Lh (qrY s h1.1);rcases Yo (Uv (Nf s 0))with hb|hb
  .have HB:=Lh hb;go_enter Tryz.func127,Tryz.ntmps127;go_wp2_with fail;go_call Om s _ as e w1 ⟨rfl,rfl⟩;go_wp2_with fail;go_call Ta (Nf s 0) _ as e w1 ⟨rfl,rfl⟩;go_wp2_with fail;go_call kN 190 Ww (fun _ _=>by kernel_rfl) tv s _ hs as e w1 ⟨rfl,rfl⟩;go_wp2;go_ret;exact⟨Kw (Zw (by rw[rZ.o,HD.o,<-HH.o,HB.o,<-HR.o,hlen];simp)),rfl⟩
  have HB:=Lh hb;go_enter Tryz.func127,Tryz.ntmps127;go_wp2_with fail;go_call Om s _ as e w1 ⟨rfl,rfl⟩;go_wp2_with fail;go_call Ta (Nf s 0) _ as e w1 ⟨rfl,rfl⟩;go_wp2;go_ret;exact⟨Kw (Zw (by rw[rZ.o,<-HH.o,HB.o];simp)),rfl⟩
 have hd:decide (1<=s.size/\s.size<=32)=false:=by simpa using h1
 have HD:=Lh hd;go_enter Tryz.func127,Tryz.ntmps127;go_wp2_with fail;go_call Om s _ as e w1 ⟨rfl,rfl⟩;go_wp2;go_ret;exact⟨Kw (Zw (by rw[rZ.o,HD.o];simp)),rfl⟩
theorem f_(s:ByteArray)(w:World)(hs:s.size<=maxLen):Calls Tryz.prog 128 #[.string s] w fun e w'=>e=.returned (.bool (Fx s.data.toList))/\w=w':=by
 have hlen:s.data.toList.length=s.size:=by simp
 have hrl:=Tm Jg s.data.toList;have HR:=Lh (qcU Jg s.data.toList);have rZ:Hid (Fx s.data.toList=(decide (1<=s.size/\s.size<=32)&&s.data.toList.all fun b=>Jg (b.toNat:Int))):=by
  show _=_;unfold Fx;rw[hlen]
 by_cases h1:1<=s.size/\s.size<=32
 .have hd:decide (1<=s.size/\s.size<=32)=true:=by simpa using h1
  have HD:=Lh hd;go_enter Tryz.func128,Tryz.ntmps128;go_wp2_with fail;go_call Om s _ as e w1 ⟨rfl,rfl⟩;go_wp2_with fail;go_call kN 191 Jg (fun _ _=>by kernel_rfl) tZ s _ hs as e w1 ⟨rfl,rfl⟩;go_wp2;go_ret;exact⟨Kw (Zw (by rw[rZ.o,HD.o,<-HR.o,hlen];simp)),rfl⟩
 have hd:decide (1<=s.size/\s.size<=32)=false:=by simpa using h1
 have HD:=Lh hd;go_enter Tryz.func128,Tryz.ntmps128;go_wp2_with fail;go_call Om s _ as e w1 ⟨rfl,rfl⟩;go_wp2;go_ret;exact⟨Kw (Zw (by rw[rZ.o,HD.o];simp)),rfl⟩
abbrev Wd:=List UInt8
def Mk(l:List Wd):List Wd:=Lib.compact (l.mergeSort fun x y=>decide (x<=y))
abbrev sA(l:List Wd):Prop:=l.Pairwise (·<·)
theorem va(zs:List Wd)(x:Wd):x∈Lib.compact zs↔x∈zs:=by
 unfold Lib.compact Lib.compactUpTo;simp only[Xa,Qw,Ya];constructor
 .rintro⟨j,⟨hj,_⟩,rfl⟩;have:j<zs.toArray.size:=by simpa using hj
  rw[getElem!_pos zs.toArray j this];simp
 intro hx;obtain⟨j,hj,rfl⟩:=Qz hx;clear hx
 induction j with
 |zero =>
  refine⟨0,⟨hj,by simp[Lib.keeps]⟩,?_⟩;have:0<zs.toArray.size:=by simpa using hj
  rw[getElem!_pos zs.toArray 0 this];simp
 |succ j ih =>
  have h1:j+1<zs.toArray.size:=by simpa using hj
  have h0:j<zs.toArray.size:=by omega
  by_cases hk:zs.toArray[j+1]! = zs.toArray[j]!
  .obtain⟨i,hi,e⟩:=ih (by simpa using h0);refine⟨i,hi,e.trans ?_⟩;rw[getElem!_pos zs.toArray (j+1) h1,getElem!_pos zs.toArray j h0]at hk;simpa using hk.symm
  refine⟨j+1,⟨hj,Lib.keeps_pos (by simpa using hk)⟩,?_⟩;rw[getElem!_pos zs.toArray (j+1) h1];simp
theorem vb(zs:List Wd)(hs:zs.Pairwise (·<=·)):sA (Lib.compact zs):=by
 unfold Lib.compact Lib.compactUpTo sA;rw[List.pairwise_map];have h1:((List.range zs.length).filter (Lib.keeps zs.toArray)).Pairwise (·<·):=List.Pairwise.filter _ List.pairwise_lt_range;refine h1.imp_of_mem ?_;intro i j hi hj hij;simp only[Qw,Ya]at hi hj;obtain⟨hj1,z_⟩:=hj;have hne:zs.toArray[j]! ≠ zs.toArray[j-1]! := by
  simp only[Lib.keeps,Yk]at z_;rcases z_ with h|h
  .omega
  exact h
 have a1:j<zs.toArray.size:=by simpa using hj1
 rw[getElem!_pos zs.toArray j a1,getElem!_pos zs.toArray (j-1) (by omega)]at hne;rw[getElem!_pos zs.toArray j a1,getElem!_pos zs.toArray i (by omega)];simp only[List.getElem_toArray]at hne |-;have hP:=List.pairwise_iff_getElem.1 hs;have h2:zs[j-1]<=zs[j]:=hP (j-1) j (by omega) hj1 (by omega);have h3:zs[j-1]<zs[j]:=by
  rcases List.le_iff_lt_or_eq.1 h2 with h|h
  .exact h
  exact absurd h.symm hne
 rcases Nat.lt_or_ge i (j-1)with h|h
 .exact List.lt_of_le_of_lt (hP i (j-1) (by omega) (by omega) h) h3
 have:i=j-1:=by omega
 subst this;exact h3
theorem qvW(l:List Wd):(l.mergeSort fun x y=>decide (x<=y)).Pairwise (·<=·):=by
 have:=List.pairwise_mergeSort (le:=fun x y:Wd=>decide (x<=y)) (fun a b c h1 h2=>by simp only[Yk]at*;exact List.le_trans h1 h2) (fun a b=>by simp only[Yu,Yk];exact List.le_total a b) l;exact this.imp fun h=>by simpa using h
theorem Em{l:List Wd}{x:Wd}:x∈Mk l↔x∈l:=by
 unfold Mk;rw[va];exact (List.mergeSort_perm l _).mem_iff
theorem Bw(l:List Wd):sA (Mk l):=vb _ (qvW l)
theorem qeH:∀{a b:List Wd},sA a->sA b->(∀x,x∈a↔x∈b)->a=b
 |[],[],_,_,_=>rfl
 |[],y::b,_,_,h=>absurd ((h y).2 (by simp)) (by simp)
 |x::a,[],_,_,h=>absurd ((h x).1 (by simp)) (by simp)
 |x::a,y::b,ha,hb,h=>by
  have ha':=Qx.1 ha;have hb':=Qx.1 hb;have e:x=y:=by
   have h1:=(h x).1 (by simp);have h2:=(h y).2 (by simp);rw[List.mem_cons]at h1 h2;rcases h1 with h1|h1
   .exact h1
   rcases h2 with h2|h2
   .exact h2.symm
   exact absurd (ha'.1 y h2) (List.lt_asymm (hb'.1 x h1))
  subst e;rw[qeH ha'.2 hb'.2 fun z=>?_];have hz:=h z;rw[List.mem_cons,List.mem_cons]at hz;constructor
  .intro hm;rcases hz.1 (.inr hm)with e|h'
   .subst e;exact absurd (ha'.1 _ hm) (List.lt_irrefl _)
   exact h'
  intro hm;rcases hz.2 (.inr hm)with e|h'
  .subst e;exact absurd (hb'.1 _ hm) (List.lt_irrefl _)
  exact h'
theorem sA.nodup{l:List Wd}(h:sA l):l.Nodup:=h.imp fun Jl e=>by subst e;exact List.lt_irrefl _ Jl
theorem Rp{l t:List Wd}(ht:sA t)(h:∀x,x∈l↔x∈t):Mk l=t:=qeH (Bw l) ht fun x=>Em.trans (h x)
theorem pi{l t:List Wd}(h:∀x,x∈l↔x∈t):Mk l=Mk t:=Rp (Bw t) fun x=>(h x).trans Em.symm
theorem uD(l:List Wd):(Mk l).length<=l.length:=by
 have h:=(Bw l).nodup.length_le_of_subset (fun x hx=>Em.1 hx:Mk l ⊆ l);exact h
theorem eG{a b:List Wd}(ha:sA a):a.length<=(Mk (a++b)).length/\((Mk (a++b)).length<=a.length->Mk (a++b)=a/\∀x∈b,x∈a):=by
 have hs:a ⊆ Mk (a++b):=fun x hx=>Em.2 (by simp[hx]);refine⟨ha.nodup.length_le_of_subset hs,fun hle=>?_⟩;have Wc:∀x∈b,x∈a:=by
  intro x hx;by_cases hn:x∈a
  .exact hn
  exfalso;have Te:(x::a).Nodup:=List.nodup_cons.2 ⟨hn,ha.nodup⟩;have:=Te.length_le_of_subset (fun y hy=>by
   rcases List.mem_cons.1 hy with rfl|h
   .exact Em.2 (by simp[hx])
   exact hs h:(x::a) ⊆ Mk (a++b))
  simp at this;omega
 refine⟨Rp ha fun x=>?_,Wc⟩;rw[Qh];exact⟨fun h=>h.elim id (Wc x),.inl⟩
abbrev Kz:=Nat×Wd×Nat
def rS(c:UInt8):Bool:=decide (c=32)||decide (c=9)||decide (c=13)||decide (c=10)
def Sq(c:Int):Bool:=decide (c≠10)
def Cb(c:UInt8)(r:Wd):Except Nat (Nat×Wd×Nat) :=
 if c=58 then .ok (3,[58],1)
 else if c=124 then .ok (4,[124],1)
 else if c=59 then .ok (5,[59],1)
 else if Uv (c.toNat:Int)=true then
  if 32<Ko Ww (c::r)then .error 19 else .ok (1,(c::r).take (Ko Ww (c::r)),Ko Ww (c::r))
 else if c=39 then
  if 0<Ko Jg r/\r[Ko Jg r]?=some 39 then
   if 32<Ko Jg r then .error 19 else .ok (2,r.take (Ko Jg r),Ko Jg r+2)
  else .error 13
 else .error 13
def Fg:Wd->Except Nat (Nat×Wd×Nat)
 |[]=>.error 13
 |c::r=>Cb c r
def Gz(s:Wd)(st:Nat×List Kz):Option (Nat×List Kz) :=
 match s.drop st.1 with
 |[]=>none
 |c::r =>
  if rS c=true then some (st.1+1,st.2)
  else if c=35 then some (st.1+Ko Sq (c::r),st.2)
  else match Fg (c::r)with
   |.ok t=>some (st.1+t.2.2,st.2++[(t.1,t.2.1,st.1)])
   |.error _=>none
def un(s:Wd)(st:Nat×List Kz):List Kz×Nat×Nat :=
 match s.drop st.1 with
 |[]=>(st.2,0,0)
 |c::r=>match Fg (c::r)with
  |.error e=>([],st.1,e)
  |.ok _=>([],0,0)
inductive ReachX(s:Wd):Nat×List Kz->Nat×List Kz->Prop
 |refl (a):ReachX s a a
 |head {a b c}:Gz s a=some b->ReachX s b c->ReachX s a c
theorem ReachX.trans{s:Wd}{a b c:Nat×List Kz}(h:ReachX s a b)(k:ReachX s b c):ReachX s a c:=by
 induction h with
 |refl=>exact k
 |head h1 _ ih=>exact .head h1 (ih k)
theorem ReachX.snoc{s:Wd}{a b c:Nat×List Kz}(h:ReachX s a b)(k:Gz s b=some c):ReachX s a c:=h.trans (.head k (.refl _))
theorem Oo{may:Int->Bool}{c:UInt8}{r:Wd}(h:may (c.toNat:Int)=true):1<=Ko may (c::r):=by
 unfold Ko;rw[if_pos h];omega
theorem cX{c:Int}(h:Uv c=true):Ww c=true:=by
 unfold Ww;rw[h];rfl
theorem eI{l:Wd}{t:Nat×Wd×Nat}(h:Fg l=.ok t):1<=t.2.2:=by
 cases l with
 |nil=>cases h
 |cons c r =>
  change Cb c r=_ at h;unfold Cb at h;by_cases h1:c=58
  .rw[if_pos h1]at h;cases h;exact Yb _
  rw[if_neg h1]at h;by_cases h2:c=124
  .rw[if_pos h2]at h;cases h;exact Yb _
  rw[if_neg h2]at h;by_cases h3:c=59
  .rw[if_pos h3]at h;cases h;exact Yb _
  rw[if_neg h3]at h;by_cases h4:Uv (c.toNat:Int)=true
  .rw[if_pos h4]at h;by_cases h5:32<Ko Ww (c::r)
   .rw[if_pos h5]at h;cases h
   rw[if_neg h5]at h;cases h;exact Oo (cX h4)
  rw[if_neg h4]at h;by_cases h5:c=39
  .rw[if_pos h5]at h;by_cases h6:0<Ko Jg r/\r[Ko Jg r]?=some 39
   .rw[if_pos h6]at h;by_cases h7:32<Ko Jg r
    .rw[if_pos h7]at h;cases h
    rw[if_neg h7]at h;cases h;exact Nat.le_add_left 1 (Ko Jg r+1)
   rw[if_neg h6]at h;cases h
  rw[if_neg h5]at h;cases h
theorem ov{s:Wd}{a b:Nat×List Kz}(h:Gz s a=some b):a.1<s.length/\a.1<b.1:=by
 have Jl:a.1<s.length:=by
  rcases Nat.lt_or_ge a.1 s.length with h1|h1
  .exact h1
  unfold Gz at h;rw[Xm h1]at h;cases h
 refine⟨Jl,?_⟩;unfold Gz at h;split at h
 .cases h
 rename_i c r hd;split at h
 .injection h with h;subst h;exact Yf _
 split at h
 .rename_i hc;injection h with h;subst h;subst hc;have:1<=Ko Sq (35::r):=Oo (by decide);show a.1<a.1+_;omega
 split at h
 .rename_i t ht;injection h with h;subst h;have:=eI ht;show a.1<a.1+_;omega
 cases h
def jc(s:Wd):Nat->Nat×List Kz->Nat×List Kz
 |0,st=>st
 |f+1,st=>match Gz s st with
  |none=>st
  |some st'=>jc s f st'
theorem qvZ{s:Wd}{a b:Nat×List Kz}(h:ReachX s a b)(hb:Gz s b=none):∀f,s.length<=a.1+f->jc s f a=b:=by
 induction h with
 |refl a =>
  intro f _;cases f with
  |zero=>rfl
  |succ f=>unfold jc;rw[hb]
 |@head a a' c h1 _ ih =>
  intro f hf;obtain⟨k1,k2⟩:=ov h1;cases f with
  |zero=>omega
  |succ f =>
   unfold jc;rw[h1];exact ih hb f (by omega)
def Sk(s:Wd):List Kz×Nat×Nat:=if 65536<s.length then ([],0,19)else un s (jc s s.length (0,[]))
theorem dy{s:Wd}(h:65536<s.length):Sk s=([],0,19):=by unfold Sk;rw[if_pos h]
theorem qdK{s:Wd}{b:Nat×List Kz}(hl:¬ 65536<s.length)(h:ReachX s (0,[]) b)(hb:Gz s b=none):Sk s=un s b:=by
 unfold Sk;rw[if_neg hl,qvZ h hb s.length (by simp)]
abbrev Jj:=Int×List Int
def Jv(l:List Wd):List Wd:=l.mergeSort fun x y=>decide (x<=y)
theorem Vq(l:List Wd):(Jv l).Perm l:=List.mergeSort_perm _ _
theorem pc(l:List Wd):(Jv l).Pairwise (·<=·):=by
 have:=List.pairwise_mergeSort (le:=fun x y:Wd=>decide (x<=y)) (fun a b c h1 h2=>by simp only[Yk]at*;exact List.le_trans h1 h2) (fun a b=>by simp only[Yu,Yk];exact List.le_total a b) l;exact this.imp fun h=>by simpa using h
theorem Aq{l m:List Wd}(hp:m.Perm l)(hs:m.Pairwise (·<=·)):m=Jv l :=
 (hp.trans (Vq l).symm).eq_of_pairwise (fun _ _ _ _ h1 h2=>List.le_antisymm h1 h2) hs (pc l)
theorem lC{le:α->α->Prop}{l:List α}{x:α}(hs:l.Pairwise le)(h1:∀y∈l.take k,le y x)(h2:∀y∈l.drop k,le x y):(l.take k++x::l.drop k).Pairwise le:=by
 rw[List.pairwise_append,Qx];refine⟨hs.sublist (List.take_sublist k l),⟨h2,hs.sublist (List.drop_sublist k l)⟩,fun a ha b hb=>?_⟩;rcases List.mem_cons.1 hb with rfl|hb
 .exact h1 a ha
 rw[<-Xp k l,List.pairwise_append]at hs;exact hs.2.2 a ha b hb
theorem wB{le:α->α->Prop}(tr:∀a b c,le a b->le b c->le a c){l:List α}{x:α}(hk:k<l.length)(hs:l.Pairwise le)(h:le l[k] x):∀y∈l.take (k+1),le y x:=by
 intro y hy;obtain⟨j,hj,rfl⟩:=Qz hy;rw[Qq]at hj;rw[List.getElem_take];have Du:j<l.length:=by omega
 by_cases e:j=k
 .subst e;exact h
 exact tr _ _ _ (List.pairwise_iff_getElem.1 hs j k Du hk (by omega)) h
theorem sd(l:List α)(x:α)(k:Nat):(l.take k++x::l.drop k).Perm (l++[x]):=by
 have h1:(l.take k++x::l.drop k).Perm (x::(l.take k++l.drop k)):=List.perm_middle;rw[Xp]at h1;exact h1.trans (List.perm_append_singleton x l).symm
def Fa(s:Int):Int:=if s<0 then -1-s else 1000+s
theorem qc{s t:Int}(hs:-1000<=s)(ht:-1000<=t)(h:Fa s=Fa t):s=t:=by
 unfold Fa at h;split at h <;> split at h <;> omega
def Va(a b:List Int):Prop:=a.map Fa<b.map Fa
instance (a b:List Int):Decidable (Va a b):=inferInstanceAs (Decidable (a.map Fa<b.map Fa))
def Kt(a b:Jj):Prop:=a.1<b.1\/a.1=b.1/\Va a.2 b.2
instance (a b:Jj):Decidable (Kt a b):=inferInstanceAs (Decidable (a.1<b.1\/a.1=b.1/\Va a.2 b.2))
theorem Lm(a:Jj):¬ Kt a a:=by
 unfold Kt Va;rintro (h|⟨_,h⟩)
 .omega
 exact List.lt_irrefl _ h
theorem Aw{a b c:Jj}(h1:Kt a b)(h2:Kt b c):Kt a c:=by
 unfold Kt Va at*;rcases h1 with h|⟨h,h'⟩ <;> rcases h2 with k|⟨k,k'⟩
 .exact .inl (by omega)
 .exact .inl (by omega)
 .exact .inl (by omega)
 exact .inr ⟨by omega,List.lt_trans h' k'⟩
theorem uL(a b:Jj):Kt a b\/(a.1=b.1/\a.2.map Fa=b.2.map Fa)\/Kt b a:=by
 unfold Kt Va;rcases Int.lt_trichotomy a.1 b.1 with h|h|h
 .exact .inl (.inl h)
 .by_cases h1:a.2.map Fa<b.2.map Fa
  .exact .inl (.inr ⟨h,h1⟩)
  by_cases h2:b.2.map Fa<a.2.map Fa
  .exact .inr (.inr (.inr ⟨h.symm,h2⟩))
  exact .inr (.inl ⟨h,List.le_antisymm (List.not_lt.1 h2) (List.not_lt.1 h1)⟩)
 exact .inr (.inr (.inl h))
theorem Pw(a b c:Jj)(h1:¬ Kt b a)(h2:¬ Kt c b):¬ Kt c a:=by
 intro h;rcases uL b c with h3|⟨h3,h4⟩|h3
 .exact h1 (Aw h3 h)
 .refine h1 ?_;unfold Kt Va at*;rw[h3,h4];exact h
 exact h2 h3
def jN(r:Jj):Prop:=∀s∈r.2,-1000<=s
theorem ce:∀{a b:List Int},(∀s∈a,-1000<=s)->(∀s∈b,-1000<=s)->a.map Fa=b.map Fa->a=b
 |[],[],_,_,_=>rfl
 |[],_::_,_,_,h=>by simp at h
 |_::_,[],_,_,h=>by simp at h
 |x::a,y::b,h1,h2,h=>by
  rw[List.map_cons,List.map_cons]at h;injection h with h3 h4;rw[qc (h1 x (by simp)) (h2 y (by simp)) h3,ce (fun s hs=>h1 s (by simp[hs])) (fun s hs=>h2 s (by simp[hs])) h4]
def kL(l:List Jj):List Jj:=l.mergeSort fun a b=>decide (¬ Kt b a)
theorem Gs(l:List Jj):(kL l).Perm l:=List.mergeSort_perm _ _
theorem pd(l:List Jj):(kL l).Pairwise fun a b=>¬ Kt b a:=by
 have:=List.pairwise_mergeSort (le:=fun a b:Jj=>decide (¬ Kt b a)) (fun a b c h1 h2=>by simp only[Yk]at*;exact Pw a b c h1 h2) (fun a b=>by
  simp only[Yu,Yk]
  by_cases h:Kt b a
  .exact .inr fun h2=>Lm _ (Aw h h2)
  exact .inl h) l
 exact this.imp fun h=>by simpa using h
theorem At{l m:List Jj}(ho:∀r∈l,jN r)(hp:m.Perm l)(hs:m.Pairwise fun a b=>¬ Kt b a):m=kL l:=by
 refine (hp.trans (Gs l).symm).eq_of_pairwise (fun a b ha hb h1 h2=>?_) hs (pd l);rcases uL a b with h|⟨h,h'⟩|h
 .exact absurd h h2
 .have:=ce (ho a (hp.mem_iff.1 ha)) (ho b ((Gs l).mem_iff.1 hb)) h';exact Prod.ext h this
 exact absurd h h1
def Uj(ns:List Wd):List Wd:=ns.take 1++Jv (ns.drop 1)
theorem Us(ns:List Wd):(Uj ns).Perm ns:=by
 have:=(Vq (ns.drop 1)).append_left (ns.take 1)
 rwa [Xp]at this
def Gr(ns ts zO ts':List Wd)(s:Int):Int:=if s<0 then -1-((ts'.idxOf (ts.getD (-1-s).toNat []):Nat):Int)else ((zO.idxOf (ns.getD s.toNat []):Nat):Int)
def Ec(ns ts zO ts':List Wd)(r:Jj):Jj:=(Gr ns ts zO ts' r.1,r.2.map (Gr ns ts zO ts'))
def oW(ns ts:List Wd)(rs:List Jj):List Jj:=kL (rs.map (Ec ns ts (Uj ns) (Jv ts)))
theorem Ou{l l':List Wd}(hp:l'.Perm l)(hi:i<l.length):l'.idxOf (l.getD i [])<l'.length:=by
 rw[List.idxOf_lt_length_iff,hp.mem_iff,Qb,Qa hi];exact Qg hi
theorem qdM{l l':List Wd}(hp:l'.Perm l)(hn:l.Nodup)(hi:i<l.length)(hj:j<l.length)(h:l'.idxOf (l.getD i [])=l'.idxOf (l.getD j [])):i=j:=by
 have h1:=Ou hp hi;have h2:=Ou hp hj;have e1:=List.getElem_idxOf h1;have e2:=List.getElem_idxOf h2;have e3:l.getD i []=l.getD j []:=by rw[<-e1,<-e2];congr 1
 rw[Qb,Qb,Qa hi,Qa hj]at e3;replace e3:l[i]=l[j]:=e3;have yP:=List.pairwise_iff_getElem.1 hn;rcases Nat.lt_trichotomy i j with h3|h3|h3
 .exact absurd e3 (yP i j hi hj h3)
 .exact h3
 exact absurd e3.symm (yP j i hj hi h3)
theorem wE{l l':List Wd}(hp:l'.Perm l)(hn:l.Nodup)(hj:j<l.length):∃i<l.length,l'.idxOf (l.getD i [])=j:=by
 have aU:j<l'.length:=by rw[hp.length_eq];exact hj
 obtain⟨i,hi,e⟩:=Qz (hp.mem_iff.1 (Qg aU));refine⟨i,hi,?_⟩;rw[Qb,Qa hi];show l'.idxOf l[i]=j;rw[e];exact List.Nodup.idxOf_getElem (hp.nodup_iff.2 hn) j aU
theorem bf(ns ts zO ts':List Wd)(s:Int):Gr ns ts zO ts' s<0↔s<0:=by
 unfold Gr;split <;> omega
def Vc(n m:Nat)(s:Int):Prop:=-(m:Int)<=s/\s<n
section
variable {ns ts zO ts':List Wd} (hp:zO.Perm ns) (hq:ts'.Perm ts)
include hp hq
theorem Pu{s:Int}(h:Vc ns.length ts.length s):Vc ns.length ts.length (Gr ns ts zO ts' s):=by
 unfold Vc Gr at*;split
 .have:=Ou hq (i:=(-1-s).toNat) (by omega);rw[hq.length_eq]at this;omega
 have:=Ou hp (i:=s.toNat) (by omega);rw[hp.length_eq]at this;omega
theorem tV(hn:ns.Nodup)(hm:ts.Nodup){s t:Int}(h:Vc ns.length ts.length s)(k:Vc ns.length ts.length t)(e:Gr ns ts zO ts' s=Gr ns ts zO ts' t):s=t:=by
 unfold Vc Gr at*;split at e <;> split at e
 .have:=qdM hq hm (i:=(-1-s).toNat) (j:=(-1-t).toNat) (by omega) (by omega) (by omega);omega
 .omega
 .omega
 have:=qdM hp hn (i:=s.toNat) (j:=t.toNat) (by omega) (by omega) (by omega);omega
end
def idxOf{α:Type}(p:α->Bool)(xs:List α):Int:=match xs.findIdx? p with|some i=>i|none=>-1
theorem By{p:α->Bool}{xs:List α}(h:k<xs.length)(hno:∀(j:Nat)(h:j<xs.length),j<k->p xs[j]=false)(hp:p xs[k]=true):idxOf p xs=k:=by
 unfold idxOf;rw[List.findIdx?_eq_some_iff_getElem.2 ⟨h,hp,fun j hj=>by simp[hno j (by omega) hj]⟩]
theorem Cq{p:α->Bool}{xs:List α}(hno:∀(j:Nat)(h:j<xs.length),p xs[j]=false):idxOf p xs=-1:=by
 unfold idxOf;rw[List.findIdx?_eq_none_iff.2 fun x hx=>by obtain⟨j,hj,rfl⟩:=Qz hx;exact hno j hj]
theorem oD(p:α->Bool)(xs:List α):(0<=idxOf p xs/\xs.any p=true)\/(idxOf p xs<0/\xs.any p=false):=by
 unfold idxOf;cases h:xs.findIdx? p with
 |none=>right;rw[List.findIdx?_eq_none_iff]at h;exact⟨by simp,by simpa using h⟩
 |some i =>
  left;rw[List.findIdx?_eq_some_iff_getElem]at h;exact⟨by simp,by rw[Xt];exact⟨_,Qg h.1,h.2.1⟩⟩
theorem qoZ(F:FuncId)(cap:Array Value)(p:Int->Bool)(v:Value)(xs:List (Int))(w:World)(hv:Je Wg w w.heap.size v xs)
  (hF:∀(args:Array Value)(w:World),(callFunc F args).run Tryz.prog w=.ok (.enter F args) w)
  (hp:∀(cs:List Value)(x:Int)(w1:World),x∈xs->Below w.heap.size w w1->(Wg).rep w1 w.heap.size cs x->Calls Tryz.prog F (#[.int .i64 x]++cap) w1 fun e w2=>e=.returned (.bool (p x))/\Below w1.heap.size w1 w2) :
  Calls Tryz.prog 249 #[v,.func (.func F) #[] cap] w fun e w'=>e=.returned (.int .i64 (idxOf p xs))/\Below w.heap.size w w':=by
 have HP:=Lh hp;clear hp;obtain⟨A,c,rfl,Nj,Uw⟩:=hv.form;unfold maxLen at Uw;go_enter Tryz.func249,Tryz.ntmps249;go_wp2_with fail;go_loopw [8] (fun v8 wr=>∃k:Nat,k<=xs.length/\v8=.int .i64 k/\Hid (∀(j:Nat)(h:j<xs.length),j<k->p xs[j]=false)/\Below w.heap.size w wr) (fun v8 _=>xs.length-(intOf v8).toNat);exact⟨0,by omega,rfl,fun j h hj=>by omega,Xr _ _⟩;obtain⟨k,hk,rfl,hno,hbr⟩:=hrel;by_cases Jl:k<xs.length
 .obtain⟨ab,ao,cs,rfl,_,Bg,Ja,Zn⟩:=(hv.below hbr).get Jl (by decide);have zaO:=Lh Ja;obtain⟨rfl,Lr,dB⟩:=Ja;have Vn:=Zn 0 _ rfl;clear Zn;simp only[show Wg.size=1 from rfl,Ys,Yq]at Vn;rcases Yo (p xs[k])with ej|ej
  .have HB:=Lh ej;have Mc:=Lh (By Jl hno.o ej);clear ej;go_wp2_with fail;refine (HP.o [.int .i64 xs[k]] xs[k] wr (Qg Jl) hbr zaO.o).mono ?_;rintro e w1 ⟨rfl,hb1⟩;rw[HB.o];go_wp2;go_ret;exact⟨Kw (Gn Mc.o.symm),hbr.trans (hb1.mono hbr.size)⟩
  have HB:=Lh ej;clear ej;go_wp2_with fail;refine (HP.o [.int .i64 xs[k]] xs[k] wr (Qg Jl) hbr zaO.o).mono ?_;rintro e w1 ⟨rfl,hb1⟩;rw[HB.o];go_wp2;go_roundw;exact⟨k+1,by omega,by go_num,fun j h hj=>by by_cases e:j=k;(subst e;exact HB.o);exact hno.o j h (by omega),hbr.trans (hb1.mono hbr.size)⟩;simp[intOf];omega
 have Mc:=Lh (Cq fun j h=>hno.o j h (by omega));go_wp2;go_ret;exact⟨Kw (Gn Mc.o.symm),hbr⟩
theorem qrL(F:FuncId)(cap:Array Value)(p:Int->Bool)(v:Value)(xs:List (Int))(w:World)(hv:Je Wg w w.heap.size v xs)
  (hF:∀(args:Array Value)(w:World),(callFunc F args).run Tryz.prog w=.ok (.enter F args) w)
  (hp:∀(cs:List Value)(x:Int)(w1:World),x∈xs->Below w.heap.size w w1->(Wg).rep w1 w.heap.size cs x->Calls Tryz.prog F (#[.int .i64 x]++cap) w1 fun e w2=>e=.returned (.bool (p x))/\Below w1.heap.size w1 w2) :
  Calls Tryz.prog 192 #[v,.func (.func F) #[] cap] w fun e w'=>e=.returned (.bool (xs.any p))/\Below w.heap.size w w':=by
 have HC:=Lh (qoZ F cap p v xs w hv hF hp);clear hp;rcases oD p xs with ⟨h1,h2⟩|⟨h1,h2⟩
 all_goals
  have H2:=Lh h2;clear h2;go_enter Tryz.func192,Tryz.ntmps192;go_wp2_with fail;refine HC.o.mono ?_;rintro e w1 ⟨rfl,hb1⟩;go_wp2;go_ret;exact⟨Kw (Zw (by first|exact H2.o.symm|(rw[H2.o];simp;done)|(rw[H2.o];simp;omega))),hb1⟩
def Vw:gX (Int×List Int):=Cx Wg (Tw Wg)
theorem qhT(F:FuncId)(cap:Array Value)(p:Int×List Int->Bool)(v:Value)(xs:List (Int×List Int))(w:World)(hv:Je Vw w w.heap.size v xs)
  (hF:∀(args:Array Value)(w:World),(callFunc F args).run Tryz.prog w=.ok (.enter F args) w)
  (hp:∀(cs:List Value)(x:Int×List Int)(w1:World),x∈xs->Below w.heap.size w w1->(Vw).rep w1 w.heap.size cs x->Calls Tryz.prog F (#[.agg cs.toArray]++cap) w1 fun e w2=>e=.returned (.bool (p x))/\Below w1.heap.size w1 w2) :
  Calls Tryz.prog 250 #[v,.func (.func F) #[] cap] w fun e w'=>e=.returned (.int .i64 (idxOf p xs))/\Below w.heap.size w w':=by
 have HP:=Lh hp;clear hp;obtain⟨A,c,rfl,Nj,Uw⟩:=hv.form;unfold maxLen at Uw;go_enter Tryz.func250,Tryz.ntmps250;go_wp2_with fail;go_loopw [8] (fun v8 wr=>∃k:Nat,k<=xs.length/\v8=.int .i64 k/\Hid (∀(j:Nat)(h:j<xs.length),j<k->p xs[j]=false)/\Below w.heap.size w wr) (fun v8 _=>xs.length-(intOf v8).toNat);exact⟨0,by omega,rfl,fun j h hj=>by omega,Xr _ _⟩;obtain⟨k,hk,rfl,hno,hbr⟩:=hrel;by_cases Jl:k<xs.length
 .obtain⟨ab,ao,cs,rfl,_,Bg,Ja,Zn⟩:=(hv.below hbr).get Jl (by decide);obtain⟨u0,u1,rfl⟩:∃u0 u1,cs=[u0,u1]:=by
   match cs,(Vw).len Ja with
   |[u0,u1],_=>exact⟨u0,u1,rfl⟩
  have Vn:=Zn 0 _ rfl;have iX:=Zn 1 _ rfl;have Ja:=Lh Ja;clear Zn;simp only[show (Vw).size=2 from rfl,Yq,<-Yy]at Vn iX;rcases Yo (p xs[k])with ej|ej
  .have HB:=Lh ej;have Mc:=Lh (By Jl hno.o ej);clear ej;go_wp2_with fail;refine (HP.o [u0,u1] xs[k] wr (Qg Jl) hbr Ja.o).mono ?_;rintro e w1 ⟨rfl,hb1⟩;rw[HB.o];go_wp2;go_ret;exact⟨Kw (Gn Mc.o.symm),hbr.trans (hb1.mono hbr.size)⟩
  have HB:=Lh ej;clear ej;go_wp2_with fail;refine (HP.o [u0,u1] xs[k] wr (Qg Jl) hbr Ja.o).mono ?_;rintro e w1 ⟨rfl,hb1⟩;rw[HB.o];go_wp2;go_roundw;exact⟨k+1,by omega,by go_num,fun j h hj=>by by_cases e:j=k;(subst e;exact HB.o);exact hno.o j h (by omega),hbr.trans (hb1.mono hbr.size)⟩;simp[intOf];omega
 have Mc:=Lh (Cq fun j h=>hno.o j h (by omega));go_wp2;go_ret;exact⟨Kw (Gn Mc.o.symm),hbr⟩
theorem qjS(F:FuncId)(cap:Array Value)(p:Int×List Int->Bool)(v:Value)(xs:List (Int×List Int))(w:World)(hv:Je Vw w w.heap.size v xs)
  (hF:∀(args:Array Value)(w:World),(callFunc F args).run Tryz.prog w=.ok (.enter F args) w)
  (hp:∀(cs:List Value)(x:Int×List Int)(w1:World),x∈xs->Below w.heap.size w w1->(Vw).rep w1 w.heap.size cs x->Calls Tryz.prog F (#[.agg cs.toArray]++cap) w1 fun e w2=>e=.returned (.bool (p x))/\Below w1.heap.size w1 w2) :
  Calls Tryz.prog 194 #[v,.func (.func F) #[] cap] w fun e w'=>e=.returned (.bool (xs.any p))/\Below w.heap.size w w':=by
 have HC:=Lh (qhT F cap p v xs w hv hF hp);clear hp;rcases oD p xs with ⟨h1,h2⟩|⟨h1,h2⟩
 all_goals
  have H2:=Lh h2;clear h2;go_enter Tryz.func194,Tryz.ntmps194;go_wp2_with fail;refine HC.o.mono ?_;rintro e w1 ⟨rfl,hb1⟩;go_wp2;go_ret;exact⟨Kw (Zw (by first|exact H2.o.symm|(rw[H2.o];simp;done)|(rw[H2.o];simp;omega))),hb1⟩
theorem Ui:Below w.heap.size w w.drew:=(Xr _ _).drew
theorem qjO(a b:Value)(xs ys:List Int)(w:World)(ha:Je Wg w w.heap.size a xs)(hb:Je Wg w w.heap.size b ys) :
  Calls Tryz.prog 184 #[a,b] w fun e w'=>e=.returned (.bool (decide (xs=ys)))/\Below w.heap.size w w':=by
 obtain⟨A,c,rfl,Nj,Uw⟩:=ha.form;obtain⟨B,d,rfl,mW,mV⟩:=hb.form;unfold maxLen at Uw mV;by_cases hl:xs.length=ys.length
 .have hne:((xs.length:Int) != (ys.length:Int))=false:=by simp;omega
  go_enter Tryz.func184,Tryz.ntmps184;go_wp2;go_loopw [13] (fun v8 wr=>∃k:Nat,k<=xs.length/\v8=.int .i64 k/\Hid (∀(j:Nat)(h:j<xs.length)(h2:j<ys.length),j<k->xs[j]=ys[j])/\Below w.heap.size w wr) (fun v8 _=>xs.length-(intOf v8).toNat);exact⟨0,by omega,rfl,fun j h h2 hj=>by omega,Xr _ _⟩;obtain⟨k,hk,rfl,hno,hbr⟩:=hrel;by_cases Jl:k<xs.length
  .have jv:k<ys.length:=by omega
   obtain⟨ab,ao,cs,rfl,_,Bg,Ja,Zn⟩:=(ha.below hbr).get Jl (by decide);obtain⟨rfl,Lr,dB⟩:=Ja;have Vn:=Zn 0 _ rfl;obtain⟨bb,bo,cs,rfl,_,ng,Ja,Jr⟩:=(hb.below hbr).get jv (by decide);obtain⟨rfl,sG,wF⟩:=Ja;have hd0:=Jr 0 _ rfl;clear Zn Jr;simp only[show Wg.size=1 from rfl,Ys,Yq]at Vn hd0;by_cases heq:xs[k]=ys[k]
   .have hq:(xs[k] != ys[k])=false:=by simp[heq]
    have HQ:=Lh heq;clear heq;go_wp2;refine Text.wt (by kernel_rfl) fun Q' hQ'=>?_;go_wp2;refine⟨by rfl,?_⟩;go_wp2;go_roundw;exact⟨k+1,by omega,by go_num,fun j h h2 hj=>by by_cases e:j=k;(subst e;exact HQ.o);exact hno.o j h h2 (by omega),hbr.drew⟩;simp[intOf];omega
   have hq:(xs[k] != ys[k])=true:=by simp[heq]
   have HQ:=Lh heq;clear heq;go_wp2;refine Text.wt (by kernel_rfl) fun Q' hQ'=>?_;go_wp2;refine⟨by rfl,?_⟩;go_wp2;go_ret;exact⟨Kw (Zw (by rw[eq_comm,Yl];intro h;subst h;exact HQ.o rfl)),hbr.drew⟩
  have HEQ:Hid (xs=ys):=List.ext_getElem hl fun j h h2=>hno.o j h h2 (by omega);go_wp2;go_ret;exact⟨Kw (Zw (by rw[eq_comm,Yk];exact HEQ.o)),hbr⟩
 have hne:((xs.length:Int) != (ys.length:Int))=true:=by simp;omega
 go_enter Tryz.func184,Tryz.ntmps184;go_wp2;go_ret;exact⟨Kw (Zw (by rw[eq_comm,Yl];intro h;subst h;exact hl rfl)),Xr _ _⟩
theorem Kn{cs:List Value}{r:Int×List Int}(h:Vw.rep w B cs r):∃v,cs=[.int .i64 r.1,v]/\Je Wg w B v r.2/\-9223372036854775808<=r.1/\r.1<=9223372036854775807:=by
 obtain⟨c1,c2,rfl,⟨rfl,h1,h2⟩,v,rfl,hs⟩:=h;exact⟨v,rfl,hs,h1,h2⟩
theorem rt(v1 v2:Value)(l1 l2:Int)(r1 r2:List Int)(w:World)(h1:Je Wg w w.heap.size v1 r1)(h2:Je Wg w w.heap.size v2 r2) :
  Calls Tryz.prog 120 #[.agg #[.int .i64 l1,v1],.agg #[.int .i64 l2,v2]] w fun e w'=>e=.returned (.bool (decide ((l1,r1)=(l2,r2))))/\Below w.heap.size w w':=by
 obtain⟨A,c,rfl,Nj,Uw⟩:=h1.form;obtain⟨B,d,rfl,mW,mV⟩:=h2.form;by_cases hl:l1=l2
 .have hq:(l1==l2)=true:=by simp[hl]
  have HL:=Lh hl;clear hl;go_enter Tryz.func120,Tryz.ntmps120;go_wp2_with fail;refine (qjO _ _ r1 r2 _ (h1.next ?g1 ?s1) (h2.next ?g1 ?s1)).mono ?_
  case g1=>go_grown
  case s1=>simp;omega
  rintro e w1 ⟨rfl,hb1⟩;go_wp2;go_ret;refine⟨Kw (Zw (by rw[HL.o];simp)),?_⟩;exact (Below.trans (by go_grown) (hb1.mono (by simp;omega)))
 have hq:(l1==l2)=false:=by simp[hl]
 have HL:=Lh hl;clear hl;go_enter Tryz.func120,Tryz.ntmps120;go_wp2;go_ret;refine⟨Kw (Zw (by rw[eq_comm,Yl];intro h;exact HL.o (congrArg Prod.fst h))),by go_grown⟩
theorem qfE(g:Nat)(v1 v2:Value)(l1 l2:Int)(r1 r2:List Int)(w:World)(h1:Je Wg w w.heap.size v1 r1)(h2:Je Wg w w.heap.size v2 r2)
  (Vn:w.cell? ⟨g,0,none⟩=some (.int .i64 l2)) (Nj:w.cell? ⟨g,1,none⟩=some v2) :
  Calls Tryz.prog 195 #[.agg #[.int .i64 l1,v1],.pointer (some ⟨g,0,none⟩)] w fun e w'=>e=.returned (.bool (decide ((l1,r1)=(l2,r2))))/\Below w.heap.size w w':=by
 have hg:=Zm w _ Vn;simp only at hg;go_enter Tryz.func195,Tryz.ntmps195;go_wp2_with fail;refine (rt v1 v2 l1 l2 r1 r2 _ (h1.next ?g1 ?s1) (h2.next ?g1 ?s1)).mono ?_
 case g1=>go_grown
 case s1=>simp
 rintro e w1 ⟨rfl,hb1⟩;go_wp2;go_ret;exact⟨Kw (Zw (by simp)),(Below.trans (by go_grown) (hb1.mono (by simp)))⟩
theorem iQ[DecidableEq α](rs:List α)(k:Nat)(h:k<rs.length):(rs.take (k+1)).Nodup↔(rs.take k).Nodup/\(rs.take k).any (fun x=>decide (x=rs[k]))=false:=by
 rw[Qc h,List.nodup_append];simp
theorem ax(v:Value)(rs:List (Int×List Int))(w:World)(hv:Je Vw w w.heap.size v rs) :
  Calls Tryz.prog 131 #[v] w fun e w'=>e=.returned (.bool (decide (¬ rs.Nodup)))/\Below w.heap.size w w':=by
 obtain⟨A,c,rfl,Nj,Uw⟩:=hv.form;unfold maxLen at Uw;go_enter Tryz.func131,Tryz.ntmps131;go_wp2_with fail;go_loopw [7] (fun v7 wr=>∃k:Nat,k<=rs.length/\v7=.int .i64 k/\Hid ((rs.take k).Nodup)/\Below w.heap.size w wr) (fun v7 _=>rs.length-(intOf v7).toNat);exact⟨0,by omega,rfl,by simp[Hid],Xr _ _⟩;obtain⟨k,hk,rfl,hno,hbr⟩:=hrel;by_cases Jl:k<rs.length
 .obtain⟨ab,ao,cs,rfl,_,Bg,Ja,Zn⟩:=(hv.below hbr).get Jl (by decide);obtain⟨u,rfl,hu,Ik,Si⟩:=Kn Ja;have Vn:=Zn 0 _ rfl;have iX:=Zn 1 _ rfl;clear Zn;simp only[show Vw.size=2 from rfl,Yq,<-Yy]at Vn iX;obtain⟨A1,e1,rfl,ew,sL⟩:=hu.form;have htk:=Lh (hv.take_ k (n':=k) (by rw[Qq];omega));have hsn:=Lh (iQ rs k Jl);go_wp2_with fail;have ez:Below wr.heap.size wr (wr.alloc (Obj.cells #[Value.int IntKind.i64 rs[k].fst,Value.slice A1 rs[k].snd.length e1] 63)):=(Xr _ _).alloc (Yb _) _;have HC:=Lh (qjS 195 #[.pointer (some ⟨wr.heap.size,0,none⟩)] (fun x=>decide (x=rs[k])) _ (rs.take k) (wr.alloc (Obj.cells #[Value.int IntKind.i64 rs[k].fst,Value.slice A1 rs[k].snd.length e1] 63))
   (htk.o.next (hbr.alloc hbr.size _) (by simp;exact Nat.le_succ_of_le hbr.size)) (fun _ _=>by kernel_rfl) (by
    intro cs x w2 hx Jd hrx
    obtain⟨vx,rfl,Be,_,_⟩:=Kn hrx
    have Fb:=Jd.size
    simp only[Xs]at Fb Jd Be
    have hws:=hbr.size
    refine (qfE wr.heap.size vx (Value.slice A1 rs[k].snd.length e1) x.1 rs[k].1 x.2 rs[k].2 w2 (Be.more Fb) (hu.fut (ez.trans (Jd.mono (Yi _))) hws (by omega)) ?_ ?_)
    .rw[Jd.cell (p:=⟨wr.heap.size,0,none⟩) (Yf _)];simp
    rw[Jd.cell (p:=⟨wr.heap.size,1,none⟩) (Yf _)];simp))
  rcases Yo ((rs.take k).any fun x=>decide (x=rs[k]))with oJ|oJ
  .have HA:=Lh oJ;clear oJ;refine HC.o.mono ?_;rintro e w1 ⟨rfl,hb1⟩;rw[HA.o];go_wp2;go_ret;refine⟨Kw (Zw ?_),(hbr.alloc hbr.size _).trans (hb1.mono (by simp;exact Nat.le_succ_of_le hbr.size))⟩;rw[eq_comm,Yk];intro Te;have h3:=hsn.o.1 (Te.sublist (List.take_sublist _ _));rw[HA.o]at h3;cases h3.2
  have HA:=Lh oJ;clear oJ;refine HC.o.mono ?_;rintro e w1 ⟨rfl,hb1⟩;rw[HA.o];go_wp2;go_roundw;exact⟨k+1,by omega,by go_num,hsn.o.2 ⟨hno.o,HA.o⟩,(hbr.alloc hbr.size _).trans (hb1.mono (by simp;exact Nat.le_succ_of_le hbr.size))⟩;simp[intOf];omega
 go_wp2;go_ret;refine⟨Kw (Zw ?_),hbr⟩;have:=hno.o;rw[Qd (by omega)]at this;simp[this]
def Nt{α:Type}[DecidableEq α](l:List (α×Value))(k:α):Option Value:=(l.find? fun p=>decide (p.1=k)).map (·.2)
def Ue{α:Type}[DecidableEq α]:List (α×Value)->α->Value->List (α×Value)
 |[],k,v=>[(k,v)]
 |p::r,k,v=>if p.1=k then (k,v)::r else p::Ue r k v
def Mb{α:Type}(κ:α->Value)(w:World)(g:Nat)(l:List (α×Value)):Prop :=
 ∃(es:Array MapEntry)(clock:Nat),w.heap[g]?=some (.map es clock)/\es.toList.map (fun e=>(e.key,e.val))=l.map (fun p=>(κ p.1,p.2))
structure St{α:Type}[DecidableEq α](P:Program)(mt kt et:TypeId)(κ:α->Value):Prop where
 und:P.underlying mt=some (.map kt et)
 check:∀(b:Bool)(a:α)(w:World),(Instr.checkKey b 10000 kt (κ a)).run P w=.ok () w
 find:∀(k:α)(l:List (α×Value))(es:List MapEntry)(w:World),es.map (fun e=>(e.key,e.val))=l.map (fun p=>(κ p.1,p.2)) ->
  (Instr.findKey kt (κ k) es).run P w=.ok ((l.findIdx? fun p=>decide (p.1=k)).bind fun i=>(l[i]?).map fun p=>(i,p.2)) w
 stays:∀a:α,Instr.sameBits 10000 (κ a) (κ a)=true
section
variable {α:Type} {κ:α->Value} {w:World} {g:Nat} {l:List (α×Value)}
theorem Mb.made(w:World):Mb κ (w.alloc (.map #[] 0)) w.heap.size []:=⟨#[],0,heap_alloc_new w _,rfl⟩
theorem Mb.lt(h:Mb κ w g l):g<w.heap.size:=by
 obtain⟨es,c,hh,_⟩:=h;exact (gl hh)
theorem Mb.of_block(h:Mb κ w g l)(hb:w'.heap[g]?=w.heap[g]?):Mb κ w' g l:=by
 obtain⟨es,c,hh,he⟩:=h;exact⟨es,c,hb.trans hh,he⟩
theorem Mb.below(h:Mb κ w g l)(hb:Below B w w')(hg:g<B):Mb κ w' g l:=h.of_block (hb.block g hg)
theorem Mb.alloc(h:Mb κ w g l)(o:Obj):Mb κ (w.alloc o) g l:=h.of_block (Zf w o g h.lt)
theorem Mb.grown{row:Option Nat}(h:Mb κ w g l)(hg:w.grownBy w' row)(hne:some g≠row):Mb κ w' g l:=h.of_block (hg.block g h.lt hne)
theorem Mb.setCell{p:Addr}(h:Mb κ w g l)(hp:g≠p.block):Mb κ (w.setCell p v) g l:=h.of_block (Ze w p v g hp)
end
section
variable {α:Type} [DecidableEq α] {P:Program} {mt kt et:TypeId} {κ:α->Value} {w:World} {g:Nat} {l:List (α×Value)}
theorem pB:∀(l:List (α×Value))(k:α),((l.findIdx? fun p=>decide (p.1=k)).bind fun i=>(l[i]?).map fun p=>(i,p.2)).map (·.2)=Nt l k
 |[],k=>rfl
 |p::r,k=>by
  have ih:=pB r k;unfold Nt at ih |-;rw[List.findIdx?_cons,List.find?_cons];by_cases hp:p.1=k
  .simp[hp]
  simp only[hp,decide_false,Bool.false_eq_true,if_false];rw[<-ih];cases hf:r.findIdx? fun p=>decide (p.1=k)with
  |none=>simp
  |some i=>simp[Option.map_map,Function.comp_def]
theorem Mb.lookup(K:St P mt kt et κ)(h:Mb κ w g l){z:Value}(hz:∀w:World,(zeroValue et).run P w=.ok z w)(k:α) :
  (Instr.lookup mt (.map (some g)) (κ k) false).run P w=.ok ((Nt l k).getD z) w:=by
 obtain⟨es,c,hh,he⟩:=h;have hf:=K.find k l es.toList w he;have ha:=pB l k;cases hx:((l.findIdx? fun p=>decide (p.1=k)).bind fun i=>(l[i]?).map fun p=>(i,p.2))with
 |none =>
  rw[hx]at hf ha;rw[<-ha];simp[Instr.lookup,run_underlying K.und,getObj,Sem.run,hh,K.check,hf,hz,Result.andThen]
 |some r =>
  rw[hx]at hf ha;rw[<-ha];simp[Instr.lookup,run_underlying K.und,getObj,Sem.run,hh,K.check,hf,Result.andThen]
theorem Mb.lookup_ok(K:St P mt kt et κ)(h:Mb κ w g l){z:Value}(hz:∀w:World,(zeroValue et).run P w=.ok z w)(k:α) :
  (Instr.lookup mt (.map (some g)) (κ k) true).run P w=.ok (.tuple #[(Nt l k).getD z,.bool (Nt l k).isSome]) w:=by
 obtain⟨es,c,hh,he⟩:=h;have hf:=K.find k l es.toList w he;have ha:=pB l k;cases hx:((l.findIdx? fun p=>decide (p.1=k)).bind fun i=>(l[i]?).map fun p=>(i,p.2))with
 |none =>
  rw[hx]at hf ha;rw[<-ha];simp[Instr.lookup,run_underlying K.und,getObj,Sem.run,hh,K.check,hf,hz,Result.andThen]
 |some r =>
  rw[hx]at hf ha;rw[<-ha];simp[Instr.lookup,run_underlying K.und,getObj,Sem.run,hh,K.check,hf,Result.andThen]
theorem mA:∀(l:List (α×Value))(k:α)(v:Value),Ue l k v=match l.findIdx? fun p=>decide (p.1=k)with
  |some i=>l.set i (k,v)
  |none=>l++[(k,v)]
 |[],k,v=>rfl
 |p::r,k,v=>by
  have ih:=mA r k v;unfold Ue;rw[List.findIdx?_cons];by_cases hp:p.1=k
  .simp[hp]
  simp only[hp,decide_false,Bool.false_eq_true,if_false];rw[ih];cases hf:r.findIdx? fun p=>decide (p.1=k)with
  |none=>simp
  |some i=>simp
theorem Mb.update(K:St P mt kt et κ)(h:Mb κ w g l)(k:α)(v:Value) :
  ∃w',(Instr.mapUpdate mt (.map (some g)) (κ k) v).run P w=.ok () w'/\Mb κ w' g (Ue l k v)/\w.grownBy w' (some g)/\w'.heap.size=w.heap.size:=by
 obtain⟨es,c,hh,he⟩:=h;have hf:=K.find k l es.toList w he;have zbA:∀o:Obj,w.grownBy { w with heap:=w.heap.setIfInBounds g o } (some g):=fun o=>⟨rfl,rfl,rfl,by simp,fun k' _ hne=>by
  have:g≠k':=fun e=>hne (by rw[e])
  simp[Array.getElem?_setIfInBounds_ne this]⟩
 have Jl:g<w.heap.size:=(gl hh);rw[mA];cases hi:l.findIdx? fun p=>decide (p.1=k)with
 |none =>
  rw[hi]at hf;simp only[Option.bind_none]at hf;refine⟨{ w with heap:=w.heap.setIfInBounds g (.map (es.push { key:=κ k,val:=v,born:=c }) (c+1)) },?_,⟨es.push { key:=κ k,val:=v,born:=c },c+1,by simp[Jl],?_⟩,zbA _,by simp⟩
  .simp[Instr.mapUpdate,run_underlying K.und,getObj,Sem.run,hh,K.check,hf,setObj,Result.andThen]
  simp[he]
 |some i =>
  have Wp:i<l.length:=by
   rw[List.findIdx?_eq_some_iff_getElem]at hi;exact hi.1
  have hik:l[i].1=k:=by
   rw[List.findIdx?_eq_some_iff_getElem]at hi;simpa using hi.2.1
  have Fb:es.size=l.length:=by
   have:=congrArg List.length he;simpa using this
  have hie:i<es.size:=by omega
  have hei:(es[i]).key=κ k:=by
   have:=congrArg (fun q=>q[i]?) he;simp[Wp,hie]at this;rw[this.1,hik]
  rw[hi]at hf;simp only[Option.bind_some,Qa Wp,Option.map_some]at hf;refine⟨{ w with heap:=w.heap.setIfInBounds g (.map (es.modify i fun e=>{ e with key:=κ k,val:=v }) c) },?_,⟨es.modify i fun e=>{ e with key:=κ k,val:=v },c,by simp[Jl],?_⟩,zbA _,by simp⟩
  .simp[Instr.mapUpdate,run_underlying K.und,getObj,Sem.run,hh,K.check,hf,setObj,Result.andThen,Instr.keyThatStays,hei,hie,K.stays]
  apply List.ext_getElem?;intro j;have hj:=congrArg (fun q=>q[j]?) he;simp only[Qv,Array.getElem?_toList]at hj |-;rw[Xz,Xw];by_cases Aa:i=j
  .subst Aa;simp[Wp,hie]
  rw[if_neg Aa,if_neg Aa];exact hj
theorem Tj{ops:Array Oper}{rest:List Oper}{o:Oper}{a:Act}{Q:Exit->Act->World->Prop}{m x y:Operand}(K:St P mt kt et κ)(hgd:o.guard=none)(ho:o.op=.mapUpdate mt m x y)
  {k:α}  (hm:a.eval m=.map (some g)) (hx:a.eval x=κ k) (hy:a.eval y=v) (h:Mb κ w g l)
  (hK:∀w',Mb κ w' g (Ue l k v)->w.grownBy w' (some g)->w'.heap.size=w.heap.size->wpList P ops Q rest (a.put o.dst undef) w'):wpList P ops Q (o::rest) a w:=by
 refine wpList_plain hgd fun K' hK'=>?_;obtain⟨w',fM,h1,h2,h3⟩:=h.update K k v;unfold Oper.wp execOp;simp only[ho,Zg,Sem.run_pure,hm,hx,hy,fM,Result.andThen];exact hK' _ _ (hK w' h1 h2 h3)
end
theorem Bh[DecidableEq α]{κ:α->Value}{d:TypeDesc}(hs:∀a b:α,Instr.sameNow d (κ a) (κ b)=some (decide (b=a)))(k:α):∀(l:List (α×Value))(es:List MapEntry)(n:Nat),es.map (fun e=>(e.key,e.val))=l.map (fun p=>(κ p.1,p.2)) ->
  Instr.findNow d (κ k) es n=some ((l.findIdx? fun p=>decide (p.1=k)).bind fun i=>(l[i]?).map fun p=>(n+i,p.2))
 |[],[],n,_=>rfl
 |[],e::es,n,h=>by simp at h
 |p::r,[],n,h=>by simp at h
 |p::r,e::es,n,h=>by
  simp only[List.map_cons,List.cons.injEq,Prod.mk.injEq]at h;unfold Instr.findNow;rw[h.1.1,hs,List.findIdx?_cons];by_cases hp:p.1=k
  .simp[hp,h.1.2]
  simp only[hp,decide_false,Bool.false_eq_true,if_false];rw[Bh hs k r es (n+1) h.2];cases hf:r.findIdx? fun p=>decide (p.1=k)with
  |none=>simp
  |some i=>simp[Yy,Nat.add_comm 1 i]
theorem qrW[DecidableEq α][BEq α][LawfulBEq α](a b:α):(a==b)=decide (b=a):=by
 by_cases e:a=b
 .subst e;simp
 rw[Yp.2 e,Yx fun h=>e h.symm]
theorem Re(a b:ByteArray):(a==b)=decide (b=a):=by
 obtain⟨x⟩:=a;obtain⟨y⟩:=b;have h:((⟨x⟩:ByteArray)==⟨y⟩)=(x==y):=rfl;rw[h];by_cases e:x=y
 .subst e;simp
 rw[Yp.2 e,Yx fun h=>e (by injection h with h;exact h.symm)]
theorem qhI(h1:P.underlying mt=some (.map kt et))(h2:P.underlying kt=some .string):St P mt kt et Value.string where
 und:=h1
 check:=fun b a w=>by
  show (Instr.checkKey b (9999+1) kt (.string a)).run P w=_;unfold Instr.checkKey;simp only[Zg,run_underlying h2,Result.andThen,Sem.run_pure]
 find:=fun k l es w h=>by
  unfold Instr.findKey;have:=Bh (κ:=Value.string) (d:=.string) (fun a b:ByteArray=>(congrArg some (Re a b):some (a==b)=some (decide (b=a)))) k l es 0 h;simp only[Zg,run_underlying h2,Result.andThen,this,Yr,Sem.run_pure]
 stays:=fun a=>by
  rw[show (10000:Nat)=9999+1 from rfl];have:=Re a a;simp[Instr.sameBits,this]
theorem qhJ{q:IntKind}(h1:P.underlying mt=some (.map kt et))(h2:P.underlying kt=some (.int q)):St P mt kt et (Value.int q) where
 und:=h1
 check:=fun b a w=>by
  show (Instr.checkKey b (9999+1) kt (.int q a)).run P w=_;unfold Instr.checkKey;simp only[Zg,run_underlying h2,Result.andThen,Sem.run_pure]
 find:=fun k l es w h=>by
  unfold Instr.findKey;have:=Bh (κ:=Value.int q) (d:=.int q) (fun a b:Int=>(if_pos rfl).trans (congrArg some (qrW a b))) k l es 0 h;simp only[Zg,run_underlying h2,Result.andThen,this,Yr,Sem.run_pure]
 stays:=fun a=>by
  rw[show (10000:Nat)=9999+1 from rfl];simp[Instr.sameBits]
def dQ(n m:Nat)(s:Int):Bool:=decide ((n:Int)<=s)||decide (s < -(m:Int))
theorem qrB(g:Nat)(A1 A2:Option Addr)(n m c d:Nat)(s:Int)(w:World)(h1:w.cell? ⟨g,0,none⟩=some (.slice A1 n c))(h2:w.cell? ⟨g,1,none⟩=some (.slice A2 m d))(hm:m<=9223372036854775807) :
  Calls Tryz.prog 193 #[.int .i64 s,.pointer (some ⟨g,0,none⟩)] w fun e w'=>e=.returned (.bool (dQ n m s))/\w=w':=by
 by_cases hb:(n:Int)<=s
 .have hd:decide ((n:Int)<=s)=true:=by simpa using hb
  go_enter Tryz.func193,Tryz.ntmps193;go_wp2;go_ret;exact⟨Kw (Zw (by unfold dQ;rw[hd];rfl)),rfl⟩
 have hd:decide ((n:Int)<=s)=false:=by simpa using hb
 go_enter Tryz.func193,Tryz.ntmps193;go_wp2
 all_goals
  go_ret;exact⟨Kw (Zw (by rw[Bool.eq_iff_iff];simp[dQ] <;> omega)),rfl⟩
def Cv(n m:Nat)(r:Int×List Int):Bool:=decide (0<=r.1/\r.1<n)&&decide (r.2.length<=64)&&!r.2.any (dQ n m)
theorem ug(A1 A2:Option Addr)(v3 v:Value)(n m c d:Nat)(l:Int)(r:List Int)(w:World)(hm:m<=9223372036854775807)(hv:Je Wg w w.heap.size v r) :
  Calls Tryz.prog 129 #[.agg #[.slice A1 n c,.slice A2 m d,v3],.agg #[.int .i64 l,v]] w fun e w'=>e=.returned (.bool (Cv n m (l,r)))/\Below w.heap.size w w':=by
 obtain⟨B,e,rfl,ew,sL⟩:=hv.form;unfold maxLen at sL;by_cases h1:0<=l/\l<n/\r.length<=64
 .obtain⟨g1,g2,g3⟩:=h1;have HD:Hid (Cv n m (l,r)=!r.any (dQ n m)):=by
   show _=_;unfold Cv;simp[g1,g2,g3]
  go_enter Tryz.func129,Tryz.ntmps129;go_wp2_with fail;have ez:Below w.heap.size w ((w.alloc (Obj.cells #[Value.slice A1 n c,Value.slice A2 m d,v3] 25)).alloc (Obj.cells #[Value.int IntKind.i64 l,Value.slice B r.length e] 63)):=by go_grown
  refine (qrL 193 #[.pointer (some ⟨w.heap.size,0,none⟩)] (dQ n m) _ r _ (hv.next ez (by simp;omega)) (fun _ _=>by kernel_rfl) ?_).mono ?_
  .intro cs x w2 hx Jd _;refine (qrB w.heap.size A1 A2 n m c d x w2 ?_ ?_ hm).mono fun e w3 ⟨he,hw⟩=>⟨he,hw ▸ Xr _ _⟩
   .rw[Jd.cell (p:=⟨w.heap.size,0,none⟩) (by simp;omega)];simp
   rw[Jd.cell (p:=⟨w.heap.size,1,none⟩) (by simp;omega)];simp
  rintro e w1 ⟨rfl,hb1⟩;go_wp2;go_ret;exact⟨Kw (Zw (by rw[HD.o])),ez.trans (hb1.mono (by simp;omega))⟩
 have HD:Hid (Cv n m (l,r)=false):=by
  show _=_;unfold Cv;rw[Bool.eq_false_iff];intro h;simp at h;exact h1 ⟨h.1.1.1,h.1.1.2,h.1.2⟩
 have hc:l<0\/(0<=l/\(n:Int)<=l)\/(0<=l/\l<n/\64<r.length):=by omega
 rcases hc with h|⟨h,h'⟩|⟨h,h',h''⟩
 all_goals
  go_enter Tryz.func129,Tryz.ntmps129;go_wp2
  all_goals first
   |(exfalso;omega)
   |(exfalso;simp at*;omega)
   |(go_ret;exact⟨Kw (Zw (by rw[HD.o])),by go_grown⟩)
def Lo(rs:List (Int×List Int))(left:Int)(k:Nat):List Int:=((List.range k).filter fun i:Nat=>decide ((rs.getD i (0,[])).1=left)).map fun i:Nat=>Int.ofNat i
theorem qgR(rs:List (Int×List Int))(left:Int)(k:Nat)(h:k<rs.length):Lo rs left (k+1)=Lo rs left k++if rs[k].1=left then [(k:Int)]else []:=by
 unfold Lo;rw[List.range_succ,List.filter_append,Qt];simp[Qa h,List.filter_cons];split <;> simp
theorem qwQ(rs:List (Int×List Int))(left:Int)(k:Nat):(Lo rs left k).length<=k:=by
 unfold Lo;rw[Qk];exact Yd (List.length_filter_le _ _) (by simp)
theorem La:Dg Tryz.prog 61 3 1 8 (.int .i64 0):=Gh Tryz.underlying61 (by kernel_rfl) rfl (by omega)
def Ku(l:List Int):List Value:=l.map (Value.int .i64)
theorem kh(A1 A2:Option Addr)(v3:Value)(n m c d:Nat)(left:Int)(rs:List (Int×List Int))(w:World)(hv:Je Vw w w.heap.size v3 rs)(hr:rs.length<=1099511627776) :
  Calls Tryz.prog 130 #[.agg #[.slice A1 n c,.slice A2 m d,v3],.int .i64 left] w fun e w'=>∃v,e=.returned v /\
   w'.ownsRow w.heap.size 3 1 v (Lo rs left rs.length).length (Ku (Lo rs left rs.length))/\Below w.heap.size w w':=by
 obtain⟨B,e,rfl,ew,sL⟩:=hv.form;unfold maxLen at sL;go_enter Tryz.func130,Tryz.ntmps130;go_wp2_with fail;go_loopw [5,11] (fun v5 v11 wr=>∃k:Nat,k<=rs.length/\v11=.int .i64 k/\wr.ownsRow w.heap.size 3 1 v5 (Lo rs left k).length (Ku (Lo rs left k))/\Below w.heap.size w wr) (fun _ v11 _=>rs.length-(intOf v11).toNat);exact⟨0,by omega,rfl,by simpa[Lo,Ku]using Za _ _ _ _,by go_grown⟩;obtain⟨k,hk,rfl,hown,hbr⟩:=hrel;by_cases Jl:k<rs.length
 .obtain⟨ab,ao,cs,rfl,_,Bg,Ja,Zn⟩:=(hv.below hbr).get Jl (by decide);obtain⟨u,rfl,hu,Ik,Si⟩:=Kn Ja;obtain⟨A3,e3,rfl,_,_⟩:=hu.form;have Vn:=Zn 0 _ rfl;have iX:=Zn 1 _ rfl;clear Zn;simp only[show Vw.size=2 from rfl,Yq,<-Yy]at Vn iX;have hsn:=Lh (qgR rs left k Jl);have hle:=qwQ rs left k;have hbs:=hbr.size;by_cases hq:rs[k].1=left
  .have hqb:(rs[k].1==left)=true:=by simp[hq]
   have HQ:=Lh hq;clear hq;go_wp2_with (at_builtin;refine Zy La rfl rfl rfl rfl ((hown.alloc _).alloc _) (Rd.row (B:=wr.heap.size+2) (Gg wr _ _) (by omega)) rfl (by simp[Value.oneCell']) ?h63 ?hby ?hbase ?_)
   case h63=>simp only[maxLen];omega
   case hby=>omega
   case hbase=>simp;omega
   intro v1 w3 Tt oF _ _;go_wp2;go_roundw
   case rel =>
    refine⟨k+1,by omega,by go_num,?_,?_⟩
    .rw[hsn.o,if_pos HQ.o];simpa[Ku]using Tt
    exact Zr ((hbr.alloc hbs _).alloc (by simp;omega) _) oF ((hown.alloc _).alloc _) (Yb _) (by simp;omega)
   case measure=>simp[intOf];omega
  have hqb:(rs[k].1==left)=false:=by simp[hq]
  have HQ:=Lh hq;clear hq;go_wp2;go_roundw;exact⟨k+1,by omega,by go_num,by rw[hsn.o,if_neg HQ.o,List.append_nil];exact hown.alloc _,hbr.alloc hbs _⟩;simp[intOf];omega
 have Du:k=rs.length:=by omega
 subst Du;go_wp2;go_ret;exact⟨_,rfl,hown,hbr⟩
def Dc(may:List UInt8->Bool)(ns:List ByteArray):Bool:=ns.all (fun s=>may s.data.toList)&&decide ns.Nodup
def Ln(ns:List ByteArray):List (ByteArray×Value):=ns.map fun n=>(n,.int .i64 1)
theorem qbJ(ns:List ByteArray)(s:ByteArray):Nt (Ln ns) s=if ns.any (fun n=>decide (n=s))then some (Value.int .i64 1)else none:=by
 unfold Nt Ln
 induction ns with
 |nil=>rfl
 |cons n ns ih =>
  rw[List.map_cons,List.find?_cons];by_cases h:n=s
  .subst h;simp
  simp only[h,decide_false,List.any_cons,Yt];rw[ih]
theorem ac(ns:List ByteArray)(s:ByteArray)(v:Value)(h:s∉ns):Ue (Ln ns) s v=Ln ns++[(s,v)]:=by
 induction ns with
 |nil=>rfl
 |cons n ns ih =>
  simp only[List.mem_cons,not_or]at h;show Ue ((n,Value.int .i64 1)::Ln ns) s v=_;unfold Ue;rw[if_neg (Ne.symm h.1),ih h.2];rfl
theorem qs(ns:List ByteArray)(k:Nat)(h:k<ns.length):Ln (ns.take (k+1))=Ln (ns.take k)++[(ns[k],.int .i64 1)]:=by
 rw[Qc h];unfold Ln;rw[Qt];rfl
theorem pN:St Tryz.prog 147 9 3 Value.string:=qhI Tryz.underlying147 Tryz.underlying9
theorem kC(w:World):(zeroValue 3).run Tryz.prog w=.ok (.int .i64 0) w:=by kernel_rfl
end Go.Proofs.YtmaojnmnbpomeaaGreatDoor
