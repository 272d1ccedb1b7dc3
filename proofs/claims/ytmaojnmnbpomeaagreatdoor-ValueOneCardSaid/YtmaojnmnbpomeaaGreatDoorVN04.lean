/- A part. -/
import Derived.Test.YtmaojnmnbpomeaaGreatDoorVN03
import Derived.OrdersHeld
import Derived.Great.BuildSlice
import Derived.Laws.EntriesVeiled
set_option maxRecDepth 100000
set_option maxHeartbeats 64000000
namespace Go.Proofs.YtmaojnmnbpomeaaGreatDoor.TextI
open Go Go.RowKit Go.Proofs.YtmaojnmnbpomeaaGreatDoor.Text
variable{a a':Act}{K K':Act->World->Prop}{Q:Exit->Act->World->Prop}{c:Nat}{d dst:Option Tmp}{v v':Value}{w w0:World}
variable {P:Program} {ops:Array Oper} {I:World->Prop}
def YOld(P:Program)(ops:Array Oper)(I:World->Prop)(o:Oper)(v:Value)(a:Act):Prop :=
 (Region.wanted o (yielded ops a.tmps)=true/\∀w,I w->(execOp a.eval o).run P w=.ok (.value v) w)\/(Region.wanted o (yielded ops a.tmps)=false/\v=undef)
theorem yold_keep{o:Oper}(Ug:∀cs b,o.op≠.select cs b)(h1:∀t,d=some t->t∉o.looksAt ops)(hs:Im a a' d) :
  YOld P ops I o v a↔YOld P ops I o v a':=by
 obtain⟨u,ds,rfl⟩:=hs;have e1:execOp (({ a with defers:=ds }:Act).put d u).eval o=execOp a.eval o:=(execOp_put (ops:=ops) o Ug _ d u h1).trans rfl;have e2:Region.wanted o (yielded ops (({ a with defers:=ds }:Act).put d u).tmps)=Region.wanted o (yielded ops a.tmps):=wanted_put o _ d u h1;unfold YOld;rw[e1,e2]
theorem yold_one(h0:I w0){o:Oper}(h:YOld P ops I o v a)(h':YOld P ops I o v' a):v=v':=by
 rcases h with ⟨hw,h⟩|⟨hw,rfl⟩ <;> rcases h' with ⟨eh,h'⟩|⟨eh,rfl⟩
 .have:=(h w0 h0).symm.trans (h' w0 h0);injection this with h1 _;injection h1
 .rw[hw]at eh;cases eh
 .rw[hw]at eh;cases eh
 rfl
def Yc(P:Program)(ops:Array Oper)(I:World->Prop)(c:Nat)(o:Oper)(v:Value)(a:Act):Prop:=if c=0 then Yields P ops o v a else YOld P ops I o v a
theorem yc_keep{o:Oper}(Ug:∀cs b,o.op≠.select cs b)(h1:∀t,d=some t->t∉o.looksAt ops)(hs:Im a a' d) :
  Yc P ops I c o v a↔Yc P ops I c o v a':=by
 unfold Yc;split
 .exact Fe Ug h1 hs
 exact yold_keep Ug h1 hs
theorem yc_one(h0:I w0){o:Oper}(h:Yc P ops I c o v a)(h':Yc P ops I c o v' a):v=v':=by
 unfold Yc at h h';split at h
 .rename_i hc;rw[if_pos hc]at h';exact gY w0 h h'
 rename_i hc;rw[if_neg hc]at h';exact yold_one h0 h h'
def stG(P:Program)(ops:Array Oper)(I:World->Prop)(c:Nat)(o:Oper)(K:Act->World->Prop)(a:Act)(w:World):Prop :=
 if c<=1 then ∃v,Yc P ops I c o v a/\K (a.put o.dst v) w
 else if Region.wanted o (yielded ops a.tmps)=true then o.wp P a w (fun a' w'=>(c=3->I w')/\K a' w') xx else K (a.put o.dst undef) w
theorem stG_mono{o:Oper}(h:∀a w,K a w->K' a w)(hh:stG P ops I c o K a w):stG P ops I c o K' a w:=by
 unfold stG at*;split at hh
 .rename_i hc;rw[if_pos hc];obtain⟨v,h1,h2⟩:=hh;exact⟨v,h1,h _ _ h2⟩
 rename_i hc;rw[if_neg hc];split at hh
 .rename_i hw;rw[if_pos hw];exact Oper.wp_mono (fun a w hk=>⟨hk.1,h _ _ hk.2⟩) hh
 rename_i hw;rw[if_neg hw];exact h _ _ hh
theorem stG_some{o:Oper}(hh:stG P ops I c o K a w):∃a' w',Im a a' o.dst/\K a' w':=by
 unfold stG at hh;split at hh
 .obtain⟨v,_,h⟩:=hh;exact⟨_,_,Jm _ _ _,h⟩
 split at hh
 .obtain⟨a',w',hs,_,hk⟩:=Br kW hh;exact⟨a',w',hs,hk⟩
 exact⟨_,_,Jm _ _ _,hh⟩
theorem stG_put{o:Oper}
  (Ug:∀cs b,o.op≠.select cs b) (h1:∀d,dst=some d->d∉o.looksAt ops) (h2:∀d,dst=some d->o.dst≠some d)
  (hK:∀a' w',Im a a' o.dst->K a' w'->K' (a'.put dst v) w') (hh:stG P ops I c o K a w):stG P ops I c o K' (a.put dst v) w:=by
 unfold stG at*;split at hh
 .rename_i hc;rw[if_pos hc];obtain⟨u,hy,h⟩:=hh;refine⟨u,(yc_keep Ug h1 (Jm a dst v)).1 hy,?_⟩;rw[Act.put_comm a v u h2];exact hK _ _ (Jm _ _ _) h
 rename_i hc;rw[if_neg hc,wanted_put o a dst v h1];split at hh
 .rename_i hw;rw[if_pos hw];exact nD Ug h1 h2 (fun a' w' hs hk=>⟨hk.1,hK _ _ hs hk.2⟩) hh
 rename_i hw;rw[if_neg hw,Act.put_comm a v undef h2];exact hK _ _ (Jm _ _ _) hh
theorem stG_unput{o:Oper}
  (Ug:∀cs b,o.op≠.select cs b) (h1:∀d,dst=some d->d∉o.looksAt ops) (h2:∀d,dst=some d->o.dst≠some d)
  (hK:∀a' w',Im a a' o.dst->K (a'.put dst v) w'->K' a' w') (hh:stG P ops I c o K (a.put dst v) w):stG P ops I c o K' a w:=by
 unfold stG at*;split at hh
 .rename_i hc;rw[if_pos hc];obtain⟨u,hy,h⟩:=hh;refine⟨u,(yc_keep Ug h1 (Jm a dst v)).2 hy,?_⟩;rw[Act.put_comm a v u h2]at h;exact hK _ _ (Jm _ _ _) h
 rename_i hc;rw[if_neg hc];rw[wanted_put o a dst v h1]at hh;split at hh
 .rename_i hw;rw[if_pos hw];exact iC Ug h1 h2 (fun a' w' hs hk=>⟨hk.1,hK _ _ hs hk.2⟩) hh
 rename_i hw;rw[if_neg hw];rw[Act.put_comm a v undef h2]at hh;exact hK _ _ (Jm _ _ _) hh
theorem swapG(h0:I w0){cx cy:Nat}{x y:Oper}(Be:∀cs b,x.op≠.select cs b)(hsy:∀cs b,y.op≠.select cs b)
  (hap:x.apart ops y=true) (hc:cx<=1\/cy<=1) (h:stG P ops I cx x (stG P ops I cy y K) a w):stG P ops I cy y (stG P ops I cx x K) a w:=by
 obtain⟨p1,p2,p3⟩:=Oper.apart_spec hap;have p2':∀d,y.dst=some d->x.dst≠some d:=fun d hd hx=>p2 d hx hd;rcases hc with hx|hy
 .have h':=h;unfold stG at h';rw[if_pos hx]at h';obtain⟨v,hv,h2⟩:=h';refine stG_unput hsy p1 p2 (fun a' w' hs hk=>?_) h2;unfold stG;rw[if_pos hx];exact⟨v,(yc_keep Be p3 hs).1 hv,hk⟩
 obtain⟨a1,w1,hs,hst⟩:=stG_some h;unfold stG at hst;rw[if_pos hy]at hst;obtain⟨v,hv,_⟩:=hst;have mw:=(yc_keep hsy p1 hs).2 hv;have goal:stG P ops I cx x K (a.put y.dst v) w:=stG_put Be p3 p2' (fun a' w' hs' hk=>by
  unfold stG at hk
  rw[if_pos hy]at hk
  obtain⟨v',hv',hk⟩:=hk
  have:=yc_one h0 hv' ((yc_keep hsy p1 hs').1 mw)
  subst this
  exact hk) h
 unfold stG;rw[if_pos hy];exact⟨v,mw,goal⟩
def wpG(P:Program)(ops:Array Oper)(I:World->Prop)(cl:Nat->Nat)(Q:Act->World->Prop):List Nat->Act->World->Prop
 |[],a,w=>Q a w
 |i::r,a,w=>match ops[i]? with
  |none=>wpG P ops I cl Q r a w
  |some o=>stG P ops I (cl i) o (wpG P ops I cl Q r) a w
theorem frontG{w0:World}(h0:I w0){cl:Nat->Nat}{Q:Act->World->Prop}(Ug:Region.noSelect ops=true)(i:Nat)(l2:List Nat):∀(l1:List Nat)(a:Act)(w:World),(∀x∈l1,fB ops cl x i=true) ->
  wpG P ops I cl Q (l1++i::l2) a w->wpG P ops I cl Q (i::(l1++l2)) a w
 |[],_,_,_,h=>h
 |x::l1,a,w,hc,h=>by
  have hx:=hc x (by simp);have ih:=fun a w=>frontG h0 (cl:=cl) (Q:=Q) Ug i l2 l1 a w (fun y hy=>hc y (by simp[hy]));cases hox:ops[x]? with
  |none =>
   have h':wpG P ops I cl Q (l1++i::l2) a w:=by simpa[wpG,hox]using h
   have:=ih a w h';unfold wpG at this |-;split at this
   .simpa[wpG,hox]using this
   exact stG_mono (fun a w hh=>by simpa[wpG,hox]using hh) this
  |some ox =>
   have h1:stG P ops I (cl x) ox (wpG P ops I cl Q (l1++i::l2)) a w:=by simpa[wpG,hox]using h
   have h2:=stG_mono ih h1;cases hoi:ops[i]? with
   |none=>simpa[wpG,hox,hoi]using h2
   |some oi =>
    simp only[fB,hox,hoi,Ym,Yu,Yk]at hx;have h3:stG P ops I (cl x) ox (stG P ops I (cl i) oi (wpG P ops I cl Q (l1++l2))) a w:=by simpa[wpG,hoi]using h2
    have h4:=swapG h0 (fun cs b=>Region.noSelect_spec Ug x ox cs b hox) (fun cs b=>Region.noSelect_spec Ug i oi cs b hoi) hx.1 hx.2 h3;have h5:stG P ops I (cl i) oi (wpG P ops I cl Q (x::(l1++l2))) a w:=stG_mono (fun a w hh=>by simpa[wpG,hox]using hh) h4;simpa[wpG,hoi]using h5
theorem wpOp_of_stG{i:Nat}{o:Oper}(hc3:c<=3)(ho:ops[i]?=some o)(hold:c=1->I w)
  (h:stG P ops I c o K a w):wpOp P ops Q i (fun a' w'=>(c≠2->I w->I w')/\K a' w') a w:=by
 unfold wpOp;simp only[ho];unfold stG at h;split at h
 .rename_i hc;obtain⟨v,hy,hk⟩:=h;unfold Yc at hy;split at hy
  .rcases hy with ⟨hw,hv⟩|⟨hw,rfl⟩
   .rw[if_pos hw];left;unfold Oper.wp;rw[hv w];exact⟨fun _ hb=>hb,hk⟩
   rw[if_neg (by simp[hw])];exact⟨fun _ hb=>hb,hk⟩
  rename_i Vn;rcases hy with ⟨hw,hv⟩|⟨hw,rfl⟩
  .rw[if_pos hw];left;unfold Oper.wp;rw[hv w (hold (by omega))];exact⟨fun _ hb=>hb,hk⟩
  rw[if_neg (by simp[hw])];exact⟨fun _ hb=>hb,hk⟩
 rename_i hc;split at h
 .rename_i hw;rw[if_pos hw];left;have h':o.wp P a w (fun a' w'=>(c≠2->I w->I w')/\K a' w') xx\/c≠2/\c≠3:=by
   by_cases h3:c=3
   .exact .inl (Oper.wp_mono (fun a w hk=>⟨fun _ _=>hk.1 h3,hk.2⟩) h)
   by_cases h2:c=2
   .exact .inl (Oper.wp_mono (fun a w hk=>⟨fun hn=>absurd h2 hn,hk.2⟩) h)
   exact .inr ⟨h2,h3⟩
  rcases h' with h'|⟨h2,h3⟩
  .unfold Oper.wp at*;generalize (execOp a.eval o).run P w=r at*;cases r with
   |ok n w' =>
    cases n <;> simp only[Oper.upon]at h' |- <;> first
     |exact h'
     |exact Calls.mono h' fun e w'' he=>by
       cases e with
       |returned u=>exact he
       |panicked c=>exact absurd he id
       |outgrown=>exact absurd he cV
   |halt x w'=>cases x <;> simp only[Oper.upon]at h' |- <;> first|exact h'|exact absurd h' id
  omega
 rename_i hw;rw[if_neg hw];exact⟨fun _ hb=>hb,h⟩
theorem any_of_G(hI0:I w0){cl:Nat->Nat}(Ug:Region.noSelect ops=true)(Cu:dR ops=true)(hp:jo ops cl=true)(lI:dz ops cl=true)(hc3:∀i,cl i<=3) :
  ∀(rem:List Nat)(listed:Array Bool)(a:Act)(w:World),listed.size=ops.size->rem.Pairwise (·<·)->(∀j,j∈rem↔j<ops.size/\listed.getD j false=false)->mj ops listed ->
   ((∀j,j<ops.size->cl j=2->listed.getD j false=false)->I w) ->
   wpG P ops I cl (fun a w=>Q .normal a w) rem a w->wpAny P .any ops Q rem.length listed a w:=by
 intro rem
 induction hn:rem.length generalizing rem with
 |zero =>
  intro listed a w hs _ hm _ _ h;have he:rem=[]:=Xx hn;subst he;refine⟨?_,h⟩;apply List.eq_nil_iff_forall_not_mem.2;intro j hj;obtain⟨h0,o,ho,_⟩:=mem_ready.1 hj;have Jl:j<ops.size:=(gl ho);rw[Fz hs Jl]at h0;exact absurd ((hm j).2 ⟨Jl,h0⟩) (by simp)
 |succ n ih =>
  intro listed a w hs yP hm hc hinv h;have wG:Region.ready .any ops listed≠[]:=by
   cases hr:rem with
   |nil=>rw[hr]at hn;cases hn
   |cons i0 r =>
    have sz:=(hm i0).1 (by rw[hr];simp);intro zU;have Ml:i0∈Region.ready .any ops listed:=by
     refine mem_ready.2 ⟨by rw[Fz hs sz.1];exact sz.2,ops[i0],Array.getElem?_eq_getElem sz.1,fun e he hb=>?_⟩;have h1:=Xq.1 Cu i0 (Ya.2 sz.1);simp only[Array.getElem?_eq_getElem sz.1]at h1;have h2:=Array.all_eq_true_iff_forall_mem.1 h1 e he;simp only[hb,Bool.not_true,Yt,Yk]at h2;rcases Yo (listed.getD e.on false)with h3|h3
     .exact h3
     have h4:=(hm e.on).2 ⟨by omega,h3⟩;rw[hr]at h4 yP;rcases List.mem_cons.1 h4 with h5|h5
     .omega
     have:=(Qx.1 yP).1 _ h5;omega
    rw[zU]at Ml;cases Ml
  refine⟨fun h0=>absurd h0 wG,fun i hi=>?_⟩;obtain⟨h0,o,ho,Wc⟩:=mem_ready.1 hi;have Jl:i<ops.size:=(gl ho);rw[Fz hs Jl]at h0;have hir:i∈rem:=(hm i).2 ⟨Jl,h0⟩;obtain⟨l1,l2,hl⟩:=List.append_of_mem hir;subst hl;rw[List.pairwise_append]at yP;obtain⟨pw1,pw2,pw3⟩:=yP;have qg:=Qx.1 pw2;have hf:=frontG hI0 Ug i l2 l1 a w (fun x hx=>by
   have hxi:x<i:=pw3 x hx i (by simp)
   rcases qB hp Jl hxi with hd|hcp
   .have:=Cy hc hd (fun o' yR e he hb=>by rw[ho]at yR;injection yR with e2;subst e2;exact Wc e he hb)
    have h2:=((hm x).1 (by simp[hx])).2
    rw[this]at h2
    cases h2
   exact hcp) h
  have hst:stG P ops I (cl i) o (wpG P ops I cl (fun a w=>Q .normal a w) (l1++l2)) a w:=by simpa[wpG,ho]using hf
  have hold:cl i=1->I w:=fun hci=>hinv fun j hj hcj=>by
   rcases Yo (listed.getD j false)with h3|h3
   .exfalso;have hd:=Hm lI Jl hj hci hcj;have:=Cy hc hd (fun o' yR e he hb=>hc j o' yR h3 e he hb);rw[h0]at this;cases this
   exact h3
  refine wpOp_mono (fun a' w' hh=>?_) (wpOp_of_stG (Q:=Q) (hc3 i) ho hold hst);have hlen:(l1++l2).length=n:=by simp at hn |-;omega
  refine ih (l1++l2) hlen (listed.setIfInBounds i true) a' w' (by simpa using hs) ?_ (fun j=>?_) ?_ ?_ hh.2
  .rw[List.pairwise_append];exact⟨pw1,qg.2,fun x hx y hy=>pw3 x hx y (by simp[hy])⟩
  .by_cases Aa:j=i
   .subst Aa;constructor
    .intro hj;rcases Qh.1 hj with h5|h5
     .have:=pw3 j h5 j (by simp);omega
     have:=qg.1 j h5;omega
    intro ⟨_,h5⟩;have:j<listed.size:=by omega
    simp[this]at h5
   rw[getD_set_ne false (Ne.symm Aa),<-hm j];simp[Aa]
  .intro j oj yQ hj e he hb;by_cases Aa:j=i
   .subst Aa;rw[ho]at yQ;injection yQ with e2;subst e2;exact getD_set_true (Wc e he hb)
   rw[getD_set_ne false (Ne.symm Aa)]at hj;exact getD_set_true (hc j oj yQ hj e he hb)
  intro hno;have hci:cl i≠2:=fun hci=>by
   have:=hno i Jl hci;have Fb:i<listed.size:=by omega
   simp[Fb]at this
  refine hh.1 hci (hinv fun j hj hcj=>?_);have:=hno j hj hcj;by_cases Aa:j=i
  .subst Aa;exact absurd hcj hci
  rwa [getD_set_ne false (Ne.symm Aa)]at this
def wpS(P:Program)(ops:Array Oper)(I:World->Prop)(G:List Nat)(Q:Act->World->Prop):Nat->List Oper->Act->World->Prop
 |_,[],a,w=>Q a w
 |k,o::r,a,w=>if Region.wanted o (yielded ops a.tmps)=true then
   o.wp P a w (fun a' w'=>(G.contains k=true->I w')/\wpS P ops I G Q (k+1) r a' w') xx
  else wpS P ops I G Q (k+1) r (a.put o.dst undef) w
theorem wpS_seg{G:List Nat}{Q:Act->World->Prop}:∀(n k:Nat)(l:List Oper)(a:Act)(w:World),(List.range' k n).all (fun i=>!G.contains i)=true ->
  (∀Q':Exit->Act->World->Prop,(∀a w,wpS P ops I G Q (k+n) (l.drop n) a w->Q' .normal a w)->wpList P ops Q' (l.take n) a w)->wpS P ops I G Q k l a w
 |0,k,l,a,w,_,h=>by
  have:=h (fun e a w=>e=.normal/\wpS P ops I G Q k l a w) (fun a w hh=>⟨rfl,by simpa using hh⟩);simpa[wpList]using this
 |n+1,k,[],a,w,_,h=>by
  have:=h (fun e a w=>e=.normal/\Q a w) (fun a w hh=>⟨rfl,by simpa[wpS]using hh⟩);simpa[wpList,wpS]using this
 |n+1,k,o::r,a,w,hG,h=>by
  rw[List.range'_succ,List.all_cons,Ym]at hG;have hk:G.contains k=false:=by simpa using hG.1
  have h0:=h (fun e a w=>e=.normal/\wpS P ops I G Q (k+(n+1)) ((o::r).drop (n+1)) a w) (fun a w hh=>⟨rfl,hh⟩);have Ow:¬ LetsOut (fun e a w=>e=Exit.normal/\wpS P ops I G Q (k+(n+1)) ((o::r).drop (n+1)) a w):=fun⟨_,_,hh⟩=>by cases hh.1
  have hno:∀(e:Exit)(a:Act)(w:World),e≠.normal->¬ (e=Exit.normal/\wpS P ops I G Q (k+(n+1)) ((o::r).drop (n+1)) a w):=fun _ _ _ hn hh=>hn hh.1;have ih:∀a w,wpList P ops (fun e a w=>e=.normal/\wpS P ops I G Q (k+(n+1)) ((o::r).drop (n+1)) a w) (r.take n) a w->wpS P ops I G Q (k+1) r a w:=fun a w hl =>
   wpS_seg n (k+1) r a w hG.2 fun Q' hQ'=>by
    refine Ap (fun e a w hh=>?_) _ _ _ hl;obtain⟨rfl,hh⟩:=hh;exact hQ' _ _ (by simpa[Yy,Nat.add_comm 1 n]using hh)
  rw[List.take_succ_cons]at h0;unfold wpList at h0;unfold wpS;split at h0
  .rename_i hw;rw[if_pos hw];have h1:=h0.resolve_right fun hh=>Ow hh.2;have h2:=Oper.wp_mono (K':=fun a' w'=>(G.contains k=true->I w')/\wpS P ops I G Q (k+1) r a' w') (fun a w hh=>⟨fun qM=>(by rw[hk]at qM;cases qM),ih a w hh⟩) h1;exact tB hno Ow h2
  rename_i hw;rw[if_neg hw];exact ih _ _ h0
def oldAt(P:Program)(ops:Array Oper)(I:World->Prop)(a:Act)(i:Nat):Prop :=
 match ops[i]? with
 |some o=>match o.op with
  |.load t x=>Region.wanted o (yielded ops a.tmps)=true->∃v,∀w',I w'->(Instr.loadAt t (a.eval x)).run P w'=.ok v w'
  |.convert s d x=>Region.wanted o (yielded ops a.tmps)=true->∃v,∀w',I w'->(convert s d (a.eval x)).run P w'=.ok v w'
  |_=>True
 |none=>True
def oldAll(P:Program)(ops:Array Oper)(I:World->Prop)(a:Act):List Nat->Prop
 |[]=>True
 |i::r=>oldAt P ops I a i/\oldAll P ops I a r
theorem oldAll_mem:∀{l:List Nat}{i:Nat},oldAll P ops I a l->i∈l->oldAt P ops I a i
 |j::r,i,h,hi=>by
  rcases List.mem_cons.1 hi with rfl|hi
  .exact h.1
  exact oldAll_mem h.2 hi
theorem reachS{G LD ex:List Nat}{Q:Act->World->Prop}:∀(l:List Oper)(k:Nat)(a:Act)(w:World),(∀j,l[j]?=ops[k+j]?) ->
  wpS P ops I G (fun a w=>chk ops ex a=true/\oldAll P ops I a LD/\Q a w) k l a w->∃a',chk ops ex a'=true/\oldAll P ops I a' LD/\lr ops (List.range' k l.length) a a'
 |[],k,a,w,_,h=>⟨a,h.1,h.2.1,fun _ _=>rfl⟩
 |o::r,k,a,w,hl,h=>by
  have ho:ops[k]?=some o:=by simpa using (hl 0).symm
  have mT:∀j,r[j]?=ops[k+1+j]? := fun j=>by have:=hl (j+1);simpa[Yy,Nat.add_comm 1 j]using this
  unfold wpS at h;have hn:∃a1 w1,Im a a1 o.dst/\wpS P ops I G (fun a w=>chk ops ex a=true/\oldAll P ops I a LD/\Q a w) (k+1) r a1 w1:=by
   split at h
   .obtain⟨a1,w1,hs,_,hk⟩:=Br kW h;exact⟨a1,w1,hs,hk⟩
   exact⟨_,_,Jm _ _ _,h⟩
  obtain⟨a1,w1,hs,h1⟩:=hn;obtain⟨a',h2,h3,h4⟩:=reachS r (k+1) a1 w1 mT h1;refine⟨a',h2,h3,fun t ht=>(h4 t fun j hj=>ht j ?_).trans (uE hs (ht k ?_ o ho))⟩
  .rw[Qu,List.range'_succ];simp[hj]
  rw[Qu,List.range'_succ];simp
theorem list_G{G LD ex:List Nat}{Q:Act->World->Prop}:∀(l:List Oper)(k:Nat)(a:Act)(w:World),(∀j,l[j]?=ops[k+j]?)->k+l.length=ops.size ->
  dz ops (bQ P ops G LD ex)=true->dR ops=true->((∀j,j<k->bQ P ops G LD ex j≠2)->I w) ->
  wpS P ops I G (fun a w=>chk ops ex a=true/\oldAll P ops I a LD/\Q a w) k l a w->wpG P ops I (bQ P ops G LD ex) Q (List.range' k l.length) a w
 |[],k,a,w,_,_,_,_,_,h=>h.2.2
 |o::r,k,a,w,hl,Fb,lI,Cu,hinv,h=>by
  have ho:ops[k]?=some o:=by simpa using (hl 0).symm
  have Jl:k<ops.size:=(gl ho);have mT:∀j,r[j]?=ops[k+1+j]? := fun j=>by have:=hl (j+1);simpa[Yy,Nat.add_comm 1 j]using this
  have zdH:k+1+r.length=ops.size:=by simp at Fb;omega
  obtain⟨a',ke,hold,qpS⟩:=reachS (o::r) k a w hl h;have ih:∀a w,((∀j,j<k+1->bQ P ops G LD ex j≠2)->I w)->wpS P ops I G (fun a w=>chk ops ex a=true/\oldAll P ops I a LD/\Q a w) (k+1) r a w->wpG P ops I (bQ P ops G LD ex) Q (List.range' (k+1) r.length) a w:=fun a w=>list_G r (k+1) a w mT zdH lI Cu;rw[Qu,List.range'_succ];unfold wpG;simp only[ho];unfold wpS at h;have sk:Et ops k o=true->(∀t∈o.looksAt ops,a'.tmps[t]?=a.tmps[t]?):=by
   intro hst t ht;refine qpS t fun j hj oj yQ=>?_;have h5:=Xq.1 hst t ht;have jx:k<=j/\j<ops.size:=by have:=List.mem_range'_1.1 hj;omega
   have h6:=Xq.1 h5 j (Ya.2 jx.2);simp only[yQ,Yu,Yk,Yv]at h6;rcases h6 with h6|h6
   .omega
   exact h6
  have js:(∀t∈o.looksAt ops,a'.tmps[t]?=a.tmps[t]?)->∀x∈o.op.operands,a'.eval x=a.eval x:=fun Vd x hx =>
   xA fun t hxt=>Vd t (List.mem_append_left _ (List.mem_filterMap.2 ⟨x,by simpa using hx,by rw[hxt]⟩))
  have lD:(∀t∈o.looksAt ops,a'.tmps[t]?=a.tmps[t]?)->Region.wanted o (yielded ops a'.tmps)=Region.wanted o (yielded ops a.tmps):=by
   intro Vd;unfold Region.wanted;cases hg:o.guard with
   |none=>rfl
   |some gw =>
    obtain⟨g,want⟩:=gw;have hy:yielded ops a'.tmps g=yielded ops a.tmps g:=by
     unfold yielded;cases hb:(ops[g]?).bind (·.dst)with
     |none=>rfl
     |some t =>
      have:=Vd t (List.mem_append_right _ (by simp[hg,hb]));simp[this]
    simp only[hy]
  by_cases hw:Region.wanted o (yielded ops a.tmps)=true
  .rw[if_pos hw]at h;have fM:∀(hp:∀n w',(execOp a.eval o).run P w=.ok n w'->w'=w/\∃v,n=.value v),∃v,(execOp a.eval o).run P w=.ok (.value v) w /\
     wpS P ops I G (fun a w=>chk ops ex a=true/\oldAll P ops I a LD/\Q a w) (k+1) r (a.put o.dst v) w:=by
    intro hp;unfold Oper.wp at h;cases hr:(execOp a.eval o).run P w with
    |ok n1 w1 =>
     obtain⟨rfl,v,rfl⟩:=hp n1 w1 hr;rw[hr]at h;exact⟨v,rfl,h.2⟩
    |halt x w1 =>
     rw[hr]at h;cases x <;> exact absurd h id
   by_cases Nj:bQ P ops G LD ex k<=1
   .have wK:∀w',w'=w->((∀j,j<k+1->bQ P ops G LD ex j≠2)->I w'):=fun w' e hj=>by subst e;exact hinv fun j hjk=>hj j (by omega)
    unfold stG;rw[if_pos Nj];have hc:=Nj;unfold bQ at hc;simp only[ho]at hc;by_cases hcG:G.contains k=true
    .rw[if_pos hcG]at hc;omega
    rw[if_neg hcG]at hc;by_cases sM:LD.contains k=true
    .rw[if_pos sM]at hc;have ep:(iW o&&Et ops k o)=true:=by
      by_cases ep:(iW o&&Et ops k o)=true
      .exact ep
      rw[if_neg ep]at hc;omega
     rw[Ym]at ep;have fP:bQ P ops G LD ex k=1:=by
      unfold bQ;simp only[ho];rw[if_neg hcG,if_pos sM,if_pos (by simp[ep])]
     have zdT:∀j,j<k->bQ P ops G LD ex j≠2:=fun j hj hcj=>by
      have hd:=Hm lI Jl (show j<ops.size by omega) fP hcj;have:=qrH Cu hd;omega
     have ez:=hinv zdT;have Vd:=sk ep.2;have hoa:=oldAll_mem hold (by simpa using sM);have my:(∃t x,o.op=.load t x)\/∃s d x,o.op=.convert s d x:=by
      have:=ep.1;unfold iW at this;split at this
      .exact .inl ⟨_,_,by assumption⟩
      .exact .inr ⟨_,_,_,by assumption⟩
      cases this
     rcases my with ⟨t,x,sI⟩|⟨s,d,x,sI⟩
     .have hx:=js Vd x (by rw[sI];simp[Op.operands]);unfold oldAt at hoa;simp only[ho,sI]at hoa;obtain⟨v0,mw⟩:=hoa (by rw[lD Vd];exact hw);rw[hx]at mw;have hex:∀w2,I w2->(execOp a.eval o).run P w2=.ok (.value v0) w2:=by
       intro w2 Jd;obtain⟨dst,op,type,pos,after,guard⟩:=o;simp only at sI;subst sI;simp only[execOp];rw[Zg,mw w2 Jd];rfl
      obtain⟨v,hv,hk⟩:=fM fun n w' h=>by
       rw[hex w ez]at h;injection h with h1 h2;exact⟨h2.symm,v0,h1.symm⟩
      rw[hex w ez]at hv;injection hv with h1 _;injection h1 with h1;subst h1;refine⟨v0,?_,ih _ _ (wK _ rfl) hk⟩;unfold Yc;rw[if_neg (by omega)];exact .inl ⟨hw,hex⟩
     have hx:=js Vd x (by rw[sI];simp[Op.operands]);unfold oldAt at hoa;simp only[ho,sI]at hoa;obtain⟨v0,mw⟩:=hoa (by rw[lD Vd];exact hw);rw[hx]at mw;have hex:∀w2,I w2->(execOp a.eval o).run P w2=.ok (.value v0) w2:=by
      intro w2 Jd;obtain⟨dst,op,type,pos,after,guard⟩:=o;simp only at sI;subst sI;simp only[execOp];rw[Zg,mw w2 Jd];rfl
     obtain⟨v,hv,hk⟩:=fM fun n w' h=>by
      rw[hex w ez]at h;injection h with h1 h2;exact⟨h2.symm,v0,h1.symm⟩
     rw[hex w ez]at hv;injection hv with h1 _;injection h1 with h1;subst h1;refine⟨v0,?_,ih _ _ (wK _ rfl) hk⟩;unfold Yc;rw[if_neg (by omega)];exact .inl ⟨hw,hex⟩
    rw[if_neg sM]at hc;by_cases hcE:ex.contains k=true
    .rw[if_pos hcE]at hc;omega
    rw[if_neg hcE]at hc;by_cases wH:(Fi o&&!Et ops k o)=true
    .rw[if_pos wH]at hc;omega
    rw[if_neg wH]at hc;have wL:lR P o=0:=by
     by_cases wL:lR P o=0
     .exact wL
     rw[if_neg wL]at hc;omega
    have fP:bQ P ops G LD ex k=0:=by
     unfold bQ;simp only[ho];rw[if_neg hcG,if_neg sM,if_neg hcE,if_neg wH,if_pos wL]
    have hpv:qkL P (execOp a.eval o):=by
     refine xF wL ?_;by_cases Te:Fi o=true
     .have qpI:Et ops k o=true:=by
       rw[Te]at wH;simpa using wH
      have Vd:=sk qpI;have Uw:=Xq.1 ke k (Ya.2 Jl);simp only[ho,Yu,Te,Bool.not_true,Bool.false_eq_true,false_or]at Uw;rcases Uw with Uw|Uw|Uw
      .exact absurd Uw hcE
      .rw[lD Vd,hw]at Uw;cases Uw
      rw[oQ (js Vd)]at Uw;exact Uw
     unfold Fi at Te;unfold aY;split at Te <;> first|(exact absurd rfl Te)|rfl|(split <;> first|rfl|(simp_all;done))
    obtain⟨v,hv,hk⟩:=fM fun n w' hr=>let ⟨e,v,hn,_⟩:=hpv w n w' hr;⟨e,v,hn⟩;obtain⟨_,v',hn,Wc⟩:=hpv _ _ _ hv;injection hn with hn;subst hn;refine⟨v,?_,ih _ _ (wK _ rfl) hk⟩;unfold Yc;rw[if_pos fP];exact .inl ⟨hw,Wc⟩
   unfold stG;rw[if_neg Nj,if_pos hw];refine Oper.wp_mono (fun a1 w1 hh=>?_) h;have h3:bQ P ops G LD ex k=3->G.contains k=true:=by
    intro h3;unfold bQ at h3;simp only[ho]at h3;by_cases hcG:G.contains k=true
    .exact hcG
    rw[if_neg hcG]at h3
    repeat' (split at h3)
    all_goals omega
   refine⟨fun hc3=>hh.1 (h3 hc3),ih _ _ (fun hj=>?_) hh.2⟩;have mU:=hj k (by omega);have jw:bQ P ops G LD ex k=3:=by have:=kw (P:=P) (ops:=ops) G LD ex k;omega
   exact hh.1 (h3 jw)
  rw[if_neg hw]at h;have hwf:Region.wanted o (yielded ops a.tmps)=false:=by simpa using hw
  have h2:=ih _ _ (fun hj=>hinv fun j hjk=>hj j (by omega)) h;unfold stG;split
  .refine⟨undef,?_,h2⟩;unfold Yc;split
   .exact .inr ⟨hwf,rfl⟩
   exact .inr ⟨hwf,rfl⟩
  exact h2
theorem wp_inv{id:Nat}{l:List Oper}(G LD ex:List Nat)(I:World->Prop)(hI:I w.drew)(hm:P.follows .mixedOrders=true)(hB:growB P l.toArray G LD ex=true)
  (h:wpS P l.toArray I G (fun a' w'=>chk l.toArray ex a'=true/\oldAll P l.toArray I a' LD/\Q .normal a' w') 0 l a w.drew):(Code.region id l.toArray true).wp P Q a w:=by
 simp only[growB,Ym]at hB;refine wp_region_any hm ?_;have h2:=list_G l 0 a w.drew (by simp) (by simp) hB.2 hB.1.1.2 (fun _=>hI) h;have h3:=any_of_G (I:=I) hI hB.1.1.1 hB.1.1.2 hB.1.2 hB.2 (fun i=>kw G LD ex i) (List.range' 0 l.length) (Array.replicate l.toArray.size false) a w.drew (by simp) (List.pairwise_lt_range') (fun j=>by
  rw[List.mem_range'_1]
  constructor
  .intro hj
   have Mw:j<l.length:=by simpa using hj.2
   exact⟨by simpa using Mw,by simp[Mw]⟩
  intro hj;have:=hj.1;simp at this;exact⟨by omega,by omega⟩) (fun j o ho hj=>by
  exfalso
  have:j<l.toArray.size:=(gl ho)
  simp at this
  simp[this]at hj) (fun _=>hI) h2
 simpa using h3
theorem wpS_one{G:List Nat}{Q:Act->World->Prop}{k:Nat}{o:Oper}{r:List Oper}
  (h:∀Q':Exit->Act->World->Prop,(∀a' w',I w'/\wpS P ops I G Q (k+1) r a' w'->Q' .normal a' w')->wpList P ops Q' [o] a w):wpS P ops I G Q k (o::r) a w:=by
 have h0:=h (fun e a w=>e=.normal/\I w/\wpS P ops I G Q (k+1) r a w) (fun a w hh=>⟨rfl,hh⟩);have Ow:¬ LetsOut (fun e a w=>e=Exit.normal/\I w/\wpS P ops I G Q (k+1) r a w):=fun⟨_,_,hh⟩=>by cases hh.1
 have hno:∀(e:Exit)(a:Act)(w:World),e≠.normal->¬ (e=Exit.normal/\I w/\wpS P ops I G Q (k+1) r a w):=fun _ _ _ hn hh=>hn hh.1;unfold wpList at h0;unfold wpS;split at h0
 .rename_i hw;rw[if_pos hw];have h1:=h0.resolve_right fun hh=>Ow hh.2;have h2:=Oper.wp_mono (K':=fun a' w'=>(G.contains k=true->I w')/\wpS P ops I G Q (k+1) r a' w') (fun a w hh=>by
   simp only[wpList]at hh
   exact⟨fun _=>hh.2.1,hh.2.2⟩) h1
  exact tB hno Ow h2
 rename_i hw;rw[if_neg hw];simp only[wpList]at h0;exact h0.2.2
end Go.Proofs.YtmaojnmnbpomeaaGreatDoor.TextI
namespace Go.Proofs.YtmaojnmnbpomeaaGreatDoor.TextU
open Go Go.RowKit Go.Proofs.YtmaojnmnbpomeaaGreatDoor.Text
variable{a:Act}{i:Nat}{w:World}
def Q0(K:Act->World->Prop):Exit->Act->World->Prop:=fun e a w=>e=.normal/\K a w
def need(us:List Nat)(listed:Array Bool):Prop:=∃u∈us,listed.getD u true=false
variable {P:Program} {ops:Array Oper} {K:Act->World->Prop} {S:World->Prop} {us:List Nat}
def wpU(P:Program)(ops:Array Oper)(K:Act->World->Prop)(S:World->Prop)(us:List Nat):Nat->Array Bool->Act->World->Prop
 |0,listed,a,w=>Region.ready .any ops listed=[]/\K a w
 |fuel+1,listed,a,w=>(Region.ready .any ops listed=[]->K a w) /\
  ∀j∈Region.ready .any ops listed,wpOp P ops (Q0 K) j (fun a' w'=>(need us (listed.setIfInBounds j true)->S w')/\wpU P ops K S us fuel (listed.setIfInBounds j true) a' w') a w
theorem any_of_U:∀(fuel:Nat)(listed:Array Bool)(a:Act)(w:World),wpU P ops K S us fuel listed a w->wpAny P .any ops (Q0 K) fuel listed a w
 |0,_,_,_,h=>⟨h.1,rfl,h.2⟩
 |fuel+1,_,_,_,h=>⟨fun h0=>⟨rfl,h.1 h0⟩,fun j hj=>wpOp_mono (fun a' w' hh=>any_of_U fuel _ a' w' hh.2) (h.2 j hj)⟩
theorem first_U{oi:Oper}{v:Value}(hi:ops[i]?=some oi)(Ug:∀(j:Nat)(o:Oper) cs b,ops[j]?=some o->o.op≠.select cs b){T:World->Prop}
  (zdS:i∉us) (hT:(∀w,T w)\/((∀w,S w->T w)/\∃u∈us,u≠i/\∀o,ops[u]?=some o->∃e∈o.after,Region.binds .any e=true/\e.on=i)) :
  ∀(fuel:Nat)(listed:Array Bool)(a:Act)(w:World),
   (∀j oj,ops[j]?=some oj->j≠i->listed.getD j true=false->(∀e∈oj.after,Region.binds .any e=true->e.on≠i)->oi.apart ops oj=true) ->
   i∈Region.ready .any ops listed->(∀u∈us,(∀o,ops[u]?=some o->∃e∈o.after,Region.binds .any e=true/\e.on=i)->listed.getD u true=false)->YieldsIf P ops T oi v a->T w->(need us (listed.setIfInBounds i true)->S w) ->
   wpU P ops K S us fuel (listed.setIfInBounds i true) (a.put oi.dst v) w->wpU P ops K S us (fuel+1) listed a w:=by
 intro fuel
 induction fuel with
 |zero =>
  intro listed a w _ hr _ hy hTw hS H;refine⟨fun h=>(by rw[h]at hr;cases hr),fun j hj=>?_⟩;by_cases Aa:j=i
  .subst Aa;exact hy.wpOp hi hTw ⟨hS,H⟩
  have:=ready_mono hj Aa;rw[H.1]at this;cases this
 |succ fuel ih =>
  intro listed a w zbC hr hus hy hTw hS H;refine⟨fun h=>(by rw[h]at hr;cases hr),fun j hj=>?_⟩;by_cases Aa:j=i
  .subst Aa;exact hy.wpOp hi hTw ⟨hS,H⟩
  have h1:=H.2 j (ready_mono hj Aa);obtain⟨zkZ,oj,yQ,Wc⟩:=mem_ready.1 hj;have Uh:=(mem_ready.1 hr).1;have zkI:∀e∈oj.after,Region.binds .any e=true->e.on≠i:=fun e he hb heq=>by
   have h5:=Wc e he hb;rw[heq]at h5;have:listed.getD i true=listed.getD i false:=by
    unfold Array.getD;split
    .rfl
    rename_i hn;unfold Array.getD at h5;rw[dif_neg hn]at h5;cases h5
   rw[this,h5]at Uh;cases Uh
  have hju:∀u∈us,(∀o,ops[u]?=some o->∃e∈o.after,Region.binds .any e=true/\e.on=i)->u≠j:=fun u _ hed hju=>by
   subst hju;obtain⟨e,he,hb,hon⟩:=hed oj yQ;exact zkI e he hb hon
  have h2:=wpOp_putIf yQ (zbC j oj yQ Aa zkZ zkI) (fun cs b=>Ug i oi cs b hi) (fun cs b=>Ug j oj cs b yQ) (fun c a w hh=>by cases hh.1) hy h1;refine wpOp_mono (fun a' w' h3=>?_) h2;obtain⟨sh,hS3,H3⟩:=h3;rw[<-Array.setIfInBounds_comm _ _ Aa]at hS3 H3;have zjO:∀u∈us,(∀o,ops[u]?=some o->∃e∈o.after,Region.binds .any e=true/\e.on=i)->(listed.setIfInBounds j true).getD u true=false:=fun u hu hed=>by
   rw[getD_set_ne true (Ne.symm (hju u hu hed))];exact hus u hu hed
  have hS':(need us (listed.setIfInBounds j true)->S w')/\T w':=by
   rcases hT with hT|⟨hST,u,hu,hui,hed⟩
   .refine⟨fun hn=>?_,hT w'⟩;by_cases t_:need us ((listed.setIfInBounds j true).setIfInBounds i true)
    .exact hS3 t_
    obtain⟨u,hu,hun⟩:=hn;by_cases hui:i=u
    .subst hui;exact absurd hu zdS
    exact absurd ⟨u,hu,by rw[getD_set_ne true hui];exact hun⟩ t_
   have t_:need us ((listed.setIfInBounds j true).setIfInBounds i true):=⟨u,hu,by rw[getD_set_ne true (Ne.symm hui)];exact zjO u hu hed⟩;exact⟨fun _=>hS3 t_,hST w' (hS3 t_)⟩
  refine⟨hS'.1,ih (listed.setIfInBounds j true) a' w' ?_ (ready_mono hr (Ne.symm Aa)) zjO sh hS'.2 hS3 H3⟩;intro k ok hk x_ hun hno;refine zbC k ok hk x_ ?_ hno;by_cases hjk:j=k
  .subst hjk;exact zkZ
  rwa [getD_set_ne true hjk]at hun
theorem qmE{o:Oper}{K:Act->World->Prop}{Q:Exit->Act->World->Prop}(h:o.wp P a w K xx):o.wp P a w K Q:=by
 unfold Oper.wp at*;generalize (execOp a.eval o).run P w=r at*;cases r with
 |ok n w' =>
  cases n <;> simp only[Oper.upon]at h |- <;>
   first
    |exact h
    |exact Calls.mono h (fun e w'' he=>by cases e <;> first|exact he|(obtain⟨_,_,hh⟩:=(he:LetsOut xx);exact hh.elim)|exact (he:False).elim)
 |halt x w'=>cases x <;> simp only[Oper.upon]at h |- <;> first|exact h|exact h.elim
theorem node_U{o:Oper}{K':Act->World->Prop}(ho:ops[i]?=some o)(h:∀Q':Exit->Act->World->Prop,(∀a' w',K' a' w'->Q' .normal a' w')->wpList P ops Q' [o] a w):wpOp P ops (Q0 K) i K' a w:=by
 have h0:=h (fun e a w=>e=.normal/\K' a w) (fun a w hh=>⟨rfl,hh⟩);have Ow:¬ LetsOut (fun e a w=>e=Exit.normal/\K' a w):=fun⟨_,_,hh⟩=>by cases hh.1
 have hno:∀(e:Exit)(a:Act)(w:World),e≠.normal->¬ (e=Exit.normal/\K' a w):=fun _ _ _ hn hh=>hn hh.1;unfold wpList at h0;unfold wpOp;simp only[ho];split at h0
 .rename_i hw;rw[if_pos hw];have h1:=h0.resolve_right fun hh=>Ow hh.2;have h2:=Oper.wp_mono (K':=K') (fun a w hh=>by
   simp only[wpList]at hh
   exact hh.2) h1
  exact .inl (qmE (tB hno Ow h2))
 rename_i hw;rw[if_neg hw];simp only[wpList]at h0;exact h0.2
end Go.Proofs.YtmaojnmnbpomeaaGreatDoor.TextU
namespace Go.Proofs.YtmaojnmnbpomeaaGreatDoor
open Go.RowKit
variable{p:Addr}{listed:Array Bool}{us:List Nat}{i k:Nat}{oi:Oper}{P:Program}{ty:TypeId}{v:Value}{l:Wd}{w:World}{S:World->Prop}
structure OkU(us:List Nat)(S:World->Prop)(listed:Array Bool)(w:World):Prop where
 o:TextU.need us listed->S w
theorem iP(h:S w):OkU us S listed w:=⟨fun _=>h⟩
theorem Km(h:(us.all fun u=>listed.getD u true)=true):OkU us S listed w:=⟨fun⟨u,hu,hn⟩=>by
 have:=Xq.1 h u hu
 rw[hn]at this
 cases this⟩
section
variable {P:Program} {ops:Array Oper} {K:Act->World->Prop} {S:World->Prop} {us:List Nat} {fuel:Nat} {listed:Array Bool} {a:Act} {w:World}
theorem Ny{id:Nat}{Q:Exit->Act->World->Prop}{l:List Oper}(S:World->Prop)(us:List Nat)(n:Nat)(hm:P.follows .mixedOrders=true)(hn:l.length=n)(h:Stop (TextU.wpU P l.toArray (fun a w=>Q .normal a w) S us n (Array.replicate n false) a w.drew)):(Code.region id l.toArray true).wp P Q a w:=by
 subst hn;refine Code.wp_mono (Q:=TextU.Q0 fun a w=>Q .normal a w) ?_ (wp_region_any hm ?_)
 .rintro e a w ⟨rfl,h⟩;exact h
 have:=TextU.any_of_U _ _ _ _ h.o;simpa using this
theorem qmG(hi:ops[i]?=some oi)(hs:Region.noSelect ops=true)(hf:Region.free .any ops listed i=true)(hr:(Region.ready .any ops listed).contains i=true)(hni:us.contains i=false)(hun:(us.all fun u=>!listed.getD u true)=true)
  (hw:Region.wanted oi (yielded ops a.tmps)=true) (hy:∀w,(execOp a.eval oi).run P w=.ok (.value v) w) (hS:S w) (h:Stop (TextU.wpU P ops K S us fuel (listed.setIfInBounds i true) (a.put oi.dst v) w)):Stop (TextU.wpU P ops K S us (fuel+1) listed a w) :=
 ⟨TextU.first_U hi (Region.noSelect_spec hs) (by simpa using hni) (T:=fun _=>True) (.inl fun _=>trivial) fuel listed a w (Region.free_spec hi hf) (by simpa using hr) (fun u hu _=>by have:=Xq.1 hun u hu;simpa using this) (.inl ⟨hw,fun w _=>hy w⟩) trivial (fun _=>hS) h.o⟩
theorem qmH(hi:ops[i]?=some oi)(hs:Region.noSelect ops=true)(hf:Region.free .any ops listed i=true)(hr:(Region.ready .any ops listed).contains i=true)(hni:us.contains i=false)(hun:(us.all fun u=>!listed.getD u true)=true)
  (hed:(us.any fun u=>match ops[u]? with|some o=>o.after.any (fun e=>Region.binds .any e&&e.on==i)|none=>false)=true)
  (hw:Region.wanted oi (yielded ops a.tmps)=true) (hy:∀w,S w->(execOp a.eval oi).run P w=.ok (.value v) w) (hS:S w) (h:Stop (TextU.wpU P ops K S us fuel (listed.setIfInBounds i true) (a.put oi.dst v) w)):Stop (TextU.wpU P ops K S us (fuel+1) listed a w) :=
 ⟨TextU.first_U hi (Region.noSelect_spec hs) (by simpa using hni) (T:=S) (.inr ⟨fun _ h=>h,by
  obtain⟨u,hu,h1⟩:=Xt.1 hed
  refine⟨u,hu,fun e=>?_,fun o ho=>?_⟩
  .rw[<-e]at hni
   simp[hu]at hni
  simp only[ho]at h1
  obtain⟨e,he,h2⟩:=Array.any_eq_true'.1 h1
  rw[Ym,beq_iff_eq]at h2
  exact⟨e,he,h2.1,h2.2⟩⟩) fuel listed a w (Region.free_spec hi hf) (by simpa using hr) (fun u hu _=>by have:=Xq.1 hun u hu;simpa using this) (.inl ⟨hw,hy⟩) hS (fun _=>hS) h.o⟩
def okW(ops:Array Oper)(listed:Array Bool)(us:List Nat)(i:Nat):Bool:=Region.noSelect ops&&Region.free .any ops listed i&&(Region.ready .any ops listed).contains i&&!us.contains i
theorem Rh(i:Nat)(v:Value)(hi:ops[i]?=some oi)(hc:(okW ops listed us i&&us.all fun u=>!listed.getD u true)=true)(hw:Region.wanted oi (yielded ops a.tmps)=true)(hy:∀w,(execOp a.eval oi).run P w=.ok (.value v) w)(hS:S w)
    (h:Stop (TextU.wpU P ops K S us fuel (listed.setIfInBounds i true) (a.put oi.dst v) w)):Stop (TextU.wpU P ops K S us (fuel+1) listed a w):=by
  unfold okW at hc;simp only[Ym,Bool.not_eq_true']at hc;exact qmG hi hc.1.1.1.1 hc.1.1.1.2 hc.1.1.2 hc.1.2 hc.2 hw hy hS h
theorem jT(i:Nat)(v:Value)(hi:ops[i]?=some oi)(hc:((okW ops listed us i&&us.all fun u=>!listed.getD u true)&&us.any fun u=>match ops[u]? with|some o=>o.after.any (fun e=>Region.binds .any e&&e.on==i)|none=>false)=true)
    (hw:Region.wanted oi (yielded ops a.tmps)=true) (hy:∀w,S w->(execOp a.eval oi).run P w=.ok (.value v) w) (hS:S w) (h:Stop (TextU.wpU P ops K S us fuel (listed.setIfInBounds i true) (a.put oi.dst v) w)):Stop (TextU.wpU P ops K S us (fuel+1) listed a w):=by
  obtain⟨hc,hd⟩:=Bool.and_eq_true_iff.1 hc;unfold okW at hc;simp only[Ym,Bool.not_eq_true']at hc;exact qmH hi hc.1.1.1.1 hc.1.1.1.2 hc.1.1.2 hc.1.2 hc.2 hd hw hy hS h
theorem Jf{o:Oper}(hr:Region.ready .any ops listed=[i])(ho:ops[i]?=some o)
  (h:∀Q':Exit->Act->World->Prop,(∀a' w',OkU us S (listed.setIfInBounds i true) w'/\Stop (TextU.wpU P ops K S us fuel (listed.setIfInBounds i true) a' w')->Q' .normal a' w')->wpList P ops Q' [o] a w):Stop (TextU.wpU P ops K S us (fuel+1) listed a w) :=
 ⟨(fun h0=>by rw[hr]at h0;cases h0),fun j hj=>by
  rw[hr,Qi]at hj
  subst hj
  exact TextU.node_U ho fun Q' hQ'=>h Q' fun a w hh=>hQ' a w ⟨hh.1.o,hh.2.o⟩⟩
theorem qvF{j:Nat}{o p:Oper}(hr:Region.ready .any ops listed=[i,j])(ho:ops[i]?=some o)(hp:ops[j]?=some p)
  (h:∀Q':Exit->Act->World->Prop,(∀a' w',OkU us S (listed.setIfInBounds i true) w'/\Stop (TextU.wpU P ops K S us fuel (listed.setIfInBounds i true) a' w')->Q' .normal a' w')->wpList P ops Q' [o] a w)
  (k:∀Q':Exit->Act->World->Prop,(∀a' w',OkU us S (listed.setIfInBounds j true) w'/\Stop (TextU.wpU P ops K S us fuel (listed.setIfInBounds j true) a' w')->Q' .normal a' w')->wpList P ops Q' [p] a w):Stop (TextU.wpU P ops K S us (fuel+1) listed a w) :=
 ⟨(fun h0=>by rw[hr]at h0;cases h0),fun l hl=>by
  rw[hr]at hl
  rcases List.mem_cons.1 hl with rfl|hl
  .exact TextU.node_U ho fun Q' hQ'=>h Q' fun a w hh=>hQ' a w ⟨hh.1.o,hh.2.o⟩
  rw[Qi]at hl
  subst hl
  exact TextU.node_U hp fun Q' hQ'=>k Q' fun a w hh=>hQ' a w ⟨hh.1.o,hh.2.o⟩⟩
theorem Gi(hr:Region.ready .any ops listed=[])(h:K a w):∀fuel,Stop (TextU.wpU P ops K S us fuel listed a w)
 |0=>⟨hr,h⟩
 |_+1=>⟨fun _=>h,fun j hj=>by rw[hr]at hj;cases hj⟩
end
def zcL(w:World)(g n B m:Nat)(vA:Value)(cA:List Value)(e:Ending)(w':World):Prop :=
 e=.returned (.tuple #[])/\∃Pr w2 w1,Below w.heap.size w w2/\w2.grownBy w1 vA.ownBlock/\w1.ownsRow B 228 1 Pr (m+1) (cA++[.slice none 0 0])/\w'=w1.setCell ⟨g,n*2+1,none⟩ Pr
theorem qeK(w:World)(R N g n c m:Nat)(B:Nat)(X:List Value)(x0 u1 u2:Value)(vA:Value)(cA:List Value)
  (Wo:w.heap[R]?=some (.cells #[.slice (some ⟨g,0,none⟩) (n+1) c,u1,u2] 219 (0,0)))
  (hl:w.ownsRow N 227 2 (.slice (some ⟨g,0,none⟩) (n+1) c) (n+1) (X++[x0,vA])) (hX:X.length=2*n)
  (hr:w.ownsRow B 228 1 vA m cA) (hB:B<=w.heap.size) (hm:m<=1048576) (hn:n<=1048576) :
  Calls Tryz.prog 268 #[.pointer (some ⟨R,0,none⟩)] w (zcL w g n B m vA cA):=by
 obtain⟨g',c',e,_,hgw,Nj,Uw,⟨cur,rJ⟩,Zn,hfz⟩:=Vb hl;injection e with e1 e2 e3;injection e1 with e1;injection e1 with e1;subst e1 e3;have hcA:=Zn (n*2+1) vA (by rw[Qn (by omega),hX,show n*2+1-2*n=1 by omega];rfl);have hfA:=hfz (n*2+1);have Vn:w.cell? ⟨R,0,none⟩=some (.slice (some ⟨g,0,none⟩) (n+1) c):=Xc Wo rfl;have HL:=Lh hl;have HR:=Lh hr;have HX:=Lh hX;obtain⟨A,cA0,rfl,Sr,hr2⟩:=Zp hr;obtain⟨L,hL⟩:=Xe (n+1);rw[<-hL]at Vn Nj;have hLn:n<L:=by omega
 have eL:(L:Int)-1=(n:Int):=by omega
 clear Wo hl hr hX Zn hfz hL;unfold maxLen at Uw hr2;go_enter Tryz.func268,Tryz.ntmps268;go_wp2;refine Text.wt (by kernel_rfl) fun Q' hQ'=>?_;go_wp2;refine⟨by rfl,?_⟩;have yu:=Lt (Below w.heap.size w w.drew) ((Xr _ _).drew);have HL1:=Lh (Jc HL.o yu.o);have HR1:=Lh (Jc HR.o yu.o);have hcA1:w.drew.cell? ⟨g,n*2+1,none⟩=some (.slice A m cA0):=hcA;have hZ:=Lt (w.drew.heap.size=w.heap.size) (rfl);have hB1:B<=w.drew.heap.size:=hB;have Il:g<w.drew.heap.size:=hgw;clear HL HR hcA hfA rJ hB hgw Vn;generalize w.drew=wd at*;have Jd:Below wd.heap.size wd (wd.alloc (.cells #[.slice none 0 0] 228)):=(Xr _ _).alloc (Yb _) _;have HR2:=Lh (Jc HR1.o Jd);have HL2:=Lh (Jc HL1.o Jd);have HB2:=Lh (yu.o.trans (Jd.mono (by rw[hZ.o];exact Yb _)));have If:=Lh (Xn wd (.cells #[.slice none 0 0] 228));have HS2:=Lh (Xs wd (.cells #[.slice none 0 0] 228));clear Jd HL1 HR1;go_wp2_with (at_builtin;refine Zy (m:=1) qsH rfl rfl rfl rfl HR2.o (Rd.row (B:=wd.heap.size+1) If.o (Yf _)) rfl (by simp[Value.oneCell']) ?h63 ?hby ?hbase ?_)
 case h63=>simp only[maxLen];omega
 case hby=>omega
 case hbase=>rw[HS2.o];omega
 intro v' w7 Un Rk _ _;obtain⟨A8,c8,dC,_,_⟩:=Zp Un;subst dC;obtain⟨g',c',e,_,_,_,_,⟨cur7,jdB⟩,qqG,zlF⟩:=Vb (Vy HL2.o HR2.o (by decide) Rk);injection e with e1 e2 e3;injection e1 with e1;injection e1 with e1;subst e1;have Zn:=qqG (n*2+1) _ (by rw[Qn (by rw[HX.o];omega),HX.o,show n*2+1-2*n=1 by omega];rfl);have jy:=zlF (n*2+1);clear qqG zlF;have znO:=Lt (zcL w g n B m (.slice A m cA0) cA (.returned (.tuple #[])) (w7.setCell ⟨g,n*2+1,none⟩ (.slice A8 (m+1) c8))) (⟨rfl,_,_,_,HB2.o,Rk,Un,rfl⟩);go_wp2_with fail;refine Zh (results_none rfl _ _ _) rfl ?_;exact znO.o
section
variable {P:Program} {ops:Array Oper} {Q:Exit->Act->World->Prop} {a:Act} {w:World} {rest:List Oper} {o:Oper}
theorem Vs{e:TypeId}(hu:P.underlying ty=some (.slice e))(hc:w.cell? p=some v):(Instr.loadAt ty (.pointer (some p))).run P w=.ok v w:=by
 have iZ:(isAgg ty).run P w=.ok false w:=by
  unfold isAgg;rw[Zg,run_underlying hu w];rfl
 simp[Instr.loadAt,Instr.sureAddr,loadVar,iZ,hc]
end
theorem Bx(hu:P.underlying ty=some .string)(hc:w.cell? p=some v):(Instr.loadAt ty (.pointer (some p))).run P w=.ok v w:=by
 have iZ:(isAgg ty).run P w=.ok false w:=by
  unfold isAgg;rw[Zg,run_underlying hu w];rfl
 simp[Instr.loadAt,Instr.sureAddr,loadVar,iZ,hc]
def au:PSt->FuncId
 |.name _=>173
 |.colon _ _=>239
 |.item _ _ _ _=>269
def Ux(R:Nat)(st:PSt):Value:=.func (.func (au st)) #[.pointer (some ⟨R,0,none⟩)] #[]
def zjC:PSt->Bool
 |.name _=>false
 |_=>true
def zxM(w:World)(R:Nat)(vL:Value):PSt->Prop
 |.name done=>∃css,Ss 227 228 277 w (R+1) vL done css
 |.colon done nm=>∃css B,Ij 227 228 277 w (R+1) vL done nm css B
 |.item done nm alts alt=>∃css vA cA vI cI B1 B2,Sg 227 228 277 w (R+1) vL done nm alts alt css vA cA vI cI B1 B2
def af(w:World)(R:Nat)(st:PSt):Prop:=∃vL,w.heap[R]?=some (.cells #[vL,Ux R st,.bool (zjC st)] 219 (0,0))/\zxM w R vL st
theorem af.below{w w':World}{R:Nat}{st:PSt}(h:af w R st)(hb:Below w.heap.size w w'):af w' R st:=by
 obtain⟨vL,h1,h2⟩:=h;refine⟨vL,(hb.block R (gl h1)).trans h1,?_⟩;cases st with
 |name done=>obtain⟨css,h2⟩:=h2;exact⟨css,h2.below hb⟩
 |colon done nm=>obtain⟨css,B,h2⟩:=h2;exact⟨css,B,h2.below hb⟩
 |item done nm alts alt=>obtain⟨css,vA,cA,vI,cI,B1,B2,h2⟩:=h2;exact⟨css,vA,cA,vI,cI,B1,B2,h2.below hb⟩
def qsK(k:Nat):PSt->Prop
 |.name done=>done.length<=k
 |.colon done _=>done.length+1<=k
 |.item done _ alts alt=>done.length+1<=k/\alts.length<=k/\alt.length<=k
def ll(R:Nat)(st:PSt)(t:Kz)(w:World)(e:Ending)(w':World):Prop :=
 ∃b,e=.returned (.bool b)/\Below R w w'/\Jk [220] w w'/\((Rn st t=none/\b=false)\/∃st',Rn st t=some st'/\b=true/\af w' R st')
theorem qoG(R:Nat)(done:List Kh)(k i:Nat)(txt:Wd)(w:World)(h:af w R (.name done))(hd:done.length<=65536)(ht:(Jp txt).size<=maxLen) :
  Calls Tryz.prog 173 #[.pointer (some ⟨R,0,none⟩),.agg #[.int .i64 k,.string (Jp txt),.int .i64 i]] w (ll R (.name done) (k,txt,i) w):=by
 obtain⟨vL,Wo,css,Ml⟩:=h;have hRw:=(gl Wo);have Bf:Below w.heap.size w (w.alloc (.cells #[.int .i64 k,.string (Jp txt),.int .i64 i] 220)):=(Xr _ _).alloc (Yb _) _;have Fc:=Lh ((Bf.block R hRw).trans Wo);have Ah:=Lh (Ml.below Bf);have HB0:=Lh (Bf.mono (Yh hRw));have yT:=Lh (Jk.of_below (ts:=[220]) Bf);have rW:=Lh (Xn w (.cells #[.int .i64 k,.string (Jp txt),.int .i64 i] 220));obtain⟨K0,lN⟩:=Xe w.heap.size;have HK0:=Lh (show R<K0 by omega);rw[<-lN]at rW;have HT:=Lh ht;clear Bf Wo Ml ht;go_enter Tryz.func173,Tryz.ntmps173;go_wp2_with fail;rw[<-lN];clear lN;generalize w.alloc (.cells #[.int .i64 k,.string (Jp txt),.int .i64 i] 220)=w1 at*;have hcx:∀W:World,W.heap[R]?=some (.cells #[vL,Ux R (.name done),.bool false] 219 (0,0))->W.heap[K0]?=some (.cells #[.int .i64 k,.string (Jp txt),.int .i64 i] 220 (0,0))->W.cell? ⟨R,0,none⟩=some vL/\W.cell? ⟨K0,1,none⟩=some (.string (Jp txt)):=fun W h1 h2=>⟨Xc h1 rfl,Xc h2 rfl⟩;have gW:=Lh hcx;clear hcx;have Ul:=Lh (gW.o w1.drew Fc.o rW.o);refine Ny (fun w'=>w'.cell? ⟨R,0,none⟩=some vL/\w'.cell? ⟨K0,1,none⟩=some (.string (Jp txt))) [10] 13 (by kernel_rfl) rfl ?_;have Ez:=Lt (w1.drew.heap[R]?=some (.cells #[vL,Ux R (.name done),.bool false] 219 (0,0))) (Fc.o);have aE:=Lt (w1.drew.heap[K0]?=some (.cells #[.int .i64 k,.string (Jp txt),.int .i64 i] 220 (0,0))) (rW.o);have gU:=Lh (Ah.o.below ((Xr w1.heap.size w1).drew));have HBD:=Lh (HB0.o.drew);have bU:=Lh (yT.o.trans (Jk.of_below ((Xr w1.heap.size w1).drew)));clear Fc rW Ah HB0 yT;generalize w1.drew=wd at*;refine Rh 0 (.pointer (some ⟨R,0,none⟩)) rfl (by kernel_rfl) rfl (fun wq=>by go_simp) Ul.o ?_;(conv in Act.put _ _ _=>simp[Act.put]);refine Rh 1 (.pointer (some ⟨R,0,none⟩)) rfl (by kernel_rfl) rfl (fun wq=>by go_simp) Ul.o ?_;(conv in Act.put _ _ _=>simp[Act.put]);refine Rh 2 (.pointer (some ⟨R,0,none⟩)) rfl (by kernel_rfl) rfl (fun wq=>by go_simp) Ul.o ?_;(conv in Act.put _ _ _=>simp[Act.put]);refine Rh 3 (.pointer (some ⟨R,0,none⟩)) rfl (by kernel_rfl) rfl (fun wq=>by go_simp) Ul.o ?_;(conv in Act.put _ _ _=>simp[Act.put]);refine jT 4 (vL) rfl (by kernel_rfl) rfl (fun wq Ri=>Kc rfl rfl (Vs (e:=227) (by kernel_rfl) Ri.1)) Ul.o ?_;(conv in Act.put _ _ _=>simp[Act.put]);refine Rh 5 (.pointer (some ⟨K0,1,none⟩)) rfl (by kernel_rfl) rfl (fun wq=>by go_simp) Ul.o ?_;(conv in Act.put _ _ _=>simp[Act.put]);refine jT 6 (.string (Jp txt)) rfl (by kernel_rfl) rfl (fun wq Ri=>Kc rfl rfl (Bx (by kernel_rfl) Ri.2)) Ul.o ?_;(conv in Act.put _ _ _=>simp[Act.put]);refine Jf (i:=7) (by kernel_rfl) rfl (fun Q' hQ'=>?_);go_wp2_with fail;refine⟨iP Ul.o,?_⟩;have HB3:=Lh ((Xr wd.heap.size wd).alloc (Yb _) (.cells #[.string (Jp txt),.slice none 0 0] 227));have Ea:=Lh (Xn wd (.cells #[.string (Jp txt),.slice none 0 0] 227));have rV:=Lt (wd.heap.size+1=(wd.alloc (.cells #[.string (Jp txt),.slice none 0 0] 227)).heap.size) ((Xs _ _).symm);refine Jf (i:=8) (by kernel_rfl) rfl (fun Q' hQ'=>?_);go_wp2_with fail;generalize wd.alloc (.cells #[.string (Jp txt),.slice none 0 0] 227)=w3 at*;have Rf:=Lh ((HB3.o.block R (gl Ez.o)).trans Ez.o);have yB:=Lh ((HB3.o.block K0 (gl aE.o)).trans aE.o);have HM3:=Lh (gU.o.below HB3.o);have fS:=Lh (HBD.o.trans (HB3.o.mono (Yh (gl Ez.o))));have nA:=Lh (bU.o.trans (Jk.of_below HB3.o));refine⟨iP (gW.o w3 Rf.o yB.o),?_⟩;refine Jf (i:=9) (by kernel_rfl) rfl (fun Q' hQ'=>?_);refine Zy (m:=1) qoR rfl rfl rfl rfl HM3.o.lines (Rd.row (B:=w3.heap.size) Ea.o (by rw[<-rV.o];exact Yf _)) rfl (by simp[Value.oneCell']) (by simp only[maxLen];omega) (by omega) (by have:=HM3.o.nB;omega) ?_;intro vL' Iq hown hg _ _;obtain⟨A8,c8,dC,_,_⟩:=Zp hown;subst dC;have Li:=Lh (Zs HM3.o.lines hg Rf.o (by decide));have qbV:=Lh (Zs HM3.o.lines hg yB.o (by decide));have Od:=Lh (Ss.name HM3.o (by decide) (by decide) HT.o hown hg);have jaO:=Lh (Zr fS.o hg HM3.o.lines (Yi _) (Yh (gl Rf.o)));have HK4:=Lh (nA.o.trans (Jk.of_grown HM3.o.lines hg (by decide)));clear hown hg;(conv in Act.put _ _ _=>simp[Act.put]);refine hQ' _ _ ⟨iP (gW.o Iq Li.o qbV.o),?_⟩;clear Rf yB HM3 fS Ez aE gU HBD Ul HB3 Ea rV;refine Jf (i:=10) (by kernel_rfl) rfl (fun Q' hQ'=>?_);go_wp2_with fail;refine⟨Km (by kernel_rfl),?_⟩;refine Jf (i:=11) (by kernel_rfl) rfl (fun Q' hQ'=>?_);go_wp2_with fail;refine⟨Km (by kernel_rfl),?_⟩;have r0:Iq.cell? ⟨R,0,none⟩=some vL:=(gW.o Iq Li.o qbV.o).1;have r1:Iq.cell? ⟨R,1,none⟩=some (Ux R (.name done)):=Xc Li.o rfl;have r2:Iq.cell? ⟨R,2,none⟩=some (.bool false):=Xc Li.o rfl;have f0:Iq.frozen? ⟨R,0,none⟩=false:=by simp[World.frozen?,Li.o]
 have f1:Iq.frozen? ⟨R,1,none⟩=false:=by simp[World.frozen?,Li.o]
 have f2:Iq.frozen? ⟨R,2,none⟩=false:=by simp[World.frozen?,Li.o]
 have k0:Iq.cell? ⟨K0,0,none⟩=some (.int .i64 k):=Xc qbV.o rfl;have n1:K0≠R:=by have:=HK0.o;omega
 have n2:R≠K0:=by have:=HK0.o;omega
 refine Jf (i:=12) (by kernel_rfl) rfl (fun Q' hQ'=>?_);go_wp2_with fail;refine⟨Km (by kernel_rfl),?_⟩;refine Gi (by kernel_rfl) ?_ _;go_wp2;go_ret;have b1:=Kq (k:=0) Li.o (.slice A8 (done.length+1) c8);have b2:=Kq (k:=1) b1 (Ux R (.colon done (Jp txt)));have b3:=Kq (k:=2) b2 (.bool true);have m1:=Od.o.set (k:=0) Li.o (Yf R) (by decide) (.slice A8 (done.length+1) c8);have m2:=m1.set (k:=1) b1 (Yf R) (by decide) (Ux R (.colon done (Jp txt)));have m3:=m2.set (k:=2) b2 (Yf R) (by decide) (.bool true);have rL:=((jaO.o.setCell (p:=⟨R,0,none⟩) (Yb _) (.slice A8 (done.length+1) c8)).setCell (p:=⟨R,1,none⟩) (Yb _) (Ux R (.colon done (Jp txt)))).setCell (p:=⟨R,2,none⟩) (Yb _) (.bool true);have jX:=((HK4.o.trans (Vt (k:=0) Li.o (by decide) (.slice A8 (done.length+1) c8))).trans (Vt (k:=1) b1 (by decide) (Ux R (.colon done (Jp txt))))).trans (Vt (k:=2) b2 (by decide) (.bool true));refine⟨_,rfl,rL,jX,?_⟩;by_cases hk:k=1
 .subst hk;exact .inr ⟨.colon done (Jp txt),rfl,rfl,.slice A8 (done.length+1) c8,b3,css,_,m3⟩
 exact .inl ⟨if_neg hk,by simp;omega⟩
theorem Vk{g R:Nat}{o:Obj}(h:w.heap[R]?=some o)(hne:g≠R)(v:Value):(w.setCell ⟨g,k,none⟩ v).heap[R]?=some o:=by
 rw[Zc _ _ _ _ (Ne.symm hne)];exact h
theorem qjT(R:Nat)(done:List Kh)(nm:ByteArray)(k i:Nat)(txt:Wd)(w:World)(h:af w R (.colon done nm))(hd:done.length<=65536) :
  Calls Tryz.prog 239 #[.pointer (some ⟨R,0,none⟩),.agg #[.int .i64 k,.string (Jp txt),.int .i64 i]] w (ll R (.colon done nm) (k,txt,i) w):=by
 obtain⟨vL,Wo,css,B,Ml⟩:=h;have hRw:=(gl Wo);obtain⟨g,c,rfl,Il,bP,_,_,_,_⟩:=Vb Ml.lines;have Bf:Below w.heap.size w (w.alloc (.cells #[.int .i64 k,.string (Jp txt),.int .i64 i] 220)):=(Xr _ _).alloc (Yb _) _;have Fc:=Lh ((Bf.block R hRw).trans Wo);have Ah:=Lh (Ml.below Bf);have HB0:=Lh (Bf.mono (Yh hRw));have yT:=Lh (Jk.of_below (ts:=[220]) Bf);have rW:=Lh (Xn w (.cells #[.int .i64 k,.string (Jp txt),.int .i64 i] 220));obtain⟨K0,lN⟩:=Xe w.heap.size;have HNE:=Lh (show R<K0/\g<K0/\R<g by omega);rw[<-lN]at rW;clear Bf Wo Ml;go_enter Tryz.func239,Tryz.ntmps239;go_wp2_with fail;rw[<-lN];clear lN;generalize w.alloc (.cells #[.int .i64 k,.string (Jp txt),.int .i64 i] 220)=w1 at*;refine (qeK w1 R (R+1) g done.length c 0 B css.flatten (.string nm) (Ux R (.colon done nm)) (.bool true) (.slice none 0 0) [] Fc.o Ah.o.lines (fA Ah.o.dn) (Za _ _ _ _) Ah.o.bB (Yg _) (by omega)).mono ?_;rintro e w4 ⟨rfl,Pr,w2,w3,Jd,oF,hown,rfl⟩;have HM2:=Lh (Ah.o.below Jd);have HM3:=Lh (Ij.colon HM2.o (by decide) (by decide) hown oF (k:=done.length*2+1) (by omega));have An:=Lh ((Jd.block R (gl Fc.o)).trans Fc.o);have ma:=Lh ((Jd.block K0 (gl rW.o)).trans rW.o);have Rf:=Lh (Vk (g:=g) (k:=done.length*2+1) ((oF.block R (gl An.o) (by simp[Value.ownBlock])).trans An.o) (by have:=HNE.o;omega) Pr);have yB:=Lh (Vk (g:=g) (k:=done.length*2+1) ((oF.block K0 (gl ma.o) (by simp[Value.ownBlock])).trans ma.o) (by have:=HNE.o;omega) Pr);have HB3:=Lh ((((HB0.o.trans (Jd.mono (Yh (gl Fc.o)))).grown oF (Yh (gl An.o)) (fun k hk=>by simp[Value.ownBlock]at hk))).setCell (p:=⟨g,done.length*2+1,none⟩) (Yh HNE.o.2.2) Pr);have zeP:Below w2.heap.size w2 w3:=(Xr _ _).grown oF (Yb _) (fun k hk=>by simp[Value.ownBlock]at hk);have nA:=Lt (Jk [220] w (w3.setCell ⟨g,done.length*2+1,none⟩ Pr)) (by
  obtain⟨g',c',e,_,_,_,_,⟨cur,rJ⟩,_⟩:=Vb (HM2.o.below zeP).lines
  injection e with e
  injection e with e
  injection e with e
  subst e
  exact ((yT.o.trans (.of_below Jd)).trans (.of_below zeP)).trans (Vt rJ (by decide) Pr))
 clear Jd oF hown zeP HM2 yT An ma Ah Fc rW HB0;generalize w3.setCell ⟨g,done.length*2+1,none⟩ Pr=w5 at*;have r1:w5.cell? ⟨R,1,none⟩=some (Ux R (.colon done nm)):=Xc Rf.o rfl;have f1:w5.frozen? ⟨R,1,none⟩=false:=by simp[World.frozen?,Rf.o]
 have k0:w5.cell? ⟨K0,0,none⟩=some (.int .i64 k):=Xc yB.o rfl;have n1:K0≠R:=by have:=HNE.o;omega
 have n2:R≠K0:=by have:=HNE.o;omega
 go_wp2;go_ret;have b2:=Kq (k:=1) Rf.o (Ux R (.item done nm [] []));have m2:=HM3.o.set (k:=1) Rf.o (Yf R) (by decide) (Ux R (.item done nm [] []));have rL:=HB3.o.setCell (p:=⟨R,1,none⟩) (Yb _) (Ux R (.item done nm [] []));have jX:=nA.o.trans (Vt (k:=1) Rf.o (by decide) (Ux R (.item done nm [] [])));refine⟨_,rfl,rL,jX,?_⟩;by_cases hk:k=3
 .subst hk;exact .inr ⟨.item done nm [] [],rfl,rfl,.slice (some ⟨g,0,none⟩) (done.length+1) c,b2,css,_,_,_,_,_,_,m2⟩
 exact .inl ⟨if_neg hk,by simp;omega⟩
theorem d_(R:Nat)(done:List Kh)(nm:ByteArray)(alts:List (List Wf))(alt:List Wf)(k i:Nat)(txt:Wd)(w:World)(h:af w R (.item done nm alts alt))(hd:done.length<=65536)(ha:alts.length<=65536)(hi:alt.length<=65536)(ht:(Jp txt).size<=maxLen) :
  Calls Tryz.prog 269 #[.pointer (some ⟨R,0,none⟩),.agg #[.int .i64 k,.string (Jp txt),.int .i64 i]] w (ll R (.item done nm alts alt) (k,txt,i) w):=by
 obtain⟨vL,Wo,css,vA,cA,vI,cI,B1,B2,Ml⟩:=h;have hRw:=(gl Wo);obtain⟨g,c,rfl,Il,bP,Nj,Uw,_,sM,_⟩:=Vb Ml.lines;obtain⟨gA,c2,rfl,hA1,hA2,hc3,hc4,_,hcA,_⟩:=Vb Ml.row;have qqH:cA.length=alts.length:=by have:=Ml.al.len;rwa [Qk]at this
 have Bf:Below w.heap.size w (w.alloc (.cells #[.int .i64 k,.string (Jp txt),.int .i64 i] 220)):=(Xr _ _).alloc (Yb _) _;have Fc:=Lh ((Bf.block R hRw).trans Wo);have Ah:=Lh (Ml.below Bf);have HB0:=Lh (Bf.mono (Yh hRw));have yT:=Lh (Jk.of_below (ts:=[220]) Bf);have rW:=Lh (Xn w (.cells #[.int .i64 k,.string (Jp txt),.int .i64 i] 220));have zlQ:=sM (done.length*2+1) (.slice (some ⟨gA,0,none⟩) (alts.length+1) c2) (by rw[Qn (by rw[fA Ml.dn];omega),fA Ml.dn,show done.length*2+1-2*done.length=1 by omega];rfl);have zlR:=hcA alts.length vI (by rw[Qn (by omega),qqH,Nat.sub_self];rfl);have Mz:=Lh (And.intro ((Bf.cell (p:=⟨g,done.length*2+1,none⟩) bP).trans zlQ) ((Bf.cell (p:=⟨gA,alts.length,none⟩) hA2).trans zlR));obtain⟨K0,lN⟩:=Xe w.heap.size;have HNE:=Lh (show R<K0/\g<K0/\gA<K0/\R<g/\R<gA by have:=Ml.nB;omega);rw[<-lN]at rW;have HT:=Lh ht;clear Bf Wo Ml sM hcA zlQ zlR ht;have HCS:=Lh qqH;obtain⟨n,hn⟩:=Xe done.length;obtain⟨m,hm⟩:=Xe alts.length;obtain⟨L,hL⟩:=Xe (n+1);obtain⟨M,hM⟩:=Xe (m+1);have HEQ:=Lt (done.length=n/\alts.length=m/\n+1=L/\m+1=M) (⟨hn.symm,hm.symm,hL.symm,hM.symm⟩);rw[<-hn]at hd Nj Mz;rw[<-hm]at ha hc3 Mz;rw[<-hL]at Nj;rw[<-hM]at hc3 Mz;have l1:n<L:=by omega
 have l2:m<M:=by omega
 have e1:(L:Int)-1=(n:Int):=by omega
 have e2:(M:Int)-1=(m:Int):=by omega
 unfold maxLen at Uw hc4;clear hn hm hL hM qqH;have HBR:=Lh (show ∀W:World,W.heap[R]?=some (.cells #[.slice (some ⟨g,0,none⟩) (done.length+1) c,Ux R (.item done nm alts alt),.bool true] 219 (0,0))->W.cell? ⟨R,0,none⟩=some (.slice (some ⟨g,0,none⟩) L c)from fun W h=>by
  rw[Zd _ _ _ _ _ _ h,<-HEQ.o.2.2.1,<-HEQ.o.1];rfl)
 have HKR:=Lt (∀W:World,W.heap[K0]?=some (.cells #[.int .i64 k,.string (Jp txt),.int .i64 i] 220 (0,0))->W.cell? ⟨K0,0,none⟩=some (.int .i64 k)/\W.cell? ⟨K0,1,none⟩=some (.string (Jp txt))) (fun W h=>⟨Xc h rfl,Xc h rfl⟩);have aV:k=1\/k=2\/k=4\/k=5\/(k≠1/\k≠2/\k≠4/\k≠5):=by omega
 rcases aV with hk|hk|hk|hk|⟨k1,k2,k4,k5⟩
 .subst hk;go_enter Tryz.func269,Tryz.ntmps269;go_wp2_with fail;rw[<-lN];clear lN;generalize w.alloc (.cells #[.int .i64 1,.string (Jp txt),.int .i64 i] 220)=w1 at*;have Vn:=HBR.o w1 Fc.o;have sM:=Mz.o.1;have hcA:=Mz.o.2;refine Text.wt (by kernel_rfl) fun Q' hQ'=>?_;go_wp2;refine⟨by rfl,?_⟩;go_wp2;refine Text.wt (by kernel_rfl) fun Q' hQ'=>?_;go_wp2;refine⟨by rfl,?_⟩;have Ez:=Lt (w1.drew.drew.heap[R]?=some (.cells #[.slice (some ⟨g,0,none⟩) (done.length+1) c,Ux R (.item done nm alts alt),.bool true] 219 (0,0))) (Fc.o);have aE:=Lt (w1.drew.drew.heap[K0]?=some (.cells #[.int .i64 1,.string (Jp txt),.int .i64 i] 220 (0,0))) (rW.o);have gU:=Lh (Ah.o.below ((Xr w1.heap.size w1).drew.drew));have HBD:=Lh (HB0.o.drew.drew);have bU:=Lh (yT.o.trans (Jk.of_below ((Xr w1.heap.size w1).drew.drew)));have HCD:=Lt (w1.drew.drew.cell? ⟨g,n*2+1,none⟩=some (.slice (some ⟨gA,0,none⟩) M c2)/\w1.drew.drew.cell? ⟨gA,m,none⟩=some vI) (Mz.o);clear Fc rW Ah HB0 yT Mz Vn sM hcA;generalize w1.drew.drew=wd at*;have hk0:=(HKR.o wd aE.o).1;go_wp2_with fail;have gW:=Lt (∀W:World,W.heap[K0]?=some (.cells #[.int .i64 1,.string (Jp txt),.int .i64 i] 220 (0,0))->W.cell? ⟨gA,m,none⟩=some vI->W.cell? ⟨K0,0,none⟩=some (.int .i64 1)/\W.cell? ⟨K0,1,none⟩=some (.string (Jp txt))/\W.cell? ⟨gA,m,none⟩=some vI) (fun W h1 h2=>⟨(HKR.o W h1).1,(HKR.o W h1).2,h2⟩);have Ul:=Lh (gW.o wd.drew aE.o HCD.o.2);refine Ny (fun w'=>w'.cell? ⟨K0,0,none⟩=some (.int .i64 1)/\w'.cell? ⟨K0,1,none⟩=some (.string (Jp txt))/\w'.cell? ⟨gA,m,none⟩=some vI) [12] 14 (by kernel_rfl) rfl ?_;have An:=Lt (wd.drew.heap[R]?=some (.cells #[.slice (some ⟨g,0,none⟩) (done.length+1) c,Ux R (.item done nm alts alt),.bool true] 219 (0,0))) (Ez.o);have ma:=Lt (wd.drew.heap[K0]?=some (.cells #[.int .i64 1,.string (Jp txt),.int .i64 i] 220 (0,0))) (aE.o);have HM2:=Lh (gU.o.below ((Xr wd.heap.size wd).drew));have HB2:=Lh (HBD.o.drew);have HK2:=Lh (bU.o.trans (Jk.of_below ((Xr wd.heap.size wd).drew)));have pG:=Lt (wd.drew.cell? ⟨gA,m,none⟩=some vI) (HCD.o.2);clear Ez aE gU HBD bU HCD hk0;generalize wd.drew=w2 at*;refine Rh 0 (.pointer (some ⟨gA,m,none⟩)) rfl (by kernel_rfl) rfl (fun wq=>by go_simp) Ul.o ?_;(conv in Act.put _ _ _=>simp[Act.put]);refine Rh 1 (.pointer (some ⟨gA,m,none⟩)) rfl (by kernel_rfl) rfl (fun wq=>by go_simp) Ul.o ?_;(conv in Act.put _ _ _=>simp[Act.put]);refine Rh 2 (.pointer (some ⟨gA,m,none⟩)) rfl (by kernel_rfl) rfl (fun wq=>by go_simp) Ul.o ?_;(conv in Act.put _ _ _=>simp[Act.put]);refine jT 3 (vI) rfl (by kernel_rfl) rfl (fun wq Ri=>Kc rfl rfl (Vs (e:=277) (by kernel_rfl) Ri.2.2)) Ul.o ?_;(conv in Act.put _ _ _=>simp[Act.put]);refine Rh 4 (.pointer (some ⟨K0,0,none⟩)) rfl (by kernel_rfl) rfl (fun wq=>by go_simp) Ul.o ?_;(conv in Act.put _ _ _=>simp[Act.put]);refine jT 5 (.int .i64 1) rfl (by kernel_rfl) rfl (fun wq Ri=>Kc rfl rfl (vX (k:=.i64) (by kernel_rfl) Ri.1)) Ul.o ?_;(conv in Act.put _ _ _=>simp[Act.put]);refine Rh 6 (.bool false) rfl (by kernel_rfl) rfl (fun wq=>by go_simp) Ul.o ?_;(conv in Act.put _ _ _=>simp[Act.put]);refine Rh 7 (.pointer (some ⟨K0,1,none⟩)) rfl (by kernel_rfl) rfl (fun wq=>by go_simp) Ul.o ?_;(conv in Act.put _ _ _=>simp[Act.put]);refine jT 8 (.string (Jp txt)) rfl (by kernel_rfl) rfl (fun wq Ri=>Kc rfl rfl (Bx (by kernel_rfl) Ri.2.1)) Ul.o ?_;(conv in Act.put _ _ _=>simp[Act.put]);refine Jf (i:=9) (by kernel_rfl) rfl (fun Q' hQ'=>?_);go_wp2_with fail;refine⟨iP Ul.o,?_⟩;have HB3:=Lh ((Xr w2.heap.size w2).alloc (Yb _) (.cells #[.bool false,.string (Jp txt)] 277));have Ea:=Lh (Xn w2 (.cells #[.bool false,.string (Jp txt)] 277));have rV:=Lt (w2.heap.size+1=(w2.alloc (.cells #[.bool false,.string (Jp txt)] 277)).heap.size) ((Xs _ _).symm);refine Jf (i:=10) (by kernel_rfl) rfl (fun Q' hQ'=>?_);go_wp2_with fail;generalize w2.alloc (.cells #[.bool false,.string (Jp txt)] 277)=w3 at*;have Rf:=Lh ((HB3.o.block R (gl An.o)).trans An.o);have yB:=Lh ((HB3.o.block K0 (gl ma.o)).trans ma.o);have HM3:=Lh (HM2.o.below HB3.o);have fS:=Lh (HB2.o.trans (HB3.o.mono (Yh (gl An.o))));have HC3:=Lh ((HB3.o.cell (p:=⟨gA,m,none⟩) (by have h1:=HM2.o.row;obtain⟨g',c',e,_,h2,_⟩:=Vb h1;injection e with e;injection e with e;injection e with e;rw[e];exact h2)).trans pG.o);have nA:=Lh (HK2.o.trans (Jk.of_below HB3.o));refine⟨iP (gW.o w3 yB.o HC3.o),?_⟩;refine Jf (i:=11) (by kernel_rfl) rfl (fun Q' hQ'=>?_);refine Zy (m:=1) ry rfl rfl rfl rfl HM3.o.last (Rd.row (B:=w3.heap.size) Ea.o (by rw[<-rV.o];exact Yf _)) rfl (by simp[Value.oneCell']) (by simp only[maxLen];omega) (by omega) HM3.o.b2 ?_;intro vI' Iq hown hg _ _;obtain⟨A8,c8,dC,_,_⟩:=Zp hown;subst dC;have Li:=Lh (Zs HM3.o.last hg Rf.o (by decide));have qbV:=Lh (Zs HM3.o.last hg yB.o (by decide));have Od:=Lh (Sg.item HM3.o (by decide) (by decide) (by decide) HT.o hown hg);have HB4:=Lh (Zr fS.o hg HM3.o.last (by have h1:=HM3.o.nB;have h2:=HM3.o.b12;omega) (Yh (gl Rf.o)));have HRW:=Lh (Vy HM3.o.row HM3.o.last (by decide) hg);obtain⟨g',c',e,_,_,_,_,⟨zxD,qqD⟩,tf,qqB⟩:=Vb HRW.o;injection e with e1' e2' e3';injection e1' with e1';injection e1' with e1';subst e1';have zeL:=tf m vI (by rw[Qn (by rw[HCS.o,HEQ.o.2.1];exact Yb _),HCS.o,HEQ.o.2.1,Nat.sub_self];rfl);have zvF:=qqB m;have HK4:=Lh ((nA.o.trans (Jk.of_grown HM3.o.last hg (by decide))).trans (Vt (k:=m) qqD (by decide) (.slice A8 (alt.length+1) c8)));rw[HEQ.o.2.1]at Od;clear hown hg tf qqB;(conv in Act.put _ _ _=>simp[Act.put]);refine hQ' _ _ ⟨iP (gW.o Iq qbV.o zeL),?_⟩;refine Jf (i:=12) (by kernel_rfl) rfl (fun Q' hQ'=>?_);go_wp2_with fail;refine⟨Km (by kernel_rfl),?_⟩;refine Jf (i:=13) (by kernel_rfl) rfl (fun Q' hQ'=>?_);go_wp2_with fail;refine⟨Km (by kernel_rfl),?_⟩;refine Gi (by kernel_rfl) ?_ _;go_wp2;go_ret;have b3:=Vk (g:=gA) (k:=m) Li.o (by have:=HNE.o;omega) (.slice A8 (alt.length+1) c8);have rL:=HB4.o.setCell (p:=⟨gA,m,none⟩) (Yh HNE.o.2.2.2.2) (.slice A8 (alt.length+1) c8);exact⟨true,rfl,rL,HK4.o,.inr ⟨.item done nm alts (alt++[(false,Jp txt)]),rfl,rfl,_,b3,css,_,_,_,_,_,_,Od.o⟩⟩
 .subst hk;go_enter Tryz.func269,Tryz.ntmps269;go_wp2_with fail;rw[<-lN];clear lN;generalize w.alloc (.cells #[.int .i64 2,.string (Jp txt),.int .i64 i] 220)=w1 at*;have Vn:=HBR.o w1 Fc.o;have sM:=Mz.o.1;have hcA:=Mz.o.2;refine Text.wt (by kernel_rfl) fun Q' hQ'=>?_;go_wp2;refine⟨by rfl,?_⟩;go_wp2;refine Text.wt (by kernel_rfl) fun Q' hQ'=>?_;go_wp2;refine⟨by rfl,?_⟩;have Ez:=Lt (w1.drew.drew.heap[R]?=some (.cells #[.slice (some ⟨g,0,none⟩) (done.length+1) c,Ux R (.item done nm alts alt),.bool true] 219 (0,0))) (Fc.o);have aE:=Lt (w1.drew.drew.heap[K0]?=some (.cells #[.int .i64 2,.string (Jp txt),.int .i64 i] 220 (0,0))) (rW.o);have gU:=Lh (Ah.o.below ((Xr w1.heap.size w1).drew.drew));have HBD:=Lh (HB0.o.drew.drew);have bU:=Lh (yT.o.trans (Jk.of_below ((Xr w1.heap.size w1).drew.drew)));have HCD:=Lt (w1.drew.drew.cell? ⟨g,n*2+1,none⟩=some (.slice (some ⟨gA,0,none⟩) M c2)/\w1.drew.drew.cell? ⟨gA,m,none⟩=some vI) (Mz.o);clear Fc rW Ah HB0 yT Mz Vn sM hcA;generalize w1.drew.drew=wd at*;have hk0:=(HKR.o wd aE.o).1;go_wp2_with fail;have gW:=Lt (∀W:World,W.heap[K0]?=some (.cells #[.int .i64 2,.string (Jp txt),.int .i64 i] 220 (0,0))->W.cell? ⟨gA,m,none⟩=some vI->W.cell? ⟨K0,0,none⟩=some (.int .i64 2)/\W.cell? ⟨K0,1,none⟩=some (.string (Jp txt))/\W.cell? ⟨gA,m,none⟩=some vI) (fun W h1 h2=>⟨(HKR.o W h1).1,(HKR.o W h1).2,h2⟩);have Ul:=Lh (gW.o wd.drew aE.o HCD.o.2);refine Ny (fun w'=>w'.cell? ⟨K0,0,none⟩=some (.int .i64 2)/\w'.cell? ⟨K0,1,none⟩=some (.string (Jp txt))/\w'.cell? ⟨gA,m,none⟩=some vI) [12] 14 (by kernel_rfl) rfl ?_;have An:=Lt (wd.drew.heap[R]?=some (.cells #[.slice (some ⟨g,0,none⟩) (done.length+1) c,Ux R (.item done nm alts alt),.bool true] 219 (0,0))) (Ez.o);have ma:=Lt (wd.drew.heap[K0]?=some (.cells #[.int .i64 2,.string (Jp txt),.int .i64 i] 220 (0,0))) (aE.o);have HM2:=Lh (gU.o.below ((Xr wd.heap.size wd).drew));have HB2:=Lh (HBD.o.drew);have HK2:=Lh (bU.o.trans (Jk.of_below ((Xr wd.heap.size wd).drew)));have pG:=Lt (wd.drew.cell? ⟨gA,m,none⟩=some vI) (HCD.o.2);clear Ez aE gU HBD bU HCD hk0;generalize wd.drew=w2 at*;refine Rh 0 (.pointer (some ⟨gA,m,none⟩)) rfl (by kernel_rfl) rfl (fun wq=>by go_simp) Ul.o ?_;(conv in Act.put _ _ _=>simp[Act.put]);refine Rh 1 (.pointer (some ⟨gA,m,none⟩)) rfl (by kernel_rfl) rfl (fun wq=>by go_simp) Ul.o ?_;(conv in Act.put _ _ _=>simp[Act.put]);refine Rh 2 (.pointer (some ⟨gA,m,none⟩)) rfl (by kernel_rfl) rfl (fun wq=>by go_simp) Ul.o ?_;(conv in Act.put _ _ _=>simp[Act.put]);refine jT 3 (vI) rfl (by kernel_rfl) rfl (fun wq Ri=>Kc rfl rfl (Vs (e:=277) (by kernel_rfl) Ri.2.2)) Ul.o ?_;(conv in Act.put _ _ _=>simp[Act.put]);refine Rh 4 (.pointer (some ⟨K0,0,none⟩)) rfl (by kernel_rfl) rfl (fun wq=>by go_simp) Ul.o ?_;(conv in Act.put _ _ _=>simp[Act.put]);refine jT 5 (.int .i64 2) rfl (by kernel_rfl) rfl (fun wq Ri=>Kc rfl rfl (vX (k:=.i64) (by kernel_rfl) Ri.1)) Ul.o ?_;(conv in Act.put _ _ _=>simp[Act.put]);refine Rh 6 (.bool true) rfl (by kernel_rfl) rfl (fun wq=>by go_simp) Ul.o ?_;(conv in Act.put _ _ _=>simp[Act.put]);refine Rh 7 (.pointer (some ⟨K0,1,none⟩)) rfl (by kernel_rfl) rfl (fun wq=>by go_simp) Ul.o ?_;(conv in Act.put _ _ _=>simp[Act.put]);refine jT 8 (.string (Jp txt)) rfl (by kernel_rfl) rfl (fun wq Ri=>Kc rfl rfl (Bx (by kernel_rfl) Ri.2.1)) Ul.o ?_;(conv in Act.put _ _ _=>simp[Act.put]);refine Jf (i:=9) (by kernel_rfl) rfl (fun Q' hQ'=>?_);go_wp2_with fail;refine⟨iP Ul.o,?_⟩;have HB3:=Lh ((Xr w2.heap.size w2).alloc (Yb _) (.cells #[.bool true,.string (Jp txt)] 277));have Ea:=Lh (Xn w2 (.cells #[.bool true,.string (Jp txt)] 277));have rV:=Lt (w2.heap.size+1=(w2.alloc (.cells #[.bool true,.string (Jp txt)] 277)).heap.size) ((Xs _ _).symm);refine Jf (i:=10) (by kernel_rfl) rfl (fun Q' hQ'=>?_);go_wp2_with fail;generalize w2.alloc (.cells #[.bool true,.string (Jp txt)] 277)=w3 at*;have Rf:=Lh ((HB3.o.block R (gl An.o)).trans An.o);have yB:=Lh ((HB3.o.block K0 (gl ma.o)).trans ma.o);have HM3:=Lh (HM2.o.below HB3.o);have fS:=Lh (HB2.o.trans (HB3.o.mono (Yh (gl An.o))));have HC3:=Lh ((HB3.o.cell (p:=⟨gA,m,none⟩) (by have h1:=HM2.o.row;obtain⟨g',c',e,_,h2,_⟩:=Vb h1;injection e with e;injection e with e;injection e with e;rw[e];exact h2)).trans pG.o);have nA:=Lh (HK2.o.trans (Jk.of_below HB3.o));refine⟨iP (gW.o w3 yB.o HC3.o),?_⟩;refine Jf (i:=11) (by kernel_rfl) rfl (fun Q' hQ'=>?_);refine Zy (m:=1) ry rfl rfl rfl rfl HM3.o.last (Rd.row (B:=w3.heap.size) Ea.o (by rw[<-rV.o];exact Yf _)) rfl (by simp[Value.oneCell']) (by simp only[maxLen];omega) (by omega) HM3.o.b2 ?_;intro vI' Iq hown hg _ _;obtain⟨A8,c8,dC,_,_⟩:=Zp hown;subst dC;have Li:=Lh (Zs HM3.o.last hg Rf.o (by decide));have qbV:=Lh (Zs HM3.o.last hg yB.o (by decide));have Od:=Lh (Sg.item HM3.o (by decide) (by decide) (by decide) HT.o hown hg);have HB4:=Lh (Zr fS.o hg HM3.o.last (by have h1:=HM3.o.nB;have h2:=HM3.o.b12;omega) (Yh (gl Rf.o)));have HRW:=Lh (Vy HM3.o.row HM3.o.last (by decide) hg);obtain⟨g',c',e,_,_,_,_,⟨zxD,qqD⟩,tf,qqB⟩:=Vb HRW.o;injection e with e1' e2' e3';injection e1' with e1';injection e1' with e1';subst e1';have zeL:=tf m vI (by rw[Qn (by rw[HCS.o,HEQ.o.2.1];exact Yb _),HCS.o,HEQ.o.2.1,Nat.sub_self];rfl);have zvF:=qqB m;have HK4:=Lh ((nA.o.trans (Jk.of_grown HM3.o.last hg (by decide))).trans (Vt (k:=m) qqD (by decide) (.slice A8 (alt.length+1) c8)));rw[HEQ.o.2.1]at Od;clear hown hg tf qqB;(conv in Act.put _ _ _=>simp[Act.put]);refine hQ' _ _ ⟨iP (gW.o Iq qbV.o zeL),?_⟩;refine Jf (i:=12) (by kernel_rfl) rfl (fun Q' hQ'=>?_);go_wp2_with fail;refine⟨Km (by kernel_rfl),?_⟩;refine Jf (i:=13) (by kernel_rfl) rfl (fun Q' hQ'=>?_);go_wp2_with fail;refine⟨Km (by kernel_rfl),?_⟩;refine Gi (by kernel_rfl) ?_ _;go_wp2;go_ret;have b3:=Vk (g:=gA) (k:=m) Li.o (by have:=HNE.o;omega) (.slice A8 (alt.length+1) c8);have rL:=HB4.o.setCell (p:=⟨gA,m,none⟩) (Yh HNE.o.2.2.2.2) (.slice A8 (alt.length+1) c8);exact⟨true,rfl,rL,HK4.o,.inr ⟨.item done nm alts (alt++[(true,Jp txt)]),rfl,rfl,_,b3,css,_,_,_,_,_,_,Od.o⟩⟩
 .subst hk;go_enter Tryz.func269,Tryz.ntmps269;go_wp2_with fail;rw[<-lN];clear lN;generalize w.alloc (.cells #[.int .i64 4,.string (Jp txt),.int .i64 i] 220)=w1 at*;have Vn:=HBR.o w1 Fc.o;have sM:=Mz.o.1;have hcA:=Mz.o.2;refine Text.wt (by kernel_rfl) fun Q' hQ'=>?_;go_wp2;refine⟨by rfl,?_⟩;go_wp2;refine Text.wt (by kernel_rfl) fun Q' hQ'=>?_;go_wp2;refine⟨by rfl,?_⟩;have Ez:=Lt (w1.drew.drew.heap[R]?=some (.cells #[.slice (some ⟨g,0,none⟩) (done.length+1) c,Ux R (.item done nm alts alt),.bool true] 219 (0,0))) (Fc.o);have aE:=Lt (w1.drew.drew.heap[K0]?=some (.cells #[.int .i64 4,.string (Jp txt),.int .i64 i] 220 (0,0))) (rW.o);have gU:=Lh (Ah.o.below ((Xr w1.heap.size w1).drew.drew));have HBD:=Lh (HB0.o.drew.drew);have bU:=Lh (yT.o.trans (Jk.of_below ((Xr w1.heap.size w1).drew.drew)));have HCD:=Lt (w1.drew.drew.cell? ⟨g,n*2+1,none⟩=some (.slice (some ⟨gA,0,none⟩) M c2)/\w1.drew.drew.cell? ⟨gA,m,none⟩=some vI) (Mz.o);clear Fc rW Ah HB0 yT Mz Vn sM hcA;generalize w1.drew.drew=wd at*;have hk0:=(HKR.o wd aE.o).1;go_wp2_with fail;refine (qeK wd R (R+1) g done.length c (alts.length+1) B1 css.flatten (.string nm) (Ux R (.item done nm alts alt)) (.bool true) (.slice (some ⟨gA,0,none⟩) (alts.length+1) c2) (cA++[vI]) Ez.o gU.o.lines (fA gU.o.dn) gU.o.row (by have h1:=gU.o.b12;have h2:=gU.o.b2;omega) (by have:=HEQ.o;omega) (by have:=HEQ.o;omega)).mono ?_;rintro e w4 ⟨rfl,Pr,w2,w3,Jd,oF,hown,rfl⟩;have HM2:=Lh (gU.o.below Jd);have HM3:=Lh (Sg.bar HM2.o (by decide) (by decide) (by decide) hown oF (k:=done.length*2+1) (by omega));have An:=Lh ((Jd.block R (gl Ez.o)).trans Ez.o);have Rf:=Lh (Vk (g:=g) (k:=done.length*2+1) (Zs HM2.o.row oF An.o (by decide)) (by have:=HNE.o;omega) Pr);have HB3:=Lh ((Zr (HBD.o.trans (Jd.mono (Yh (gl Ez.o)))) oF HM2.o.row (by have:=HM2.o.nB;omega) (Yh (gl An.o))).setCell (p:=⟨g,done.length*2+1,none⟩) (Yh HNE.o.2.2.2.1) Pr);have nA:=Lt (Jk [220] w (w3.setCell ⟨g,done.length*2+1,none⟩ Pr)) (by
   obtain⟨g',c',e,_,_,_,_,⟨cur,rJ⟩,_⟩:=Vb (Vy HM2.o.lines HM2.o.row (by decide) oF)
   injection e with e
   injection e with e
   injection e with e
   subst e
   exact ((bU.o.trans (.of_below Jd)).trans (.of_grown HM2.o.row oF (by decide))).trans (Vt rJ (by decide) Pr))
  clear Jd oF hown HM2 An bU;generalize w3.setCell ⟨g,done.length*2+1,none⟩ Pr=w5 at*;go_wp2;go_ret;exact⟨true,rfl,HB3.o,nA.o,.inr ⟨.item done nm (alts++[alt]) [],rfl,rfl,_,Rf.o,css,_,_,_,_,_,_,HM3.o⟩⟩
 .subst hk;go_enter Tryz.func269,Tryz.ntmps269;go_wp2_with fail;rw[<-lN];clear lN;generalize w.alloc (.cells #[.int .i64 5,.string (Jp txt),.int .i64 i] 220)=w1 at*;have Vn:=HBR.o w1 Fc.o;have sM:=Mz.o.1;have hcA:=Mz.o.2;refine Text.wt (by kernel_rfl) fun Q' hQ'=>?_;go_wp2;refine⟨by rfl,?_⟩;go_wp2;refine Text.wt (by kernel_rfl) fun Q' hQ'=>?_;go_wp2;refine⟨by rfl,?_⟩;have Ez:=Lt (w1.drew.drew.heap[R]?=some (.cells #[.slice (some ⟨g,0,none⟩) (done.length+1) c,Ux R (.item done nm alts alt),.bool true] 219 (0,0))) (Fc.o);have aE:=Lt (w1.drew.drew.heap[K0]?=some (.cells #[.int .i64 5,.string (Jp txt),.int .i64 i] 220 (0,0))) (rW.o);have gU:=Lh (Ah.o.below ((Xr w1.heap.size w1).drew.drew));have HBD:=Lh (HB0.o.drew.drew);have bU:=Lh (yT.o.trans (Jk.of_below ((Xr w1.heap.size w1).drew.drew)));have HCD:=Lt (w1.drew.drew.cell? ⟨g,n*2+1,none⟩=some (.slice (some ⟨gA,0,none⟩) M c2)/\w1.drew.drew.cell? ⟨gA,m,none⟩=some vI) (Mz.o);clear Fc rW Ah HB0 yT Mz Vn sM hcA;generalize w1.drew.drew=wd at*;have hk0:=(HKR.o wd aE.o).1;have r1:wd.cell? ⟨R,1,none⟩=some (Ux R (.item done nm alts alt)):=Xc Ez.o rfl;have r2:wd.cell? ⟨R,2,none⟩=some (.bool true):=Xc Ez.o rfl;have f1:wd.frozen? ⟨R,1,none⟩=false:=by simp[World.frozen?,Ez.o]
  have f2:wd.frozen? ⟨R,2,none⟩=false:=by simp[World.frozen?,Ez.o]
  go_wp2;go_ret;have hs:=gU.o.semi;have b2:=Kq (k:=1) Ez.o (Ux R (.name (done++[(nm,alts++[alt])])));have b3:=Kq (k:=2) b2 (.bool false);have m2:=hs.set (k:=1) Ez.o (Yf R) (by decide) (Ux R (.name (done++[(nm,alts++[alt])])));have m3:=m2.set (k:=2) b2 (Yf R) (by decide) (.bool false);have rL:=(HBD.o.setCell (p:=⟨R,1,none⟩) (Yb _) (Ux R (.name (done++[(nm,alts++[alt])])))).setCell (p:=⟨R,2,none⟩) (Yb _) (.bool false);have jX:=(bU.o.trans (Vt (k:=1) Ez.o (by decide) (Ux R (.name (done++[(nm,alts++[alt])]))))).trans (Vt (k:=2) b2 (by decide) (.bool false));exact⟨true,rfl,rL,jX,.inr ⟨.name (done++[(nm,alts++[alt])]),rfl,rfl,_,b3,_,m3⟩⟩
 have d1:((k:Int)==1)=false:=by simp;omega
 have d2:((k:Int)==2)=false:=by simp;omega
 have d4:((k:Int)==4)=false:=by simp;omega
 have d5:((k:Int)==5)=false:=by simp;omega
 have HST:=Lt (Rn (.item done nm alts alt) (k,txt,i)=none) (by
  show (if k=1\/k=2 then _ else if k=4 then _ else if k=5 then _ else none)=none
  rw[if_neg (by omega),if_neg k4,if_neg k5])
 go_enter Tryz.func269,Tryz.ntmps269;go_wp2_with fail;rw[<-lN];clear lN;generalize w.alloc (.cells #[.int .i64 k,.string (Jp txt),.int .i64 i] 220)=w1 at*;have Vn:=HBR.o w1 Fc.o;have sM:=Mz.o.1;have hcA:=Mz.o.2;refine Text.wt (by kernel_rfl) fun Q' hQ'=>?_;go_wp2;refine⟨by rfl,?_⟩;go_wp2;refine Text.wt (by kernel_rfl) fun Q' hQ'=>?_;go_wp2;refine⟨by rfl,?_⟩;have Ez:=Lt (w1.drew.drew.heap[R]?=some (.cells #[.slice (some ⟨g,0,none⟩) (done.length+1) c,Ux R (.item done nm alts alt),.bool true] 219 (0,0))) (Fc.o);have aE:=Lt (w1.drew.drew.heap[K0]?=some (.cells #[.int .i64 k,.string (Jp txt),.int .i64 i] 220 (0,0))) (rW.o);have gU:=Lh (Ah.o.below ((Xr w1.heap.size w1).drew.drew));have HBD:=Lh (HB0.o.drew.drew);have bU:=Lh (yT.o.trans (Jk.of_below ((Xr w1.heap.size w1).drew.drew)));have HCD:=Lt (w1.drew.drew.cell? ⟨g,n*2+1,none⟩=some (.slice (some ⟨gA,0,none⟩) M c2)/\w1.drew.drew.cell? ⟨gA,m,none⟩=some vI) (Mz.o);clear Fc rW Ah HB0 yT Mz Vn sM hcA;generalize w1.drew.drew=wd at*;have hk0:=(HKR.o wd aE.o).1;go_wp2;go_ret;exact⟨false,rfl,HBD.o,bU.o,.inl ⟨HST.o,rfl⟩⟩
theorem qfH{t:Nat×Wd×Nat}(h:Fg l=.ok t):t.2.1.length<=32:=by
 cases l with
 |nil=>cases h
 |cons c r =>
  change Cb c r=_ at h;unfold Cb at h
  repeat' split at h
  all_goals first
   |(cases h;done)
   |(injection h with h;subst h;show List.length _<=32;first|(simp;done)|(rw[Qq];omega))
def qyN(s:Wd)(st:Nat×List Kz):Prop:=st.2.length<=st.1/\st.2.length<=s.length/\∀t∈st.2,t.2.1.length<=32
theorem qvT{s:Wd}{a b:Nat×List Kz}(h:Gz s a=some b)(ha:qyN s a):qyN s b:=by
 have Jl:=(ov h);obtain⟨h1,h2,h3⟩:=ha;unfold Gz at h;split at h
 .cases h
 split at h
 .injection h with h;subst h;exact⟨Nat.le_succ_of_le h1,h2,h3⟩
 split at h
 .injection h with h;subst h;exact⟨Yd h1 (Nat.le_add_right _ _),h2,h3⟩
 split at h
 .rename_i t ht;injection h with h;subst h;have hp:=eI ht;refine⟨?_,?_,fun x hx=>?_⟩
  .rw[Qe,Qf];omega
  .rw[Qe,Qf];omega
  rcases Qh.1 hx with hx|hx
  .exact h3 x hx
  rw[Qi.1 hx];show t.2.1.length<=32;exact qfH ht
 cases h
theorem qnI{s:Wd}:∀(f:Nat)(a:Nat×List Kz),qyN s a->qyN s (jc s f a)
 |0,_,h=>h
 |f+1,a,h=>by
  unfold jc;split
  .exact h
  rename_i b hb;exact qnI f b (qvT hb h)
theorem L_(s:Wd):(Sk s).1.length<=65536/\∀t∈(Sk s).1,t.2.1.length<=32:=by
 unfold Sk;split
 .exact⟨Yg _,fun t ht=>by cases ht⟩
 rename_i hl;have hs:=qnI s.length (0,[]) (s:=s) ⟨Yb _,Yg _,fun t ht=>by cases ht⟩;unfold un;split
 .exact⟨by have:=hs.2.1;simp only;omega,hs.2.2⟩
 split <;> exact⟨Yg _,fun t ht=>by cases ht⟩
theorem iD{l:List Kz}(h:k<l.length):(Eo l)[k*3]?=some (.int .i64 l[k].1)/\(Eo l)[k*3+1]?=some (.string (Jp l[k].2.1))/\(Eo l)[k*3+2]?=some (.int .i64 l[k].2.2):=by
 have hg:(l.map nF)[k]?=some (nF l[k]):=by rw[Qv,Qa h];rfl
 have hl:∀cs∈l.map nF,cs.length=3:=fun cs tc=>by obtain⟨t,_,rfl⟩:=Xa.1 tc;rfl
 have h0:=Oy 3 (l.map nF) hl k 0 (nF l[k]) (.int .i64 l[k].1) hg rfl;have h1:=Oy 3 (l.map nF) hl k 1 (nF l[k]) (.string (Jp l[k].2.1)) hg rfl;have h2:=Oy 3 (l.map nF) hl k 2 (nF l[k]) (.int .i64 l[k].2.2) hg rfl;exact⟨h0,h1,h2⟩
theorem qnC{st st':PSt}{t:Kz}(h:Rn st t=some st')(hs:qsK k st):qsK (k+1) st':=by
 cases st with
 |name done =>
  change (if t.1=1 then some (PSt.colon done (Jp t.2.1))else none)=some st' at h
  split at h
  .injection h with h;subst h;exact Nat.succ_le_succ hs
  cases h
 |colon done nm =>
  change (if t.1=3 then some (PSt.item done nm [] [])else none)=some st' at h
  split at h
  .injection h with h;subst h;exact⟨Nat.le_succ_of_le hs,Yg _,Yg _⟩
  cases h
 |item done nm alts alt =>
  obtain⟨h1,h2,h3⟩:=hs;change (if t.1=1\/t.1=2 then some (PSt.item done nm alts (alt++[(decide (t.1=2),Jp t.2.1)]))else if t.1=4 then some (PSt.item done nm (alts++[alt]) [])else if t.1=5 then some (PSt.name (done++[(nm,alts++[alt])]))else none)=some st' at h
  split at h
  .injection h with h;subst h;exact⟨by omega,by omega,by rw[Qe,Qf];omega⟩
  split at h
  .injection h with h;subst h;exact⟨by omega,by rw[Qe,Qf];omega,Yg _⟩
  split at h
  .injection h with h;subst h;show List.length _<=_;rw[Qe,Qf];omega
  cases h
theorem tO(l:Wd):(Jp l).size=l.length:=by
 show l.toArray.size=_;simp
theorem qmJ(R:Nat)(st:PSt)(t:Kz)(w:World)(h:af w R st)(hl:qsK 65535 st)(ht:t.2.1.length<=32):Calls Tryz.prog (au st) #[.pointer (some ⟨R,0,none⟩),.agg #[.int .i64 t.1,.string (Jp t.2.1),.int .i64 t.2.2]] w (ll R st t w):=by
 have hs:(Jp t.2.1).size<=maxLen:=by rw[tO];unfold maxLen;omega
 cases st with
 |name done=>exact qoG R done t.1 t.2.2 t.2.1 w h (by have:done.length<=65535:=hl;omega) hs
 |colon done nm=>exact qjT R done nm t.1 t.2.2 t.2.1 w h (by have:done.length+1<=65535:=hl;omega)
 |item done nm alts alt =>
  obtain⟨h1,h2,h3⟩:=hl;exact d_ R done nm alts alt t.1 t.2.2 t.2.1 w h (by omega) (by omega) (by omega) hs
theorem qfA(st:PSt)(args:Array Value)(w:World):(callFunc (au st) args).run Tryz.prog w=.ok (.enter (au st) args) w:=by
 cases st <;> kernel_rfl
def ut:gX Kh:=Cx Mi (Tw (Tw (Cx fp Mi)))
def Nb(l:Wd)(w:World)(e:Ending)(w':World):Prop:=∃v,e=.returned (.tuple #[v,.int .i64 (Nc l).2.1,.int .i64 (Nc l).2.2])/\Je ut w' w'.heap.size v (Nc l).1/\Below w.heap.size w w'
theorem Nb.of{w':World}{d:List Kh}{e:Nat}(h:Nc l=(d,i,e))(ho:Je ut w' w'.heap.size v d)(hb:Below w.heap.size w w'):Nb l w (.returned (.tuple #[v,.int .i64 i,.int .i64 e])) w':=by
 unfold Nb;rw[h];exact⟨v,rfl,ho,hb⟩
theorem qkJ(s:ByteArray)(w:World)(hs:s.size<=maxLen):Calls Tryz.prog 110 #[.string s] w (Nb s.data.toList w):=by
 have Be:=hs;unfold maxLen at hs;have Ns:=Lh (show s.data.toList.length=s.size by simp);have jP:=Lh (L_ s.data.toList);have HLX:=Lh (O_ s w Be);obtain⟨toks,zV,er,hF⟩:∃toks zV er,Sk s.data.toList=(toks,zV,er):=⟨_,_,_,rfl⟩;have HF:=Lh hF;rw[hF]at jP;unfold qW at HLX;rw[hF]at HLX;simp only at jP HLX;clear hF;by_cases her:er=0
 .subst her;go_enter Tryz.func110,Tryz.ntmps110;go_wp2_with fail;refine HLX.o.mono ?_;rintro e w1 ⟨vT,rfl,hown,hb1⟩;obtain⟨AT,cT,rfl,hT1,hT2⟩:=Zp hown;unfold maxLen at hT2;have HOWN:=Lh hown;have HB1:=Lh hb1;clear hown hb1;obtain⟨n,hn⟩:=Xe toks.length;rw[<-hn]at hT1 HOWN |-;have HN:=Lh hn;clear hn;go_wp2_with fail;obtain⟨R,hR⟩:=Xe w1.heap.size;have HW2:=Lh (Xn w1 (.cells #[.slice none 0 0,Ux R (.name []),.bool false] 219));have HZ2:=Lh (Xs w1 (.cells #[.slice none 0 0,Ux R (.name []),.bool false] 219));have Jd:Below w1.heap.size w1 (w1.alloc (.cells #[.slice none 0 0,Ux R (.name []),.bool false] 219)):=(Xr _ _).alloc (Yb _) _;have znR:=Lh (Jc HOWN.o Jd);have HB2:=Lh (HB1.o.trans (Jd.mono HB1.o.size));have HRW:=Lh (show w.heap.size<=R by rw[hR];exact HB1.o.size);have HTR:=Lh (show ∀b off,AT=some ⟨b,off,none⟩->b<R from fun b off e=>by
   rcases HOWN.o.2 with ⟨h0,_⟩|⟨g,cap,cur,hv,_,hh,_⟩
   .injection h0 with h0;rw[e]at h0;cases h0
   injection hv with hv
   rw[e]at hv
   injection hv with hv
   injection hv with hv
   rw[hv,hR]
   exact (gl hh))
  rw[<-hR]at HW2 HZ2 |-;clear Jd hR HOWN;change Code.wp _ _ _ _ (w1.alloc (.cells #[.slice none 0 0,Ux R (.name []),.bool false] 219));generalize w1.alloc (.cells #[.slice none 0 0,Ux R (.name []),.bool false] 219)=w2 at*;have HR0:=Lt (af w2 R (.name [])) (⟨_,HW2.o,[],Za _ _ _ _,Vo.nil _ _ _,by rw[HZ2.o];exact Yb _⟩);have HBW:=Lh (Xr R w2);have HRUN0:=Lt (On (.name []) (toks.take 0)=some (.name [])) (rfl);have HLE0:=Lt (qsK 0 (.name [])) (Yb _);go_loopw [30] (fun v30 wr=>∃(k:Nat)(st:PSt),k<=n/\v30=.int .i64 k/\Hid (On (.name []) (toks.take k)=some st)/\Hid (qsK k st)/\Hid (af wr R st)/\Hid (Below R w2 wr)) (fun v30 _=>n-(intOf v30).toNat);exact⟨0,.name [],by omega,rfl,HRUN0.o,HLE0.o,HR0.o,HBW.o⟩;clear HR0 HBW HRUN0 HLE0;obtain⟨k,st,hk,rfl,HRUN,HLE,HR,HB⟩:=hrel;by_cases Jl:k<n
  .have jX:k<toks.length:=by rw[<-HN.o];exact Jl
   have hk5:k<=65535:=by have:=jP.o.1;omega
   obtain⟨t0,t1,t2⟩:=iD jX;obtain⟨bT,oT,hAT,_,hcT⟩:=Rd.of_own znR.o (fun e=>by rw[e]at t0;simp at t0);have hbR:=HTR.o bT oT hAT;have c0:=(HB.o.cell (p:=⟨bT,oT+k*3,none⟩) hbR).trans (hcT _ _ t0);have c1:=(HB.o.cell (p:=⟨bT,oT+(k*3+1),none⟩) hbR).trans (hcT _ _ t1);have c2:=(HB.o.cell (p:=⟨bT,oT+(k*3+2),none⟩) hbR).trans (hcT _ _ t2);rw[<-Yy]at c1 c2;have zcA:=Lh (jP.o.2 toks[k] (Qg jX));have aj:=Lt (toks.take (k+1)=toks.take k++[toks[k]]) (Qc jX);have Sl:=Lh (fun hb=>vF (len:=s.data.toList.length) jX HRUN.o hb);clear hcT t0 t1 t2;subst hAT;generalize toks[k]=tk at*;clear jX;obtain⟨kd,txt,ti⟩:=tk;simp only at c0 c1 c2 zcA Sl;obtain⟨vL,Wo,Ml⟩:=HR.o;have zmD:=(gl Wo);have hb3:Below wr.heap.size wr (wr.alloc (.cells #[.int .i64 kd,.string (Jp txt),.int .i64 ti] 220)):=(Xr _ _).alloc (Yb _) _;have Rf:=Lh ((hb3.block R zmD).trans Wo);have HR3:=Lh (HR.o.below hb3);have HB3:=Lh (HB.o.trans (hb3.mono (Yh zmD)));have HTK:=Lh (Xn wr (.cells #[.int .i64 kd,.string (Jp txt),.int .i64 ti] 220));obtain⟨K0,lN⟩:=Xe wr.heap.size;rw[<-lN]at HTK;clear Wo Ml hb3 HR;go_wp2_with fail;rw[<-lN];clear lN c0 c1 c2;generalize wr.alloc (.cells #[.int .i64 kd,.string (Jp txt),.int .i64 ti] 220)=w3 at*;have r1:w3.cell? ⟨R,1,none⟩=some (Ux R st):=Xc Rf.o rfl;have k0:w3.cell? ⟨K0,0,none⟩=some (.int .i64 kd):=Xc HTK.o rfl;have k1:w3.cell? ⟨K0,1,none⟩=some (.string (Jp txt)):=Xc HTK.o rfl;have k2:w3.cell? ⟨K0,2,none⟩=some (.int .i64 ti):=Xc HTK.o rfl;have HW:=Lh (qmJ R st (kd,txt,ti) w3.drew (HR3.o.below ((Xr w3.heap.size w3).drew)) (by
    have:=HLE.o
    cases st with
    |name done=>exact Yd this hk5
    |colon done nm=>exact Yd this hk5
    |item done nm alts alt=>exact⟨Yd this.1 hk5,Yd this.2.1 hk5,Yd this.2.2 hk5⟩) zcA.o)
   have hF:=qfA st;rw[show Ux R st=.func (.func (au st)) #[.pointer (some ⟨R,0,none⟩)] #[]from rfl]at r1;generalize au st=F at*;refine Text.wt (by kernel_rfl) fun Q' hQ'=>?_;go_wp2_with fail;refine HW.o.mono ?_;rintro e w4 ⟨b,rfl,hb4,y_,hst⟩;have HB4:=Lh (HB3.o.drew.trans hb4);rcases hst with ⟨hn,rfl⟩|⟨st',hs',rfl,zS⟩
   .have k4:w4.cell? ⟨K0,2,none⟩=some (.int .i64 ti):=by
     rw[Zd _ _ _ _ _ _ (y_.2 K0 _ _ (by simp) (show w3.drew.heap[K0]?=_ from HTK.o))];rfl
    have Jw:=Lh (show Nc s.data.toList=([],ti,14) by
     unfold Nc
     rw[HF.o,if_neg (by simp)]
     exact Sl.o hn)
    have yw:=Lh (HB2.o.trans (HB4.o.mono HRW.o));clear hb4 y_ hn;go_wp2;refine⟨by rfl,?_⟩;go_wp2;refine Text.wt (by kernel_rfl) fun Q' hQ'=>?_;go_wp2;refine⟨by rfl,?_⟩;go_wp2_with fail;refine Zh (Zi rfl _ _ _) rfl ?_;exact Nb.of Jw.o Je.nil_ yw.o.drew
   have HR':=Lh zS;have HRUN':=Lh (show On (.name []) (toks.take (k+1))=some st' by rw[aj.o];exact eN HRUN.o hs');have HLE':=Lh (qnC hs' HLE.o);clear hb4 y_ zS hs';go_wp2;refine⟨by rfl,?_⟩;go_wp2;go_roundw;exact⟨k+1,st',by omega,by go_num,HRUN'.o,HLE'.o,HR'.o,HB4.o⟩;simp[intOf];omega
  obtain rfl:k=n:=by omega
  have Io:=Lh (show Nc s.data.toList=nh s.data.toList.length st [] by
   unfold Nc
   rw[HF.o,if_neg (by simp)]
   have h:=HRUN.o
   rw[Qd (by rw[<-HN.o];exact Yb _)]at h
   exact iL h)
  rw[Ns.o]at Io;have yw:=Lh (HB2.o.trans (HB.o.mono HRW.o));cases st with
  |name done =>
   obtain⟨vL,Wo,css,Ml⟩:=HR.o;obtain⟨AL,cL,rfl,hL1,hL2⟩:=Zp Ml.lines;have r0:wr.cell? ⟨R,0,none⟩=some (.slice AL done.length cL):=Xc Wo rfl;have r2:wr.cell? ⟨R,2,none⟩=some (.bool false):=Xc Wo rfl;have HSL:=Lt (Je ut wr wr.heap.size (.slice AL done.length cL) done) (Ml.sl);clear Wo Ml HR;by_cases hd:done=[]
   .have Jw:=Lt (Nc s.data.toList=([],s.size,14)) (Io.o.trans (if_pos hd));subst hd;go_wp2_with fail;refine Zh (Zi rfl _ _ _) rfl ?_;exact Nb.of Jw.o Je.nil_ yw.o
   have Jw:=Lt (Nc s.data.toList=(done,0,0)) (Io.o.trans (if_neg hd));have Dt:((done.length:Int)==0)=false:=by
    have:=Qy.2 hd;simp;exact hd
   go_wp2_with fail;refine Zh (Zi rfl _ _ _) rfl ?_;exact Nb.of Jw.o HSL.o yw.o
  |colon done nm =>
   obtain⟨vL,Wo,_⟩:=HR.o;have r2:wr.cell? ⟨R,2,none⟩=some (.bool true):=Xc Wo rfl;have Jw:=Lt (Nc s.data.toList=([],s.size,14)) (Io.o);clear Wo;go_wp2_with fail;refine Zh (Zi rfl _ _ _) rfl ?_;exact Nb.of Jw.o Je.nil_ yw.o
  |item done nm alts alt =>
   obtain⟨vL,Wo,_⟩:=HR.o;have r2:wr.cell? ⟨R,2,none⟩=some (.bool true):=Xc Wo rfl;have Jw:=Lt (Nc s.data.toList=([],s.size,14)) (Io.o);clear Wo;go_wp2_with fail;refine Zh (Zi rfl _ _ _) rfl ?_;exact Nb.of Jw.o Je.nil_ yw.o
 have g0:((er:Int) != 0)=true:=by simp;omega
 have Jw:=Lh (show Nc s.data.toList=([],zV,er) by
  unfold Nc
  rw[if_pos (by rw[HF.o];exact her),HF.o])
 go_enter Tryz.func110,Tryz.ntmps110;go_wp2_with fail;refine HLX.o.mono ?_;rintro e w1 ⟨vT,rfl,hown,hb1⟩;have HB1:=Lh hb1;clear hown hb1;go_wp2_with fail;refine Zh (Zi rfl _ _ _) rfl ?_;exact Nb.of Jw.o Je.nil_ HB1.o
theorem Oz{B:Nat}{cs:List Value}{x:Kh}(h:ut.rep w B cs x):∃v,cs=[.string x.1,v]/\x.1.size<=maxLen/\Je (Tw (Cx fp Mi)) w B v x.2:=by
 obtain⟨c1,c2,rfl,⟨rfl,h1⟩,v,rfl,hs⟩:=h;exact⟨v,rfl,h1,hs⟩
def Dn(l:List Kh):Nat:=(l.map fun x=>x.2.length).sum
def aQ(l:List Kh):Bool:=l.any fun x=>x.2.any fun a=>decide (64<a.length)
theorem oK(l:List Kh):Rv l=(aQ l||decide (4096<Dn l)||decide (256<l.length)):=rfl
theorem aA(l:List Kh)(h:k<l.length):Dn (l.take (k+1))=Dn (l.take k)+l[k].2.length:=by
 unfold Dn;rw[Qc h,Qt,List.sum_append];simp
theorem vW(l:List Kh)(h:k<l.length):aQ (l.take (k+1))=(aQ (l.take k)||l[k].2.any fun a=>decide (64<a.length)):=by
 unfold aQ;rw[Qc h,List.any_append];simp
theorem dv(l:List Kh)(h:k<l.length)(ha:(l[k].2.any fun a=>decide (64<a.length))=true):aQ l=true:=by
 unfold aQ;rw[Xt];exact⟨l[k],Qg h,ha⟩
theorem qjA(v:Value)(l:List Kh)(w:World)(h:Je ut w w.heap.size v l)(hn:l.length<=1048576)(Aj:∀x∈l,x.2.length<=1048576) :
  Calls Tryz.prog 174 #[v] w fun e w'=>e=.returned (.bool (Rv l))/\Below w.heap.size w w':=by
 obtain⟨A1,c1,rfl,jZ,mY⟩:=h.form;unfold maxLen at mY;have H:=Lh h;have sW:=Lh Aj;clear h Aj;obtain⟨n,hn'⟩:=Xe l.length;rw[<-hn']at H jZ hn |-;have HN:=Lh hn';clear hn';have HGR:=Lh (oK l);go_enter Tryz.func174,Tryz.ntmps174;go_wp2_with fail;have H0:=Lt (Dn (l.take 0)=0/\aQ (l.take 0)=false) (⟨rfl,rfl⟩);have HB0:=Lh (Xr w.heap.size w);go_loopw [3,10] (fun v3 v10 wr=>∃k m:Nat,k<=n/\m<=k*1048576/\v3=.int .i64 m/\v10=.int .i64 k/\Hid (Dn (l.take k)=m)/\Hid (aQ (l.take k)=false)/\Hid (Below w.heap.size w wr)) (fun _ v10 _=>n-(intOf v10).toNat);exact⟨0,0,by omega,by omega,rfl,rfl,H0.o.1,H0.o.2,HB0.o⟩;clear H0 HB0;obtain⟨k,m,hk,hm,rfl,rfl,HM,HL,HB⟩:=hrel;by_cases Jl:k<n
 .have Du:k<l.length:=by rw[<-HN.o];exact Jl
  obtain⟨b,off,cs,rfl,_,_,Ja,Zn⟩:=(H.o.below HB.o).get Du (by decide);obtain⟨v2,rfl,_,Mo⟩:=Oz Ja;obtain⟨A2,c2,rfl,Ct,jW⟩:=Mo.form;unfold maxLen at jW;have rG:=Zn 0 _ rfl;have Sr:=Zn 1 _ rfl;simp only[show ut.size=2 from rfl,Yq,<-Yy]at rG Sr;have HS1:=Lh (aA l Du);have HS2:=Lh (vW l Du);have HS3:=Lh (dv l Du);have zR:=sW.o l[k] (Qg Du);have HSL:=Lh (Mo.below ((Xr w.heap.size wr).alloc HB.o.size (.cells #[.string l[k].1,.slice A2 l[k].2.length c2] 227)));have HBX:=Lh (HB.o.alloc HB.o.size (.cells #[.string l[k].1,.slice A2 l[k].2.length c2] 227));clear Zn Mo Ja;generalize l[k]=x at*;obtain⟨nm,al⟩:=x;simp only at rG Sr HS1 HS2 HS3 zR HSL HBX Ct;obtain⟨p,hp⟩:=Xe al.length;rw[<-hp]at Sr HS1 zR HSL HBX Ct;have HP:=Lh hp;clear hp Du;go_wp2_with fail;generalize wr.alloc (.cells #[.string nm,.slice A2 p c2] 227)=wx at*;have HQ0:=Lt (∀(j:Nat)(h:j<al.length),j<0->¬ 64<al[j].length) (fun j _ h=>by omega);have HBY:=Lh (Xr wx.heap.size wx);go_loopw [22] (fun v22 wy=>∃j:Nat,j<=p/\v22=.int .i64 j/\Hid (∀(i:Nat)(h:i<al.length),i<j->¬ 64<al[i].length)/\Hid (Below wx.heap.size wx wy)) (fun v22 _=>p-(intOf v22).toNat);exact⟨0,by omega,rfl,HQ0.o,HBY.o⟩;clear HQ0 HBY;obtain⟨j,hj,rfl,HQ,HBY⟩:=hrel;by_cases Mw:j<p
  .have hja:j<al.length:=by rw[<-HP.o];exact Mw
   obtain⟨b7,o7,cs,rfl,_,_,Ja,Zn⟩:=(HSL.o.below (HBY.o.mono HBX.o.size)).get hja (by decide);obtain⟨v7,rfl,hs7⟩:=Ja;obtain⟨A7,c7,rfl,hl7,mz⟩:=hs7.form;unfold maxLen at mz;have ey:=Zn 0 _ rfl;simp only[show (Tw (Cx fp Mi)).size=1 from rfl,Ys,Yq]at ey;clear Zn hs7;by_cases h64:64<al[j].length
   .have Oe:=Lh (show Rv l=true by
     rw[HGR.o,HS3.o (Xt.2 ⟨al[j],Qg hja,by simpa using h64⟩)];rfl)
    have g0:decide ((64:Int)<(al[j].length:Int))=true:=by simp;omega
    generalize al[j]=a at*;generalize a.length=q at*;clear h64;go_wp2;go_ret;exact⟨Kw (Zw Oe.o.symm),HBX.o.trans (HBY.o.mono HBX.o.size)⟩
   have g0:decide ((64:Int)<(al[j].length:Int))=false:=by simp;omega
   have HQ':=Lh (show ∀(i:Nat)(h:i<al.length),i<j+1->¬ 64<al[i].length from fun i h hi=>by
    by_cases e:i=j
    .subst e;exact h64
    exact HQ.o i h (by omega))
   generalize al[j]=a at*;generalize a.length=q at*;clear h64;go_wp2;go_roundw;exact⟨j+1,by omega,by go_num,HQ'.o,HBY.o⟩;simp[intOf];omega
  obtain rfl:j=p:=by omega
  have HL':=Lh (show aQ (l.take (k+1))=false by
   rw[HS2.o,HL.o,Yt,List.any_eq_false]
   intro a ha
   obtain⟨i,hi,rfl⟩:=Qz ha
   have:=HQ.o i hi (by rw[HP.o];exact hi)
   simpa using this)
  have HM':=Lh (show Dn (l.take (k+1))=m+j by rw[HS1.o,HM.o]);have HBZ:=Lh (HBX.o.trans (HBY.o.mono HBX.o.size));go_wp2;go_roundw;exact⟨k+1,m+j,by omega,by omega,by go_num,by go_num,HM'.o,HL'.o,HBZ.o⟩;simp[intOf];omega
 obtain rfl:k=n:=by omega
 have HTK:=Lt (l.take k=l) (Qd (by rw[<-HN.o];exact Yb _));rw[HTK.o]at HM HL;have Jw:=Lh (show Rv l=(decide (4096<m)||decide (256<k)) by rw[HGR.o,HL.o,HM.o,<-HN.o,Yt]);by_cases h1:4096<m
 .have g1:decide ((4096:Int)<(m:Int))=true:=by simp;omega
  have HR1:=Lh (Jw.o.trans (show _=true by rw[Yw h1,Bool.true_or]));clear h1;go_wp2;go_ret;exact⟨Kw (Zw HR1.o.symm),HB.o⟩
 have g1:decide ((4096:Int)<(m:Int))=false:=by simp;omega
 have HR1:=Lh (Jw.o.trans (by rw[Yx h1,Yt]:_=decide (256<k)));have HR2:=Lh (show decide ((256:Int)<(k:Int))=decide (256<k) by rw[decide_eq_decide];omega);clear h1;go_wp2;go_ret;exact⟨Kw (Zw (by rw[HR1.o];first|exact HR2.o|(simp;done)|rfl)),HB.o⟩
def Rc:gX (Int×Int):=Cx Wg Wg
theorem gR(s:ByteArray)(c:Nat):∀(j:Nat)(u:Value),(Rz s.data.toList)[j]?=some u->(bytesRow s c)[j]?=some u:=by
 intro j u hu;have hj:j<s.data.size:=by
  have:=(Qj.1 hu).1;rw[gT]at this;simpa using this
 rw[bytesRow_at s c j hj];unfold Rz at hu;rw[Qv,Qa (by simpa using hj)]at hu;simpa[xf]using hu
theorem qrK(w:World)(src dst e:TypeId)(s:ByteArray)(hs:P.underlying src=some .string)(hd:P.underlying dst=some (.slice e))(he:P.underlying e=some (.int .u8)) :
  ∃w' c,(convert src dst (.string s)).run P w=.ok (.slice (some ⟨w.heap.size,0,none⟩) s.size c) w'/\Below w.heap.size w w'/\w'.heap.size=w.heap.size+1/\Rd w' (w.heap.size+1) (some ⟨w.heap.size,0,none⟩) (Rz s.data.toList):=by
 refine⟨_,_,run_bytes_of_string w src dst e s hs hd he,((Xr _ _).drew).alloc (Yb _) _,by simp,?_⟩;have Zn:=Rd.row (w:=w.drew.alloc (.cells (bytesRow s (grownCap w s.size 0 e)) e ((bytesRow s (grownCap w s.size 0 e)).size,(bytesRow s (grownCap w s.size 0 e)).size+1))) (B:=w.heap.size+1) (g:=w.heap.size) (heap_alloc_new w.drew _) (Yf _);intro hne;obtain⟨b,off,e1,hb,hc⟩:=Zn (by
  intro e1
  cases hl:Rz s.data.toList with
  |nil=>exact hne hl
  |cons u r =>
   have:=gR s (grownCap w s.size 0 e) 0 u (by rw[hl];rfl)
   rw[<-Array.getElem?_toList,e1]at this
   cases this)
 refine⟨b,off,e1,hb,fun j u hu=>hc j u ?_⟩;rw[Array.getElem?_toList];exact gR s _ j u hu
end Go.Proofs.YtmaojnmnbpomeaaGreatDoor
