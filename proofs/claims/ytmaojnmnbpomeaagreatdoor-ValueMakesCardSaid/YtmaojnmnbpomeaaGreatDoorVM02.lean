/- A part. -/
import Derived.Test.YtmaojnmnbpomeaaGreatDoorVM01
import Derived.Test.YtmaojnmnbpomeaaGreatDoorChecked
import Derived.Lib.SlicesCompact
set_option maxRecDepth 100000
set_option maxHeartbeats 64000000
namespace Go.Proofs.YtmaojnmnbpomeaaGreatDoor.Text
open Go Go.RowKit
variable {P:Program} {ops:Array Oper} {w0:World}
def YOld(P:Program)(ops:Array Oper)(w0:World)(o:Oper)(v:Value)(a:Act):Prop :=
 (Region.wanted o (yielded ops a.tmps)=true/\∀ w,Below w0.heap.size w0 w->(execOp a.eval o).run P w=.ok (.value v) w)\/(Region.wanted o (yielded ops a.tmps)=false/\v=undef)
theorem yold_keep{o:Oper}{v:Value}{a a':Act}{d:Option Tmp}(Wz:∀ cs b,o.op≠.select cs b)(h1:∀ t,d=some t->t∉o.looksAt ops)(hs:Co a a' d) :
  YOld P ops w0 o v a↔YOld P ops w0 o v a':=by
 obtain⟨u,ds,rfl⟩:=hs;have e1:execOp (({ a with defers:=ds }:Act).put d u).eval o=execOp a.eval o:=(execOp_put (ops:=ops) o Wz _ d u h1).trans rfl;have e2:Region.wanted o (yielded ops (({ a with defers:=ds }:Act).put d u).tmps)=Region.wanted o (yielded ops a.tmps):=wanted_put o _ d u h1;unfold YOld;rw[e1,e2]
theorem yold_one{o:Oper}{v v':Value}{a:Act}(h:YOld P ops w0 o v a)(h':YOld P ops w0 o v' a):v=v':=by
 rcases h with ⟨hw,h⟩ | ⟨hw,rfl⟩ <;> rcases h' with ⟨aj,h'⟩ | ⟨aj,rfl⟩
 ·have:=(h w0 (Xr _ _)).symm.trans (h' w0 (Xr _ _));injection this with h1 _;injection h1
 ·rw[hw] at aj;cases aj
 ·rw[hw] at aj;cases aj
 ·rfl
def Yc(P:Program)(ops:Array Oper)(w0:World)(c:Nat)(o:Oper)(v:Value)(a:Act):Prop:=if c=0 then Yields P ops o v a else YOld P ops w0 o v a
theorem yc_keep{c:Nat}{o:Oper}{v:Value}{a a':Act}{d:Option Tmp}(Wz:∀ cs b,o.op≠.select cs b)(h1:∀ t,d=some t->t∉o.looksAt ops)(hs:Co a a' d) :
  Yc P ops w0 c o v a↔Yc P ops w0 c o v a':=by
 unfold Yc;split
 ·exact Eo Wz h1 hs
 ·exact yold_keep Wz h1 hs
theorem yc_one{c:Nat}{o:Oper}{v v':Value}{a:Act}(h:Yc P ops w0 c o v a)(h':Yc P ops w0 c o v' a):v=v':=by
 unfold Yc at h h';split at h
 ·rename_i hc;rw[if_pos hc] at h';exact fM w0 h h'
 ·rename_i hc;rw[if_neg hc] at h';exact yold_one h h'
def stG(P:Program)(ops:Array Oper)(w0:World)(c:Nat)(o:Oper)(K:Act->World->Prop)(a:Act)(w:World):Prop :=
 if c<=1 then ∃ v,Yc P ops w0 c o v a/\K (a.put o.dst v) w
 else if Region.wanted o (yielded ops a.tmps)=true then o.wp P a w (fun a' w'=>(c=3->Below w0.heap.size w0 w')/\K a' w') rr else K (a.put o.dst undef) w
theorem stG_mono{c:Nat}{o:Oper}{K K':Act->World->Prop}{a:Act}{w:World}(h:∀ a w,K a w->K' a w)(hh:stG P ops w0 c o K a w):stG P ops w0 c o K' a w:=by
 unfold stG at *;split at hh
 ·rename_i hc;rw[if_pos hc];obtain⟨v,h1,h2⟩:=hh;exact⟨v,h1,h _ _ h2⟩
 ·rename_i hc;rw[if_neg hc];split at hh
  ·rename_i hw;rw[if_pos hw];exact Oper.wp_mono (fun a w hk=>⟨hk.1,h _ _ hk.2⟩) hh
  ·rename_i hw;rw[if_neg hw];exact h _ _ hh
theorem stG_some{c:Nat}{o:Oper}{K:Act->World->Prop}{a:Act}{w:World}(hh:stG P ops w0 c o K a w):∃ a' w',Co a a' o.dst/\K a' w':=by
 unfold stG at hh;split at hh
 ·obtain⟨v,_,h⟩:=hh;exact⟨_,_,Jh _ _ _,h⟩
 ·split at hh
  ·obtain⟨a',w',hs,_,hk⟩:=Aw jH hh;exact⟨a',w',hs,hk⟩
  ·exact⟨_,_,Jh _ _ _,hh⟩
theorem stG_put{c:Nat}{o:Oper}{K K':Act->World->Prop}{a:Act}{w:World}{dst:Option Tmp}{v:Value}
  (Wz:∀ cs b,o.op≠.select cs b) (h1:∀ d,dst=some d->d∉o.looksAt ops) (h2:∀ d,dst=some d->o.dst≠some d)
  (hK:∀ a' w',Co a a' o.dst->K a' w'->K' (a'.put dst v) w') (hh:stG P ops w0 c o K a w):stG P ops w0 c o K' (a.put dst v) w:=by
 unfold stG at *;split at hh
 ·rename_i hc;rw[if_pos hc];obtain⟨u,hy,h⟩:=hh;refine⟨u,(yc_keep Wz h1 (Jh a dst v)).1 hy,?_⟩;rw[Act.put_comm a v u h2];exact hK _ _ (Jh _ _ _) h
 ·rename_i hc;rw[if_neg hc,wanted_put o a dst v h1];split at hh
  ·rename_i hw;rw[if_pos hw];exact lE Wz h1 h2 (fun a' w' hs hk=>⟨hk.1,hK _ _ hs hk.2⟩) hh
  ·rename_i hw;rw[if_neg hw,Act.put_comm a v undef h2];exact hK _ _ (Jh _ _ _) hh
theorem stG_unput{c:Nat}{o:Oper}{K K':Act->World->Prop}{a:Act}{w:World}{dst:Option Tmp}{v:Value}
  (Wz:∀ cs b,o.op≠.select cs b) (h1:∀ d,dst=some d->d∉o.looksAt ops) (h2:∀ d,dst=some d->o.dst≠some d)
  (hK:∀ a' w',Co a a' o.dst->K (a'.put dst v) w'->K' a' w') (hh:stG P ops w0 c o K (a.put dst v) w):stG P ops w0 c o K' a w:=by
 unfold stG at *;split at hh
 ·rename_i hc;rw[if_pos hc];obtain⟨u,hy,h⟩:=hh;refine⟨u,(yc_keep Wz h1 (Jh a dst v)).2 hy,?_⟩;rw[Act.put_comm a v u h2] at h;exact hK _ _ (Jh _ _ _) h
 ·rename_i hc;rw[if_neg hc];rw[wanted_put o a dst v h1] at hh;split at hh
  ·rename_i hw;rw[if_pos hw];exact fQ Wz h1 h2 (fun a' w' hs hk=>⟨hk.1,hK _ _ hs hk.2⟩) hh
  ·rename_i hw;rw[if_neg hw];rw[Act.put_comm a v undef h2] at hh;exact hK _ _ (Jh _ _ _) hh
theorem swapG{cx cy:Nat}{x y:Oper}{K:Act->World->Prop}{a:Act}{w:World}(Ab:∀ cs b,x.op≠.select cs b)(hsy:∀ cs b,y.op≠.select cs b)
  (hap:x.apart ops y=true) (hc:cx<=1\/cy<=1) (h:stG P ops w0 cx x (stG P ops w0 cy y K) a w):stG P ops w0 cy y (stG P ops w0 cx x K) a w:=by
 obtain⟨p1,p2,p3⟩:=Oper.apart_spec hap;have p2':∀ d,y.dst=some d->x.dst≠some d:=fun d hd hx=>p2 d hx hd;rcases hc with hx | hy
 ·have h':=h;unfold stG at h';rw[if_pos hx] at h';obtain⟨v,hv,h2⟩:=h';refine stG_unput hsy p1 p2 (fun a' w' hs hk=>?_) h2;unfold stG;rw[if_pos hx];exact⟨v,(yc_keep Ab p3 hs).1 hv,hk⟩
 ·obtain⟨a1,w1,hs,hst⟩:=stG_some h;unfold stG at hst;rw[if_pos hy] at hst;obtain⟨v,hv,_⟩:=hst;have jh:=(yc_keep hsy p1 hs).2 hv;have goal:stG P ops w0 cx x K (a.put y.dst v) w:=stG_put Ab p3 p2' (fun a' w' hs' hk=>by
   unfold stG at hk
   rw[if_pos hy] at hk
   obtain⟨v',hv',hk⟩:=hk
   have:=yc_one hv' ((yc_keep hsy p1 hs').1 jh)
   subst this
   exact hk) h
  unfold stG;rw[if_pos hy];exact⟨v,jh,goal⟩
def wpG(P:Program)(ops:Array Oper)(w0:World)(cl:Nat->Nat)(Q:Act->World->Prop):List Nat->Act->World->Prop
 |[],a,w=>Q a w
 |i::r,a,w=>match ops[i]? with
  |none=>wpG P ops w0 cl Q r a w
  |some o=>stG P ops w0 (cl i) o (wpG P ops w0 cl Q r) a w
def dL(ops:Array Oper)(cl:Nat->Nat)(i j:Nat):Bool :=
 match ops[i]?,ops[j]? with
 |some x,some y=>x.apart ops y&&(decide (cl i<=1)||decide (cl j<=1))
 |_,_=>true
theorem frontG{cl:Nat->Nat}{Q:Act->World->Prop}(Wz:Region.noSelect ops=true)(i:Nat)(l2:List Nat):∀(l1:List Nat)(a:Act)(w:World),(∀ x∈l1,dL ops cl x i=true) ->
  wpG P ops w0 cl Q (l1++i::l2) a w->wpG P ops w0 cl Q (i::(l1++l2)) a w
 |[],_,_,_,h=>h
 |x::l1,a,w,hc,h=>by
  have hx:=hc x (by simp);have ih:=fun a w=>frontG (cl:=cl) (Q:=Q) Wz i l2 l1 a w (fun y hy=>hc y (by simp[hy]));cases hox:ops[x]? with
  |none =>
   have h':wpG P ops w0 cl Q (l1++i::l2) a w:=by simpa[wpG,hox] using h
   have:=ih a w h';unfold wpG at this |-;split at this
   ·simpa[wpG,hox] using this
   ·exact stG_mono (fun a w hh=>by simpa[wpG,hox] using hh) this
  |some ox =>
   have h1:stG P ops w0 (cl x) ox (wpG P ops w0 cl Q (l1++i::l2)) a w:=by simpa[wpG,hox] using h
   have h2:=stG_mono ih h1;cases hoi:ops[i]? with
   |none=>simpa[wpG,hox,hoi] using h2
   |some oi =>
    simp only[dL,hox,hoi,Yl,Yt,Yj] at hx;have h3:stG P ops w0 (cl x) ox (stG P ops w0 (cl i) oi (wpG P ops w0 cl Q (l1++l2))) a w:=by simpa[wpG,hoi] using h2
    have h4:=swapG (fun cs b=>Region.noSelect_spec Wz x ox cs b hox) (fun cs b=>Region.noSelect_spec Wz i oi cs b hoi) hx.1 hx.2 h3;have h5:stG P ops w0 (cl i) oi (wpG P ops w0 cl Q (x::(l1++l2))) a w:=stG_mono (fun a w hh=>by simpa[wpG,hox] using hh) h4;simpa[wpG,hoi] using h5
def dt(ops:Array Oper)(cl:Nat->Nat):Bool :=
 let m:=zS ops.toList []
 (List.range ops.size).all fun i=>(List.range i).all fun x=>(m.getD i 0).testBit x||dL ops cl x i
def ae(ops:Array Oper)(cl:Nat->Nat):Bool :=
 let m:=zS ops.toList []
 (List.range ops.size).all fun j=>cl j != 2||(List.range ops.size).all fun i=>cl i != 1||(m.getD j 0).testBit i
theorem oE{cl:Nat->Nat}(h:dt ops cl=true){i x:Nat}(hi:i<ops.size)(hx:x<i):Dep ops i x\/dL ops cl x i=true:=by
 have h1:=Xp.1 h i (Xz.2 hi);have h2:=Xp.1 h1 x (Xz.2 hx);rw[Yt] at h2;rcases h2 with h2 | h2
 ·exact .inl (Pm ops.toList [] (by simp) (fun i x hi=>absurd hi (by simp)) i x h2)
 ·exact .inr h2
theorem Pq{cl:Nat->Nat}(h:ae ops cl=true){i j:Nat}(hi:i<ops.size)(hj:j<ops.size)(ci:cl i=1)(cj:cl j=2):Dep ops j i:=by
 have h1:=Xp.1 h j (Xz.2 hj);rw[cj] at h1;simp only[bne_self_eq_false,Ys] at h1;have h2:=Xp.1 h1 i (Xz.2 hi);rw[ci] at h2;simp only[bne_self_eq_false,Ys] at h2;exact Pm ops.toList [] (by simp) (fun i x hi=>absurd hi (by simp)) j i h2
theorem wpOp_of_stG{i c:Nat}{o:Oper}{K:Act->World->Prop}{Q:Exit->Act->World->Prop}{a:Act}{w:World}(zc:c<=3)(ho:ops[i]? = some o)(hold:c=1->Below w0.heap.size w0 w)
  (h:stG P ops w0 c o K a w):wpOp P ops Q i (fun a' w'=>(c≠2->Below w0.heap.size w0 w->Below w0.heap.size w0 w')/\K a' w') a w:=by
 unfold wpOp;simp only[ho];unfold stG at h;split at h
 ·rename_i hc;obtain⟨v,hy,hk⟩:=h;unfold Yc at hy;split at hy
  ·rcases hy with ⟨hw,hv⟩ | ⟨hw,rfl⟩
   ·rw[if_pos hw];left;unfold Oper.wp;rw[hv w];exact⟨fun _ hb=>hb,hk⟩
   ·rw[if_neg (by simp[hw])];exact⟨fun _ hb=>hb,hk⟩
  ·rename_i Vh;rcases hy with ⟨hw,hv⟩ | ⟨hw,rfl⟩
   ·rw[if_pos hw];left;unfold Oper.wp;rw[hv w (hold (by omega))];exact⟨fun _ hb=>hb,hk⟩
   ·rw[if_neg (by simp[hw])];exact⟨fun _ hb=>hb,hk⟩
 ·rename_i hc;split at h
  ·rename_i hw;rw[if_pos hw];left;have h':o.wp P a w (fun a' w'=>(c≠2->Below w0.heap.size w0 w->Below w0.heap.size w0 w')/\K a' w') rr\/c≠2/\c≠3:=by
    by_cases h3:c=3
    ·exact .inl (Oper.wp_mono (fun a w hk=>⟨fun _ _=>hk.1 h3,hk.2⟩) h)
    ·by_cases h2:c=2
     ·exact .inl (Oper.wp_mono (fun a w hk=>⟨fun hn=>absurd h2 hn,hk.2⟩) h)
     ·exact .inr ⟨h2,h3⟩
   rcases h' with h' | ⟨h2,h3⟩
   ·unfold Oper.wp at *;generalize (execOp a.eval o).run P w=r at *;cases r with
    |ok n w' =>
     cases n <;> simp only[Oper.upon] at h' |- <;> first
      |exact h'
      |exact Calls.mono h' fun e w'' he=>by
        cases e with
        |returned u=>exact he
        |panicked c=>exact absurd he id
        |outgrown=>exact absurd he bA
    |halt x w'=>cases x <;> simp only[Oper.upon] at h' |- <;> first | exact h' | exact absurd h' id
   ·omega
  ·rename_i hw;rw[if_neg hw];exact⟨fun _ hb=>hb,h⟩
theorem qZ{o:Oper}{a:Act}{w:World}{K:Act->World->Prop}{Q:Exit->Act->World->Prop}(hno:∀(e:Exit)(a:Act)(w:World),e≠.normal->¬ Q e a w)(Ly:¬ LetsOut Q)(h:o.wp P a w K Q):o.wp P a w K rr:=by
 unfold Oper.wp at *;generalize (execOp a.eval o).run P w=r at *;cases r with
 |ok n w' =>
  cases n <;> simp only[Oper.upon] at h |- <;> first
   |exact h
   |exact Calls.mono h fun e w'' he=>by
     cases e with
     |returned u=>exact he
     |panicked c=>exact absurd he (hno _ _ _ (by simp))
     |outgrown=>exact absurd he Ly
 |halt x w'=>cases x <;> simp only[Oper.upon] at h |- <;> first | exact h | exact absurd h (hno _ _ _ (by simp))
theorem zmJ{o:Oper}{a:Act}{w:World}{K:Act->World->Prop}{Q Q':Exit->Act->World->Prop}(hQ:∀ e a w,Q e a w->Q' e a w)(h:o.wp P a w K Q):o.wp P a w K Q':=by
 unfold Oper.wp at *;generalize (execOp a.eval o).run P w=r at *;cases r with
 |ok n w' =>
  cases n <;> simp only[Oper.upon] at h |- <;> first
   |exact h
   |exact Calls.mono h fun e w'' he=>by
     cases e with
     |returned u=>exact he
     |panicked c=>exact hQ _ _ _ he
     |outgrown=>obtain⟨a2,w2,h2⟩:=(he:LetsOut Q);exact (⟨a2,w2,hQ _ _ _ h2⟩:LetsOut Q')
 |halt x w'=>cases x <;> simp only[Oper.upon] at h |- <;> first | exact h | exact hQ _ _ _ h
theorem Tu{Q Q':Exit->Act->World->Prop}(hQ:∀ e a w,Q e a w->Q' e a w):∀(l:List Oper)(a:Act)(w:World),wpList P ops Q l a w->wpList P ops Q' l a w
 |[],a,w,h=>hQ _ _ _ h
 |o::r,a,w,h=>by
  unfold wpList at *;split at h
  ·rename_i hw;rw[if_pos hw];rcases h with h | ⟨h1,a2,w2,h2⟩
   ·exact .inl (zmJ hQ (Oper.wp_mono (Tu hQ r) h))
   ·exact .inr ⟨h1,a2,w2,hQ _ _ _ h2⟩
  ·rename_i hw;rw[if_neg hw];exact Tu hQ r _ _ h
theorem any_of_G{cl:Nat->Nat}{Q:Exit->Act->World->Prop}(Wz:Region.noSelect ops=true)(Bx:bW ops=true)(hp:dt ops cl=true)(jP:ae ops cl=true)(zc:∀ i,cl i<=3) :
  ∀(rem:List Nat)(listed:Array Bool)(a:Act)(w:World),listed.size=ops.size->rem.Pairwise (·<·)->(∀ j,j∈rem↔j<ops.size/\listed.getD j false=false)->iz ops listed ->
   ((∀ j,j<ops.size->cl j=2->listed.getD j false=false)->Below w0.heap.size w0 w) ->
   wpG P ops w0 cl (fun a w=>Q .normal a w) rem a w->wpAny P .any ops Q rem.length listed a w:=by
 intro rem
 induction hn:rem.length generalizing rem with
 |zero =>
  intro listed a w hs _ hm _ _ h;have he:rem=[]:=Xw hn;subst he;refine⟨?_,h⟩;apply List.eq_nil_iff_forall_not_mem.2;intro j hj;obtain⟨h0,o,ho,_⟩:=mem_ready.1 hj;have Ji:j<ops.size:=(gl ho);rw[Fk hs Ji] at h0;exact absurd ((hm j).2 ⟨Ji,h0⟩) (by simp)
 |succ n ih =>
  intro listed a w hs wO hm hc hinv h;have tY:Region.ready .any ops listed≠[]:=by
   cases hr:rem with
   |nil=>rw[hr] at hn;cases hn
   |cons i0 r =>
    have pc:=(hm i0).1 (by rw[hr];simp);intro xR;have Ux:i0∈Region.ready .any ops listed:=by
     refine mem_ready.2 ⟨by rw[Fk hs pc.1];exact pc.2,ops[i0],Array.getElem?_eq_getElem pc.1,fun e he hb=>?_⟩;have h1:=Xp.1 Bx i0 (Xz.2 pc.1);simp only[Array.getElem?_eq_getElem pc.1] at h1;have h2:=Array.all_eq_true_iff_forall_mem.1 h1 e he;simp only[hb,Bool.not_true,Ys,Yj] at h2;rcases Yn (listed.getD e.on false) with h3 | h3
     ·exact h3
     ·have h4:=(hm e.on).2 ⟨by omega,h3⟩;rw[hr] at h4 wO;rcases List.mem_cons.1 h4 with h5 | h5
      ·omega
      ·have:=(Qx.1 wO).1 _ h5;omega
    rw[xR] at Ux;cases Ux
  refine⟨fun h0=>absurd h0 tY,fun i hi=>?_⟩;obtain⟨h0,o,ho,Uc⟩:=mem_ready.1 hi;have Ji:i<ops.size:=(gl ho);rw[Fk hs Ji] at h0;have hir:i∈rem:=(hm i).2 ⟨Ji,h0⟩;obtain⟨l1,l2,hl⟩:=List.append_of_mem hir;subst hl;rw[List.pairwise_append] at wO;obtain⟨pw1,pw2,pw3⟩:=wO;have lz:=Qx.1 pw2;have hf:=frontG Wz i l2 l1 a w (fun x hx=>by
   have hxi:x<i:=pw3 x hx i (by simp)
   rcases oE hp Ji hxi with hd | hcp
   ·have:=Cb hc hd (fun o' wQ e he hb=>by rw[ho] at wQ;injection wQ with e2;subst e2;exact Uc e he hb)
    have h2:=((hm x).1 (by simp[hx])).2
    rw[this] at h2
    cases h2
   ·exact hcp) h
  have hst:stG P ops w0 (cl i) o (wpG P ops w0 cl (fun a w=>Q .normal a w) (l1++l2)) a w:=by simpa[wpG,ho] using hf
  have hold:cl i=1->Below w0.heap.size w0 w:=fun yw=>hinv fun j hj hcj=>by
   rcases Yn (listed.getD j false) with h3 | h3
   ·exfalso;have hd:=Pq jP Ji hj yw hcj;have:=Cb hc hd (fun o' wQ e he hb=>hc j o' wQ h3 e he hb);rw[h0] at this;cases this
   ·exact h3
  refine wpOp_mono (fun a' w' hh=>?_) (wpOp_of_stG (Q:=Q) (zc i) ho hold hst);have hlen:(l1++l2).length=n:=by simp at hn |-;omega
  refine ih (l1++l2) hlen (listed.setIfInBounds i true) a' w' (by simpa using hs) ?_ (fun j=>?_) ?_ ?_ hh.2
  ·rw[List.pairwise_append];exact⟨pw1,lz.2,fun x hx y hy=>pw3 x hx y (by simp[hy])⟩
  ·by_cases Ad:j=i
   ·subst Ad;constructor
    ·intro hj;rcases Qh.1 hj with h5 | h5
     ·have:=pw3 j h5 j (by simp);omega
     ·have:=lz.1 j h5;omega
    ·intro ⟨_,h5⟩;have:j<listed.size:=by omega
     simp[this] at h5
   ·rw[getD_set_ne false (Ne.symm Ad),<-hm j];simp[Ad]
  ·intro j oj wP hj e he hb;by_cases Ad:j=i
   ·subst Ad;rw[ho] at wP;injection wP with e2;subst e2;exact getD_set_true (Uc e he hb)
   ·rw[getD_set_ne false (Ne.symm Ad)] at hj;exact getD_set_true (hc j oj wP hj e he hb)
  ·intro hno;have yw:cl i≠2:=fun yw=>by
    have:=hno i Ji yw;have Ek:i<listed.size:=by omega
    simp[Ek] at this
   refine hh.1 yw (hinv fun j hj hcj=>?_);have:=hno j hj hcj;by_cases Ad:j=i
   ·subst Ad;exact absurd hcj yw
   ·rwa [getD_set_ne false (Ne.symm Ad)] at this
theorem zZ{p:Addr}{m:Mode}{v:Value}{w w1 w':World}{cs:Array Value}{t:TypeId}{fr:Nat×Nat}(h1:w.heap[p.block]? = some (.cells cs t fr))(h2:w1.heap[p.block]? = some (.cells cs t fr))(h:(load p m).run P w=.ok v w') :
  w'=w/\(load p m).run P w1=.ok v w1:=by
 have hc:w.cell? p=w1.cell? p:=by simp[World.cell?,h1,h2]
 simp only[load,Sem.run] at h |-;rw[<-hc];cases Zm:w.cell? p with
 |some u=>rw[Zm] at h;injection h with e1 e2;subst e1;exact⟨e2.symm,rfl⟩
 |none =>
  rw[Zm] at h;simp only[World.farLoad,h1,World.noCell] at h;cases h
theorem bC{p:Addr}{w1:World}{cs:Array Value}{t:TypeId}{fr:Nat×Nat}:∀(n i:Nat)(acc vs:Array Value)(w w':World),w.heap[p.block]? = some (.cells cs t fr)->w1.heap[p.block]? = some (.cells cs t fr) ->
  (loadCellsFrom p i n acc).run P w=.ok vs w'->(loadCellsFrom p i n acc).run P w1=.ok vs w1
 |0,i,acc,vs,w,w',h1,h2,h=>by
  simp only[loadCellsFrom,Sem.run_pure] at h |-;injection h with e1 e2;subst e1;rfl
 |n+1,i,acc,vs,w,w',h1,h2,h=>by
  unfold loadCellsFrom at h |-;obtain⟨v,w2,g1,g2⟩:=Ff h;have hb:(p.add i).block=p.block:=by unfold Addr.add;split <;> rfl
  obtain⟨e,g3⟩:=zZ (p:=p.add i) (by rw[hb];exact h1) (by rw[hb];exact h2) g1;subst e;rw[Zf,g3];exact bC n (i+1) _ vs _ w' h1 h2 g2
theorem nq{t:TypeId}{ad:Addr}{u v:Value}{w w1 w':World}(h0:w0.cell? ad=some u)(hw:Below w0.heap.size w0 w)(hw1:Below w0.heap.size w0 w1)(h:(Instr.loadAt t (.pointer (some ad))).run P w=.ok v w') :
  (Instr.loadAt t (.pointer (some ad))).run P w1=.ok v w1:=by
 have Ji:=Zl w0 _ h0;have hcs:∃ cs t fr,w0.heap[ad.block]? = some (.cells cs t fr):=by
  unfold World.cell? at h0;split at h0
  ·exact⟨_,_,_,by assumption⟩
  ·cases h0
 obtain⟨cs,te,fr,hh⟩:=hcs;have h1:w.heap[ad.block]? = some (.cells cs te fr):=(hw.block _ Ji).trans hh;have h2:w1.heap[ad.block]? = some (.cells cs te fr):=(hw1.block _ Ji).trans hh;unfold Instr.loadAt at h |-;obtain⟨a,wa,g1,g2⟩:=Ff h;simp only[Instr.sureAddr,Sem.run_pure] at g1;injection g1 with e1 e2;subst e1 e2;rw[Zf];simp only[Instr.sureAddr,Sem.run_pure,Result.andThen];unfold loadVar at g2 |-;obtain⟨b,wb,g3,g4⟩:=Ff g2;obtain⟨e3,g5⟩:=Ww (P:=P) t _ b wb g3;subst e3;rw[Zf,g5 w1];simp only[Result.andThen];cases b with
 |true =>
  rw[if_pos rfl] at g4 |-;obtain⟨n,wn,g6,g7⟩:=Ff g4;obtain⟨e4,g8⟩:=Vc (P:=P) t _ n wn g6;subst e4;obtain⟨vs,wv,g9,g10⟩:=Ff g7;rw[Zf,g8 w1];simp only[Result.andThen];unfold loadCells at g9 |-;rw[Zf,bC n 0 _ vs _ wv h1 h2 g9];simp only[Result.andThen,Sem.run_pure] at g10 |-;injection g10 with e5 _;rw[e5]
 |false =>
  rw[if_neg (by simp)] at g4 |-;exact (zZ h1 h2 g4).2
def wpS(P:Program)(ops:Array Oper)(w0:World)(G:List Nat)(Q:Act->World->Prop):Nat->List Oper->Act->World->Prop
 |_,[],a,w=>Q a w
 |k,o::r,a,w=>if Region.wanted o (yielded ops a.tmps)=true then
   o.wp P a w (fun a' w'=>(G.contains k=true->Below w0.heap.size w0 w')/\wpS P ops w0 G Q (k+1) r a' w') rr
  else wpS P ops w0 G Q (k+1) r (a.put o.dst undef) w
theorem wpS_seg{G:List Nat}{Q:Act->World->Prop}:∀(n k:Nat)(l:List Oper)(a:Act)(w:World),(List.range' k n).all (fun i=>!G.contains i)=true ->
  (∀ Q':Exit->Act->World->Prop,(∀ a w,wpS P ops w0 G Q (k+n) (l.drop n) a w->Q' .normal a w)->wpList P ops Q' (l.take n) a w)->wpS P ops w0 G Q k l a w
 |0,k,l,a,w,_,h=>by
  have:=h (fun e a w=>e=.normal/\wpS P ops w0 G Q k l a w) (fun a w hh=>⟨rfl,by simpa using hh⟩);simpa[wpList] using this
 |n+1,k,[],a,w,_,h=>by
  have:=h (fun e a w=>e=.normal/\Q a w) (fun a w hh=>⟨rfl,by simpa[wpS] using hh⟩);simpa[wpList,wpS] using this
 |n+1,k,o::r,a,w,hG,h=>by
  rw[List.range'_succ,List.all_cons,Yl] at hG;have hk:G.contains k=false:=by simpa using hG.1
  have h0:=h (fun e a w=>e=.normal/\wpS P ops w0 G Q (k+(n+1)) ((o::r).drop (n+1)) a w) (fun a w hh=>⟨rfl,hh⟩);have Ly:¬ LetsOut (fun e a w=>e=Exit.normal/\wpS P ops w0 G Q (k+(n+1)) ((o::r).drop (n+1)) a w):=fun⟨_,_,hh⟩=>by cases hh.1
  have hno:∀(e:Exit)(a:Act)(w:World),e≠.normal->¬ (e=Exit.normal/\wpS P ops w0 G Q (k+(n+1)) ((o::r).drop (n+1)) a w):=fun _ _ _ hn hh=>hn hh.1;have ih:∀ a w,wpList P ops (fun e a w=>e=.normal/\wpS P ops w0 G Q (k+(n+1)) ((o::r).drop (n+1)) a w) (r.take n) a w->wpS P ops w0 G Q (k+1) r a w:=fun a w hl =>
   wpS_seg n (k+1) r a w hG.2 fun Q' hQ'=>by
    refine Tu (fun e a w hh=>?_) _ _ _ hl;obtain⟨rfl,hh⟩:=hh;exact hQ' _ _ (by simpa[Yx,Nat.add_comm 1 n] using hh)
  rw[List.take_succ_cons] at h0;unfold wpList at h0;unfold wpS;split at h0
  ·rename_i hw;rw[if_pos hw];have h1:=h0.resolve_right fun hh=>Ly hh.2;have h2:=Oper.wp_mono (K':=fun a' w'=>(G.contains k=true->Below w0.heap.size w0 w')/\wpS P ops w0 G Q (k+1) r a' w') (fun a w hh=>⟨fun oP=>(by rw[hk] at oP;cases oP),ih a w hh⟩) h1;exact qZ hno Ly h2
  ·rename_i hw;rw[if_neg hw];exact ih _ _ h0
end Go.Proofs.YtmaojnmnbpomeaaGreatDoor.Text
namespace Go.Proofs.YtmaojnmnbpomeaaGreatDoor.Text
open Go Go.RowKit
variable {P:Program} {ops:Array Oper} {w0:World}
def gL(o:Oper):Bool:=match o.op with | .load ..=>true | .convert ..=>true | _=>false
def aJ(P:Program)(ops:Array Oper)(G LD ex:List Nat)(i:Nat):Nat :=
 match ops[i]? with
 |none=>2
 |some o=>if G.contains i then 3 else if LD.contains i then (if gL o&&Ed ops i o then 1 else 2) else if ex.contains i then 2 else if Es o&&!Ed ops i o then 2 else if jY P o=0 then 0 else 2
theorem fp(G LD ex:List Nat)(i:Nat):aJ P ops G LD ex i<=3:=by
 unfold aJ;split
 ·omega
 ·repeat' split
  all_goals omega
def oldAt(P:Program)(ops:Array Oper)(w0:World)(a:Act)(i:Nat):Prop :=
 match ops[i]? with
 |some o=>match o.op with
  |.load _ x=>Region.wanted o (yielded ops a.tmps)=true->∃ ad u,a.eval x=.pointer (some ad)/\w0.cell? ad=some u
  |.convert s d x=>Region.wanted o (yielded ops a.tmps)=true->∃ v,∀ w',Below w0.heap.size w0 w'->(convert s d (a.eval x)).run P w'=.ok v w'
  |_=>True
 |none=>True
def oldAll(P:Program)(ops:Array Oper)(w0:World)(a:Act):List Nat->Prop
 |[]=>True
 |i::r=>oldAt P ops w0 a i/\oldAll P ops w0 a r
theorem oldAll_mem{a:Act}:∀{l:List Nat}{i:Nat},oldAll P ops w0 a l->i∈l->oldAt P ops w0 a i
 |j::r,i,h,hi=>by
  rcases List.mem_cons.1 hi with rfl | hi
  ·exact h.1
  ·exact oldAll_mem h.2 hi
theorem qnL(Bx:bW ops=true){i x:Nat}(h:Dep ops i x):x<i:=by
 have step:∀(i:Nat)(o:Oper)(e:Edge),ops[i]? = some o->e∈o.after->Region.binds .any e=true->e.on<i:=fun i o e ho he hb=>by
  have Ji:i<ops.size:=(gl ho);have h1:=Xp.1 Bx i (Xz.2 Ji);simp only[ho] at h1;have h2:=Array.all_eq_true_iff_forall_mem.1 h1 e he;simpa[hb] using h2
 induction h with
 |here ho he hb=>exact step _ _ _ ho he hb
 |there ho he hb _ ih=>have:=step _ _ _ ho he hb;omega
theorem reachS{G LD ex:List Nat}{Q:Act->World->Prop}:∀(l:List Oper)(k:Nat)(a:Act)(w:World),(∀ j,l[j]? = ops[k+j]?) ->
  wpS P ops w0 G (fun a w=>chk ops ex a=true/\oldAll P ops w0 a LD/\Q a w) k l a w->∃ a',chk ops ex a'=true/\oldAll P ops w0 a' LD/\ic ops (List.range' k l.length) a a'
 |[],k,a,w,_,h=>⟨a,h.1,h.2.1,fun _ _=>rfl⟩
 |o::r,k,a,w,hl,h=>by
  have ho:ops[k]? = some o:=by simpa using (hl 0).symm
  have kY:∀ j,r[j]? = ops[k+1+j]? := fun j=>by have:=hl (j+1);simpa[Yx,Nat.add_comm 1 j] using this
  unfold wpS at h;have hn:∃ a1 w1,Co a a1 o.dst/\wpS P ops w0 G (fun a w=>chk ops ex a=true/\oldAll P ops w0 a LD/\Q a w) (k+1) r a1 w1:=by
   split at h
   ·obtain⟨a1,w1,hs,_,hk⟩:=Aw jH h;exact⟨a1,w1,hs,hk⟩
   ·exact⟨_,_,Jh _ _ _,h⟩
  obtain⟨a1,w1,hs,h1⟩:=hn;obtain⟨a',h2,h3,h4⟩:=reachS r (k+1) a1 w1 kY h1;refine⟨a',h2,h3,fun t ht=>(h4 t fun j hj=>ht j ?_).trans (sB hs (ht k ?_ o ho))⟩
  ·rw[Qu,List.range'_succ];simp[hj]
  ·rw[Qu,List.range'_succ];simp
theorem list_G{G LD ex:List Nat}{Q:Act->World->Prop}:∀(l:List Oper)(k:Nat)(a:Act)(w:World),(∀ j,l[j]? = ops[k+j]?)->k+l.length=ops.size ->
  ae ops (aJ P ops G LD ex)=true->bW ops=true->((∀ j,j<k->aJ P ops G LD ex j≠2)->Below w0.heap.size w0 w) ->
  wpS P ops w0 G (fun a w=>chk ops ex a=true/\oldAll P ops w0 a LD/\Q a w) k l a w->wpG P ops w0 (aJ P ops G LD ex) Q (List.range' k l.length) a w
 |[],k,a,w,_,_,_,_,_,h=>h.2.2
 |o::r,k,a,w,hl,Ek,jP,Bx,hinv,h=>by
  have ho:ops[k]? = some o:=by simpa using (hl 0).symm
  have Ji:k<ops.size:=(gl ho);have kY:∀ j,r[j]? = ops[k+1+j]? := fun j=>by have:=hl (j+1);simpa[Yx,Nat.add_comm 1 j] using this
  have qyD:k+1+r.length=ops.size:=by simp at Ek;omega
  obtain⟨a',eu,hold,qlY⟩:=reachS (o::r) k a w hl h;have ih:∀ a w,((∀ j,j<k+1->aJ P ops G LD ex j≠2)->Below w0.heap.size w0 w)->wpS P ops w0 G (fun a w=>chk ops ex a=true/\oldAll P ops w0 a LD/\Q a w) (k+1) r a w->wpG P ops w0 (aJ P ops G LD ex) Q (List.range' (k+1) r.length) a w:=fun a w=>list_G r (k+1) a w kY qyD jP Bx;rw[Qu,List.range'_succ];unfold wpG;simp only[ho];unfold wpS at h;have om:Ed ops k o=true->(∀ t∈o.looksAt ops,a'.tmps[t]? = a.tmps[t]?):=by
   intro hst t ht;refine qlY t fun j hj oj wP=>?_;have h5:=Xp.1 hst t ht;have yp:k<=j/\j<ops.size:=by have:=List.mem_range'_1.1 hj;omega
   have h6:=Xp.1 h5 j (Xz.2 yp.2);simp only[wP,Yt,Yj,Yu] at h6;rcases h6 with h6 | h6
   ·omega
   ·exact h6
  have ec:(∀ t∈o.looksAt ops,a'.tmps[t]? = a.tmps[t]?)->∀ x∈o.op.operands,a'.eval x=a.eval x:=fun Ku x hx =>
   uU fun t hxt=>Ku t (List.mem_append_left _ (List.mem_filterMap.2 ⟨x,by simpa using hx,by rw[hxt]⟩))
  have jM:(∀ t∈o.looksAt ops,a'.tmps[t]? = a.tmps[t]?)->Region.wanted o (yielded ops a'.tmps)=Region.wanted o (yielded ops a.tmps):=by
   intro Ku;unfold Region.wanted;cases hg:o.guard with
   |none=>rfl
   |some gw =>
    obtain⟨g,want⟩:=gw;have hy:yielded ops a'.tmps g=yielded ops a.tmps g:=by
     unfold yielded;cases hb:(ops[g]?).bind (·.dst) with
     |none=>rfl
     |some t =>
      have:=Ku t (List.mem_append_right _ (by simp[hg,hb]));simp[this]
    simp only[hy]
  by_cases hw:Region.wanted o (yielded ops a.tmps)=true
  ·rw[if_pos hw] at h;have dU:∀(hp:∀ n w',(execOp a.eval o).run P w=.ok n w'->w'=w/\∃ v,n=.value v),∃ v,(execOp a.eval o).run P w=.ok (.value v) w /\
     wpS P ops w0 G (fun a w=>chk ops ex a=true/\oldAll P ops w0 a LD/\Q a w) (k+1) r (a.put o.dst v) w:=by
    intro hp;unfold Oper.wp at h;cases hr:(execOp a.eval o).run P w with
    |ok n1 w1 =>
     obtain⟨rfl,v,rfl⟩:=hp n1 w1 hr;rw[hr] at h;exact⟨v,rfl,h.2⟩
    |halt x w1 =>
     rw[hr] at h;cases x <;> exact absurd h id
   by_cases Nj:aJ P ops G LD ex k<=1
   ·have uA:∀ w',w'=w->((∀ j,j<k+1->aJ P ops G LD ex j≠2)->Below w0.heap.size w0 w'):=fun w' e hj=>by subst e;exact hinv fun j hjk=>hj j (by omega)
    unfold stG;rw[if_pos Nj];have hc:=Nj;unfold aJ at hc;simp only[ho] at hc;by_cases yz:G.contains k=true
    ·rw[if_pos yz] at hc;omega
    rw[if_neg yz] at hc;by_cases qO:LD.contains k=true
    ·rw[if_pos qO] at hc;have aq:(gL o&&Ed ops k o)=true:=by
      by_cases aq:(gL o&&Ed ops k o)=true
      ·exact aq
      ·rw[if_neg aq] at hc;omega
     rw[Yl] at aq;have Oa:aJ P ops G LD ex k=1:=by
      unfold aJ;simp only[ho];rw[if_neg yz,if_pos qO,if_pos (by simp[aq])]
     have qyN:∀ j,j<k->aJ P ops G LD ex j≠2:=fun j hj hcj=>by
      have hd:=Pq jP Ji (show j<ops.size by omega) Oa hcj;have:=qnL Bx hd;omega
     have aw:=hinv qyN;have Ku:=om aq.2;have hoa:=oldAll_mem hold (by simpa using qO);have ji:(∃ t x,o.op=.load t x)\/∃ s d x,o.op=.convert s d x:=by
      have:=aq.1;unfold gL at this;split at this
      ·exact .inl ⟨_,_,by assumption⟩
      ·exact .inr ⟨_,_,_,by assumption⟩
      ·cases this
     rcases ji with ⟨t,x,qK⟩ | ⟨s,d,x,qK⟩
     ·have hx:=ec Ku x (by rw[qK];simp[Op.operands]);unfold oldAt at hoa;simp only[ho,qK] at hoa;obtain⟨ad,u,had,Zm⟩:=hoa (by rw[jM Ku];exact hw);rw[hx] at had;have dz:zaF P (execOp a.eval o):=by
       obtain⟨dst,op,type,pos,after,guard⟩:=o;simp only at qK;subst qK;exact s_ (sP _ _)
      obtain⟨v,hv,hk⟩:=dU fun n w' h=>dz w n w' h;refine⟨v,?_,ih _ _ (uA _ rfl) hk⟩;unfold Yc;rw[if_neg (by omega)];refine .inl ⟨hw,fun w2 Ja=>?_⟩;obtain⟨dst,op,type,pos,after,guard⟩:=o;simp only at qK;subst qK;simp only[execOp] at hv |-;rw[had] at hv |-;obtain⟨v1,w1,g1,g2⟩:=Ff hv;have:=nq Zm aw Ja g1;rw[Zf,this];simp only[Sem.run_pure] at g2;injection g2 with g3 _;injection g3 with g3;subst g3;rfl
     ·have hx:=ec Ku x (by rw[qK];simp[Op.operands]);unfold oldAt at hoa;simp only[ho,qK] at hoa;obtain⟨v0,jh⟩:=hoa (by rw[jM Ku];exact hw);rw[hx] at jh;have hex:∀ w2,Below w0.heap.size w0 w2->(execOp a.eval o).run P w2=.ok (.value v0) w2:=by
       intro w2 Ja;obtain⟨dst,op,type,pos,after,guard⟩:=o;simp only at qK;subst qK;simp only[execOp];rw[Zf,jh w2 Ja];rfl
      obtain⟨v,hv,hk⟩:=dU fun n w' h=>by
       rw[hex w aw] at h;injection h with h1 h2;exact⟨h2.symm,v0,h1.symm⟩
      rw[hex w aw] at hv;injection hv with h1 _;injection h1 with h1;subst h1;refine⟨v0,?_,ih _ _ (uA _ rfl) hk⟩;unfold Yc;rw[if_neg (by omega)];exact .inl ⟨hw,hex⟩
    ·rw[if_neg qO] at hc;by_cases hcE:ex.contains k=true
     ·rw[if_pos hcE] at hc;omega
     rw[if_neg hcE] at hc;by_cases tZ:(Es o&&!Ed ops k o)=true
     ·rw[if_pos tZ] at hc;omega
     rw[if_neg tZ] at hc;have uB:jY P o=0:=by
      by_cases uB:jY P o=0
      ·exact uB
      ·rw[if_neg uB] at hc;omega
     have Oa:aJ P ops G LD ex k=0:=by
      unfold aJ;simp only[ho];rw[if_neg yz,if_neg qO,if_neg hcE,if_neg tZ,if_pos uB]
     have hpv:qgU P (execOp a.eval o):=by
      refine uZ uB ?_;by_cases So:Es o=true
      ·have qlN:Ed ops k o=true:=by
        rw[So] at tZ;simpa using tZ
       have Ku:=om qlN;have Uy:=Xp.1 eu k (Xz.2 Ji);simp only[ho,Yt,So,Bool.not_true,Bool.false_eq_true,false_or] at Uy;rcases Uy with Uy | Uy | Uy
       ·exact absurd Uy hcE
       ·rw[jM Ku,hw] at Uy;cases Uy
       ·rw[mU (ec Ku)] at Uy;exact Uy
      ·unfold Es at So;unfold Hw;split at So <;> first | (exact absurd rfl So) | rfl | (split <;> first | rfl | (simp_all;done))
     obtain⟨v,hv,hk⟩:=dU fun n w' hr=>let ⟨e,v,hn,_⟩:=hpv w n w' hr;⟨e,v,hn⟩;obtain⟨_,v',hn,Uc⟩:=hpv _ _ _ hv;injection hn with hn;subst hn;refine⟨v,?_,ih _ _ (uA _ rfl) hk⟩;unfold Yc;rw[if_pos Oa];exact .inl ⟨hw,Uc⟩
   ·unfold stG;rw[if_neg Nj,if_pos hw];refine Oper.wp_mono (fun a1 w1 hh=>?_) h;have h3:aJ P ops G LD ex k=3->G.contains k=true:=by
     intro h3;unfold aJ at h3;simp only[ho] at h3;by_cases yz:G.contains k=true
     ·exact yz
     ·rw[if_neg yz] at h3
      repeat' (split at h3)
      all_goals omega
    refine⟨fun zc=>hh.1 (h3 zc),ih _ _ (fun hj=>?_) hh.2⟩;have iH:=hj k (by omega);have eh:aJ P ops G LD ex k=3:=by have:=fp (P:=P) (ops:=ops) G LD ex k;omega
    exact hh.1 (h3 eh)
  ·rw[if_neg hw] at h;have hwf:Region.wanted o (yielded ops a.tmps)=false:=by simpa using hw
   have h2:=ih _ _ (fun hj=>hinv fun j hjk=>hj j (by omega)) h;unfold stG;split
   ·refine⟨undef,?_,h2⟩;unfold Yc;split
    ·exact .inr ⟨hwf,rfl⟩
    ·exact .inr ⟨hwf,rfl⟩
   ·exact h2
def growB(P:Program)(ops:Array Oper)(G LD ex:List Nat):Bool:=Region.noSelect ops&&bW ops&&dt ops (aJ P ops G LD ex)&&ae ops (aJ P ops G LD ex)
theorem wp_grow{id:Nat}{Q:Exit->Act->World->Prop}{a:Act}{w:World}{l:List Oper}(G LD ex:List Nat)(hm:P.follows .mixedOrders=true)(hB:growB P l.toArray G LD ex=true)
  (h:wpS P l.toArray w.drew G (fun a' w'=>chk l.toArray ex a'=true/\oldAll P l.toArray w.drew a' LD/\Q .normal a' w') 0 l a w.drew):(Code.region id l.toArray true).wp P Q a w:=by
 simp only[growB,Yl] at hB;refine wp_region_any hm ?_;have h2:=list_G l 0 a w.drew (by simp) (by simp) hB.2 hB.1.1.2 (fun _=>Xr _ _) h;have h3:=any_of_G (w0:=w.drew) hB.1.1.1 hB.1.1.2 hB.1.2 hB.2 (fun i=>fp G LD ex i) (List.range' 0 l.length) (Array.replicate l.toArray.size false) a w.drew (by simp) (List.pairwise_lt_range') (fun j=>by
  rw[List.mem_range'_1]
  constructor
  ·intro hj
   have Mn:j<l.length:=by simpa using hj.2
   exact⟨by simpa using Mn,by simp[Mn]⟩
  ·intro hj;have:=hj.1;simp at this;exact⟨by omega,by omega⟩) (fun j o ho hj=>by
   exfalso
   have:j<l.toArray.size:=(gl ho)
   simp at this
   simp[this] at hj) (fun _=>Xr _ _) h2
 simpa using h3
theorem wpS_one{G:List Nat}{Q:Act->World->Prop}{k:Nat}{o:Oper}{r:List Oper}{a:Act}{w:World}
  (h:∀ Q':Exit->Act->World->Prop,(∀ a' w',Below w0.heap.size w0 w'/\wpS P ops w0 G Q (k+1) r a' w'->Q' .normal a' w')->wpList P ops Q' [o] a w):wpS P ops w0 G Q k (o::r) a w:=by
 have h0:=h (fun e a w=>e=.normal/\Below w0.heap.size w0 w/\wpS P ops w0 G Q (k+1) r a w) (fun a w hh=>⟨rfl,hh⟩);have Ly:¬ LetsOut (fun e a w=>e=Exit.normal/\Below w0.heap.size w0 w/\wpS P ops w0 G Q (k+1) r a w):=fun⟨_,_,hh⟩=>by cases hh.1
 have hno:∀(e:Exit)(a:Act)(w:World),e≠.normal->¬ (e=Exit.normal/\Below w0.heap.size w0 w/\wpS P ops w0 G Q (k+1) r a w):=fun _ _ _ hn hh=>hn hh.1;unfold wpList at h0;unfold wpS;split at h0
 ·rename_i hw;rw[if_pos hw];have h1:=h0.resolve_right fun hh=>Ly hh.2;have h2:=Oper.wp_mono (K':=fun a' w'=>(G.contains k=true->Below w0.heap.size w0 w')/\wpS P ops w0 G Q (k+1) r a' w') (fun a w hh=>by
   simp only[wpList] at hh
   exact⟨fun _=>hh.2.1,hh.2.2⟩) h1
  exact qZ hno Ly h2
 ·rename_i hw;rw[if_neg hw];simp only[wpList] at h0;exact h0.2.2
theorem no_want{b:Bool}{p:Prop}(h2:b=false)(h:b=true):p:=by rw[h] at h2;cases h2
end Go.Proofs.YtmaojnmnbpomeaaGreatDoor.Text
namespace Go.Proofs.YtmaojnmnbpomeaaGreatDoor
open Go.RowKit
def Ul(c:Int):Bool:=decide (97<=c/\c<=122)||decide (65<=c/\c<=90)
def Wl(c:Int):Bool:=Ul c||decide (48<=c/\c<=57)||decide (c=95)
def Jc(c:Int):Bool:=decide (32<=c/\c<=126)&&decide (c≠39)&&decide (c≠92)
theorem Sl(c:Int)(w:World):Calls Tryz.prog 188 #[.int .u8 c] w fun e w'=>e=.returned (.bool (Ul c))/\w=w':=by
 have hc:c<65\/(65<=c/\c<=90)\/(90<c/\c<97)\/(97<=c/\c<=122)\/122<c:=by omega
 rcases hc with h | h | h | h | h
 all_goals
  go_enter Tryz.func188,Tryz.ntmps188;go_wp2
  all_goals first
   |(exfalso;omega)
   |(exfalso;simp at *;omega)
   |(go_ret;exact⟨Kx (Zv (by rw[Bool.eq_iff_iff];simp[Ul] <;> omega)),rfl⟩)
theorem pn(c:Int)(w:World):Calls Tryz.prog 190 #[.int .u8 c] w fun e w'=>e=.returned (.bool (Wl c))/\w=w':=by
 rcases Yn (Ul c) with hl | hl
 ·have HL:=Lh hl;go_enter Tryz.func190,Tryz.ntmps190;go_wp2_with (go_call Sl c _ as e w1 ⟨rfl,rfl⟩);go_ret;exact⟨Kx (Zv (by unfold Wl;rw[HL.o];rfl)),rfl⟩
 ·have HL:=Lh hl;have hc:c<48\/(48<=c/\c<=57)\/(57<c/\c<95)\/(95<=c/\c<=95)\/95<c:=by omega
  rcases hc with h | h | h | h | h
  all_goals
   go_enter Tryz.func190,Tryz.ntmps190;go_wp2_with (go_call Sl c _ as e w1 ⟨rfl,rfl⟩)
   all_goals first
    |(exfalso;omega)
    |(exfalso;simp at *;omega)
    |(go_ret;exact⟨Kx (Zv (by rw[Bool.eq_iff_iff];simp[Wl,HL.o] <;> omega)),rfl⟩)
theorem rW(c:Int)(w:World):Calls Tryz.prog 191 #[.int .u8 c] w fun e w'=>e=.returned (.bool (Jc c))/\w=w':=by
 have hc:c<32\/(32<=c/\c<39)\/(39<=c/\c<=39)\/(39<c/\c<92)\/(92<=c/\c<=92)\/(92<c/\c<=126)\/126<c:=by omega
 rcases hc with h | h | h | h | h | h | h
 all_goals
  go_enter Tryz.func191,Tryz.ntmps191;go_wp2
  all_goals first
   |(exfalso;omega)
   |(exfalso;simp at *;omega)
   |(go_ret;exact⟨Kx (Zv (by rw[Bool.eq_iff_iff];simp[Jc] <;> omega)),rfl⟩)
theorem Lo(s:ByteArray)(w:World):Calls Tryz.prog 187 #[.string s] w fun e w'=>e=.returned (.bool (decide (1<=s.size/\s.size<=32)))/\w=w':=by
 have hc:s.size<1\/(1<=s.size/\s.size<=32)\/32<s.size:=by omega
 rcases hc with h | h | h
 all_goals
  go_enter Tryz.func187,Tryz.ntmps187;go_wp2
  all_goals first
   |(exfalso;omega)
   |(exfalso;simp at *;omega)
   |(go_ret;exact⟨Kx (Zv (by rw[Bool.eq_iff_iff];simp <;> omega)),rfl⟩)
def Ki(may:Int->Bool):List UInt8->Nat
 |[]=>0
 |b::r=>if may (b.toNat:Int) then Ki may r+1 else 0
theorem Sx(may:Int->Bool):∀ l,Ki may l<=l.length
 |[]=>Ya _
 |b::r=>by unfold Ki;split;(have:=Sx may r;simp;omega);omega
theorem kx(may:Int->Bool):∀(l:List UInt8),(Ki may l=l.length↔∀ b∈l,may (b.toNat:Int)=true)
 |[]=>by simp[Ki]
 |b::r=>by
  unfold Ki;have:=kx may r;have h2:=Sx may r;split
  ·rename_i hb;simp[hb,this]
  ·rename_i hb;simp[hb]
theorem iX(F:FuncId)(may:Int->Bool)(hF:∀(args:Array Value)(w:World),(callFunc F args).run Tryz.prog w=.ok (.enter F args) w)(zfH:∀(c:Int)(w:World),Calls Tryz.prog F #[.int .u8 c] w fun e w'=>e=.returned (.bool (may c))/\w=w')(s:ByteArray)(w:World)(hs:s.size<=maxLen) :
  Calls Tryz.prog 189 #[.string s,.func (.func F) #[] #[]] w fun e w'=>e=.returned (.int .i64 (Ki may s.data.toList))/\w=w':=by
 unfold maxLen at hs;have hbt:=dN s;have HM:=Lh zfH;clear zfH;go_enter Tryz.func189,Tryz.ntmps189;go_wp2_with fail;go_loop [5] (fun v5=>∃ k:Nat,k<=s.size/\v5=.int .i64 k/\Hid (Ki may s.data.toList=k+Ki may (s.data.toList.drop k))) (fun v5=>s.size - (intOf v5).toNat);exact⟨0,by omega,rfl,by simp[Hid]⟩;obtain⟨k,hk,rfl,hr⟩:=hrel;by_cases Ji:k<s.size
 ·have hlen:s.data.toList.length=s.size:=by simp
  have hd:=Lh (show Ki may (s.data.toList.drop k)=if may (Mp s k) then Ki may (s.data.toList.drop (k+1))+1 else 0 by
   rw[Ql (by omega),Ki,Ey s k (by omega)])
  rcases Yn (may (Mp s k)) with hm | hm
  ·have HB:=Lh hm;go_wp2_with fail;refine (HM.o (Mp s k) _).mono ?_;rintro e w1 ⟨rfl,rfl⟩;go_wp2;go_round;exact⟨k+1,by omega,by go_num,by show _=_;rw[hr.o,hd.o,HB.o];simp;omega⟩;simp[intOf];omega
  ·have HB:=Lh hm;go_wp2_with fail;refine (HM.o (Mp s k) _).mono ?_;rintro e w1 ⟨rfl,rfl⟩;go_wp2;go_ret;exact⟨Kx (Gu (by rw[hr.o,hd.o,HB.o];simp)),rfl⟩
 ·have hz:=Lh (show Ki may (s.data.toList.drop k)=0 by rw[List.drop_eq_nil_of_le (by simp;omega)];rfl);go_wp2;go_ret;exact⟨Kx (Gu (by rw[hr.o,hz.o];simp)),rfl⟩
def Ee(l:List UInt8):Bool:=decide (1<=l.length/\l.length<=32)&&Ul ((l.headD 0).toNat:Int)&&l.all fun b=>Wl (b.toNat:Int)
def Fi(l:List UInt8):Bool:=decide (1<=l.length/\l.length<=32)&&l.all fun b=>Jc (b.toNat:Int)
theorem q_(may:Int->Bool)(l:List UInt8):((Ki may l:Int)==(l.length:Int))=l.all fun b=>may (b.toNat:Int):=by
 rw[Bool.eq_iff_iff];simp only[beq_iff_eq,Xp];rw[<-kx];omega
theorem qoA(s:ByteArray)(h:1<=s.size):Mp s 0=((s.data.toList.headD 0).toNat:Int):=by
 have h0:0<s.data.toList.length:=by simp;omega
 rw[Ey s 0 h0,List.headD_eq_head?_getD,List.head?_eq_getElem?,Qa h0];rfl
theorem xg(s:ByteArray)(w:World)(hs:s.size<=maxLen):Calls Tryz.prog 127 #[.string s] w fun e w'=>e=.returned (.bool (Ee s.data.toList))/\w=w':=by
 have hbt:=dN s;have hlen:s.data.toList.length=s.size:=by simp
 have hrl:=Sx Wl s.data.toList;have HR:=Lh (q_ Wl s.data.toList);have qB:Hid (Ee s.data.toList=(decide (1<=s.size/\s.size<=32)&&Ul ((s.data.toList.headD 0).toNat:Int)&&s.data.toList.all fun b=>Wl (b.toNat:Int))):=by
  show _=_;unfold Ee;rw[hlen]
 by_cases h1:1<=s.size/\s.size<=32
 ·have hd:decide (1<=s.size/\s.size<=32)=true:=by simpa using h1
  have HD:=Lh hd;have Dg:0<s.size:=by omega
  have HH:=Lh (qoA s h1.1);rcases Yn (Ul (Mp s 0)) with hb | hb
  ·have HB:=Lh hb;go_enter Tryz.func127,Tryz.ntmps127;go_wp2_with fail;go_call Lo s _ as e w1 ⟨rfl,rfl⟩;go_wp2_with fail;go_call Sl (Mp s 0) _ as e w1 ⟨rfl,rfl⟩;go_wp2_with fail;go_call iX 190 Wl (fun _ _=>by kernel_rfl) pn s _ hs as e w1 ⟨rfl,rfl⟩;go_wp2;go_ret;exact⟨Kx (Zv (by rw[qB.o,HD.o,<-HH.o,HB.o,<-HR.o,hlen];simp)),rfl⟩
  ·have HB:=Lh hb;go_enter Tryz.func127,Tryz.ntmps127;go_wp2_with fail;go_call Lo s _ as e w1 ⟨rfl,rfl⟩;go_wp2_with fail;go_call Sl (Mp s 0) _ as e w1 ⟨rfl,rfl⟩;go_wp2;go_ret;exact⟨Kx (Zv (by rw[qB.o,<-HH.o,HB.o];simp)),rfl⟩
 ·have hd:decide (1<=s.size/\s.size<=32)=false:=by simpa using h1
  have HD:=Lh hd;go_enter Tryz.func127,Tryz.ntmps127;go_wp2_with fail;go_call Lo s _ as e w1 ⟨rfl,rfl⟩;go_wp2;go_ret;exact⟨Kx (Zv (by rw[qB.o,HD.o];simp)),rfl⟩
theorem xf(s:ByteArray)(w:World)(hs:s.size<=maxLen):Calls Tryz.prog 128 #[.string s] w fun e w'=>e=.returned (.bool (Fi s.data.toList))/\w=w':=by
 have hlen:s.data.toList.length=s.size:=by simp
 have hrl:=Sx Jc s.data.toList;have HR:=Lh (q_ Jc s.data.toList);have qB:Hid (Fi s.data.toList=(decide (1<=s.size/\s.size<=32)&&s.data.toList.all fun b=>Jc (b.toNat:Int))):=by
  show _=_;unfold Fi;rw[hlen]
 by_cases h1:1<=s.size/\s.size<=32
 ·have hd:decide (1<=s.size/\s.size<=32)=true:=by simpa using h1
  have HD:=Lh hd;go_enter Tryz.func128,Tryz.ntmps128;go_wp2_with fail;go_call Lo s _ as e w1 ⟨rfl,rfl⟩;go_wp2_with fail;go_call iX 191 Jc (fun _ _=>by kernel_rfl) rW s _ hs as e w1 ⟨rfl,rfl⟩;go_wp2;go_ret;exact⟨Kx (Zv (by rw[qB.o,HD.o,<-HR.o,hlen];simp)),rfl⟩
 ·have hd:decide (1<=s.size/\s.size<=32)=false:=by simpa using h1
  have HD:=Lh hd;go_enter Tryz.func128,Tryz.ntmps128;go_wp2_with fail;go_call Lo s _ as e w1 ⟨rfl,rfl⟩;go_wp2;go_ret;exact⟨Kx (Zv (by rw[qB.o,HD.o];simp)),rfl⟩
abbrev Wd:=List UInt8
def Uw(l:List Wd):List Wd:=Lib.compact (l.mergeSort fun x y=>decide (x<=y))
abbrev qC(l:List Wd):Prop:=l.Pairwise (·<·)
theorem qh(zs:List Wd)(x:Wd):x∈Lib.compact zs↔x∈zs:=by
 unfold Lib.compact Lib.compactUpTo;simp only[Xa,Qw,Xz];constructor
 ·rintro⟨j,⟨hj,_⟩,rfl⟩;have:j<zs.toArray.size:=by simpa using hj
  rw[getElem!_pos zs.toArray j this];simp
 ·intro hx;obtain⟨j,hj,rfl⟩:=Qz hx;clear hx
  induction j with
  |zero =>
   refine⟨0,⟨hj,by simp[Lib.keeps]⟩,?_⟩;have:0<zs.toArray.size:=by simpa using hj
   rw[getElem!_pos zs.toArray 0 this];simp
  |succ j ih =>
   have h1:j+1<zs.toArray.size:=by simpa using hj
   have h0:j<zs.toArray.size:=by omega
   by_cases hk:zs.toArray[j+1]! = zs.toArray[j]!
   ·obtain⟨i,hi,e⟩:=ih (by simpa using h0);refine⟨i,hi,e.trans ?_⟩;rw[getElem!_pos zs.toArray (j+1) h1,getElem!_pos zs.toArray j h0] at hk;simpa using hk.symm
   ·refine⟨j+1,⟨hj,Lib.keeps_pos (by simpa using hk)⟩,?_⟩;rw[getElem!_pos zs.toArray (j+1) h1];simp
theorem qi(zs:List Wd)(hs:zs.Pairwise (·<=·)):qC (Lib.compact zs):=by
 unfold Lib.compact Lib.compactUpTo qC;rw[List.pairwise_map];have h1:((List.range zs.length).filter (Lib.keeps zs.toArray)).Pairwise (·<·):=List.Pairwise.filter _ List.pairwise_lt_range;refine h1.imp_of_mem ?_;intro i j hi hj hij;simp only[Qw,Xz] at hi hj;obtain⟨hj1,yq⟩:=hj;have hne:zs.toArray[j]! ≠ zs.toArray[j - 1]! := by
  simp only[Lib.keeps,Yj] at yq;rcases yq with h | h
  ·omega
  ·exact h
 have a1:j<zs.toArray.size:=by simpa using hj1
 rw[getElem!_pos zs.toArray j a1,getElem!_pos zs.toArray (j - 1) (by omega)] at hne;rw[getElem!_pos zs.toArray j a1,getElem!_pos zs.toArray i (by omega)];simp only[List.getElem_toArray] at hne |-;have hP:=List.pairwise_iff_getElem.1 hs;have h2:zs[j - 1]<=zs[j]:=hP (j - 1) j (by omega) hj1 (by omega);have h3:zs[j - 1]<zs[j]:=by
  rcases List.le_iff_lt_or_eq.1 h2 with h | h
  ·exact h
  ·exact absurd h.symm hne
 rcases Nat.lt_or_ge i (j - 1) with h | h
 ·exact List.lt_of_le_of_lt (hP i (j - 1) (by omega) (by omega) h) h3
 ·have:i=j - 1:=by omega
  subst this;exact h3
theorem qrP(l:List Wd):(l.mergeSort fun x y=>decide (x<=y)).Pairwise (·<=·):=by
 have:=List.pairwise_mergeSort (le:=fun x y:Wd=>decide (x<=y)) (fun a b c h1 h2=>by simp only[Yj] at *;exact List.le_trans h1 h2) (fun a b=>by simp only[Yt,Yj];exact List.le_total a b) l;exact this.imp fun h=>by simpa using h
theorem Dv{l:List Wd}{x:Wd}:x∈Uw l↔x∈l:=by
 unfold Uw;rw[qh];exact (List.mergeSort_perm l _).mem_iff
theorem Bc(l:List Wd):qC (Uw l):=qi _ (qrP l)
theorem qbA:∀{a b:List Wd},qC a->qC b->(∀ x,x∈a↔x∈b)->a=b
 |[],[],_,_,_=>rfl
 |[],y::b,_,_,h=>absurd ((h y).2 (by simp)) (by simp)
 |x::a,[],_,_,h=>absurd ((h x).1 (by simp)) (by simp)
 |x::a,y::b,ha,hb,h=>by
  have ha':=Qx.1 ha;have hb':=Qx.1 hb;have e:x=y:=by
   have h1:=(h x).1 (by simp);have h2:=(h y).2 (by simp);rw[List.mem_cons] at h1 h2;rcases h1 with h1 | h1
   ·exact h1
   ·rcases h2 with h2 | h2
    ·exact h2.symm
    ·exact absurd (ha'.1 y h2) (List.lt_asymm (hb'.1 x h1))
  subst e;rw[qbA ha'.2 hb'.2 fun z=>?_];have hz:=h z;rw[List.mem_cons,List.mem_cons] at hz;constructor
  ·intro hm;rcases hz.1 (.inr hm) with e | h'
   ·subst e;exact absurd (ha'.1 _ hm) (List.lt_irrefl _)
   ·exact h'
  ·intro hm;rcases hz.2 (.inr hm) with e | h'
   ·subst e;exact absurd (hb'.1 _ hm) (List.lt_irrefl _)
   ·exact h'
theorem qC.nodup{l:List Wd}(h:qC l):l.Nodup:=h.imp fun Ji e=>by subst e;exact List.lt_irrefl _ Ji
theorem Gz{l t:List Wd}(ht:qC t)(h:∀ x,x∈l↔x∈t):Uw l=t:=qbA (Bc l) ht fun x=>Dv.trans (h x)
theorem kr{l t:List Wd}(h:∀ x,x∈l↔x∈t):Uw l=Uw t:=Gz (Bc t) fun x=>(h x).trans Dv.symm
theorem sA(l:List Wd):(Uw l).length<=l.length:=by
 have h:=(Bc l).nodup.length_le_of_subset (fun x hx=>Dv.1 hx:Uw l ⊆ l);exact h
theorem cM{a b:List Wd}(ha:qC a):a.length<=(Uw (a++b)).length/\((Uw (a++b)).length<=a.length->Uw (a++b)=a/\∀ x∈b,x∈a):=by
 have hs:a ⊆ Uw (a++b):=fun x hx=>Dv.2 (by simp[hx]);refine⟨ha.nodup.length_le_of_subset hs,fun hle=>?_⟩;have Uc:∀ x∈b,x∈a:=by
  intro x hx;by_cases hn:x∈a
  ·exact hn
  ·exfalso;have So:(x::a).Nodup:=List.nodup_cons.2 ⟨hn,ha.nodup⟩;have:=So.length_le_of_subset (fun y hy=>by
    rcases List.mem_cons.1 hy with rfl | h
    ·exact Dv.2 (by simp[hx])
    ·exact hs h:(x::a) ⊆ Uw (a++b))
   simp at this;omega
 refine⟨Gz ha fun x=>?_,Uc⟩;rw[Qh];exact⟨fun h=>h.elim id (Uc x),.inl⟩
abbrev Kr:=Nat×Wd×Nat
def pU(c:UInt8):Bool:=decide (c=32)||decide (c=9)||decide (c=13)||decide (c=10)
def Sb(c:Int):Bool:=decide (c≠10)
def Bg(c:UInt8)(r:Wd):Except Nat (Nat×Wd×Nat) :=
 if c=58 then .ok (3,[58],1)
 else if c=124 then .ok (4,[124],1)
 else if c=59 then .ok (5,[59],1)
 else if Ul (c.toNat:Int)=true then
  if 32<Ki Wl (c::r) then .error 19 else .ok (1,(c::r).take (Ki Wl (c::r)),Ki Wl (c::r))
 else if c=39 then
  if 0<Ki Jc r/\r[Ki Jc r]? = some 39 then
   if 32<Ki Jc r then .error 19 else .ok (2,r.take (Ki Jc r),Ki Jc r+2)
  else .error 13
 else .error 13
def Er:Wd->Except Nat (Nat×Wd×Nat)
 |[]=>.error 13
 |c::r=>Bg c r
def Gj(s:Wd)(st:Nat×List Kr):Option (Nat×List Kr) :=
 match s.drop st.1 with
 |[]=>none
 |c::r =>
  if pU c=true then some (st.1+1,st.2)
  else if c=35 then some (st.1+Ki Sb (c::r),st.2)
  else match Er (c::r) with
   |.ok t=>some (st.1+t.2.2,st.2++[(t.1,t.2.1,st.1)])
   |.error _=>none
def pz(s:Wd)(st:Nat×List Kr):List Kr×Nat×Nat :=
 match s.drop st.1 with
 |[]=>(st.2,0,0)
 |c::r=>match Er (c::r) with
  |.error e=>([],st.1,e)
  |.ok _=>([],0,0)
inductive ReachX(s:Wd):Nat×List Kr->Nat×List Kr->Prop
 |refl (a):ReachX s a a
 |head {a b c}:Gj s a=some b->ReachX s b c->ReachX s a c
theorem ReachX.trans{s:Wd}{a b c:Nat×List Kr}(h:ReachX s a b)(k:ReachX s b c):ReachX s a c:=by
 induction h with
 |refl=>exact k
 |head h1 _ ih=>exact .head h1 (ih k)
theorem ReachX.snoc{s:Wd}{a b c:Nat×List Kr}(h:ReachX s a b)(k:Gj s b=some c):ReachX s a c:=h.trans (.head k (.refl _))
theorem Lq{may:Int->Bool}{c:UInt8}{r:Wd}(h:may (c.toNat:Int)=true):1<=Ki may (c::r):=by
 unfold Ki;rw[if_pos h];omega
theorem bD{c:Int}(h:Ul c=true):Wl c=true:=by
 unfold Wl;rw[h];rfl
theorem cU{l:Wd}{t:Nat×Wd×Nat}(h:Er l=.ok t):1<=t.2.2:=by
 cases l with
 |nil=>cases h
 |cons c r =>
  change Bg c r=_ at h;unfold Bg at h;by_cases h1:c=58
  ·rw[if_pos h1] at h;cases h;exact Ya _
  ·rw[if_neg h1] at h;by_cases h2:c=124
   ·rw[if_pos h2] at h;cases h;exact Ya _
   ·rw[if_neg h2] at h;by_cases h3:c=59
    ·rw[if_pos h3] at h;cases h;exact Ya _
    ·rw[if_neg h3] at h;by_cases h4:Ul (c.toNat:Int)=true
     ·rw[if_pos h4] at h;by_cases h5:32<Ki Wl (c::r)
      ·rw[if_pos h5] at h;cases h
      ·rw[if_neg h5] at h;cases h;exact Lq (bD h4)
     ·rw[if_neg h4] at h;by_cases h5:c=39
      ·rw[if_pos h5] at h;by_cases h6:0<Ki Jc r/\r[Ki Jc r]? = some 39
       ·rw[if_pos h6] at h;by_cases h7:32<Ki Jc r
        ·rw[if_pos h7] at h;cases h
        ·rw[if_neg h7] at h;cases h;exact Nat.le_add_left 1 (Ki Jc r+1)
       ·rw[if_neg h6] at h;cases h
      ·rw[if_neg h5] at h;cases h
theorem ke{s:Wd}{a b:Nat×List Kr}(h:Gj s a=some b):a.1<s.length/\a.1<b.1:=by
 have Ji:a.1<s.length:=by
  rcases Nat.lt_or_ge a.1 s.length with h1 | h1
  ·exact h1
  ·unfold Gj at h;rw[Xl h1] at h;cases h
 refine⟨Ji,?_⟩;unfold Gj at h;split at h
 ·cases h
 ·rename_i c r hd;split at h
  ·injection h with h;subst h;exact Ye _
  ·split at h
   ·rename_i hc;injection h with h;subst h;subst hc;have:1<=Ki Sb (35::r):=Lq (by decide);show a.1<a.1+_;omega
   ·split at h
    ·rename_i t ht;injection h with h;subst h;have:=cU ht;show a.1<a.1+_;omega
    ·cases h
def dj(s:Wd):Nat->Nat×List Kr->Nat×List Kr
 |0,st=>st
 |f+1,st=>match Gj s st with
  |none=>st
  |some st'=>dj s f st'
theorem qrS{s:Wd}{a b:Nat×List Kr}(h:ReachX s a b)(hb:Gj s b=none):∀ f,s.length<=a.1+f->dj s f a=b:=by
 induction h with
 |refl a =>
  intro f _;cases f with
  |zero=>rfl
  |succ f=>unfold dj;rw[hb]
 |@head a a' c h1 _ ih =>
  intro f hf;obtain⟨k1,k2⟩:=ke h1;cases f with
  |zero=>omega
  |succ f =>
   unfold dj;rw[h1];exact ih hb f (by omega)
def Rv(s:Wd):List Kr×Nat×Nat:=if 65536<s.length then ([],0,19) else pz s (dj s s.length (0,[]))
theorem ac{s:Wd}(h:65536<s.length):Rv s=([],0,19):=by unfold Rv;rw[if_pos h]
theorem qaG{s:Wd}{b:Nat×List Kr}(hl:¬ 65536<s.length)(h:ReachX s (0,[]) b)(hb:Gj s b=none):Rv s=pz s b:=by
 unfold Rv;rw[if_neg hl,qrS h hb s.length (by simp)]
abbrev Jo:=Int×List Int
def Ky(l:List Wd):List Wd:=l.mergeSort fun x y=>decide (x<=y)
theorem Nc(l:List Wd):(Ky l).Perm l:=List.mergeSort_perm _ _
theorem kl(l:List Wd):(Ky l).Pairwise (·<=·):=by
 have:=List.pairwise_mergeSort (le:=fun x y:Wd=>decide (x<=y)) (fun a b c h1 h2=>by simp only[Yj] at *;exact List.le_trans h1 h2) (fun a b=>by simp only[Yt,Yj];exact List.le_total a b) l;exact this.imp fun h=>by simpa using h
theorem Oy{l m:List Wd}(hp:m.Perm l)(hs:m.Pairwise (·<=·)):m=Ky l :=
 (hp.trans (Nc l).symm).eq_of_pairwise (fun _ _ _ _ h1 h2=>List.le_antisymm h1 h2) hs (kl l)
def Si(s:Int):Int:=if s<0 then -1 - s else 1000+s
theorem qjS{s t:Int}(hs:-1000<=s)(ht:-1000<=t)(h:Si s=Si t):s=t:=by
 unfold Si at h;split at h <;> split at h <;> omega
def Fd(a b:List Int):Prop:=a.map Si<b.map Si
instance (a b:List Int):Decidable (Fd a b):=inferInstanceAs (Decidable (a.map Si<b.map Si))
def Mc(a b:Jo):Prop:=a.1<b.1\/a.1=b.1/\Fd a.2 b.2
instance (a b:Jo):Decidable (Mc a b):=inferInstanceAs (Decidable (a.1<b.1\/a.1=b.1/\Fd a.2 b.2))
theorem eI(a:Jo):¬ Mc a a:=by
 unfold Mc Fd;rintro (h | ⟨_,h⟩)
 ·omega
 ·exact List.lt_irrefl _ h
theorem Pb{a b c:Jo}(h1:Mc a b)(h2:Mc b c):Mc a c:=by
 unfold Mc Fd at *;rcases h1 with h | ⟨h,h'⟩ <;> rcases h2 with k | ⟨k,k'⟩
 ·exact .inl (by omega)
 ·exact .inl (by omega)
 ·exact .inl (by omega)
 ·exact .inr ⟨by omega,List.lt_trans h' k'⟩
theorem sJ(a b:Jo):Mc a b\/(a.1=b.1/\a.2.map Si=b.2.map Si)\/Mc b a:=by
 unfold Mc Fd;rcases Int.lt_trichotomy a.1 b.1 with h | h | h
 ·exact .inl (.inl h)
 ·by_cases h1:a.2.map Si<b.2.map Si
  ·exact .inl (.inr ⟨h,h1⟩)
  ·by_cases h2:b.2.map Si<a.2.map Si
   ·exact .inr (.inr (.inr ⟨h.symm,h2⟩))
   ·exact .inr (.inl ⟨h,List.le_antisymm (List.not_lt.1 h2) (List.not_lt.1 h1)⟩)
 ·exact .inr (.inr (.inl h))
theorem iY(a b c:Jo)(h1:¬ Mc b a)(h2:¬ Mc c b):¬ Mc c a:=by
 intro h;rcases sJ b c with h3 | ⟨h3,h4⟩ | h3
 ·exact h1 (Pb h3 h)
 ·refine h1 ?_;unfold Mc Fd at *;rw[h3,h4];exact h
 ·exact h2 h3
def vU(r:Jo):Prop:=∀ s∈r.2,-1000<=s
theorem zB:∀{a b:List Int},(∀ s∈a,-1000<=s)->(∀ s∈b,-1000<=s)->a.map Si=b.map Si->a=b
 |[],[],_,_,_=>rfl
 |[],_::_,_,_,h=>by simp at h
 |_::_,[],_,_,h=>by simp at h
 |x::a,y::b,h1,h2,h=>by
  rw[List.map_cons,List.map_cons] at h;injection h with h3 h4;rw[qjS (h1 x (by simp)) (h2 y (by simp)) h3,zB (fun s hs=>h1 s (by simp[hs])) (fun s hs=>h2 s (by simp[hs])) h4]
def nS(l:List Jo):List Jo:=l.mergeSort fun a b=>decide (¬ Mc b a)
theorem Ga(l:List Jo):(nS l).Perm l:=List.mergeSort_perm _ _
theorem km(l:List Jo):(nS l).Pairwise fun a b=>¬ Mc b a:=by
 have:=List.pairwise_mergeSort (le:=fun a b:Jo=>decide (¬ Mc b a)) (fun a b c h1 h2=>by simp only[Yj] at *;exact iY a b c h1 h2) (fun a b=>by
  simp only[Yt,Yj]
  by_cases h:Mc b a
  ·exact .inr fun h2=>eI _ (Pb h h2)
  ·exact .inl h) l
 exact this.imp fun h=>by simpa using h
theorem Oz{l m:List Jo}(ho:∀ r∈l,vU r)(hp:m.Perm l)(hs:m.Pairwise fun a b=>¬ Mc b a):m=nS l:=by
 refine (hp.trans (Ga l).symm).eq_of_pairwise (fun a b ha hb h1 h2=>?_) hs (km l);rcases sJ a b with h | ⟨h,h'⟩ | h
 ·exact absurd h h2
 ·have:=zB (ho a (hp.mem_iff.1 ha)) (ho b ((Ga l).mem_iff.1 hb)) h';exact Prod.ext h this
 ·exact absurd h h1
def Di(ns:List Wd):List Wd:=ns.take 1++Ky (ns.drop 1)
theorem Gn(ns:List Wd):(Di ns).Perm ns:=by
 have:=(Nc (ns.drop 1)).append_left (ns.take 1)
 rwa [Xm] at this
def Rt(ns ts xN ts':List Wd)(s:Int):Int:=if s<0 then -1 - ((ts'.idxOf (ts.getD (-1 - s).toNat []):Nat):Int) else ((xN.idxOf (ns.getD s.toNat []):Nat):Int)
def Rz(ns ts xN ts':List Wd)(r:Jo):Jo:=(Rt ns ts xN ts' r.1,r.2.map (Rt ns ts xN ts'))
def pT(ns ts:List Wd)(rs:List Jo):List Jo:=nS (rs.map (Rz ns ts (Di ns) (Ky ts)))
theorem Lv{l l':List Wd}(hp:l'.Perm l){i:Nat}(hi:i<l.length):l'.idxOf (l.getD i [])<l'.length:=by
 rw[List.idxOf_lt_length_iff,hp.mem_iff,Qb,Qa hi];exact Qg hi
theorem qaI{l l':List Wd}(hp:l'.Perm l)(hn:l.Nodup){i j:Nat}(hi:i<l.length)(hj:j<l.length)(h:l'.idxOf (l.getD i [])=l'.idxOf (l.getD j [])):i=j:=by
 have h1:=Lv hp hi;have h2:=Lv hp hj;have e1:=List.getElem_idxOf h1;have e2:=List.getElem_idxOf h2;have e3:l.getD i []=l.getD j []:=by rw[<-e1,<-e2];congr 1
 rw[Qb,Qb,Qa hi,Qa hj] at e3;replace e3:l[i]=l[j]:=e3;have wO:=List.pairwise_iff_getElem.1 hn;rcases Nat.lt_trichotomy i j with h3 | h3 | h3
 ·exact absurd e3 (wO i j hi hj h3)
 ·exact h3
 ·exact absurd e3.symm (wO j i hj hi h3)
theorem tW{l l':List Wd}(hp:l'.Perm l)(hn:l.Nodup){j:Nat}(hj:j<l.length):∃ i<l.length,l'.idxOf (l.getD i [])=j:=by
 have Hs:j<l'.length:=by rw[hp.length_eq];exact hj
 obtain⟨i,hi,e⟩:=Qz (hp.mem_iff.1 (Qg Hs));refine⟨i,hi,?_⟩;rw[Qb,Qa hi];show l'.idxOf l[i]=j;rw[e];exact List.Nodup.idxOf_getElem (hp.nodup_iff.2 hn) j Hs
theorem yO(ns ts xN ts':List Wd)(s:Int):Rt ns ts xN ts' s<0↔s<0:=by
 unfold Rt;split <;> omega
def Vp(n m:Nat)(s:Int):Prop:=-(m:Int)<=s/\s<n
section
variable {ns ts xN ts':List Wd} (hp:xN.Perm ns) (hq:ts'.Perm ts)
include hp hq
theorem qF{s:Int}(h:Vp ns.length ts.length s):Vp ns.length ts.length (Rt ns ts xN ts' s):=by
 unfold Vp Rt at *;split
 ·have:=Lv hq (i:=(-1 - s).toNat) (by omega);rw[hq.length_eq] at this;omega
 ·have:=Lv hp (i:=s.toNat) (by omega);rw[hp.length_eq] at this;omega
theorem rS(hn:ns.Nodup)(hm:ts.Nodup){s t:Int}(h:Vp ns.length ts.length s)(k:Vp ns.length ts.length t)(e:Rt ns ts xN ts' s=Rt ns ts xN ts' t):s=t:=by
 unfold Vp Rt at *;split at e <;> split at e
 ·have:=qaI hq hm (i:=(-1 - s).toNat) (j:=(-1 - t).toNat) (by omega) (by omega) (by omega);omega
 ·omega
 ·omega
 ·have:=qaI hp hn (i:=s.toNat) (j:=t.toNat) (by omega) (by omega) (by omega);omega
end
def idxOf{α:Type}(p:α->Bool)(xs:List α):Int:=match xs.findIdx? p with | some i=>i | none=>-1
theorem Lx{α:Type}{p:α->Bool}{xs:List α}{k:Nat}(h:k<xs.length)(hno:∀(j:Nat)(h:j<xs.length),j<k->p xs[j]=false)(hp:p xs[k]=true):idxOf p xs=k:=by
 unfold idxOf;rw[List.findIdx?_eq_some_iff_getElem.2 ⟨h,hp,fun j hj=>by simp[hno j (by omega) hj]⟩]
theorem Bv{α:Type}{p:α->Bool}{xs:List α}(hno:∀(j:Nat)(h:j<xs.length),p xs[j]=false):idxOf p xs=-1:=by
 unfold idxOf;rw[List.findIdx?_eq_none_iff.2 fun x hx=>by obtain⟨j,hj,rfl⟩:=Qz hx;exact hno j hj]
theorem mJ{α:Type}(p:α->Bool)(xs:List α):(0<=idxOf p xs/\xs.any p=true)\/(idxOf p xs<0/\xs.any p=false):=by
 unfold idxOf;cases h:xs.findIdx? p with
 |none=>right;rw[List.findIdx?_eq_none_iff] at h;exact⟨by simp,by simpa using h⟩
 |some i =>
  left;rw[List.findIdx?_eq_some_iff_getElem] at h;exact⟨by simp,by rw[Xq];exact⟨_,Qg h.1,h.2.1⟩⟩
theorem qlF(F:FuncId)(cap:Array Value)(p:Int->Bool)(v:Value)(xs:List (Int))(w:World)(hv:Je Wo w w.heap.size v xs)
  (hF:∀(args:Array Value)(w:World),(callFunc F args).run Tryz.prog w=.ok (.enter F args) w)
  (hp:∀(cs:List Value)(x:Int)(w1:World),x∈xs->Below w.heap.size w w1->(Wo).rep w1 w.heap.size cs x->Calls Tryz.prog F (#[.int .i64 x]++cap) w1 fun e w2=>e=.returned (.bool (p x))/\Below w1.heap.size w1 w2) :
  Calls Tryz.prog 249 #[v,.func (.func F) #[] cap] w fun e w'=>e=.returned (.int .i64 (idxOf p xs))/\Below w.heap.size w w':=by
 have HP:=Lh hp;clear hp;obtain⟨A,c,rfl,Nj,Uy⟩:=hv.form;unfold maxLen at Uy;go_enter Tryz.func249,Tryz.ntmps249;go_wp2_with fail;go_loopw [8] (fun v8 wr=>∃ k:Nat,k<=xs.length/\v8=.int .i64 k/\Hid (∀(j:Nat)(h:j<xs.length),j<k->p xs[j]=false)/\Below w.heap.size w wr) (fun v8 _=>xs.length - (intOf v8).toNat);exact⟨0,by omega,rfl,fun j h hj=>by omega,Xr _ _⟩;obtain⟨k,hk,rfl,hno,hbr⟩:=hrel;by_cases Ji:k<xs.length
 ·obtain⟨ab,ao,cs,rfl,_,Lj,Zx,Zm⟩:=(hv.below hbr).get Ji (by decide);have qvO:=Lh Zx;obtain⟨rfl,Pr,gM⟩:=Zx;have Vh:=Zm 0 _ rfl;clear Zm;simp only[show Wo.size=1 from rfl,Yr,Yp] at Vh;rcases Yn (p xs[k]) with am | am
  ·have HB:=Lh am;have Mg:=Lh (Lx Ji hno.o am);clear am;go_wp2_with fail;refine (HP.o [.int .i64 xs[k]] xs[k] wr (Qg Ji) hbr qvO.o).mono ?_;rintro e w1 ⟨rfl,hb1⟩;rw[HB.o];go_wp2;go_ret;exact⟨Kx (Gu Mg.o.symm),hbr.trans (hb1.mono hbr.size)⟩
  ·have HB:=Lh am;clear am;go_wp2_with fail;refine (HP.o [.int .i64 xs[k]] xs[k] wr (Qg Ji) hbr qvO.o).mono ?_;rintro e w1 ⟨rfl,hb1⟩;rw[HB.o];go_wp2;go_roundw;exact⟨k+1,by omega,by go_num,fun j h hj=>by by_cases e:j=k;(subst e;exact HB.o);exact hno.o j h (by omega),hbr.trans (hb1.mono hbr.size)⟩;simp[intOf];omega
 ·have Mg:=Lh (Bv fun j h=>hno.o j h (by omega));go_wp2;go_ret;exact⟨Kx (Gu Mg.o.symm),hbr⟩
theorem qnN(F:FuncId)(cap:Array Value)(p:Int->Bool)(v:Value)(xs:List (Int))(w:World)(hv:Je Wo w w.heap.size v xs)
  (hF:∀(args:Array Value)(w:World),(callFunc F args).run Tryz.prog w=.ok (.enter F args) w)
  (hp:∀(cs:List Value)(x:Int)(w1:World),x∈xs->Below w.heap.size w w1->(Wo).rep w1 w.heap.size cs x->Calls Tryz.prog F (#[.int .i64 x]++cap) w1 fun e w2=>e=.returned (.bool (p x))/\Below w1.heap.size w1 w2) :
  Calls Tryz.prog 192 #[v,.func (.func F) #[] cap] w fun e w'=>e=.returned (.bool (xs.any p))/\Below w.heap.size w w':=by
 have HC:=Lh (qlF F cap p v xs w hv hF hp);clear hp;rcases mJ p xs with ⟨h1,h2⟩ | ⟨h1,h2⟩
 all_goals
  have H2:=Lh h2;clear h2;go_enter Tryz.func192,Tryz.ntmps192;go_wp2_with fail;refine HC.o.mono ?_;rintro e w1 ⟨rfl,hb1⟩;go_wp2;go_ret;exact⟨Kx (Zv (by first | exact H2.o.symm | (rw[H2.o];simp;done) | (rw[H2.o];simp;omega))),hb1⟩
def Vv:fJ (Int×List Int):=Ca Wo (Th Wo)
theorem qeG(F:FuncId)(cap:Array Value)(p:Int×List Int->Bool)(v:Value)(xs:List (Int×List Int))(w:World)(hv:Je Vv w w.heap.size v xs)
  (hF:∀(args:Array Value)(w:World),(callFunc F args).run Tryz.prog w=.ok (.enter F args) w)
  (hp:∀(cs:List Value)(x:Int×List Int)(w1:World),x∈xs->Below w.heap.size w w1->(Vv).rep w1 w.heap.size cs x->Calls Tryz.prog F (#[.agg cs.toArray]++cap) w1 fun e w2=>e=.returned (.bool (p x))/\Below w1.heap.size w1 w2) :
  Calls Tryz.prog 250 #[v,.func (.func F) #[] cap] w fun e w'=>e=.returned (.int .i64 (idxOf p xs))/\Below w.heap.size w w':=by
 have HP:=Lh hp;clear hp;obtain⟨A,c,rfl,Nj,Uy⟩:=hv.form;unfold maxLen at Uy;go_enter Tryz.func250,Tryz.ntmps250;go_wp2_with fail;go_loopw [8] (fun v8 wr=>∃ k:Nat,k<=xs.length/\v8=.int .i64 k/\Hid (∀(j:Nat)(h:j<xs.length),j<k->p xs[j]=false)/\Below w.heap.size w wr) (fun v8 _=>xs.length - (intOf v8).toNat);exact⟨0,by omega,rfl,fun j h hj=>by omega,Xr _ _⟩;obtain⟨k,hk,rfl,hno,hbr⟩:=hrel;by_cases Ji:k<xs.length
 ·obtain⟨ab,ao,cs,rfl,_,Lj,Zx,Zm⟩:=(hv.below hbr).get Ji (by decide);obtain⟨u0,u1,rfl⟩:∃ u0 u1,cs=[u0,u1]:=by
   match cs,(Vv).len Zx with
   |[u0,u1],_=>exact⟨u0,u1,rfl⟩
  have Vh:=Zm 0 _ rfl;have gN:=Zm 1 _ rfl;have Zx:=Lh Zx;clear Zm;simp only[show (Vv).size=2 from rfl,Yp,<-Yx] at Vh gN;rcases Yn (p xs[k]) with am | am
  ·have HB:=Lh am;have Mg:=Lh (Lx Ji hno.o am);clear am;go_wp2_with fail;refine (HP.o [u0,u1] xs[k] wr (Qg Ji) hbr Zx.o).mono ?_;rintro e w1 ⟨rfl,hb1⟩;rw[HB.o];go_wp2;go_ret;exact⟨Kx (Gu Mg.o.symm),hbr.trans (hb1.mono hbr.size)⟩
  ·have HB:=Lh am;clear am;go_wp2_with fail;refine (HP.o [u0,u1] xs[k] wr (Qg Ji) hbr Zx.o).mono ?_;rintro e w1 ⟨rfl,hb1⟩;rw[HB.o];go_wp2;go_roundw;exact⟨k+1,by omega,by go_num,fun j h hj=>by by_cases e:j=k;(subst e;exact HB.o);exact hno.o j h (by omega),hbr.trans (hb1.mono hbr.size)⟩;simp[intOf];omega
 ·have Mg:=Lh (Bv fun j h=>hno.o j h (by omega));go_wp2;go_ret;exact⟨Kx (Gu Mg.o.symm),hbr⟩
theorem qgB(F:FuncId)(cap:Array Value)(p:Int×List Int->Bool)(v:Value)(xs:List (Int×List Int))(w:World)(hv:Je Vv w w.heap.size v xs)
  (hF:∀(args:Array Value)(w:World),(callFunc F args).run Tryz.prog w=.ok (.enter F args) w)
  (hp:∀(cs:List Value)(x:Int×List Int)(w1:World),x∈xs->Below w.heap.size w w1->(Vv).rep w1 w.heap.size cs x->Calls Tryz.prog F (#[.agg cs.toArray]++cap) w1 fun e w2=>e=.returned (.bool (p x))/\Below w1.heap.size w1 w2) :
  Calls Tryz.prog 194 #[v,.func (.func F) #[] cap] w fun e w'=>e=.returned (.bool (xs.any p))/\Below w.heap.size w w':=by
 have HC:=Lh (qeG F cap p v xs w hv hF hp);clear hp;rcases mJ p xs with ⟨h1,h2⟩ | ⟨h1,h2⟩
 all_goals
  have H2:=Lh h2;clear h2;go_enter Tryz.func194,Tryz.ntmps194;go_wp2_with fail;refine HC.o.mono ?_;rintro e w1 ⟨rfl,hb1⟩;go_wp2;go_ret;exact⟨Kx (Zv (by first | exact H2.o.symm | (rw[H2.o];simp;done) | (rw[H2.o];simp;omega))),hb1⟩
theorem Ub{w:World}:Below w.heap.size w w.drew:=(Xr _ _).drew
theorem qfY(a b:Value)(xs ys:List Int)(w:World)(ha:Je Wo w w.heap.size a xs)(hb:Je Wo w w.heap.size b ys) :
  Calls Tryz.prog 184 #[a,b] w fun e w'=>e=.returned (.bool (decide (xs=ys)))/\Below w.heap.size w w':=by
 obtain⟨A,c,rfl,Nj,Uy⟩:=ha.form;obtain⟨B,d,rfl,jR,jQ⟩:=hb.form;unfold maxLen at Uy jQ;by_cases hl:xs.length=ys.length
 ·have hne:((xs.length:Int) != (ys.length:Int))=false:=by simp;omega
  go_enter Tryz.func184,Tryz.ntmps184;go_wp2;go_loopw [13] (fun v8 wr=>∃ k:Nat,k<=xs.length/\v8=.int .i64 k/\Hid (∀(j:Nat)(h:j<xs.length)(h2:j<ys.length),j<k->xs[j]=ys[j])/\Below w.heap.size w wr) (fun v8 _=>xs.length - (intOf v8).toNat);exact⟨0,by omega,rfl,fun j h h2 hj=>by omega,Xr _ _⟩;obtain⟨k,hk,rfl,hno,hbr⟩:=hrel;by_cases Ji:k<xs.length
  ·have ef:k<ys.length:=by omega
   obtain⟨ab,ao,cs,rfl,_,Lj,Zx,Zm⟩:=(ha.below hbr).get Ji (by decide);obtain⟨rfl,Pr,gM⟩:=Zx;have Vh:=Zm 0 _ rfl;obtain⟨bb,bo,cs,rfl,_,jj,Zx,Jr⟩:=(hb.below hbr).get ef (by decide);obtain⟨rfl,tX,wM⟩:=Zx;have hd0:=Jr 0 _ rfl;clear Zm Jr;simp only[show Wo.size=1 from rfl,Yr,Yp] at Vh hd0;by_cases heq:xs[k]=ys[k]
   ·have hq:(xs[k] != ys[k])=false:=by simp[heq]
    have HQ:=Lh heq;clear heq;go_wp2_with fail;refine Text.wt (by kernel_rfl) fun Q' hQ'=>?_;go_wp2;refine⟨by rfl,?_⟩;go_wp2;go_roundw;exact⟨k+1,by omega,by go_num,fun j h h2 hj=>by by_cases e:j=k;(subst e;exact HQ.o);exact hno.o j h h2 (by omega),hbr.drew⟩;simp[intOf];omega
   ·have hq:(xs[k] != ys[k])=true:=by simp[heq]
    have HQ:=Lh heq;clear heq;go_wp2_with fail;refine Text.wt (by kernel_rfl) fun Q' hQ'=>?_;go_wp2;refine⟨by rfl,?_⟩;go_wp2;go_ret;exact⟨Kx (Zv (by rw[eq_comm,Yk];intro h;subst h;exact HQ.o rfl)),hbr.drew⟩
  ·have HEQ:Hid (xs=ys):=List.ext_getElem hl fun j h h2=>hno.o j h h2 (by omega);go_wp2;go_ret;exact⟨Kx (Zv (by rw[eq_comm,Yj];exact HEQ.o)),hbr⟩
 ·have hne:((xs.length:Int) != (ys.length:Int))=true:=by simp;omega
  go_enter Tryz.func184,Tryz.ntmps184;go_wp2;go_ret;exact⟨Kx (Zv (by rw[eq_comm,Yk];intro h;subst h;exact hl rfl)),Xr _ _⟩
theorem Kq{w:World}{B:Nat}{cs:List Value}{r:Int×List Int}(h:Vv.rep w B cs r):∃ v,cs=[.int .i64 r.1,v]/\Je Wo w B v r.2/\-9223372036854775808<=r.1/\r.1<=9223372036854775807:=by
 obtain⟨c1,c2,rfl,⟨rfl,h1,h2⟩,v,rfl,hs⟩:=h;exact⟨v,rfl,hs,h1,h2⟩
theorem nu(v1 v2:Value)(l1 l2:Int)(r1 r2:List Int)(w:World)(h1:Je Wo w w.heap.size v1 r1)(h2:Je Wo w w.heap.size v2 r2) :
  Calls Tryz.prog 120 #[.agg #[.int .i64 l1,v1],.agg #[.int .i64 l2,v2]] w fun e w'=>e=.returned (.bool (decide ((l1,r1)=(l2,r2))))/\Below w.heap.size w w':=by
 obtain⟨A,c,rfl,Nj,Uy⟩:=h1.form;obtain⟨B,d,rfl,jR,jQ⟩:=h2.form;by_cases hl:l1=l2
 ·have hq:(l1==l2)=true:=by simp[hl]
  have HL:=Lh hl;clear hl;go_enter Tryz.func120,Tryz.ntmps120;go_wp2_with fail;refine (qfY _ _ r1 r2 _ (h1.next ?g1 ?s1) (h2.next ?g1 ?s1)).mono ?_
  case g1=>go_grown
  case s1=>simp;omega
  rintro e w1 ⟨rfl,hb1⟩;go_wp2;go_ret;refine⟨Kx (Zv (by rw[HL.o];simp)),?_⟩;exact (Below.trans (by go_grown) (hb1.mono (by simp;omega)))
 ·have hq:(l1==l2)=false:=by simp[hl]
  have HL:=Lh hl;clear hl;go_enter Tryz.func120,Tryz.ntmps120;go_wp2_with fail;go_ret;refine⟨Kx (Zv (by rw[eq_comm,Yk];intro h;exact HL.o (congrArg Prod.fst h))),by go_grown⟩
theorem qbS(g:Nat)(v1 v2:Value)(l1 l2:Int)(r1 r2:List Int)(w:World)(h1:Je Wo w w.heap.size v1 r1)(h2:Je Wo w w.heap.size v2 r2)
  (Vh:w.cell? ⟨g,0,none⟩=some (.int .i64 l2)) (Nj:w.cell? ⟨g,1,none⟩=some v2) :
  Calls Tryz.prog 195 #[.agg #[.int .i64 l1,v1],.pointer (some ⟨g,0,none⟩)] w fun e w'=>e=.returned (.bool (decide ((l1,r1)=(l2,r2))))/\Below w.heap.size w w':=by
 have hg:=Zl w _ Vh;simp only at hg;go_enter Tryz.func195,Tryz.ntmps195;go_wp2_with fail;refine (nu v1 v2 l1 l2 r1 r2 _ (h1.next ?g1 ?s1) (h2.next ?g1 ?s1)).mono ?_
 case g1=>go_grown
 case s1=>simp
 rintro e w1 ⟨rfl,hb1⟩;go_wp2;go_ret;exact⟨Kx (Zv (by simp)),(Below.trans (by go_grown) (hb1.mono (by simp)))⟩
theorem gG{α:Type}[DecidableEq α](rs:List α)(k:Nat)(h:k<rs.length):(rs.take (k+1)).Nodup↔(rs.take k).Nodup/\(rs.take k).any (fun x=>decide (x=rs[k]))=false:=by
 rw[Qc h,List.nodup_append];simp
theorem yI(v:Value)(rs:List (Int×List Int))(w:World)(hv:Je Vv w w.heap.size v rs) :
  Calls Tryz.prog 131 #[v] w fun e w'=>e=.returned (.bool (decide (¬ rs.Nodup)))/\Below w.heap.size w w':=by
 obtain⟨A,c,rfl,Nj,Uy⟩:=hv.form;unfold maxLen at Uy;go_enter Tryz.func131,Tryz.ntmps131;go_wp2_with fail;go_loopw [7] (fun v7 wr=>∃ k:Nat,k<=rs.length/\v7=.int .i64 k/\Hid ((rs.take k).Nodup)/\Below w.heap.size w wr) (fun v7 _=>rs.length - (intOf v7).toNat);exact⟨0,by omega,rfl,by simp[Hid],Xr _ _⟩;obtain⟨k,hk,rfl,hno,hbr⟩:=hrel;by_cases Ji:k<rs.length
 ·obtain⟨ab,ao,cs,rfl,_,Lj,Zx,Zm⟩:=(hv.below hbr).get Ji (by decide);obtain⟨u,rfl,hu,Ib,Sc⟩:=Kq Zx;have Vh:=Zm 0 _ rfl;have gN:=Zm 1 _ rfl;clear Zm;simp only[show Vv.size=2 from rfl,Yp,<-Yx] at Vh gN;obtain⟨A1,e1,rfl,av,qN⟩:=hu.form;have htk:=Lh (hv.take_ k (n':=k) (by rw[Qq];omega));have hsn:=Lh (gG rs k Ji);go_wp2_with fail;have aw:Below wr.heap.size wr (wr.alloc (Obj.cells #[Value.int IntKind.i64 rs[k].fst,Value.slice A1 rs[k].snd.length e1] 63)):=(Xr _ _).alloc (Ya _) _;have HC:=Lh (qgB 195 #[.pointer (some ⟨wr.heap.size,0,none⟩)] (fun x=>decide (x=rs[k])) _ (rs.take k) (wr.alloc (Obj.cells #[Value.int IntKind.i64 rs[k].fst,Value.slice A1 rs[k].snd.length e1] 63))
   (htk.o.next (hbr.alloc hbr.size _) (by simp;exact Nat.le_succ_of_le hbr.size)) (fun _ _=>by kernel_rfl) (by
    intro cs x w2 hx Ja hrx
    obtain⟨vx,rfl,Ab,_,_⟩:=Kq hrx
    have Ek:=Ja.size
    simp only[Xs] at Ek Ja Ab
    have hws:=hbr.size
    refine (qbS wr.heap.size vx (Value.slice A1 rs[k].snd.length e1) x.1 rs[k].1 x.2 rs[k].2 w2 (Ab.more Ek) (hu.fut (aw.trans (Ja.mono (Yh _))) hws (by omega)) ?_ ?_)
    ·rw[Ja.cell (p:=⟨wr.heap.size,0,none⟩) (Ye _)];simp
    ·rw[Ja.cell (p:=⟨wr.heap.size,1,none⟩) (Ye _)];simp))
  rcases Yn ((rs.take k).any fun x=>decide (x=rs[k])) with mO | mO
  ·have HA:=Lh mO;clear mO;refine HC.o.mono ?_;rintro e w1 ⟨rfl,hb1⟩;rw[HA.o];go_wp2;go_ret;refine⟨Kx (Zv ?_),(hbr.alloc hbr.size _).trans (hb1.mono (by simp;exact Nat.le_succ_of_le hbr.size))⟩;rw[eq_comm,Yj];intro So;have h3:=hsn.o.1 (So.sublist (List.take_sublist _ _));rw[HA.o] at h3;cases h3.2
  ·have HA:=Lh mO;clear mO;refine HC.o.mono ?_;rintro e w1 ⟨rfl,hb1⟩;rw[HA.o];go_wp2;go_roundw;exact⟨k+1,by omega,by go_num,hsn.o.2 ⟨hno.o,HA.o⟩,(hbr.alloc hbr.size _).trans (hb1.mono (by simp;exact Nat.le_succ_of_le hbr.size))⟩;simp[intOf];omega
 ·go_wp2;go_ret;refine⟨Kx (Zv ?_),hbr⟩;have:=hno.o;rw[Qd (by omega)] at this;simp[this]
def Ni{α:Type}[DecidableEq α](l:List (α×Value))(k:α):Option Value:=(l.find? fun p=>decide (p.1=k)).map (·.2)
def Wv{α:Type}[DecidableEq α]:List (α×Value)->α->Value->List (α×Value)
 |[],k,v=>[(k,v)]
 |p::r,k,v=>if p.1=k then (k,v)::r else p::Wv r k v
def Up{α:Type}(κ:α->Value)(w:World)(g:Nat)(l:List (α×Value)):Prop :=
 ∃(es:Array MapEntry)(clock:Nat),w.heap[g]? = some (.map es clock)/\es.toList.map (fun e=>(e.key,e.val))=l.map (fun p=>(κ p.1,p.2))
structure Sf{α:Type}[DecidableEq α](P:Program)(mt kt et:TypeId)(κ:α->Value):Prop where
 und:P.underlying mt=some (.map kt et)
 check:∀(b:Bool)(a:α)(w:World),(Instr.checkKey b 10000 kt (κ a)).run P w=.ok () w
 find:∀(k:α)(l:List (α×Value))(es:List MapEntry)(w:World),es.map (fun e=>(e.key,e.val))=l.map (fun p=>(κ p.1,p.2)) ->
  (Instr.findKey kt (κ k) es).run P w=.ok ((l.findIdx? fun p=>decide (p.1=k)).bind fun i=>(l[i]?).map fun p=>(i,p.2)) w
 stays:∀ a:α,Instr.sameBits 10000 (κ a) (κ a)=true
section
variable {α:Type} {κ:α->Value} {w:World} {g:Nat} {l:List (α×Value)}
theorem Up.made(w:World):Up κ (w.alloc (.map #[] 0)) w.heap.size []:=⟨#[],0,heap_alloc_new w _,rfl⟩
theorem Up.lt(h:Up κ w g l):g<w.heap.size:=by
 obtain⟨es,c,hh,_⟩:=h;exact (gl hh)
theorem Up.of_block{w':World}(h:Up κ w g l)(hb:w'.heap[g]? = w.heap[g]?):Up κ w' g l:=by
 obtain⟨es,c,hh,he⟩:=h;exact⟨es,c,hb.trans hh,he⟩
theorem Up.below{B:Nat}{w':World}(h:Up κ w g l)(hb:Below B w w')(hg:g<B):Up κ w' g l:=h.of_block (hb.block g hg)
theorem Up.alloc(h:Up κ w g l)(o:Obj):Up κ (w.alloc o) g l:=h.of_block (Ze w o g h.lt)
theorem Up.grown{row:Option Nat}{w':World}(h:Up κ w g l)(hg:w.grownBy w' row)(hne:some g≠row):Up κ w' g l:=h.of_block (hg.block g h.lt hne)
theorem Up.setCell{p:Addr}{v:Value}(h:Up κ w g l)(hp:g≠p.block):Up κ (w.setCell p v) g l:=h.of_block (Zd w p v g hp)
end
section
variable {α:Type} [DecidableEq α] {P:Program} {mt kt et:TypeId} {κ:α->Value} {w:World} {g:Nat} {l:List (α×Value)}
theorem nE:∀(l:List (α×Value))(k:α),((l.findIdx? fun p=>decide (p.1=k)).bind fun i=>(l[i]?).map fun p=>(i,p.2)).map (·.2)=Ni l k
 |[],k=>rfl
 |p::r,k=>by
  have ih:=nE r k;unfold Ni at ih |-;rw[List.findIdx?_cons,List.find?_cons];by_cases hp:p.1=k
  ·simp[hp]
  ·simp only[hp,decide_false,Bool.false_eq_true,if_false];rw[<-ih];cases hf:r.findIdx? fun p=>decide (p.1=k) with
   |none=>simp
   |some i=>simp[Option.map_map,Function.comp_def]
theorem Up.lookup(K:Sf P mt kt et κ)(h:Up κ w g l){z:Value}(hz:∀ w:World,(zeroValue et).run P w=.ok z w)(k:α) :
  (Instr.lookup mt (.map (some g)) (κ k) false).run P w=.ok ((Ni l k).getD z) w:=by
 obtain⟨es,c,hh,he⟩:=h;have hf:=K.find k l es.toList w he;have ha:=nE l k;cases hx:((l.findIdx? fun p=>decide (p.1=k)).bind fun i=>(l[i]?).map fun p=>(i,p.2)) with
 |none =>
  rw[hx] at hf ha;rw[<-ha];simp[Instr.lookup,run_underlying K.und,getObj,Sem.run,hh,K.check,hf,hz,Result.andThen]
 |some r =>
  rw[hx] at hf ha;rw[<-ha];simp[Instr.lookup,run_underlying K.und,getObj,Sem.run,hh,K.check,hf,Result.andThen]
theorem Up.lookup_ok(K:Sf P mt kt et κ)(h:Up κ w g l){z:Value}(hz:∀ w:World,(zeroValue et).run P w=.ok z w)(k:α) :
  (Instr.lookup mt (.map (some g)) (κ k) true).run P w=.ok (.tuple #[(Ni l k).getD z,.bool (Ni l k).isSome]) w:=by
 obtain⟨es,c,hh,he⟩:=h;have hf:=K.find k l es.toList w he;have ha:=nE l k;cases hx:((l.findIdx? fun p=>decide (p.1=k)).bind fun i=>(l[i]?).map fun p=>(i,p.2)) with
 |none =>
  rw[hx] at hf ha;rw[<-ha];simp[Instr.lookup,run_underlying K.und,getObj,Sem.run,hh,K.check,hf,hz,Result.andThen]
 |some r =>
  rw[hx] at hf ha;rw[<-ha];simp[Instr.lookup,run_underlying K.und,getObj,Sem.run,hh,K.check,hf,Result.andThen]
theorem kG:∀(l:List (α×Value))(k:α)(v:Value),Wv l k v=match l.findIdx? fun p=>decide (p.1=k) with
  |some i=>l.set i (k,v)
  |none=>l++[(k,v)]
 |[],k,v=>rfl
 |p::r,k,v=>by
  have ih:=kG r k v;unfold Wv;rw[List.findIdx?_cons];by_cases hp:p.1=k
  ·simp[hp]
  ·simp only[hp,decide_false,Bool.false_eq_true,if_false];rw[ih];cases hf:r.findIdx? fun p=>decide (p.1=k) with
   |none=>simp
   |some i=>simp
theorem Up.update(K:Sf P mt kt et κ)(h:Up κ w g l)(k:α)(v:Value) :
  ∃ w',(Instr.mapUpdate mt (.map (some g)) (κ k) v).run P w=.ok () w'/\Up κ w' g (Wv l k v)/\w.grownBy w' (some g)/\w'.heap.size=w.heap.size:=by
 obtain⟨es,c,hh,he⟩:=h;have hf:=K.find k l es.toList w he;have qvY:∀ o:Obj,w.grownBy { w with heap:=w.heap.setIfInBounds g o } (some g):=fun o=>⟨rfl,rfl,rfl,by simp,fun k' _ hne=>by
  have:g≠k':=fun e=>hne (by rw[e])
  simp[Array.getElem?_setIfInBounds_ne this]⟩
 have Ji:g<w.heap.size:=(gl hh);rw[kG];cases hi:l.findIdx? fun p=>decide (p.1=k) with
 |none =>
  rw[hi] at hf;simp only[Option.bind_none] at hf;refine⟨{ w with heap:=w.heap.setIfInBounds g (.map (es.push { key:=κ k,val:=v,born:=c }) (c+1)) },?_,⟨es.push { key:=κ k,val:=v,born:=c },c+1,by simp[Ji],?_⟩,qvY _,by simp⟩
  ·simp[Instr.mapUpdate,run_underlying K.und,getObj,Sem.run,hh,K.check,hf,setObj,Result.andThen]
  ·simp[he]
 |some i =>
  have Wt:i<l.length:=by
   rw[List.findIdx?_eq_some_iff_getElem] at hi;exact hi.1
  have hik:l[i].1=k:=by
   rw[List.findIdx?_eq_some_iff_getElem] at hi;simpa using hi.2.1
  have Ek:es.size=l.length:=by
   have:=congrArg List.length he;simpa using this
  have yv:i<es.size:=by omega
  have hei:(es[i]).key=κ k:=by
   have:=congrArg (fun q=>q[i]?) he;simp[Wt,yv] at this;rw[this.1,hik]
  rw[hi] at hf;simp only[Option.bind_some,Qa Wt,Option.map_some] at hf;refine⟨{ w with heap:=w.heap.setIfInBounds g (.map (es.modify i fun e=>{ e with key:=κ k,val:=v }) c) },?_,⟨es.modify i fun e=>{ e with key:=κ k,val:=v },c,by simp[Ji],?_⟩,qvY _,by simp⟩
  ·simp[Instr.mapUpdate,run_underlying K.und,getObj,Sem.run,hh,K.check,hf,setObj,Result.andThen,Instr.keyThatStays,hei,yv,K.stays]
  ·apply List.ext_getElem?;intro j;have hj:=congrArg (fun q=>q[j]?) he;simp only[Qv,Array.getElem?_toList] at hj |-;rw[Xy,Xv];by_cases Ad:i=j
   ·subst Ad;simp[Wt,yv]
   ·rw[if_neg Ad,if_neg Ad];exact hj
theorem Su{ops:Array Oper}{rest:List Oper}{o:Oper}{a:Act}{Q:Exit->Act->World->Prop}{m x y:Operand}(K:Sf P mt kt et κ)(hgd:o.guard=none)(ho:o.op=.mapUpdate mt m x y)
  {k:α} {v:Value} (hm:a.eval m=.map (some g)) (hx:a.eval x=κ k) (hy:a.eval y=v) (h:Up κ w g l)
  (hK:∀ w',Up κ w' g (Wv l k v)->w.grownBy w' (some g)->w'.heap.size=w.heap.size->wpList P ops Q rest (a.put o.dst undef) w'):wpList P ops Q (o::rest) a w:=by
 refine wpList_plain hgd fun K' hK'=>?_;obtain⟨w',dU,h1,h2,h3⟩:=h.update K k v;unfold Oper.wp execOp;simp only[ho,Zf,Sem.run_pure,hm,hx,hy,dU,Result.andThen];exact hK' _ _ (hK w' h1 h2 h3)
end
theorem Ah{α:Type}[DecidableEq α]{κ:α->Value}{d:TypeDesc}(hs:∀ a b:α,Instr.sameNow d (κ a) (κ b)=some (decide (b=a)))(k:α):∀(l:List (α×Value))(es:List MapEntry)(n:Nat),es.map (fun e=>(e.key,e.val))=l.map (fun p=>(κ p.1,p.2)) ->
  Instr.findNow d (κ k) es n=some ((l.findIdx? fun p=>decide (p.1=k)).bind fun i=>(l[i]?).map fun p=>(n+i,p.2))
 |[],[],n,_=>rfl
 |[],e::es,n,h=>by simp at h
 |p::r,[],n,h=>by simp at h
 |p::r,e::es,n,h=>by
  simp only[List.map_cons,List.cons.injEq,Prod.mk.injEq] at h;unfold Instr.findNow;rw[h.1.1,hs,List.findIdx?_cons];by_cases hp:p.1=k
  ·simp[hp,h.1.2]
  ·simp only[hp,decide_false,Bool.false_eq_true,if_false];rw[Ah hs k r es (n+1) h.2];cases hf:r.findIdx? fun p=>decide (p.1=k) with
   |none=>simp
   |some i=>simp[Yx,Nat.add_comm 1 i]
theorem qnY{α:Type}[DecidableEq α][BEq α][LawfulBEq α](a b:α):(a==b)=decide (b=a):=by
 by_cases e:a=b
 ·subst e;simp
 ·rw[Yo.2 e,Yw fun h=>e h.symm]
theorem Gp(a b:ByteArray):(a==b)=decide (b=a):=by
 obtain⟨x⟩:=a;obtain⟨y⟩:=b;have h:((⟨x⟩:ByteArray)==⟨y⟩)=(x==y):=rfl;rw[h];by_cases e:x=y
 ·subst e;simp
 ·rw[Yo.2 e,Yw fun h=>e (by injection h with h;exact h.symm)]
theorem qdV{P:Program}{mt kt et:TypeId}(h1:P.underlying mt=some (.map kt et))(h2:P.underlying kt=some .string):Sf P mt kt et Value.string where
 und:=h1
 check:=fun b a w=>by
  show (Instr.checkKey b (9999+1) kt (.string a)).run P w=_;unfold Instr.checkKey;simp only[Zf,run_underlying h2,Result.andThen,Sem.run_pure]
 find:=fun k l es w h=>by
  unfold Instr.findKey;have:=Ah (κ:=Value.string) (d:=.string) (fun a b:ByteArray=>(congrArg some (Gp a b):some (a==b)=some (decide (b=a)))) k l es 0 h;simp only[Zf,run_underlying h2,Result.andThen,this,Yq,Sem.run_pure]
 stays:=fun a=>by
  rw[show (10000:Nat)=9999+1 from rfl];have:=Gp a a;simp[Instr.sameBits,this]
theorem qdW{P:Program}{mt kt et:TypeId}{q:IntKind}(h1:P.underlying mt=some (.map kt et))(h2:P.underlying kt=some (.int q)):Sf P mt kt et (Value.int q) where
 und:=h1
 check:=fun b a w=>by
  show (Instr.checkKey b (9999+1) kt (.int q a)).run P w=_;unfold Instr.checkKey;simp only[Zf,run_underlying h2,Result.andThen,Sem.run_pure]
 find:=fun k l es w h=>by
  unfold Instr.findKey;have:=Ah (κ:=Value.int q) (d:=.int q) (fun a b:Int=>(if_pos rfl).trans (congrArg some (qnY a b))) k l es 0 h;simp only[Zf,run_underlying h2,Result.andThen,this,Yq,Sem.run_pure]
 stays:=fun a=>by
  rw[show (10000:Nat)=9999+1 from rfl];simp[Instr.sameBits]
def bV(n m:Nat)(s:Int):Bool:=decide ((n:Int)<=s)||decide (s < -(m:Int))
theorem qnE(g:Nat)(A1 A2:Option Addr)(n m c d:Nat)(s:Int)(w:World)(h1:w.cell? ⟨g,0,none⟩=some (.slice A1 n c))(h2:w.cell? ⟨g,1,none⟩=some (.slice A2 m d))(hm:m<=9223372036854775807) :
  Calls Tryz.prog 193 #[.int .i64 s,.pointer (some ⟨g,0,none⟩)] w fun e w'=>e=.returned (.bool (bV n m s))/\w=w':=by
 by_cases hb:(n:Int)<=s
 ·have hd:decide ((n:Int)<=s)=true:=by simpa using hb
  go_enter Tryz.func193,Tryz.ntmps193;go_wp2;go_ret;exact⟨Kx (Zv (by unfold bV;rw[hd];rfl)),rfl⟩
 ·have hd:decide ((n:Int)<=s)=false:=by simpa using hb
  go_enter Tryz.func193,Tryz.ntmps193;go_wp2
  all_goals
   go_ret;exact⟨Kx (Zv (by rw[Bool.eq_iff_iff];simp[bV] <;> omega)),rfl⟩
def By(n m:Nat)(r:Int×List Int):Bool:=decide (0<=r.1/\r.1<n)&&decide (r.2.length<=64)&&!r.2.any (bV n m)
theorem pw(A1 A2:Option Addr)(v3 v:Value)(n m c d:Nat)(l:Int)(r:List Int)(w:World)(hm:m<=9223372036854775807)(hv:Je Wo w w.heap.size v r) :
  Calls Tryz.prog 129 #[.agg #[.slice A1 n c,.slice A2 m d,v3],.agg #[.int .i64 l,v]] w fun e w'=>e=.returned (.bool (By n m (l,r)))/\Below w.heap.size w w':=by
 obtain⟨B,e,rfl,av,qN⟩:=hv.form;unfold maxLen at qN;by_cases h1:0<=l/\l<n/\r.length<=64
 ·obtain⟨g1,g2,g3⟩:=h1;have HD:Hid (By n m (l,r)=!r.any (bV n m)):=by
   show _=_;unfold By;simp[g1,g2,g3]
  go_enter Tryz.func129,Tryz.ntmps129;go_wp2_with fail;have aw:Below w.heap.size w ((w.alloc (Obj.cells #[Value.slice A1 n c,Value.slice A2 m d,v3] 25)).alloc (Obj.cells #[Value.int IntKind.i64 l,Value.slice B r.length e] 63)):=by go_grown
  refine (qnN 193 #[.pointer (some ⟨w.heap.size,0,none⟩)] (bV n m) _ r _ (hv.next aw (by simp;omega)) (fun _ _=>by kernel_rfl) ?_).mono ?_
  ·intro cs x w2 hx Ja _;refine (qnE w.heap.size A1 A2 n m c d x w2 ?_ ?_ hm).mono fun e w3 ⟨he,hw⟩=>⟨he,hw ▸ Xr _ _⟩
   ·rw[Ja.cell (p:=⟨w.heap.size,0,none⟩) (by simp;omega)];simp
   ·rw[Ja.cell (p:=⟨w.heap.size,1,none⟩) (by simp;omega)];simp
  rintro e w1 ⟨rfl,hb1⟩;go_wp2;go_ret;exact⟨Kx (Zv (by rw[HD.o])),aw.trans (hb1.mono (by simp;omega))⟩
 ·have HD:Hid (By n m (l,r)=false):=by
   show _=_;unfold By;rw[Bool.eq_false_iff];intro h;simp at h;exact h1 ⟨h.1.1.1,h.1.1.2,h.1.2⟩
  have hc:l<0\/(0<=l/\(n:Int)<=l)\/(0<=l/\l<n/\64<r.length):=by omega
  rcases hc with h | ⟨h,h'⟩ | ⟨h,h',h''⟩
  all_goals
   go_enter Tryz.func129,Tryz.ntmps129;go_wp2
   all_goals first
    |(exfalso;omega)
    |(exfalso;simp at *;omega)
    |(go_ret;exact⟨Kx (Zv (by rw[HD.o])),by go_grown⟩)
def Ir(rs:List (Int×List Int))(left:Int)(k:Nat):List Int:=((List.range k).filter fun i:Nat=>decide ((rs.getD i (0,[])).1=left)).map fun i:Nat=>Int.ofNat i
theorem qdE(rs:List (Int×List Int))(left:Int)(k:Nat)(h:k<rs.length):Ir rs left (k+1)=Ir rs left k++if rs[k].1=left then [(k:Int)] else []:=by
 unfold Ir;rw[List.range_succ,List.filter_append,Qt];simp[Qa h,List.filter_cons];split <;> simp
theorem qsJ(rs:List (Int×List Int))(left:Int)(k:Nat):(Ir rs left k).length<=k:=by
 unfold Ir;rw[Qk];exact Yb (List.length_filter_le _ _) (by simp)
theorem dC:Dc Tryz.prog 61 3 1 8 (.int .i64 0):=Gq Tryz.underlying61 (by kernel_rfl) rfl (by omega)
def Kl(l:List Int):List Value:=l.map (Value.int .i64)
theorem ey(A1 A2:Option Addr)(v3:Value)(n m c d:Nat)(left:Int)(rs:List (Int×List Int))(w:World)(hv:Je Vv w w.heap.size v3 rs)(hr:rs.length<=1099511627776) :
  Calls Tryz.prog 130 #[.agg #[.slice A1 n c,.slice A2 m d,v3],.int .i64 left] w fun e w'=>∃ v,e=.returned v /\
   w'.ownsRow w.heap.size 3 1 v (Ir rs left rs.length).length (Kl (Ir rs left rs.length))/\Below w.heap.size w w':=by
 obtain⟨B,e,rfl,av,qN⟩:=hv.form;unfold maxLen at qN;go_enter Tryz.func130,Tryz.ntmps130;go_wp2_with fail;go_loopw [5,11] (fun v5 v11 wr=>∃ k:Nat,k<=rs.length/\v11=.int .i64 k/\wr.ownsRow w.heap.size 3 1 v5 (Ir rs left k).length (Kl (Ir rs left k))/\Below w.heap.size w wr) (fun _ v11 _=>rs.length - (intOf v11).toNat);exact⟨0,by omega,rfl,by simpa[Ir,Kl] using Yz _ _ _ _,by go_grown⟩;obtain⟨k,hk,rfl,hown,hbr⟩:=hrel;by_cases Ji:k<rs.length
 ·obtain⟨ab,ao,cs,rfl,_,Lj,Zx,Zm⟩:=(hv.below hbr).get Ji (by decide);obtain⟨u,rfl,hu,Ib,Sc⟩:=Kq Zx;obtain⟨A3,e3,rfl,_,_⟩:=hu.form;have Vh:=Zm 0 _ rfl;have gN:=Zm 1 _ rfl;clear Zm;simp only[show Vv.size=2 from rfl,Yp,<-Yx] at Vh gN;have hsn:=Lh (qdE rs left k Ji);have hle:=qsJ rs left k;have hbs:=hbr.size;by_cases hq:rs[k].1=left
  ·have hqb:(rs[k].1==left)=true:=by simp[hq]
   have HQ:=Lh hq;clear hq;go_wp2_with (at_builtin;refine Zz dC rfl rfl rfl rfl ((hown.alloc _).alloc _) (Rd.row (B:=wr.heap.size+2) (Fu wr _ _) (by omega)) rfl (by simp[Value.oneCell']) ?h63 ?hby ?hbase ?_)
   case h63=>simp only[maxLen];omega
   case hby=>omega
   case hbase=>simp;omega
   intro v1 w3 Tf mN _ _;go_wp2;go_roundw
   case rel =>
    refine⟨k+1,by omega,by go_num,?_,?_⟩
    ·rw[hsn.o,if_pos HQ.o];simpa[Kl] using Tf
    ·exact Zt ((hbr.alloc hbs _).alloc (by simp;omega) _) mN ((hown.alloc _).alloc _) (Ya _) (by simp;omega)
   case measure=>simp[intOf];omega
  ·have hqb:(rs[k].1==left)=false:=by simp[hq]
   have HQ:=Lh hq;clear hq;go_wp2;go_roundw;exact⟨k+1,by omega,by go_num,by rw[hsn.o,if_neg HQ.o,List.append_nil];exact hown.alloc _,hbr.alloc hbs _⟩;simp[intOf];omega
 ·have Eu:k=rs.length:=by omega
  subst Eu;go_wp2;go_ret;exact⟨_,rfl,hown,hbr⟩
def Nr(may:List UInt8->Bool)(ns:List ByteArray):Bool:=ns.all (fun s=>may s.data.toList)&&decide ns.Nodup
def Iq(ns:List ByteArray):List (ByteArray×Value):=ns.map fun n=>(n,.int .i64 1)
theorem K_(ns:List ByteArray)(s:ByteArray):Ni (Iq ns) s=if ns.any (fun n=>decide (n=s)) then some (Value.int .i64 1) else none:=by
 unfold Ni Iq
 induction ns with
 |nil=>rfl
 |cons n ns ih =>
  rw[List.map_cons,List.find?_cons];by_cases h:n=s
  ·subst h;simp
  ·simp only[h,decide_false,List.any_cons,Ys];rw[ih]
theorem xY(ns:List ByteArray)(s:ByteArray)(v:Value)(h:s∉ns):Wv (Iq ns) s v=Iq ns++[(s,v)]:=by
 induction ns with
 |nil=>rfl
 |cons n ns ih =>
  simp only[List.mem_cons,not_or] at h;show Wv ((n,Value.int .i64 1)::Iq ns) s v=_;unfold Wv;rw[if_neg (Ne.symm h.1),ih h.2];rfl
theorem mi(ns:List ByteArray)(k:Nat)(h:k<ns.length):Iq (ns.take (k+1))=Iq (ns.take k)++[(ns[k],.int .i64 1)]:=by
 rw[Qc h];unfold Iq;rw[Qt];rfl
theorem nQ:Sf Tryz.prog 147 9 3 Value.string:=qdV Tryz.underlying147 Tryz.underlying9
theorem iN(w:World):(zeroValue 3).run Tryz.prog w=.ok (.int .i64 0) w:=by kernel_rfl
end Go.Proofs.YtmaojnmnbpomeaaGreatDoor
