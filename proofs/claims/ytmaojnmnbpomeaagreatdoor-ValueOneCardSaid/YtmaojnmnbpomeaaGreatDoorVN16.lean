/- A part. -/
import Derived.Test.YtmaojnmnbpomeaaGreatDoorVN15
set_option maxRecDepth 100000
set_option maxHeartbeats 64000000
namespace Go.Proofs.YtmaojnmnbpomeaaGreatDoor
open Go.RowKit
variable{cs:Array Value}{may:Int->Bool}{x:Kd}{toks:List Kz}{ns ts:List Wd}{a b base e g i k n:Nat}{t:Nat×Wd×Nat}{v:Value}{l s:Wd}{w:World}
theorem dH(v1 v2 v3 u1 u2 u3:Value)(g h:Kd)(w:World)(hg:jR w w.heap.size v1 v2 v3 g)(hh:jR w w.heap.size u1 u2 u3 h) :
  Calls Tryz.prog 21 #[.agg #[v1,v2,v3],.agg #[u1,u2,u3]] w fun e w'=>e=.returned (.bool (decide (g=h)))/\Below w.heap.size w w':=by
 obtain⟨A1,A2,A3,c1,c2,c3,rfl,rfl,rfl⟩:=hg.form;obtain⟨B1,B2,B3,d1,d2,d3,rfl,rfl,rfl⟩:=hh.form;obtain⟨S,hS⟩:=Xe w.heap.size;have HSE:=Lh hS;have HNE:=Lt ((g.1≠h.1\/g.2.1≠h.2.1\/g.2.2≠h.2.2)->decide (g=h)=false) (fun e=>Yx fun e2=>by subst e2;simp at e);have HEQ:=Lt (g.1=h.1->g.2.1=h.2.1->g.2.2=h.2.2->decide (g=h)=true) (fun a b c=>Yw (Prod.ext a (Prod.ext b c)));have me:=Lh hg;have HHH:=Lh hh;have hn1:=hg.names.n_le;have t_:=hg.terms.n_le;have hn3:=hg.rules.n_le;have lH:=hh.names.n_le;have hm2:=hh.terms.n_le;have hm3:=hh.rules.n_le;obtain⟨n1,Lr⟩:∃n,n=g.1.length:=⟨_,rfl⟩;obtain⟨n2,dB⟩:∃n,n=g.2.1.length:=⟨_,rfl⟩;obtain⟨n3,hx3⟩:∃n,n=g.2.2.length:=⟨_,rfl⟩;obtain⟨m1,sG⟩:∃n,n=h.1.length:=⟨_,rfl⟩;obtain⟨m2,wF⟩:∃n,n=h.2.1.length:=⟨_,rfl⟩;obtain⟨m3,sh⟩:∃n,n=h.2.2.length:=⟨_,rfl⟩;rw[<-Lr,<-dB,<-hx3]at me;rw[<-sG,<-wF,<-sh]at HHH;rw[<-Lr]at hn1;rw[<-dB]at t_;rw[<-hx3]at hn3;rw[<-sG]at lH;rw[<-wF]at hm2;rw[<-sh]at hm3;rw[<-Lr,<-dB,<-hx3,<-sG,<-wF,<-sh];have HL:=Lt (n1=g.1.length/\n2=g.2.1.length/\n3=g.2.2.length/\m1=h.1.length/\m2=h.2.1.length/\m3=h.2.2.length) (⟨Lr,dB,hx3,sG,wF,sh⟩);clear hg hh Lr dB hx3 sG wF sh;have HB1:=Lt (Below w.heap.size w ((w.alloc (.cells #[.slice A1 n1 c1,.slice A2 n2 c2,.slice A3 n3 c3] 25)).alloc (.cells #[.slice B1 m1 d1,.slice B2 m2 d2,.slice B3 m3 d3] 25))) (((Xr _ _).alloc (Yb _) _).alloc (by rw[Xs];omega) _);have HG1:=Lh (Go.heap_alloc2_old w (.cells #[.slice A1 n1 c1,.slice A2 n2 c2,.slice A3 n3 c3] 25) (.cells #[.slice B1 m1 d1,.slice B2 m2 d2,.slice B3 m3 d3] 25));have HH1:=Lh (Go.heap_alloc2_new w (.cells #[.slice A1 n1 c1,.slice A2 n2 c2,.slice A3 n3 c3] 25) (.cells #[.slice B1 m1 d1,.slice B2 m2 d2,.slice B3 m3 d3] 25));rw[<-hS]at HG1 HH1;by_cases e1:n1=m1
 .by_cases e2:n2=m2
  .by_cases e3:n3=m3
   .subst e1 e2 e3;go_enter Tryz.func21,Tryz.ntmps21;go_wp2_with fail;rw[<-hS];clear hS;generalize (w.alloc (.cells #[.slice A1 n1 c1,.slice A2 n2 c2,.slice A3 n3 c3] 25)).alloc (.cells #[.slice B1 n1 d1,.slice B2 n2 d2,.slice B3 n3 d3] 25)=w1 at*;have HBL:=Lh (Xr w1.heap.size w1);have HSW:=Lt (S<w1.heap.size/\S+1<w1.heap.size) (⟨(gl HG1.o),(gl HH1.o)⟩);go_loopg [5] n1 (fun left v5 wr=>∃i:Nat,i<=n1/\n1-i<=left/\v5=.int .i64 i/\Hid (g.1.take i=h.1.take i)/\Hid (Below w1.heap.size w1 wr));exact⟨0,by omega,by omega,rfl,by simp[Hid],HBL.o⟩;clear HBL;obtain⟨i,hi,Ef,rfl,HE,HBL⟩:=hrel;have HGR:=Lh ((HBL.o.block S HSW.o.1).trans HG1.o);have HHR:=Lh ((HBL.o.block (S+1) HSW.o.2).trans HH1.o);obtain⟨a0,a1,a2⟩:=Zq HGR.o;obtain⟨b0,b1,b2⟩:=Zq HHR.o;by_cases Oh:i<n1
    .have HBW:=Lh (HB1.o.trans (HBL.o.mono HB1.o.size));have Gj:i<g.1.length:=by rw[<-HL.o.1];exact Oh
     have Rj:i<h.1.length:=by rw[<-HL.o.2.2.2.1];exact Oh
     obtain⟨ab,ao,cs,rfl,_,Bg,Ja,Zn⟩:=(me.o.names.below HBW.o).get Gj (by decide);obtain⟨rfl,Ik⟩:=Ja;have x0:=Zn 0 _ rfl;obtain⟨bb,bo,cs,rfl,_,ng,Ja,Jr⟩:=(HHH.o.names.below HBW.o).get Rj (by decide);obtain⟨rfl,Si⟩:=Ja;have y0:=Jr 0 _ rfl;clear Zn Jr;simp only[show Mi.size=1 from rfl,Ys,Yq]at x0 y0;have HT:=Lh (Qc Gj);have HT2:=Lh (Qc Rj);have Po:=Lh (Qa Gj);have dY:=Lh (Qa Rj);have HNO:=Lh (show g.1[i]≠h.1[i]->decide (g=h)=false from fun e=>HNE.o (.inl fun e1=>e (by
      have e2:=Po.o.symm.trans ((congrArg (fun l:List ByteArray=>l[i]?) e1).trans dY.o)
      injection e2)))
     clear Po dY;generalize g.1[i]=x at*;generalize h.1[i]=y at*;clear Gj Rj;by_cases heq:x=y
     .have hq:(x.toList==y.toList)=true:=by rw[heq];exact beq_self_eq_true _
      have HQ:=Lh heq;clear heq;go_wp2;refine Text.wt (by kernel_rfl) fun Q' hQ'=>?_;go_wp2;refine⟨by rfl,?_⟩;go_wp2;go_roundg (gk-1);exact⟨i+1,by omega,by omega,by go_num,by show _=_;rw[HT.o,HT2.o,HE.o,HQ.o],HBL.o.drew⟩;omega
     have hq:(x.toList==y.toList)=false:=by rw[<-beq_toListBytes,Re,Yl];exact fun e=>heq e.symm
     have HR:=Lh (HNO.o heq);clear heq;go_wp2;refine Text.wt (by kernel_rfl) fun Q' hQ'=>?_;go_wp2;refine⟨by rfl,?_⟩;go_wp2;go_ret;exact⟨Kw (Zw HR.o.symm),by first|exact HBW.o.drew|(rw[HSE.o];exact HBW.o.drew)⟩
    have HF5:=Lh (show g.1=h.1 by
     have:=HE.o
     rwa [Qd (by rw[<-HL.o.1];omega),Qd (by rw[<-HL.o.2.2.2.1];omega)]at this)
    clear HE;generalize wr=wo5 at*;go_wp2_with fail;clear a0 a1 a2 b0 b1 b2;go_loopg [6] n2 (fun left v6 wr=>∃i:Nat,i<=n2/\n2-i<=left/\v6=.int .i64 i/\Hid (g.2.1.take i=h.2.1.take i)/\Hid (Below w1.heap.size w1 wr));exact⟨0,by omega,by omega,rfl,by simp[Hid],HBL.o⟩;clear HBL;obtain⟨i,hi,Ef,rfl,HE,HBL⟩:=hrel;have HGR:=Lh ((HBL.o.block S HSW.o.1).trans HG1.o);have HHR:=Lh ((HBL.o.block (S+1) HSW.o.2).trans HH1.o);obtain⟨a0,a1,a2⟩:=Zq HGR.o;obtain⟨b0,b1,b2⟩:=Zq HHR.o;by_cases Oh:i<n2
    .have HBW:=Lh (HB1.o.trans (HBL.o.mono HB1.o.size));have Gj:i<g.2.1.length:=by rw[<-HL.o.2.1];exact Oh
     have Rj:i<h.2.1.length:=by rw[<-HL.o.2.2.2.2.1];exact Oh
     obtain⟨ab,ao,cs,rfl,_,Bg,Ja,Zn⟩:=(me.o.terms.below HBW.o).get Gj (by decide);obtain⟨rfl,Ik⟩:=Ja;have x0:=Zn 0 _ rfl;obtain⟨bb,bo,cs,rfl,_,ng,Ja,Jr⟩:=(HHH.o.terms.below HBW.o).get Rj (by decide);obtain⟨rfl,Si⟩:=Ja;have y0:=Jr 0 _ rfl;clear Zn Jr;simp only[show Mi.size=1 from rfl,Ys,Yq]at x0 y0;have HT:=Lh (Qc Gj);have HT2:=Lh (Qc Rj);have Po:=Lh (Qa Gj);have dY:=Lh (Qa Rj);have HNO:=Lh (show g.2.1[i]≠h.2.1[i]->decide (g=h)=false from fun e=>HNE.o (.inr <| .inl fun e1=>e (by
      have e2:=Po.o.symm.trans ((congrArg (fun l:List ByteArray=>l[i]?) e1).trans dY.o)
      injection e2)))
     clear Po dY;generalize g.2.1[i]=x at*;generalize h.2.1[i]=y at*;clear Gj Rj;by_cases heq:x=y
     .have hq:(x.toList==y.toList)=true:=by rw[heq];exact beq_self_eq_true _
      have HQ:=Lh heq;clear heq;go_wp2;refine Text.wt (by kernel_rfl) fun Q' hQ'=>?_;go_wp2;refine⟨by rfl,?_⟩;go_wp2;go_roundg (gk-1);exact⟨i+1,by omega,by omega,by go_num,by show _=_;rw[HT.o,HT2.o,HE.o,HQ.o],HBL.o.drew⟩;omega
     have hq:(x.toList==y.toList)=false:=by rw[<-beq_toListBytes,Re,Yl];exact fun e=>heq e.symm
     have HR:=Lh (HNO.o heq);clear heq;go_wp2;refine Text.wt (by kernel_rfl) fun Q' hQ'=>?_;go_wp2;refine⟨by rfl,?_⟩;go_wp2;go_ret;exact⟨Kw (Zw HR.o.symm),by first|exact HBW.o.drew|(rw[HSE.o];exact HBW.o.drew)⟩
    have HF6:=Lh (show g.2.1=h.2.1 by
     have:=HE.o
     rwa [Qd (by rw[<-HL.o.2.1];omega),Qd (by rw[<-HL.o.2.2.2.2.1];omega)]at this)
    clear HE;generalize wr=wo6 at*;go_wp2_with fail;clear a0 a1 a2 b0 b1 b2;go_loopg [7] n3 (fun left v7 wr=>∃i:Nat,i<=n3/\n3-i<=left/\v7=.int .i64 i/\Hid (g.2.2.take i=h.2.2.take i)/\Hid (Below w1.heap.size w1 wr));exact⟨0,by omega,by omega,rfl,by simp[Hid],HBL.o⟩;clear HBL;obtain⟨i,hi,Ef,rfl,HE,HBL⟩:=hrel;have HGR:=Lh ((HBL.o.block S HSW.o.1).trans HG1.o);have HHR:=Lh ((HBL.o.block (S+1) HSW.o.2).trans HH1.o);obtain⟨a0,a1,a2⟩:=Zq HGR.o;obtain⟨b0,b1,b2⟩:=Zq HHR.o;by_cases Oh:i<n3
    .have HBW:=Lh (HB1.o.trans (HBL.o.mono HB1.o.size));have Gj:i<g.2.2.length:=by rw[<-HL.o.2.2.1];exact Oh
     have Rj:i<h.2.2.length:=by rw[<-HL.o.2.2.2.2.2];exact Oh
     obtain⟨ab,ao,cs1,rfl,_,Bg,Ev,Kr⟩:=(me.o.rules.below HBW.o).get Gj (by decide);obtain⟨v1,rfl,jU,Ik,Si⟩:=Kn Ev;have x0:=Kr 0 _ rfl;have x1:=Kr 1 _ rfl;obtain⟨bb,bo,cs2,rfl,_,ng,Mv,Jr⟩:=(HHH.o.rules.below HBW.o).get Rj (by decide);obtain⟨v2,rfl,qJ,hz3,hz4⟩:=Kn Mv;have y0:=Jr 0 _ rfl;have y1:=Jr 1 _ rfl;simp only[show Vw.size=2 from rfl,Yq,<-Yy]at x0 x1 y0 y1;obtain⟨A4,c4,rfl,tq,h42⟩:=jU.form;obtain⟨A5,c5,rfl,h51,h52⟩:=qJ.form;have hbs:=HBW.o.size;have Lg:=Lh (fun w2 (hb:Below wr.heap.size wr w2)=>uG _ _ _ _ w2 (jU.fut hb hbs (Yd hbs hb.size)) (qJ.fut hb hbs (Yd hbs hb.size)));have HT:=Lh (Qc Gj);have HT2:=Lh (Qc Rj);have Po:=Lh (Qa Gj);have dY:=Lh (Qa Rj);have HNO:=Lh (show g.2.2[i]≠h.2.2[i]->decide (g=h)=false from fun e=>HNE.o (.inr (.inr fun e1=>e (by
      have e2:=Po.o.symm.trans ((congrArg (fun l:List Jj=>l[i]?) e1).trans dY.o)
      injection e2))))
     clear Po dY Kr Jr Ev Mv jU qJ Ik Si hz3 hz4 tq h42 h51 h52;generalize g.2.2[i]=x at*;generalize h.2.2[i]=y at*;clear Gj Rj;obtain⟨l1,r1⟩:=x;obtain⟨l2,r2⟩:=y;simp only at x0 x1 y0 y1 Lg;by_cases mS:l1=l2
     .have hq:(l1==l2)=true:=by simp[mS]
      have hq2:(l1 != l2)=false:=by simp[mS]
      by_cases rF:r1=r2
      .simp only[Yw rF]at Lg;have HQ:=Lh (show ((l1,r1):Jj)=(l2,r2) by rw[mS,rF]);clear rF mS;go_wp2_with fail;refine Text.wp_grow [26] [1,5,7,11,15,19,21,25] [] (by kernel_rfl) (by kernel_rfl) ?_;refine Text.wpS_seg 26 _ _ _ _ (by decide) (fun Q' hQ'=>?_);simp only[Xta,Xtz];go_wp2_with fail
       try simp only[Yr,Xy,List.drop_zero]
       refine Text.wpS_one (fun Q' hQ'=>?_);go_wp2_with fail;refine (Lg.o _ Ui).mono ?_;rintro e w5 ⟨rfl,hb5⟩;go_wp2_with fail;refine⟨hb5,?_⟩;refine Text.wpS_seg 2 _ _ _ _ (by decide) (fun Q' hQ'=>?_);simp only[Xta,Xtz];go_wp2;refine⟨by rfl,?_,?_⟩
       .exact⟨fun _=>⟨_,_,rfl,a2⟩,fun _=>⟨_,_,rfl,x0⟩,fun _=>⟨_,_,rfl,b2⟩,fun _=>⟨_,_,rfl,y0⟩,fun _=>⟨_,_,rfl,a2⟩,fun _=>⟨_,_,rfl,x1⟩,fun _=>⟨_,_,rfl,b2⟩,fun _=>⟨_,_,rfl,y1⟩,trivial⟩
       have HB5:=Lh (HBL.o.trans ((Ui.trans hb5).mono HBL.o.size));clear hb5;go_wp2;go_roundg (gk-1);exact⟨i+1,by omega,by omega,by go_num,by show _=_;rw[HT.o,HT2.o,HE.o,HQ.o],HB5.o⟩;omega
      simp only[Yx rF]at Lg;have HR:=Lh (HNO.o (by intro e;injection e with _ e;exact rF e));clear rF mS;go_wp2_with fail;refine Text.wp_grow [26] [1,5,7,11,15,19,21,25] [] (by kernel_rfl) (by kernel_rfl) ?_;refine Text.wpS_seg 26 _ _ _ _ (by decide) (fun Q' hQ'=>?_);simp only[Xta,Xtz];go_wp2_with fail
      try simp only[Yr,Xy,List.drop_zero]
      refine Text.wpS_one (fun Q' hQ'=>?_);go_wp2_with fail;refine (Lg.o _ Ui).mono ?_;rintro e w5 ⟨rfl,hb5⟩;go_wp2_with fail;refine⟨hb5,?_⟩;refine Text.wpS_seg 2 _ _ _ _ (by decide) (fun Q' hQ'=>?_);simp only[Xta,Xtz];go_wp2;refine⟨by rfl,?_,?_⟩
      .exact⟨fun _=>⟨_,_,rfl,a2⟩,fun _=>⟨_,_,rfl,x0⟩,fun _=>⟨_,_,rfl,b2⟩,fun _=>⟨_,_,rfl,y0⟩,fun _=>⟨_,_,rfl,a2⟩,fun _=>⟨_,_,rfl,x1⟩,fun _=>⟨_,_,rfl,b2⟩,fun _=>⟨_,_,rfl,y1⟩,trivial⟩
      have HB5:=Lh (HBL.o.trans ((Ui.trans hb5).mono HBL.o.size));clear hb5;go_wp2;go_ret;exact⟨Kw (Zw HR.o.symm),by first|exact HB1.o.trans (HB5.o.mono HB1.o.size)|(rw[HSE.o];exact HB1.o.trans (HB5.o.mono HB1.o.size))⟩
     have hq:(l1 != l2)=true:=by simpa using mS
     have HR:=Lh (HNO.o (by intro e;injection e with e _;exact mS e));clear mS;go_wp2_with fail;refine Text.wp_grow [26] [1,5,7,11,15,19,21,25] [] (by kernel_rfl) (by kernel_rfl) ?_;refine Text.wpS_seg 26 _ _ _ _ (by decide) (fun Q' hQ'=>?_);simp only[Xta,Xtz];go_wp2_with fail
     try simp only[Yr,Xy,List.drop_zero]
     refine Text.wpS_one (fun Q' hQ'=>?_);go_wp2_with fail;refine⟨Xr _ _,?_⟩;refine Text.wpS_seg 2 _ _ _ _ (by decide) (fun Q' hQ'=>?_);simp only[Xta,Xtz];go_wp2;refine⟨by rfl,?_,?_⟩
     .exact⟨fun _=>⟨_,_,rfl,a2⟩,fun _=>⟨_,_,rfl,x0⟩,fun _=>⟨_,_,rfl,b2⟩,fun _=>⟨_,_,rfl,y0⟩,Text.no_want rfl,Text.no_want rfl,Text.no_want rfl,Text.no_want rfl,trivial⟩
     go_wp2;go_ret;exact⟨Kw (Zw HR.o.symm),by first|exact HBW.o.drew|(rw[HSE.o];exact HBW.o.drew)⟩
    have HF7:=Lh (show g.2.2=h.2.2 by
     have:=HE.o
     rwa [Qd (by rw[<-HL.o.2.2.1];omega),Qd (by rw[<-HL.o.2.2.2.2.2];omega)]at this)
    have HR:=Lh (HEQ.o HF5.o HF6.o HF7.o);go_wp2;go_ret;exact⟨Kw (Zw HR.o.symm),by first|exact HB1.o.trans (HBL.o.mono HB1.o.size)|(rw[HSE.o];exact HB1.o.trans (HBL.o.mono HB1.o.size))⟩
   have hd:((n3:Int) != m3)=true:=by simpa using (show ¬ (n3:Int)=m3 by omega)
   have HR:=Lh (HNE.o (.inr (.inr fun e=>e3 (by rw[HL.o.2.2.1,HL.o.2.2.2.2.2,e]))));clear e3;subst e1 e2;go_enter Tryz.func21,Tryz.ntmps21;go_wp2_with fail;rw[<-hS];clear hS;generalize (w.alloc (.cells #[.slice A1 n1 c1,.slice A2 n2 c2,.slice A3 n3 c3] 25)).alloc (.cells #[.slice B1 n1 d1,.slice B2 n2 d2,.slice B3 m3 d3] 25)=w1 at*;go_ret;exact⟨Kw (Zw HR.o.symm),by first|exact HB1.o|(rw[HSE.o];exact HB1.o)⟩
  have hd:((n2:Int) != m2)=true:=by simpa using (show ¬ (n2:Int)=m2 by omega)
  have HR:=Lh (HNE.o (.inr (.inl fun e=>e2 (by rw[HL.o.2.1,HL.o.2.2.2.2.1,e]))));clear e2;subst e1;go_enter Tryz.func21,Tryz.ntmps21;go_wp2_with fail;rw[<-hS];clear hS;generalize (w.alloc (.cells #[.slice A1 n1 c1,.slice A2 n2 c2,.slice A3 n3 c3] 25)).alloc (.cells #[.slice B1 n1 d1,.slice B2 m2 d2,.slice B3 m3 d3] 25)=w1 at*;go_ret;exact⟨Kw (Zw HR.o.symm),by first|exact HB1.o|(rw[HSE.o];exact HB1.o)⟩
 have hd:((n1:Int) != m1)=true:=by simpa using (show ¬ (n1:Int)=m1 by omega)
 have HR:=Lh (HNE.o (.inl fun e=>e1 (by rw[HL.o.1,HL.o.2.2.2.1,e])));clear e1;go_enter Tryz.func21,Tryz.ntmps21;go_wp2_with fail;rw[<-hS];clear hS;generalize (w.alloc (.cells #[.slice A1 n1 c1,.slice A2 n2 c2,.slice A3 n3 c3] 25)).alloc (.cells #[.slice B1 m1 d1,.slice B2 m2 d2,.slice B3 m3 d3] 25)=w1 at*;go_ret;exact⟨Kw (Zw HR.o.symm),by first|exact HB1.o|(rw[HSE.o];exact HB1.o)⟩
theorem yX(v1 v2 v3 vr vm u1 u2 u3 ur um:Value)(v u:Nv)(w:World)(hv:Lz w w.heap.size v1 v2 v3 vr vm v)(hu:Lz w w.heap.size u1 u2 u3 ur um u) :
  Calls Tryz.prog 10 #[Pq v1 v2 v3 vr vm v.2.1,Pq u1 u2 u3 ur um u.2.1] w fun e w'=>e=.returned (.bool (decide (v=u)))/\Below w.heap.size w w':=by
 obtain⟨A1,A2,A3,A4,A5,c1,c2,c3,c4,c5,rfl,rfl,rfl,rfl,rfl⟩:=hv.form;obtain⟨B1,B2,B3,B4,B5,d1,d2,d3,d4,d5,rfl,rfl,rfl,rfl,rfl⟩:=hu.form;have HV:=Lh hv;have HU:=Lh hu;obtain⟨S,hS⟩:=Xe w.heap.size;have HG:=Lh (fun(W:World)(hb:Below w.heap.size w W)=>dH _ _ _ _ _ _ v.1 u.1 W (HV.o.fut hb (Yb _) hb.size).gram (HU.o.fut hb (Yb _) hb.size).gram);have HR:=Lh (fun(W:World)(hb:Below w.heap.size w W)=>uF _ _ v.2.2.1 u.2.2.1 W (HV.o.fut hb (Yb _) hb.size).rows (HU.o.fut hb (Yb _) hb.size).rows);have HM:=Lh (fun(W:World)(hb:Below w.heap.size w W)=>rC _ _ v.2.2.2 u.2.2.2 W (HV.o.fut hb (Yb _) hb.size).machs (HU.o.fut hb (Yb _) hb.size).machs);have HNE:=Lh (fun h=>qmK (v:=v) (u:=u) h);have HEQ:=Lh (fun a b c=>qmL (v:=v) (u:=u) a b c);clear hv hu HV HU;unfold Pq;generalize v.1.1.length=n1 at*;generalize v.1.2.1.length=n2 at*;generalize v.1.2.2.length=n3 at*;generalize v.2.2.1.length=n4 at*;generalize v.2.2.2.length=n5 at*;generalize u.1.1.length=m1 at*;generalize u.1.2.1.length=m2 at*;generalize u.1.2.2.length=m3 at*;generalize u.2.2.1.length=m4 at*;generalize u.2.2.2.length=m5 at*;obtain⟨k,hk⟩:=Xe v.2.1;obtain⟨j,hj⟩:=Xe u.2.1;rw[<-hk,<-hj];have HKJ:=Lt (k=v.2.1/\j=u.2.1) (⟨hk,hj⟩);clear hk hj;have HB1:=Lt (Below w.heap.size w ((w.alloc (.cells #[.slice A1 n1 c1,.slice A2 n2 c2,.slice A3 n3 c3,.int .i64 k,.slice A4 n4 c4,.slice A5 n5 c5] 31)).alloc (.cells #[.slice B1 m1 d1,.slice B2 m2 d2,.slice B3 m3 d3,.int .i64 j,.slice B4 m4 d4,.slice B5 m5 d5] 31))) (((Xr _ _).alloc (Yb _) _).alloc (by rw[Xs];omega) _);have Ca:=Lh (Go.heap_alloc2_old w (.cells #[.slice A1 n1 c1,.slice A2 n2 c2,.slice A3 n3 c3,.int .i64 k,.slice A4 n4 c4,.slice A5 n5 c5] 31) (.cells #[.slice B1 m1 d1,.slice B2 m2 d2,.slice B3 m3 d3,.int .i64 j,.slice B4 m4 d4,.slice B5 m5 d5] 31));have kA:=Lh (Go.heap_alloc2_new w (.cells #[.slice A1 n1 c1,.slice A2 n2 c2,.slice A3 n3 c3,.int .i64 k,.slice A4 n4 c4,.slice A5 n5 c5] 31) (.cells #[.slice B1 m1 d1,.slice B2 m2 d2,.slice B3 m3 d3,.int .i64 j,.slice B4 m4 d4,.slice B5 m5 d5] 31));rw[<-hS]at Ca kA;by_cases e0:k=j
 .have g0:(k==j)=true:=by simp[e0]
  have HE0:=Lt (v.2.1=u.2.1) (HKJ.o.1.symm.trans (e0.trans HKJ.o.2));clear e0;by_cases e1:v.1=u.1
  .simp only[Yw e1]at HG;have HE1:=Lh e1;clear e1;by_cases e2:v.2.2.1=u.2.2.1
   .simp only[Yw e2]at HR;have Jw:=Lh (HEQ.o HE1.o HE0.o e2);clear e2;go_enter Tryz.func10,Tryz.ntmps10;go_wp2_with (refine Zv (some 5) rfl ?_);rw[<-hS];clear hS;refine Stop.go ?_;generalize (w.alloc (.cells #[.slice A1 n1 c1,.slice A2 n2 c2,.slice A3 n3 c3,.int .i64 k,.slice A4 n4 c4,.slice A5 n5 c5] 31)).alloc (.cells #[.slice B1 m1 d1,.slice B2 m2 d2,.slice B3 m3 d3,.int .i64 j,.slice B4 m4 d4,.slice B5 m5 d5] 31)=w1 at*;obtain⟨a0,a1,a2,a3,a4,a5⟩:=Zu Ca.o;obtain⟨b0,b1,b2,b3,b4,b5⟩:=Zu kA.o;go_wp2_with fail;refine (HG.o w1 HB1.o).mono ?_;rintro e w2 ⟨rfl,hb⟩;have HB2:=Lh (HB1.o.trans (hb.mono HB1.o.size));have bR:=Lh ((hb.block S (gl Ca.o)).trans Ca.o);have fF:=Lh ((hb.block (S+1) (gl kA.o)).trans kA.o);clear hb a0 a1 a2 a3 a4 a5 b0 b1 b2 b3 b4 b5;obtain⟨a0,a1,a2,a3,a4,a5⟩:=Zu bR.o;obtain⟨b0,b1,b2,b3,b4,b5⟩:=Zu fF.o;go_wp2_with fail;refine (HR.o w2 HB2.o).mono ?_;rintro e w3 ⟨rfl,hb⟩;have HB3:=Lh (HB2.o.trans (hb.mono HB2.o.size));have yA:=Lh ((hb.block S (gl bR.o)).trans bR.o);have HU3:=Lh ((hb.block (S+1) (gl fF.o)).trans fF.o);clear hb a0 a1 a2 a3 a4 a5 b0 b1 b2 b3 b4 b5;obtain⟨a0,a1,a2,a3,a4,a5⟩:=Zu yA.o;obtain⟨b0,b1,b2,b3,b4,b5⟩:=Zu HU3.o;go_wp2_with fail;refine (HM.o w3 HB3.o).mono ?_;rintro e w4 ⟨rfl,hb⟩;have HB4:=Lh (HB3.o.trans (hb.mono HB3.o.size));go_wp2;go_ret;exact⟨Kw (Zw Jw.o.symm),HB4.o⟩
   simp only[Yx e2]at HR;have Jw:=Lh (HNE.o (.inr (.inr e2)));clear e2;go_enter Tryz.func10,Tryz.ntmps10;go_wp2_with (refine Zv (some 5) rfl ?_);rw[<-hS];clear hS;refine Stop.go ?_;generalize (w.alloc (.cells #[.slice A1 n1 c1,.slice A2 n2 c2,.slice A3 n3 c3,.int .i64 k,.slice A4 n4 c4,.slice A5 n5 c5] 31)).alloc (.cells #[.slice B1 m1 d1,.slice B2 m2 d2,.slice B3 m3 d3,.int .i64 j,.slice B4 m4 d4,.slice B5 m5 d5] 31)=w1 at*;obtain⟨a0,a1,a2,a3,a4,a5⟩:=Zu Ca.o;obtain⟨b0,b1,b2,b3,b4,b5⟩:=Zu kA.o;go_wp2_with fail;refine (HG.o w1 HB1.o).mono ?_;rintro e w2 ⟨rfl,hb⟩;have HB2:=Lh (HB1.o.trans (hb.mono HB1.o.size));have bR:=Lh ((hb.block S (gl Ca.o)).trans Ca.o);have fF:=Lh ((hb.block (S+1) (gl kA.o)).trans kA.o);clear hb a0 a1 a2 a3 a4 a5 b0 b1 b2 b3 b4 b5;obtain⟨a0,a1,a2,a3,a4,a5⟩:=Zu bR.o;obtain⟨b0,b1,b2,b3,b4,b5⟩:=Zu fF.o;go_wp2_with fail;refine (HR.o w2 HB2.o).mono ?_;rintro e w3 ⟨rfl,hb⟩;have HB3:=Lh (HB2.o.trans (hb.mono HB2.o.size));have yA:=Lh ((hb.block S (gl bR.o)).trans bR.o);have HU3:=Lh ((hb.block (S+1) (gl fF.o)).trans fF.o);clear hb a0 a1 a2 a3 a4 a5 b0 b1 b2 b3 b4 b5;obtain⟨a0,a1,a2,a3,a4,a5⟩:=Zu yA.o;obtain⟨b0,b1,b2,b3,b4,b5⟩:=Zu HU3.o;go_wp2;go_ret;exact⟨Kw (Zw Jw.o.symm),HB3.o⟩
  simp only[Yx e1]at HG;have Jw:=Lh (HNE.o (.inl e1));clear e1;go_enter Tryz.func10,Tryz.ntmps10;go_wp2_with (refine Zv (some 5) rfl ?_);rw[<-hS];clear hS;refine Stop.go ?_;generalize (w.alloc (.cells #[.slice A1 n1 c1,.slice A2 n2 c2,.slice A3 n3 c3,.int .i64 k,.slice A4 n4 c4,.slice A5 n5 c5] 31)).alloc (.cells #[.slice B1 m1 d1,.slice B2 m2 d2,.slice B3 m3 d3,.int .i64 j,.slice B4 m4 d4,.slice B5 m5 d5] 31)=w1 at*;obtain⟨a0,a1,a2,a3,a4,a5⟩:=Zu Ca.o;obtain⟨b0,b1,b2,b3,b4,b5⟩:=Zu kA.o;go_wp2_with fail;refine (HG.o w1 HB1.o).mono ?_;rintro e w2 ⟨rfl,hb⟩;have HB2:=Lh (HB1.o.trans (hb.mono HB1.o.size));have bR:=Lh ((hb.block S (gl Ca.o)).trans Ca.o);have fF:=Lh ((hb.block (S+1) (gl kA.o)).trans kA.o);clear hb a0 a1 a2 a3 a4 a5 b0 b1 b2 b3 b4 b5;obtain⟨a0,a1,a2,a3,a4,a5⟩:=Zu bR.o;obtain⟨b0,b1,b2,b3,b4,b5⟩:=Zu fF.o;go_wp2;go_ret;exact⟨Kw (Zw Jw.o.symm),HB2.o⟩
 have g0:(k==j)=false:=by simp[e0]
 have Jw:=Lh (HNE.o (.inr (.inl (fun e=>e0 (HKJ.o.1.trans (e.trans HKJ.o.2.symm))))));clear e0;go_enter Tryz.func10,Tryz.ntmps10;go_wp2_with (refine Zv (some 5) rfl ?_);rw[<-hS];clear hS;refine Stop.go ?_;generalize (w.alloc (.cells #[.slice A1 n1 c1,.slice A2 n2 c2,.slice A3 n3 c3,.int .i64 k,.slice A4 n4 c4,.slice A5 n5 c5] 31)).alloc (.cells #[.slice B1 m1 d1,.slice B2 m2 d2,.slice B3 m3 d3,.int .i64 j,.slice B4 m4 d4,.slice B5 m5 d5] 31)=w1 at*;obtain⟨a0,a1,a2,a3,a4,a5⟩:=Zu Ca.o;obtain⟨b0,b1,b2,b3,b4,b5⟩:=Zu kA.o;go_wp2;go_ret;exact⟨Kw (Zw Jw.o.symm),HB1.o⟩
def qzZ(ns ts:List ByteArray)(rs:List (Int×List Int))(w:World)(e:Ending)(w':World):Prop:=∃z:Int,e=.returned (.int .i64 z)/\(z=0\/(z=1/\ns.length<=12/\ts.length<=12/\rs.length<=40))/\Below w.heap.size w w'
theorem qjM(v1 v2 v3:Value)(ns ts:List ByteArray)(rs:List (Int×List Int))(w:World)(h1:Je Mi w w.heap.size v1 ns)(h2:Je Mi w w.heap.size v2 ts)(h3:Je Vw w w.heap.size v3 rs) :
  Calls Tryz.prog 7 #[.agg #[v1,v2,v3]] w (qzZ ns ts rs w):=by
 obtain⟨A1,c1,rfl,Nj,iX⟩:=h1.form;obtain⟨A2,c2,rfl,Uw,qqI⟩:=h2.form;obtain⟨A3,c3,rfl,hc3,zeN⟩:=h3.form;unfold maxLen at iX qqI zeN;by_cases hgood:ns.length<=12/\ts.length<=12/\rs.length<=40
 case neg =>
  have aV:12<ns.length\/(ns.length<=12/\12<ts.length)\/(ns.length<=12/\ts.length<=12/\40<rs.length):=by omega
  rcases aV with h|⟨h0,h⟩|⟨h0,h0',h⟩
  all_goals
   go_enter Tryz.func7,Tryz.ntmps7;go_wp2_with fail
   all_goals first
    |(exfalso;omega)
    |(go_ret;exact⟨0,rfl,.inl rfl,by go_grown⟩)
 obtain⟨g1,g2,g3⟩:=hgood;go_enter Tryz.func7,Tryz.ntmps7;go_wp2_with fail
 all_goals first
  |(exfalso;omega)
  |skip
 have HW:Hid (Below w.heap.size w (w.alloc (Obj.cells #[Value.slice A1 ns.length c1,Value.slice A2 ts.length c2,Value.slice A3 rs.length c3] 25))):=(Xr _ _).alloc (Yb _) _;have HS:Hid ((w.alloc (Obj.cells #[Value.slice A1 ns.length c1,Value.slice A2 ts.length c2,Value.slice A3 rs.length c3] 25)).heap.size=w.heap.size+1):=by show _=_;simp
 have k0:(w.alloc (Obj.cells #[Value.slice A1 ns.length c1,Value.slice A2 ts.length c2,Value.slice A3 rs.length c3] 25)).cell? ⟨w.heap.size,0,none⟩=some (Value.slice A1 ns.length c1):=by simp
 have k1:(w.alloc (Obj.cells #[Value.slice A1 ns.length c1,Value.slice A2 ts.length c2,Value.slice A3 rs.length c3] 25)).cell? ⟨w.heap.size,1,none⟩=some (Value.slice A2 ts.length c2):=by simp
 have k2:(w.alloc (Obj.cells #[Value.slice A1 ns.length c1,Value.slice A2 ts.length c2,Value.slice A3 rs.length c3] 25)).cell? ⟨w.heap.size,2,none⟩=some (Value.slice A3 rs.length c3):=by simp
 generalize w.alloc (Obj.cells #[Value.slice A1 ns.length c1,Value.slice A2 ts.length c2,Value.slice A3 rs.length c3] 25)=W at HW HS k0 k1 k2 |-;have h1W:=h1.below HW.o;have h2W:=h2.below HW.o;have h3W:=h3.below HW.o;clear h1 h2 h3;go_loop [3] (fun v=>∃k:Nat,k<=rs.length/\v=.int .i64 k) (fun v=>rs.length-(intOf v).toNat);exact⟨0,by omega,rfl⟩;obtain⟨k,hk,rfl⟩:=hrel;by_cases Jl:k<rs.length
 .obtain⟨ab,ao,cs,rfl,_,Bg,Ja,Zn⟩:=h3W.get Jl (by decide);obtain⟨u,rfl,hu,Ik,Si⟩:=Kn Ja;obtain⟨A4,e4,rfl,hq1,hq2⟩:=hu.form;unfold maxLen at hq2;have iX:=Zn 1 _ rfl;clear Zn;simp only[show Vw.size=2 from rfl,<-Yy]at iX;go_wp2_with fail
  .go_ret;exact⟨0,rfl,.inl rfl,HW.o⟩
  go_round;exact⟨k+1,by omega,by go_num⟩;simp[intOf];omega
 go_wp2_with fail;go_loop [4] (fun v=>∃j:Nat,j<=ns.length/\v=.int .i64 j) (fun v=>ns.length-(intOf v).toNat);exact⟨0,by omega,rfl⟩;obtain⟨j,hj,rfl⟩:=hrel;by_cases hlj:j<ns.length
 .obtain⟨ab,ao,cs,rfl,_,Bg,Ja,Zn⟩:=h1W.get hlj (by decide);obtain⟨rfl,Lr⟩:=Ja;unfold maxLen at Lr;have Vn:=Zn 0 _ rfl;clear Zn;simp only[show Mi.size=1 from rfl,Ys,Yq]at Vn;go_wp2_with fail
  .go_ret;exact⟨0,rfl,.inl rfl,HW.o⟩
  go_round;exact⟨j+1,by omega,by go_num⟩;simp[intOf];omega
 go_wp2_with fail;go_loop [5] (fun v=>∃i:Nat,i<=ts.length/\v=.int .i64 i) (fun v=>ts.length-(intOf v).toNat);exact⟨0,by omega,rfl⟩;obtain⟨i,hi,rfl⟩:=hrel;by_cases hli:i<ts.length
 .obtain⟨ab,ao,cs,rfl,_,Bg,Ja,Zn⟩:=h2W.get hli (by decide);obtain⟨rfl,Lr⟩:=Ja;unfold maxLen at Lr;have Vn:=Zn 0 _ rfl;clear Zn;simp only[show Mi.size=1 from rfl,Ys,Yq]at Vn;go_wp2_with fail
  .go_ret;exact⟨0,rfl,.inl rfl,HW.o⟩
  go_round;exact⟨i+1,by omega,by go_num⟩;simp[intOf];omega
 go_wp2;go_ret;exact⟨1,rfl,.inr ⟨rfl,g1,g2,g3⟩,HW.o⟩
def qT(t:Kz):Prop:=(t.1=1->Eu t.2.1=true)/\(t.1=2->Fx t.2.1=true)
theorem nI(may:Int->Bool):∀(l:Wd),∀b∈l.take (Ko may l),may (b.toNat:Int)=true
 |[],b,h=>by simp at h
 |c::r,b,h=>by
  unfold Ko at h;by_cases hc:may (c.toNat:Int)=true
  .rw[if_pos hc,List.take_succ_cons,List.mem_cons]at h;rcases h with rfl|h
   .exact hc
   exact nI may r b h
  rw[if_neg hc]at h;simp at h
theorem qmS(h:Fg l=.ok t)(i:Nat):qT (t.1,t.2.1,i):=by
 cases l with
 |nil=>cases h
 |cons c r =>
  change Cb c r=_ at h;unfold Cb at h;by_cases h1:c=58
  .rw[if_pos h1]at h;cases h;exact⟨fun e=>absurd (show (3:Nat)=1 from e) (by decide),fun e=>absurd (show (3:Nat)=2 from e) (by decide)⟩
  rw[if_neg h1]at h;by_cases h2:c=124
  .rw[if_pos h2]at h;cases h;exact⟨fun e=>absurd (show (4:Nat)=1 from e) (by decide),fun e=>absurd (show (4:Nat)=2 from e) (by decide)⟩
  rw[if_neg h2]at h;by_cases h3:c=59
  .rw[if_pos h3]at h;cases h;exact⟨fun e=>absurd (show (5:Nat)=1 from e) (by decide),fun e=>absurd (show (5:Nat)=2 from e) (by decide)⟩
  rw[if_neg h3]at h;by_cases h4:Uv (c.toNat:Int)=true
  .rw[if_pos h4]at h;by_cases h5:32<Ko Ww (c::r)
   .rw[if_pos h5]at h;cases h
   rw[if_neg h5]at h;cases h;refine⟨fun _=>?_,fun e=>absurd (show (1:Nat)=2 from e) (by decide)⟩;have hp:1<=Ko Ww (c::r):=Oo (cX h4);have hl:=Tm Ww (c::r);have ht:=nI Ww (c::r);show Eu ((c::r).take (Ko Ww (c::r)))=true;generalize Ko Ww (c::r)=N at hp hl ht h5;unfold Eu;rw[Ym,Ym,Yk,Qq,Xq];refine⟨⟨by omega,?_⟩,ht⟩;cases N with
   |zero=>omega
   |succ N=>exact h4
  rw[if_neg h4]at h;by_cases h5:c=39
  .rw[if_pos h5]at h;by_cases h6:0<Ko Jg r/\r[Ko Jg r]?=some 39
   .rw[if_pos h6]at h;by_cases h7:32<Ko Jg r
    .rw[if_pos h7]at h;cases h
    rw[if_neg h7]at h;cases h;refine⟨fun e=>absurd (show (2:Nat)=1 from e) (by decide),fun _=>?_⟩;have hl:=Tm Jg r;have ht:=nI Jg r;show Fx (r.take (Ko Jg r))=true;unfold Fx;rw[Ym,Yk,Qq,Xq];exact⟨by omega,ht⟩
   rw[if_neg h6]at h;cases h
  rw[if_neg h5]at h;cases h
theorem qnA{a b:Nat×List Kz}(h:Gz s a=some b)(ha:∀t∈a.2,qT t):∀t∈b.2,qT t:=by
 unfold Gz at h;split at h
 .cases h
 split at h
 .injection h with h;subst h;exact ha
 split at h
 .injection h with h;subst h;exact ha
 split at h
 .rename_i t ht;injection h with h;subst h;intro x hx;rcases Qh.1 hx with hx|hx
  .exact ha x hx
  rw[Qi.1 hx];exact qmS ht _
 cases h
theorem qcT{s:Wd}:∀(f:Nat)(a:Nat×List Kz),(∀t∈a.2,qT t)->∀t∈(jc s f a).2,qT t
 |0,_,h=>h
 |f+1,a,h=>by
  unfold jc;split
  .exact h
  rename_i b hb;exact qcT f b (qnA hb h)
theorem qwT(s:Wd):∀t∈(Sk s).1,qT t:=by
 unfold Sk;split
 .intro t ht;cases ht
 unfold un;split
 .exact qcT _ _ (fun t ht=>by cases ht)
 split <;> (intro t ht;cases ht)
def xY(it:Wf):Prop:=it.1=true->Fx (Wt it.2)=true
def mp(l:List (List Wf)):Prop:=∀a∈l,∀it∈a,xY it
def pE(x:Kh):Prop:=Eu (Wt x.1)=true/\x.2≠[]/\mp x.2
def qsM:PSt->Prop
 |.name done=>∀x∈done,pE x
 |.colon done nm=>(∀x∈done,pE x)/\Eu (Wt nm)=true
 |.item done nm alts alt=>(∀x∈done,pE x)/\Eu (Wt nm)=true/\mp (alts++[alt])
theorem qnB{st st':PSt}{t:Kz}(h:Rn st t=some st')(hs:qsM st)(ht:qT t):qsM st':=by
 cases st with
 |name done =>
  change (if t.1=1 then some (PSt.colon done (Jp t.2.1))else none)=some st' at h
  split at h
  .rename_i e;injection h with h;subst h;exact⟨hs,ht.1 e⟩
  cases h
 |colon done nm =>
  change (if t.1=3 then some (PSt.item done nm [] [])else none)=some st' at h
  split at h
  .injection h with h;subst h;exact⟨hs.1,hs.2,fun a ha it jY=>by
    rw[Qi.1 ha]at jY
    cases jY⟩
  cases h
 |item done nm alts alt =>
  obtain⟨h1,h2,h3⟩:=hs;have h4:∀a∈alts,∀it∈a,xY it:=fun a ha=>h3 a (by simp[ha]);have h5:∀it∈alt,xY it:=h3 alt (by simp);change (if t.1=1\/t.1=2 then some (PSt.item done nm alts (alt++[(decide (t.1=2),Jp t.2.1)]))else if t.1=4 then some (PSt.item done nm (alts++[alt]) [])else if t.1=5 then some (PSt.name (done++[(nm,alts++[alt])]))else none)=some st' at h
  split at h
  .injection h with h;subst h;refine⟨h1,h2,fun a ha it jY=>?_⟩;rcases Qh.1 ha with ha|ha
   .exact h4 a ha it jY
   rw[Qi.1 ha]at jY;rcases Qh.1 jY with jY|jY
   .exact h5 it jY
   rw[Qi.1 jY];intro e;exact ht.2 (of_decide_eq_true e)
  split at h
  .injection h with h;subst h;refine⟨h1,h2,fun a ha it jY=>?_⟩;rcases Qh.1 ha with ha|ha
   .exact h3 a ha it jY
   rw[Qi.1 ha]at jY;cases jY
  split at h
  .injection h with h;subst h;intro x hx;rcases Qh.1 hx with hx|hx
   .exact h1 x hx
   rw[Qi.1 hx];exact⟨h2,by simp,h3⟩
  cases h
theorem qqS(len:Nat):∀(toks:List Kz)(st:PSt),(∀t∈toks,qT t)->qsM st->∀x∈(nh len st toks).1,pE x
 |[],st,_,hs=>by
  cases st with
  |name done =>
   unfold nh;split
   .intro x hx;cases hx
   exact hs
  |colon _ _=>intro x hx;cases hx
  |item _ _ _ _=>intro x hx;cases hx
 |t::r,st,ht,hs=>by
  rw[dI];split
  .intro x hx;cases hx
  rename_i st' h;exact qqS len r st' (fun x hx=>ht x (by simp[hx])) (qnB h hs (ht t (by simp)))
theorem tw(len:Nat):∀(toks:List Kz)(st:PSt),(nh len st toks).2.2=0->(nh len st toks).1≠[]
 |[],st,h=>by
  cases st with
  |name done =>
   unfold nh at h |-;split at h
   .cases h
   rename_i e;rw[if_neg e];exact e
  |colon _ _=>cases h
  |item _ _ _ _=>cases h
 |t::r,st,h=>by
  rw[dI]at h |-;split at h
  .cases h
  rename_i st' e;exact tw len r st' h
theorem qyM(s:Wd):∀x∈(Nc s).1,pE x:=by
 unfold Nc;split
 .intro x hx;cases hx
 exact qqS _ _ _ (qwT s) (fun x hx=>by cases hx)
theorem qkI(h:(Nc s).2.2=0):(Nc s).1≠[]:=by
 unfold Nc at h |-;split at h
 .rename_i e;exact absurd h e
 rename_i e;rw[if_neg e];exact tw _ _ _ h
def xu(ts:List Wd):Prop:=ts.Nodup/\∀t∈ts,Fx t=true
theorem Vc.mono{m m':Nat}{s:Int}(h:Vc n m s)(hm:m<=m'):Vc n m' s:=⟨by have:=h.1;omega,h.2⟩
theorem qvP{ts':List Wd}{it:Wf}{s:Int}(h:Ok ns ts it=some (s,ts'))(hi:xY it)(ht:xu ts):xu ts'/\ts.length<=ts'.length/\Vc ns.length ts'.length s:=by
 unfold Ok at h;split at h
 .rename_i e;split at h
  .rename_i hm;injection h with h;injection h with h1 h2;subst h1 h2;have:=List.idxOf_lt_length_iff.2 hm;exact⟨ht,Yb _,by unfold Vc;omega⟩
  rename_i hm;injection h with h;injection h with h1 h2;subst h1 h2;refine⟨⟨List.nodup_append.2 ⟨ht.1,by simp,?_⟩,fun t hx=>?_⟩,by simp,?_⟩
  .intro a ha b hb e2;rw[Qi.1 hb]at e2;subst e2;exact hm ha
  .rcases Qh.1 hx with hx|hx
   .exact ht.2 t hx
   rw[Qi.1 hx];exact hi e
  unfold Vc;rw[Qe,Qf];omega
 split at h
 .rename_i hm;injection h with h;injection h with h1 h2;subst h1 h2;have:=List.idxOf_lt_length_iff.2 hm;exact⟨ht,Yb _,by unfold Vc;omega⟩
 cases h
theorem qeL{ns:List Wd}:∀(l:List Wf)(ts:List Wd)(r:List Int)(ts':List Wd)(r':List Int),Fn ns ts r l=some (r',ts')->(∀it∈l,xY it)->xu ts->(∀s∈r,Vc ns.length ts.length s) ->
  xu ts'/\ts.length<=ts'.length/\r'.length=r.length+l.length/\∀s∈r',Vc ns.length ts'.length s
 |[],ts,r,ts',r',h,_,ht,hr=>by
  rw[Fn]at h;injection h with h;injection h with h1 h2;subst h1 h2;exact⟨ht,Yb _,rfl,hr⟩
 |it::l,ts,r,ts',r',h,hi,ht,hr=>by
  rw[Fn]at h;cases e:Ok ns ts it with
  |none=>rw[e]at h;cases h
  |some p =>
   obtain⟨s,ts1⟩:=p;rw[e]at h;obtain⟨a1,a2,a3⟩:=qvP e (hi it (by simp)) ht;obtain⟨b1,b2,b3,b4⟩:=qeL l ts1 (r++[s]) ts' r' h (fun x hx=>hi x (by simp[hx])) a1 (fun x hx=>by
    rcases Qh.1 hx with hx|hx
    .exact (hr x hx).mono a2
    rw[Qi.1 hx];exact a3)
   exact⟨b1,by omega,by rw[b3,Qe,Qf,Qu];omega,b4⟩
def qbQ(n m:Nat)(rs:List Jj):Prop:=∀r∈rs,(0<=r.1/\r.1<n)/\r.2.length<=64/\∀s∈r.2,Vc n m s
theorem qbQ.mono{n m m':Nat}{rs:List Jj}(h:qbQ n m rs)(hm:m<=m'):qbQ n m' rs:=fun r hr=>by
 obtain⟨h1,h2,h3⟩:=h r hr;exact⟨h1,h2,fun s hs=>(h3 s hs).mono hm⟩
theorem xh{ns:List Wd}{left:Nat}(hl:left<ns.length):∀(l:List (List Wf))(ts:List Wd)(rs:List Jj)(ts':List Wd)(Cg:List Jj),Ic ns (left:Int) ts rs l=some (Cg,ts')->mp l->(∀a∈l,a.length<=64)->xu ts->qbQ ns.length ts.length rs ->
  xu ts'/\ts.length<=ts'.length/\Cg.length=rs.length+l.length/\qbQ ns.length ts'.length Cg/\rs <+: Cg/\(l≠[]->∃r∈Cg,r.1=(left:Int))
 |[],ts,rs,ts',Cg,h,_,_,ht,hr=>by
  rw[Ic]at h;injection h with h;injection h with h1 h2;subst h1 h2;exact⟨ht,Yb _,rfl,hr,List.prefix_refl _,fun e=>absurd rfl e⟩
 |a::l,ts,rs,ts',Cg,h,hi,h64,ht,hr=>by
  rw[Ic]at h;cases e:Fn ns ts [] a with
  |none=>rw[e]at h;cases h
  |some p =>
   obtain⟨r,ts1⟩:=p;rw[e]at h;obtain⟨a1,a2,a3,a4⟩:=qeL a ts [] ts1 r e (hi a (by simp)) ht (fun s hs=>by cases hs);obtain⟨b1,b2,b3,b4,b5,_⟩:=xh hl l ts1 (rs++[((left:Int),r)]) ts' Cg h (fun x hx=>hi x (by simp[hx])) (fun x hx=>h64 x (by simp[hx])) a1 (fun x hx=>by
    rcases Qh.1 hx with hx|hx
    .exact (hr.mono a2) x hx
    rw[Qi.1 hx]
    refine⟨⟨by simp only;omega,by simp only;omega⟩,?_,a4⟩
    have:=h64 a (by simp)
    simp only[Xu]at a3 |-
    omega)
   refine⟨b1,by omega,by rw[b3,Qe,Qf,Qu];omega,b4,(List.prefix_append _ _).trans b5,fun _=>⟨((left:Int),r),b5.subset (by simp),rfl⟩⟩
theorem dx{ns:List Wd}:∀(l:List Kh)(i:Nat)(ts:List Wd)(rs:List Jj)(ts':List Wd)(Cg:List Jj),Vg ns i ts rs l=some (Cg,ts')->(∀x∈l,mp x.2/\x.2≠[]/\∀a∈x.2,a.length<=64)->i+l.length<=ns.length->xu ts->qbQ ns.length ts.length rs ->
  xu ts'/\Cg.length=rs.length+(l.map fun x=>x.2.length).sum/\qbQ ns.length ts'.length Cg/\rs <+: Cg/\∀j,i<=j->j<i+l.length->∃r∈Cg,r.1=(j:Int)
 |[],i,ts,rs,ts',Cg,h,_,_,ht,hr=>by
  rw[Vg]at h;injection h with h;injection h with h1 h2;subst h1 h2;exact⟨ht,rfl,hr,List.prefix_refl _,fun j h1 h2=>by simp at h2;omega⟩
 |x::l,i,ts,rs,ts',Cg,h,hx,hn,ht,hr=>by
  rw[Vg]at h;rw[Qu]at hn;cases e:Ic ns (i:Int) ts rs x.2 with
  |none=>rw[e]at h;cases h
  |some p =>
   obtain⟨rs1,ts1⟩:=p;rw[e]at h;obtain⟨c1,c2,c3⟩:=hx x (by simp);obtain⟨a1,a2,a3,a4,a5,a6⟩:=xh (by omega) x.2 ts rs ts1 rs1 e c1 c3 ht hr;obtain⟨b1,b3,b4,b5,b6⟩:=dx l (i+1) ts1 rs1 ts' Cg h (fun y hy=>hx y (by simp[hy])) (by omega) a1 a4;refine⟨b1,by rw[b3,a3,List.map_cons,List.sum_cons];omega,b4,a5.trans b5,fun j h1 h2=>?_⟩;rw[Qu]at h2;rcases Nat.eq_or_lt_of_le h1 with e2|e2
   .subst e2;obtain⟨r,Sr,hr2⟩:=a6 c2;exact⟨r,b5.subset Sr,hr2⟩
   exact b6 j e2 (by omega)
theorem jj{l:List Kh}{g:Kd}(h:Jn l=(g,0))(hl:l≠[])(hok:∀x∈l,pE x):Su g:=by
 unfold Jn at h;split at h
 .cases h
 rename_i hg;split at h
 .cases h
 rename_i Te;split at h
 .cases h
 rename_i rs ts hlr;split at h
 .cases h
 rename_i zW;split at h
 .cases h
 rename_i hrn;injection h with h _;subst h;unfold Rv at hg;simp only[Yu,not_or,Xt,Yk,not_exists,not_and]at hg;obtain⟨⟨g1,g2⟩,g3⟩:=hg;have Dt:=Qy.2 hl;obtain⟨b1,b3,b4,_,b6⟩:=dx l 0 [] [] ts rs hlr (fun x hx=>⟨(hok x hx).2.2,(hok x hx).2.1,fun a ha=>by have:=g1 x hx a ha;omega⟩) (by simp) ⟨List.nodup_nil,fun t ht=>by cases ht⟩ (fun r hr=>by cases hr);simp only[Qk]at b4;simp only[Xu,Yr]at b3;have Te:=Decidable.of_not_not Te;have hrn:=Decidable.of_not_not hrn;refine⟨by simp only[Qk];omega,by simp only[Qk];omega,by rw[b3];omega,fun s hs=>?_,fun s hs=>?_,?_,Fv (fun a b e=>by rw[<-Fu a,<-Fu b,e]) b1.1,by simp only[Qk];exact b4,fun i hi=>b6 i (Yg _) (by simp only[Qk]at hi;omega),hrn⟩
 .obtain⟨x,hx,rfl⟩:=Xa.1 hs;exact (hok x hx).1
 .obtain⟨x,hx,rfl⟩:=Xa.1 hs;exact b1.2 x hx
 have zuD:((l.map fun x=>x.1).map Wt).Pairwise (·≠·):=by
  rw[List.map_map];exact Te
 exact (List.pairwise_map.1 zuD).imp fun h e=>h (congrArg Wt e)
theorem qfI{g:Kd}(h1:(Nc s).2.2=0)(h2:Jn (Nc s).1=(g,0)):Su g:=jj h2 (qkI h1) (qyM s)
section
variable {s:Wd} {k e:Int} {v:Nv} {c:List Wl} {n at' why bad:Nat} {l:List Kh} {g:Kd}
theorem qdI(h:mF s k v c n e)(hk:¬ (1<=k/\k<=4)):v=Tq/\c=[]/\n=0/\e=1:=by
 rcases h with ⟨_,a⟩|⟨h,_⟩|⟨h,_⟩
 .exact a
 .exact absurd h hk
 exact absurd h hk
theorem qfZ(hF:Nc s=(l,at',why))(hw:why≠0):Dj s=(([],[],[]),at',why):=by
 unfold Dj;rw[hF];exact if_pos hw
theorem ck(hF:Nc s=(l,at',0))(hR:Jn l=(g,bad)):Dj s=(Hu g,0,bad):=by
 unfold Dj;rw[hF];simp only;rw[if_neg (by simp),hR]
theorem Sv(hF:Nc s=(l,at',0))(hR:Jn l=(g,0)):Su g :=
 qfI (s:=s) (by rw[hF]) (by rw[hF];exact hR)
theorem be(hF:Nc s=(l,at',0))(hR:Jn l=(g,0)):Hu g=Jh g:=by
 unfold Hu;rw[if_pos ((Fy g).2 (Sv hF hR))]
theorem rj(h:mF s k v c n e)(hF:Nc s=(l,at',0))(hR:Jn l=(g,0))(hk:1<=k/\k<=4):n=0/\xU g k v c e:=by
 have hr:=ck hF hR;rcases h with ⟨a,_⟩|⟨_,a,_⟩|⟨_,_,a1,a2⟩
 .exact absurd hk a
 .rw[hr]at a;exact absurd rfl a
 rw[hr,be hF hR]at a2;exact⟨a1,(eO (Sv hF hR)).1 a2⟩
theorem oL(h:aH g):aH (Jh g):=by
 obtain⟨l1,l2,l3⟩:=Vz g;obtain⟨h1,h2,h3⟩:=h;exact⟨by rw[l1];exact h1,by rw[l2];exact h2,by rw[l3];exact h3⟩
theorem ri(hF:Nc s=(l,at',why))(hR:Jn l=(g,bad))(hf:why=0->bad=0->aH g):(Dj s).2.2=0->aH (Dj s).1:=by
 intro h0;by_cases hw:why=0
 .subst hw;rw[ck hF hR]at h0 |-;have h0:bad=0:=h0;subst h0;show aH (Hu g);rw[be hF hR];exact oL (hf rfl rfl)
 rw[qfZ hF hw]at h0;exact absurd h0 hw
theorem qjL(h:aH g)(hx:Jh g=Jh x):aH x:=by
 have h2:=oL h;rw[hx]at h2;obtain⟨l1,l2,l3⟩:=Vz x;obtain⟨h1,h2,h3⟩:=h2;rw[l1]at h1;rw[l2]at h2;rw[l3]at h3;exact⟨h1,h2,h3⟩
theorem qgX{t:Wd}{u:Nv}{d:List Wl}{p atb:Nat}{q:Int}{m:List Kh}(h:mF s k v c n e)(h2:mF t k u d p q)(hF:Nc s=(l,at',0))(hR:Jn l=(g,0))(hF2:Nc t=(m,atb,0))(hR2:Jn m=(x,0))(hx:Jh g=Jh x)(hf:aH g):v=u/\c=d/\e=q:=by
 by_cases hk:1<=k/\k<=4
 .obtain⟨_,h3⟩:=rj h hF hR hk;obtain⟨_,h4⟩:=rj h2 hF2 hR2 hk;have h5:=(eO (Sv hF hR)).2 h3;have h6:=(eO (Sv hF2 hR2)).2 h4;rw[<-hx]at h6;exact qdB (oL hf).2.1 h5 h6
 obtain⟨a1,a2,_,a4⟩:=qdI h hk;obtain⟨b1,b2,_,b4⟩:=qdI h2 hk;rw[a1,a2,a4,b1,b2,b4];exact⟨rfl,rfl,rfl⟩
end
theorem kn(ns:List Wd)(s:ByteArray):idxOf (fun x=>decide (x=s)) (ns.map Jp)=if Wt s∈ns then ((ns.idxOf (Wt s):Nat):Int)else -1:=by
 by_cases h:Wt s∈ns
 .rw[if_pos h];have hl:=List.idxOf_lt_length_iff.2 h;refine By (by rw[Qk];exact hl) (fun j hj Jl=>?_) ?_
  .rw[Xf,Yl];intro e;have h2:=List.not_of_lt_findIdx (p:=(·==Wt s)) (xs:=ns) Jl;exact absurd (show (ns[j]==Wt s)=true from beq_iff_eq.2 ((Fu ns[j]).symm.trans (congrArg Wt e))) (by rw[h2];decide)
  rw[Xf,List.getElem_idxOf,Dp];simp
 rw[if_neg h];refine Cq fun j hj=>?_;rw[Xf,Yl];intro e;apply h;rw[<-e,Fu];exact Qg _
theorem qmV(s:ByteArray):Ok ns ts (true,s)=if Wt s∈ts then some (-1-(ts.idxOf (Wt s):Int),ts)else some (-1-(ts.length:Int),ts++[Wt s]):=rfl
theorem qmW(s:ByteArray):Ok ns ts (false,s)=if Wt s∈ns then some ((ns.idxOf (Wt s):Int),ts)else none:=rfl
structure GrP(w:World)(S:Nat)(vN:Value)(ns:List Wd):Prop where
 res:w.heap[S]?=some (.cells #[.slice none 0 0,.slice none 0 0,.slice none 0 0] 25 (0,0))
 box:w.heap[S+1]?=some (.cells #[vN,.slice none 0 0,.slice none 0 0] 25 (0,0))
 names:w.ownsRow (S+2) 9 1 vN ns.length (ns.map wv)
structure mP(w:World)(S:Nat)(vN vT vR:Value)(B0 B1:Nat)(ns ts:List Wd)(rs:List Jj)(css:List (List Value)):Prop where
 res:w.heap[S]?=some (.cells #[.slice none 0 0,.slice none 0 0,.slice none 0 0] 25 (0,0))
 box:w.heap[S+1]?=some (.cells #[vN,vT,vR] 25 (0,0))
 names:Ae fH 9 w B0 vN (ns.map Jp)
 terms:w.ownsRow B0 9 1 vT ts.length (ts.map wv)
 rules:w.ownsRow B0 63 2 vR rs.length css.flatten
 rrows:Vo Rl w B1 css rs
 lo:S+1<B0
 b0:B0<=w.heap.size
 b1:B1<=w.heap.size
theorem qvC(ns:List Wd):(ns.map fun t=>[wv t]).flatten=ns.map wv:=by
 induction ns with
 |nil=>rfl
 |cons s r ih=>rw[List.map_cons,List.flatten_cons,ih];rfl
theorem qvB{U:Nat}(hs:ni ns):Vo fH w U (ns.map fun t=>[wv t]) (ns.map Jp):=by
 refine⟨by rw[Qk,Qk],fun i cs x hc hx=>?_⟩;rw[Qv]at hc hx;cases hi:ns[i]? with
 |none=>rw[hi]at hc;cases hc
 |some t =>
  rw[hi]at hc hx;injection hc with hc;injection hx with hx;subst hc hx;exact⟨rfl,hs t (Qp hi)⟩
theorem yx(ho:w.ownsRow base 9 1 v ns.length (ns.map wv))(hs:ni ns):Ae fH 9 w w.heap.size v (ns.map Jp) :=
 Ae.of_row (O:=fH) (css:=ns.map fun t=>[wv t]) (by rw[qvC,Qk];exact ho) (qvB hs)
section
variable {w w':World} {S:Nat} {vN yn vT bO vR nC:Value} {B0 B1:Nat} {ns ts:List Wd} {rs:List Jj} {css:List (List Value)}
theorem GrP.lt(h:GrP w S vN ns):S+1<w.heap.size:=(gl h.box)
theorem GrP.below(h:GrP w S vN ns)(hb:Below w.heap.size w w'):GrP w' S vN ns :=
 ⟨(hb.block S (Nat.lt_of_succ_lt h.lt)).trans h.res,(hb.block (S+1) h.lt).trans h.box,Jc h.names hb⟩
theorem GrP.snoc{T:Wd}(h:GrP w S vN ns)(ho:w'.ownsRow (S+2) 9 1 yn (ns.length+1) (ns.map wv++[wv T]))(hg:w.grownBy w' vN.ownBlock):GrP (w'.setCell ⟨S+1,0,none⟩ yn) S yn (ns++[T]):=by
 have Wo:=Zs h.names hg h.box (by decide);have lE:=Zs h.names hg h.res (by decide);refine⟨Vk lE (Nat.succ_ne_self S) yn,Kq (k:=0) Wo yn,?_⟩;have:=Zl ho (a:=⟨S+1,0,none⟩) (Yf (S+1)) yn;rw[Qt,Qe,Qf];exact this
theorem GrP.sl(h:GrP w S vN ns)(hs:ni ns):Je Mi w w.heap.size vN (ns.map Jp):=(yx h.names hs).sl
theorem GrP.done(h:GrP w S vN ns)(hs:ni ns):mP w S vN (.slice none 0 0) (.slice none 0 0) w.heap.size w.heap.size ns [] [] [] :=
 ⟨h.res,h.box,yx h.names hs,Za _ _ _ _,Za _ _ _ _,Vo.nil _ _ _,h.lt,Yb _,Yb _⟩
theorem mP.lt(h:mP w S vN vT vR B0 B1 ns ts rs css):S+1<w.heap.size:=(gl h.box)
theorem mP.below(h:mP w S vN vT vR B0 B1 ns ts rs css)(hb:Below w.heap.size w w'):mP w' S vN vT vR B0 B1 ns ts rs css :=
 ⟨(hb.block S (Nat.lt_of_succ_lt h.lt)).trans h.res,(hb.block (S+1) h.lt).trans h.box,h.names.keep (.of_below hb),Jc h.terms hb,Jc h.rules hb,h.rrows.below hb,h.lo,Yd h.b0 hb.size,Yd h.b1 hb.size⟩
theorem mP.ints(h:mP w S vN vT vR B0 B1 ns ts rs css){xs:List Value}(ho:w.ownsRow base 3 1 v n xs)(hg:w.grownBy w' v.ownBlock)(hB:B1<=base):mP w' S vN vT vR B0 B1 ns ts rs css :=
 ⟨Zs ho hg h.res (by decide),Zs ho hg h.box (by decide),h.names.keep (.of_keepT (Jk.of_grown ho hg (by decide))),Vy h.terms ho (by decide) hg,Vy h.rules ho (by decide) hg,h.rrows.keep (.of_grown ho hg hB),h.lo,Yd h.b0 hg.size,Yd h.b1 hg.size⟩
theorem mP.rule(h:mP w S vN vT vR B0 B1 ns ts rs css)(hg:w.heap[g]?=some (.cells cs 63 (0,0)))(hv:vR.ownBlock≠some g)(v:Value):mP (w.setCell ⟨g,k,none⟩ v) S vN vT vR B0 B1 ns ts rs css:=by
 have hk:∀us:List TypeId,63∉us->Jk us w (w.setCell ⟨g,k,none⟩ v):=fun us hu=>Vt hg hu v;exact⟨(hk [25] (by decide)).2 S _ _ (by simp) h.res,(hk [25] (by decide)).2 (S+1) _ _ (by simp) h.box,h.names.keep (.of_keepT (hk _ (by decide))),Kg h.terms (hk [9] (by decide)) (by simp),ownsRow_setCell_other h.rules hv v,h.rrows.keep (.of_keepT (hk _ (by decide))),h.lo,by rw[Zb];exact h.b0,by rw[Zb];exact h.b1⟩
theorem mP.term{T:Wd}(h:mP w S vN vT vR B0 B1 ns ts rs css)(ho:w'.ownsRow B0 9 1 bO (ts.length+1) (ts.map wv++[wv T]))(hg:w.grownBy w' vT.ownBlock):mP (w'.setCell ⟨S+1,1,none⟩ bO) S vN bO vR B0 B1 ns (ts++[T]) rs css:=by
 have Wo:=Zs h.terms hg h.box (by decide);have lE:=Zs h.terms hg h.res (by decide);have hk:∀us:List TypeId,25∉us->Jk us w' (w'.setCell ⟨S+1,1,none⟩ bO):=fun us hu=>Vt Wo hu bO;refine⟨Vk lE (Nat.succ_ne_self S) bO,Kq (k:=1) Wo bO,(h.names.keep (.of_grown h.terms hg (Yb _))).keep (.of_keepT (hk _ (by decide))),?_,Kg (Vy h.rules h.terms (by decide) hg) (hk [63] (by decide)) (by simp),(h.rrows.keep (.of_keepT (Jk.of_grown h.terms hg (by decide)))).keep (.of_keepT (hk _ (by decide))),h.lo,by rw[Zb];exact Yd h.b0 hg.size,by rw[Zb];exact Yd h.b1 hg.size⟩;have:=Kg ho (hk [9] (by decide)) (by simp);rw[Qt,Qe,Qf];exact this
theorem mP.snoc(h:mP w S vN vT vR B0 B1 ns ts rs css){cs:List Value}{x:Jj}(hx:Rl.rep w w.heap.size cs x)(ho:w'.ownsRow B0 63 2 nC (rs.length+1) (css.flatten++cs))(hg:w.grownBy w' vR.ownBlock) :
  mP (w'.setCell ⟨S+1,2,none⟩ nC) S vN vT nC B0 (w'.setCell ⟨S+1,2,none⟩ nC).heap.size ns ts (rs++[x]) (css++[cs]):=by
 have Wo:=Zs h.rules hg h.box (by decide);have lE:=Zs h.rules hg h.res (by decide);have hk:∀us:List TypeId,25∉us->Jk us w' (w'.setCell ⟨S+1,2,none⟩ nC):=fun us hu=>Vt Wo hu nC;have mU:∀us:List TypeId,63∉us->Jk us w w':=fun us hu=>Jk.of_grown h.rules hg hu;have hkU:Ey Rl.ts (w'.setCell ⟨S+1,2,none⟩ nC).heap.size w (w'.setCell ⟨S+1,2,none⟩ nC):=(Ey.of_keepT (mU _ (by decide))).trans (.of_keepT (hk _ (by decide)));have Fb:w.heap.size<=(w'.setCell ⟨S+1,2,none⟩ nC).heap.size:=by rw[Zb];exact hg.size
 refine⟨Vk lE (Nat.succ_ne_self S) nC,Kq (k:=2) Wo nC,(h.names.keep (.of_keepT (mU _ (by decide)))).keep (.of_keepT (hk _ (by decide))),Kg (Vy h.terms h.rules (by decide) hg) (hk [9] (by decide)) (by simp),?_,?_,h.lo,Yd h.b0 Fb,Yb _⟩
 .have:=Kg ho (hk [63] (by decide)) (by simp);rw[Qs,Qe,Qf];simpa using this
 exact Vo.snoc ((h.rrows.more (Yd h.b1 Fb)).keep hkU) (Rl.keep (Rl.more hx Fb) hkU)
theorem mP.slN(h:mP w S vN vT vR B0 B1 ns ts rs css):Je Mi w w.heap.size vN (ns.map Jp):=(h.names.more h.b0).sl
theorem mP.uT(h:mP w S vN vT vR B0 B1 ns ts rs css)(hs:ni ts):Ae fH 9 w w.heap.size vT (ts.map Jp):=yx h.terms hs
theorem mP.uR(h:mP w S vN vT vR B0 B1 ns ts rs css):Ae Rl 63 w w.heap.size vR rs:=Ae.of_row (O:=Rl) h.rules (h.rrows.more h.b1)
end
abbrev rQ(toks:List Kz)(a b:Nat):List Kz:=(toks.drop a).take (b-a)
theorem fq(toks:List Kz)(a:Nat):rQ toks a a=[]:=by unfold rQ;rw[Nat.sub_self];rfl
theorem oR(Bg:a<=b)(hb:b<toks.length):rQ toks a (b+1)=rQ toks a b++[toks[b]]:=by
 unfold rQ;have h1:b-a<(toks.drop a).length:=by rw[Xl];omega
 rw[show b+1-a=b-a+1 by omega,Qc h1,List.getElem_drop];congr 3;congr 1;omega
theorem om(Bg:a<=b):toks.take b=toks.take a++rQ toks a b:=by
 obtain⟨d,rfl⟩:∃d,b=a+d:=⟨b-a,by omega⟩;unfold rQ;rw[Nat.add_sub_cancel_left,List.take_add]
structure qeP(toks:List Kz)(a:Nat)(l:Kh)(b:Nat):Prop where
 lt:a<b
 le:b<=toks.length
 run:∀done,On (.name done) (rQ toks a b)=some (.name (done++[l]))
structure dW(toks:List Kz)(a b:Nat):Prop where
 ab:a<=b
 le:b<=toks.length
 run:∀done,∃st,On (.name done) (rQ toks a b)=some st/\(∀h:b<toks.length,Rn st toks[b]=none)/\(b=toks.length->∀len,nh len st []=([],len,14))
def Se(toks:List Kz)(a b:Nat)(nm:ByteArray)(alts:List (List Wf))(alt:List Wf):Prop :=
 a<b/\b<=toks.length/\∀done,On (.name done) (rQ toks a b)=some (.item done nm alts alt)
theorem dW.first(ha:a<toks.length)(h:toks[a].1≠1):dW toks a a :=
 ⟨Yb _,Yh ha,fun done=>⟨.name done,by rw[fq];rfl,fun _=>if_neg h,fun e=>by omega⟩⟩
theorem pk(ha:a<toks.length)(h:toks[a].1=1)(done:List Kh):On (.name done) (rQ toks a (a+1))=some (.colon done (Jp toks[a].2.1)):=by
 rw[oR (Yb _) ha,fq];exact eN (st':=.name done) rfl (if_pos h)
theorem dW.second(ha:a<toks.length)(h:toks[a].1=1)(h2:∀hb:a+1<toks.length,toks[a+1].1≠3):dW toks a (a+1) :=
 ⟨Yi _,ha,fun done=>⟨_,pk ha h done,fun hb=>if_neg (h2 hb),fun _ _=>rfl⟩⟩
theorem Se.start(ha:a<toks.length)(h:toks[a].1=1)(hb:a+1<toks.length)(h2:toks[a+1].1=3):Se toks a (a+2) (Jp toks[a].2.1) [] [] :=
 ⟨by omega,by omega,fun done=>by
  rw[show a+2=a+1+1 from rfl,oR (Yi _) hb]
  exact eN (pk ha h done) (if_pos h2)⟩
section
variable {toks:List Kz} {a b:Nat} {nm:ByteArray} {alts:List (List Wf)} {alt:List Wf}
theorem Se.snoc(h:Se toks a b nm alts alt)(hb:b<toks.length){st:List Kh->PSt}(hs:∀done,Rn (.item done nm alts alt) toks[b]=some (st done))(done:List Kh):On (.name done) (rQ toks a (b+1))=some (st done):=by
 rw[oR (Yh h.1) hb];exact eN (h.2.2 done) (hs done)
theorem Se.item(h:Se toks a b nm alts alt)(hb:b<toks.length)(hk:toks[b].1=1\/toks[b].1=2):Se toks a (b+1) nm alts (alt++[(decide (toks[b].1=2),Jp toks[b].2.1)]) :=
 ⟨by have:=h.1;omega,hb,h.snoc hb fun _=>if_pos hk⟩
theorem Se.bar(h:Se toks a b nm alts alt)(hb:b<toks.length)(hk:toks[b].1=4):Se toks a (b+1) nm (alts++[alt]) [] :=
 ⟨by have:=h.1;omega,hb,h.snoc hb fun _=>by
  show (if _ then _ else if _ then _ else _)=_
  rw[if_neg (by rw[hk];decide),if_pos hk]⟩
theorem Se.semi(h:Se toks a b nm alts alt)(hb:b<toks.length)(hk:toks[b].1=5):qeP toks a (nm,alts++[alt]) (b+1) :=
 ⟨by have:=h.1;omega,hb,fun done=>h.snoc (st:=fun done=>.name (done++[(nm,alts++[alt])])) hb (fun _=>by
  show (if _ then _ else if _ then _ else if _ then _ else _)=_
  rw[if_neg (by rw[hk];decide),if_neg (by rw[hk];decide),if_pos hk]) done⟩
theorem Se.bad(h:Se toks a b nm alts alt)(hk:∀hb:b<toks.length,toks[b].1≠1/\toks[b].1≠2/\toks[b].1≠4/\toks[b].1≠5):dW toks a b :=
 ⟨Yh h.1,h.2.1,fun done=>⟨_,h.2.2 done,fun hb=>by
  obtain⟨k1,k2,k4,k5⟩:=hk hb
  show (if _ then _ else if _ then _ else if _ then _ else _)=_
  rw[if_neg (by omega),if_neg k4,if_neg k5],fun _ _=>rfl⟩⟩
end
def Id(toks:List Kz)(k:Nat)(done:List Kh):Prop:=k<=toks.length/\On (.name []) (toks.take k)=some (.name done)
theorem Id.start(toks:List Kz):Id toks 0 []:=⟨Yg _,rfl⟩
theorem Id.more{done:List Kh}{l:Kh}(h:Id toks k done)(hy:qeP toks k l b):Id toks b (done++[l]):=by
 refine⟨hy.le,?_⟩;rw[om (Yh hy.lt),cC,h.2];exact hy.run done
theorem Id.bad{done:List Kh}(h:Id toks k done)(hx:dW toks k b)(len:Nat):iM toks len=if hb:b<toks.length then ([],toks[b].2.2,14)else ([],len,14):=by
 obtain⟨st,h1,h2,h3⟩:=hx.run done;have hr:On (.name []) (toks.take b)=some st:=by
  rw[om hx.ab,cC,h.2];exact h1
 split
 .rename_i hb;exact vF hb hr (h2 hb)
 rename_i hb;have e:b=toks.length:=by have:=hx.le;omega
 rw[Qd (by omega)]at hr;rw[iL hr];exact h3 e len
theorem Id.all{done:List Kh}(h:Id toks k done)(hk:toks.length<=k)(len:Nat):iM toks len=if done=[]then ([],len,14)else (done,0,0):=by
 have hr:=h.2;rw[Qd hk]at hr;rw[iL hr];rfl
theorem uH(hi:i<l.length)(h:may (l[i].toNat:Int)=true):Ko may (l.drop i)=Ko may (l.drop (i+1))+1:=by
 rw[Ql hi,Ko,if_pos h]
theorem nJ(hi:i<l.length)(h:may (l[i].toNat:Int)=false):Ko may (l.drop i)=0:=by
 rw[Ql hi,Ko,if_neg (by rw[h];decide)]
theorem uI(hi:l.length<=i):Ko may (l.drop i)=0:=by
 rw[Xm hi];rfl
theorem uv(s:ByteArray)(h:i<=e):(s.extract i e).data.toList=(s.data.toList.drop i).take (e-i):=by
 obtain⟨k,rfl⟩:∃k,e=i+k:=⟨e-i,by omega⟩;rw[vS,Nat.add_sub_cancel_left]
theorem Uq{fn:Func}{p u x:Tmp}{r y:Value}{Q:Ending->World->Prop}(h:fn.results=#[.cell p 104,.tmp u,.tmp x]){a:Act}{c0 c1 c2:Value}{fr:Nat×Nat}{t:TypeId}(hd:a.defers=[])
  (hp:a.tmps.getD p undef=.pointer (some ⟨g,0,none⟩)) (hu:a.tmps.getD u undef=r) (hx:a.tmps.getD x undef=y) (hg:w.heap[g]?=some (.cells #[c0,c1,c2] t fr)) (hq:Q (.returned (.tuple #[.agg #[c0,c1,c2],r,y])) w):bodyPost Tryz.prog fn Q .ret a w:=by
 refine Zh (v:=.tuple #[.agg #[c0,c1,c2],r,y]) ?_ hd hq;rw[Nl h,hp,hu,hx];simp[asAddr,Result.andThen,run_loadVar_row w g t 104 #[c0,c1,c2] fr _ hg Tryz.underlying104 rfl (by kernel_rfl)]
theorem Uz{vs:List Value}(hv:v.cells=vs.toArray)(hl:vs.length=3){cur:Array Value}{t:TypeId}(hg:w.heap[g]?=some (.cells cur t (0,0)))
  (hc:cur.size=3) (h1:∀u∈vs,u.oneCell'=true):(Instr.storeAt 104 (.pointer (some ⟨g,0,none⟩)) v).run Tryz.prog w=.ok () (w.setRow g vs.toArray):=by
 rw[Bu hv (by rw[hl];kernel_rfl) hg (by omega) h1];congr 2;simp[List.drop_eq_nil_of_le (show cur.toList.length<=vs.length by simp;omega)]
def rg(l:Wd)(i:Nat):Value:=match Fg (l.drop i)with
 |.ok t=>.tuple #[.agg #[.int .i64 t.1,.string (Jp t.2.1),.int .i64 i],.int .i64 ((i+t.2.2:Nat):Int),.int .i64 0]
 |.error e=>.tuple #[.agg #[.int .i64 0,.string ⟨#[]⟩,.int .i64 0],.int .i64 i,.int .i64 e]
theorem Ot(h:Fg (l.drop i)=.ok t){b:ByteArray}(hb:b.data.toList=t.2.1){j k:Int}(hj:j=(i:Int)+t.2.2)(hk:k=t.1):.tuple #[.agg #[.int .i64 k,.string b,.int .i64 i],.int .i64 j,.int .i64 0]=rg l i:=by
 unfold rg;rw[h,<-qmT hb,hj,hk];rfl
theorem Fw(h:Fg (l.drop i)=.error e){k:Int}(hk:k=e):.tuple #[.agg #[.int .i64 0,.string ⟨#[]⟩,.int .i64 0],.int .i64 i,.int .i64 k]=rg l i:=by
 unfold rg;rw[h,hk]
def qbS(l:Wd)(i:Nat)(w:World)(e:Ending)(w':World):Prop:=e=.returned (rg l i)/\Below w.heap.size w w'
theorem N_(s:ByteArray)(i:Nat)(w:World)(hs:s.size<=maxLen)(hi:i<s.size):Calls Tryz.prog 109 #[.string s,.int .i64 i] w (qbS s.data.toList i w):=by
 unfold maxLen at hs;have hbt:=fD s;have Ns:=Lh (show s.data.toList.length=s.size by simp);have Wp:i<s.data.toList.length:=by rw[Ns.o];exact hi
 obtain⟨c,r,lJ⟩:∃c r,s.data.toList.drop i=c::r:=⟨_,_,Ql Wp⟩;have hdr:s.data.toList.drop (i+1)=r:=by
  have:=congrArg (List.drop 1) lJ;rw[List.drop_drop]at this;exact this
 have Vn:Nf s i=(c.toNat:Int):=by
  rw[Fm s i Wp];rw[Ql Wp]at lJ;injection lJ with h1 h2;rw[h1]
 have HT:=Lh (show Fg (s.data.toList.drop i)=Cb c r by rw[lJ];rfl);unfold qbS;have HB1:=Lt (Below w.heap.size w (w.alloc (.cells #[.int .i64 0,.string ⟨#[]⟩,.int .i64 0] 104))) ((Xr _ _).alloc (Yb _) _);have HI1:=Lh (Xn w (.cells #[.int .i64 0,.string ⟨#[]⟩,.int .i64 0] 104));have aV:Nf s i=58\/Nf s i=124\/Nf s i=59\/(Nf s i≠58/\Nf s i≠124/\Nf s i≠59):=by omega
 rcases aV with h|h|h|⟨h1,h2,h3⟩
 .have HV:=Lh (Ot (b:=⟨#[58]⟩) (HT.o.trans (by rw[show c=58 from UInt8.toNat_inj.1 (by have:=Vn;rw[h]at this;exact Int.ofNat_inj.1 this.symm)];exact tM r)) rfl rfl rfl);clear HT lJ Vn hdr;go_enter Tryz.func109,Tryz.ntmps109;go_wp2_with fail;refine Uq (g:=w.heap.size) rfl rfl rfl rfl rfl (Xn _ _) ?_;exact⟨congrArg Ending.returned HV.o,(Xr _ _).alloc (Yb _) _⟩
 .have HV:=Lh (Ot (b:=⟨#[124]⟩) (HT.o.trans (by rw[show c=124 from UInt8.toNat_inj.1 (by have:=Vn;rw[h]at this;exact Int.ofNat_inj.1 this.symm)];exact oe r)) rfl rfl rfl);clear HT lJ Vn hdr;go_enter Tryz.func109,Tryz.ntmps109;go_wp2_with fail;refine Uq (g:=w.heap.size) rfl rfl rfl rfl rfl (Xn _ _) ?_;exact⟨congrArg Ending.returned HV.o,(Xr _ _).alloc (Yb _) _⟩
 .have HV:=Lh (Ot (b:=⟨#[59]⟩) (HT.o.trans (by rw[show c=59 from UInt8.toNat_inj.1 (by have:=Vn;rw[h]at this;exact Int.ofNat_inj.1 this.symm)];exact bc r)) rfl rfl rfl);clear HT lJ Vn hdr;go_enter Tryz.func109,Tryz.ntmps109;go_wp2_with fail;refine Uq (g:=w.heap.size) rfl rfl rfl rfl rfl (Xn _ _) ?_;exact⟨congrArg Ending.returned HV.o,(Xr _ _).alloc (Yb _) _⟩
 have hb1:(Nf s i==58)=false:=by simpa using h1
 have Jd:(Nf s i==124)=false:=by simpa using h2
 have hb3:(Nf s i==59)=false:=by simpa using h3
 have n1:c≠58:=fun e=>h1 (by rw[Vn,e];rfl);have n2:c≠124:=fun e=>h2 (by rw[Vn,e];rfl);have n3:c≠59:=fun e=>h3 (by rw[Vn,e];rfl);clear h1 h2 h3;rcases Yo (Uv (Nf s i))with hl|hl
 .have HTN:=Lh (HT.o.trans (bd (by rw[<-Vn];exact hl)));have eA:=Lh (fun W:World=>Bd (Nf s i) W);rw[<-lJ]at HTN;rw[hl]at eA;clear HT lJ Vn hdr n1 n2 n3 hl;go_enter Tryz.func109,Tryz.ntmps109;go_wp2_with fail;refine (eA.o _).mono ?_;rintro e w1 ⟨rfl,rfl⟩;generalize w.alloc (.cells #[.int .i64 0,.string ⟨#[]⟩,.int .i64 0] 104)=w1 at*;go_wp2_with fail;go_loop [8] (fun v8=>∃e:Nat,i<=e/\e<=s.size/\v8=.int .i64 e/\Hid (Ko Ww (s.data.toList.drop i)=(e-i)+Ko Ww (s.data.toList.drop e))) (fun v8=>s.size-(intOf v8).toNat);exact⟨i,Yb _,by omega,rfl,by show _=_;rw[Nat.sub_self,Yr]⟩;obtain⟨e,hie,hes,rfl,HR⟩:=hrel;have hc:(e<s.size/\Ww (Nf s e)=true)\/(Hid (Ko Ww (s.data.toList.drop i)=e-i)/\((e<s.size/\Ww (Nf s e)=false)\/¬ e<s.size)):=by
   by_cases Jl:e<s.size
   .have eu:e<s.data.toList.length:=by rw[Ns.o];exact Jl
    cases hg:Ww (Nf s e)with
    |true=>exact .inl ⟨Jl,rfl⟩
    |false=>exact .inr ⟨by show _=_;rw[HR.o,nJ eu (by rw[<-Fm s e eu];exact hg),Yq],.inl ⟨Jl,rfl⟩⟩
   exact .inr ⟨by show _=_;rw[HR.o,uI (by rw[Ns.o];omega),Yq],.inr Jl⟩
  rcases hc with ⟨Jl,hg⟩|⟨HN,hbc⟩
  .have HSTEP:=Lh (show Ko Ww (s.data.toList.drop i)=(e+1-i)+Ko Ww (s.data.toList.drop (e+1)) by
    have eu:e<s.data.toList.length:=by rw[Ns.o];exact Jl
    rw[HR.o,uH eu (by rw[<-Fm s e eu];exact hg)]
    omega)
   have HG:=Lh hg;clear hg;go_wp2_with fail;refine (iR (Nf s e) _).mono ?_;rintro e1 w2 ⟨rfl,rfl⟩;rw[HG.o];go_wp2;go_round;exact⟨e+1,by omega,by omega,by go_num,HSTEP.o⟩;simp[intOf];omega
  by_cases wN:32<e-i
  .have g32:decide ((32:Int)<(e:Int)-(i:Int))=true:=by simp;omega
   have HV:=Lh (Fw (HTN.o.trans (if_pos (by rw[HN.o];exact wN))) rfl);rcases hbc with ⟨Jl,hg⟩|hge
   .have HG:=Lh hg;clear hg;go_wp2_with fail;refine (iR (Nf s e) _).mono ?_;rintro e1 w2 ⟨rfl,rfl⟩;rw[HG.o];go_wp2_with (refine Zv none rfl ?_);refine Stop.go (Zo rfl 104 rfl rfl rfl (Uz (vs:=[.int .i64 0,.string ⟨#[]⟩,.int .i64 0]) rfl rfl HI1.o rfl (by intro u hu;simp only[List.mem_cons,List.not_mem_nil,or_false]at hu;rcases hu with rfl|rfl|rfl <;> rfl)) ?_);have HRW:=Lh (Zj _ _ _ _ _ _ HI1.o:(w1.setRow w.heap.size [.int .i64 0,.string ⟨#[]⟩,.int .i64 0].toArray).heap[w.heap.size]?=_);have HBR:=Lh (Zk HB1.o (Yb _) [.int .i64 0,.string ⟨#[]⟩,.int .i64 0].toArray);generalize w1.setRow w.heap.size [.int .i64 0,.string ⟨#[]⟩,.int .i64 0].toArray=w3 at*;(conv in Act.put _ _ _=>simp[Act.put]);go_wp2_with fail;refine Uq (g:=w.heap.size) rfl rfl rfl rfl rfl HRW.o ?_;exact⟨congrArg Ending.returned HV.o,HBR.o⟩
   go_wp2_with (refine Zv none rfl ?_);refine Stop.go (Zo rfl 104 rfl rfl rfl (Uz (vs:=[.int .i64 0,.string ⟨#[]⟩,.int .i64 0]) rfl rfl HI1.o rfl (by intro u hu;simp only[List.mem_cons,List.not_mem_nil,or_false]at hu;rcases hu with rfl|rfl|rfl <;> rfl)) ?_);have HRW:=Lh (Zj _ _ _ _ _ _ HI1.o:(w1.setRow w.heap.size [.int .i64 0,.string ⟨#[]⟩,.int .i64 0].toArray).heap[w.heap.size]?=_);have HBR:=Lh (Zk HB1.o (Yb _) [.int .i64 0,.string ⟨#[]⟩,.int .i64 0].toArray);generalize w1.setRow w.heap.size [.int .i64 0,.string ⟨#[]⟩,.int .i64 0].toArray=w3 at*;(conv in Act.put _ _ _=>simp[Act.put]);go_wp2_with fail;refine Uq (g:=w.heap.size) rfl rfl rfl rfl rfl HRW.o ?_;exact⟨congrArg Ending.returned HV.o,HBR.o⟩
  have g32:decide ((32:Int)<(e:Int)-(i:Int))=false:=by simp;omega
  have HV:=Lh (Ot (j:=(e:Int)) (b:=s.extract i e) (HTN.o.trans (if_neg (by rw[HN.o];exact wN))) (by rw[uv s hie,HN.o]) (by simp only[HN.o];omega) rfl);rcases hbc with ⟨Jl,hg⟩|hge
  .have HG:=Lh hg;clear hg;go_wp2_with fail;refine (iR (Nf s e) _).mono ?_;rintro e1 w2 ⟨rfl,rfl⟩;rw[HG.o];go_wp2_with (refine Zv none rfl ?_);refine Stop.go (Zo rfl 104 rfl rfl rfl (Uz (vs:=[.int .i64 1,.string (s.extract i e),.int .i64 i]) rfl rfl HI1.o rfl (by intro u hu;simp only[List.mem_cons,List.not_mem_nil,or_false]at hu;rcases hu with rfl|rfl|rfl <;> rfl)) ?_);have HRW:=Lh (Zj _ _ _ _ _ _ HI1.o:(w1.setRow w.heap.size [.int .i64 1,.string (s.extract i e),.int .i64 i].toArray).heap[w.heap.size]?=_);have HBR:=Lh (Zk HB1.o (Yb _) [.int .i64 1,.string (s.extract i e),.int .i64 i].toArray);generalize w1.setRow w.heap.size [.int .i64 1,.string (s.extract i e),.int .i64 i].toArray=w3 at*;(conv in Act.put _ _ _=>simp[Act.put]);go_wp2_with fail;refine Uq (g:=w.heap.size) rfl rfl rfl rfl rfl HRW.o ?_;exact⟨congrArg Ending.returned HV.o,HBR.o⟩
  go_wp2_with (refine Zv none rfl ?_);refine Stop.go (Zo rfl 104 rfl rfl rfl (Uz (vs:=[.int .i64 1,.string (s.extract i e),.int .i64 i]) rfl rfl HI1.o rfl (by intro u hu;simp only[List.mem_cons,List.not_mem_nil,or_false]at hu;rcases hu with rfl|rfl|rfl <;> rfl)) ?_);have HRW:=Lh (Zj _ _ _ _ _ _ HI1.o:(w1.setRow w.heap.size [.int .i64 1,.string (s.extract i e),.int .i64 i].toArray).heap[w.heap.size]?=_);have HBR:=Lh (Zk HB1.o (Yb _) [.int .i64 1,.string (s.extract i e),.int .i64 i].toArray);generalize w1.setRow w.heap.size [.int .i64 1,.string (s.extract i e),.int .i64 i].toArray=w3 at*;(conv in Act.put _ _ _=>simp[Act.put]);go_wp2_with fail;refine Uq (g:=w.heap.size) rfl rfl rfl rfl rfl HRW.o ?_;exact⟨congrArg Ending.returned HV.o,HBR.o⟩
 have eA:=Lh (fun W:World=>Bd (Nf s i) W);rw[hl]at eA;have n4:Uv (c.toNat:Int)=false:=by rw[<-Vn];exact hl
 by_cases h4:Nf s i=39
 .have n5:c=39:=UInt8.toNat_inj.1 (by have:=Vn;rw[h4]at this;exact Int.ofNat_inj.1 this.symm);have HTN:=Lh (HT.o.trans ((congrArg (fun c=>Cb c r) n5).trans (az r)));have hb4:(Nf s i != 39)=false:=by simpa using h4
  have HDL:=Lh (show r.length=s.size-(i+1) by rw[<-hdr,Xl,Ns.o]);have qtH:=Lh (show ∀e,i+1<=e->(h:e<s.size)->(r[e-(i+1)]?=some 39↔Nf s e=39)from fun e h0 h=>by
   have h1:e<s.data.toList.length:=by rw[Ns.o];exact h
   have h2:=dP s h1 39
   rw[show (39:Int)=((39:UInt8).toNat:Int)from rfl,<-h2,<-hdr,List.getElem?_drop,show i+1+(e-(i+1))=e by omega,Qa h1]
   simp)
  have qzE:=Lt (r[s.size-(i+1)]?=none) (Xg (by have:=HDL.o;omega));rw[<-hdr]at HTN qtH qzE HDL;clear HT lJ Vn hdr n1 n2 n3 n4 n5 hl h4;go_enter Tryz.func109,Tryz.ntmps109;go_wp2_with fail;refine (eA.o _).mono ?_;rintro e w1 ⟨rfl,rfl⟩;generalize w.alloc (.cells #[.int .i64 0,.string ⟨#[]⟩,.int .i64 0] 104)=w1 at*;go_wp2_with fail;go_loop [9] (fun v9=>∃e:Nat,i+1<=e/\e<=s.size/\v9=.int .i64 e/\Hid (Ko Jg (s.data.toList.drop (i+1))=(e-(i+1))+Ko Jg (s.data.toList.drop e))) (fun v9=>s.size-(intOf v9).toNat);exact⟨i+1,Yb _,by omega,by go_num,by show _=_;rw[Nat.sub_self,Yr]⟩;obtain⟨e,hie,hes,rfl,HR⟩:=hrel;by_cases Jl:e<s.size
  .have eu:e<s.data.toList.length:=by rw[Ns.o];exact Jl
   have Oe:=Lh (fun h=>uH (may:=Jg) eu (by rw[<-Fm s e eu];exact h));have bC:=Lh (fun h=>nJ (may:=Jg) eu (by rw[<-Fm s e eu];exact h));have yU:=Lh (qtH.o e hie Jl);obtain⟨x,hx⟩:=Xe (Nf s e);rw[<-hx]at Oe bC yU;have Nd:Nf s e=x:=hx.symm;clear hx eu;have hcc:x<32\/(32<=x/\x<39)\/(39<=x/\x<=39)\/(39<x/\x<92)\/(92<=x/\x<=92)\/(92<x/\x<=126)\/126<x:=by omega
   rcases hcc with h|h|h|h|h|h|h
   .have ei:Jg x=false:=by
     unfold Jg;simp;omega
    have e1:(x != 39)=true:=by rw[Yv];omega
    have e2:(x != 92)=true:=by rw[Yv];omega
    have e3:decide (32<=x)=false:=by simp;omega
    have e4:decide (x<=126)=true:=by simp;omega
    have HV:=Lh (Fw (HTN.o.trans (if_neg (fun hh=>by
     rw[HR.o,bC.o ei,Yq,yU.o]at hh
     omega))) rfl)
    clear ei h Oe bC yU;go_wp2_with (refine Zv none rfl ?_);refine Stop.go (Zo rfl 104 rfl rfl rfl (Uz (vs:=[.int .i64 0,.string ⟨#[]⟩,.int .i64 0]) rfl rfl HI1.o rfl (by intro u hu;simp only[List.mem_cons,List.not_mem_nil,or_false]at hu;rcases hu with rfl|rfl|rfl <;> rfl)) ?_);have HRW:=Lh (Zj _ _ _ _ _ _ HI1.o:(w1.setRow w.heap.size [.int .i64 0,.string ⟨#[]⟩,.int .i64 0].toArray).heap[w.heap.size]?=_);have HBR:=Lh (Zk HB1.o (Yb _) [.int .i64 0,.string ⟨#[]⟩,.int .i64 0].toArray);generalize w1.setRow w.heap.size [.int .i64 0,.string ⟨#[]⟩,.int .i64 0].toArray=w3 at*;(conv in Act.put _ _ _=>simp[Act.put]);go_wp2_with fail;refine Uq (g:=w.heap.size) rfl rfl rfl rfl rfl HRW.o ?_;exact⟨congrArg Ending.returned HV.o,HBR.o⟩
   .have ei:Jg x=true:=by
     unfold Jg;simp;omega
    have e1:(x != 39)=true:=by rw[Yv];omega
    have e2:(x != 92)=true:=by rw[Yv];omega
    have e3:decide (32<=x)=true:=by simp;omega
    have e4:decide (x<=126)=true:=by simp;omega
    have HSTEP:=Lh (show Ko Jg (s.data.toList.drop (i+1))=(e+1-(i+1))+Ko Jg (s.data.toList.drop (e+1)) by
     rw[HR.o,Oe.o ei]
     omega)
    clear ei h Oe bC yU;go_wp2;go_round;exact⟨e+1,by omega,by omega,by go_num,HSTEP.o⟩;simp[intOf];omega
   .have ei:Jg x=false:=by
     unfold Jg;simp;omega
    have e1:(x != 39)=false:=by rw[bne_eq_false_iff_eq];omega
    have e2:(x != 92)=true:=by rw[Yv];omega
    have e3:decide (32<=x)=true:=by simp;omega
    have e4:decide (x<=126)=true:=by simp;omega
    have HN:=Lh (show Ko Jg (s.data.toList.drop (i+1))=e-(i+1) by rw[HR.o,bC.o ei,Yq]);have HQ:=Lh (yU.o.2 (by omega));clear ei h Oe bC yU;by_cases hz:e=i+1
    .have HV:=Lh (Fw (HTN.o.trans (if_neg (fun hh=>by
      rw[HN.o]at hh
      omega))) rfl)
     have g5:((e:Int)==(i:Int)+1)=true:=by rw[beq_iff_eq];omega
     clear hz;go_wp2_with (refine Zv none rfl ?_);refine Stop.go (Zo rfl 104 rfl rfl rfl (Uz (vs:=[.int .i64 0,.string ⟨#[]⟩,.int .i64 0]) rfl rfl HI1.o rfl (by intro u hu;simp only[List.mem_cons,List.not_mem_nil,or_false]at hu;rcases hu with rfl|rfl|rfl <;> rfl)) ?_);have HRW:=Lh (Zj _ _ _ _ _ _ HI1.o:(w1.setRow w.heap.size [.int .i64 0,.string ⟨#[]⟩,.int .i64 0].toArray).heap[w.heap.size]?=_);have HBR:=Lh (Zk HB1.o (Yb _) [.int .i64 0,.string ⟨#[]⟩,.int .i64 0].toArray);generalize w1.setRow w.heap.size [.int .i64 0,.string ⟨#[]⟩,.int .i64 0].toArray=w3 at*;(conv in Act.put _ _ _=>simp[Act.put]);go_wp2_with fail;refine Uq (g:=w.heap.size) rfl rfl rfl rfl rfl HRW.o ?_;exact⟨congrArg Ending.returned HV.o,HBR.o⟩
    have g5:((e:Int)==(i:Int)+1)=false:=by rw[Yp];omega
    have HT2:=Lh (HTN.o.trans (if_pos (by rw[HN.o];exact⟨by omega,HQ.o⟩)));clear HQ;by_cases wN:32<e-(i+1)
    .have g32:decide ((32:Int)<(e:Int)-(i:Int)-1)=true:=by simp;omega
     have HV:=Lh (Fw (HT2.o.trans (if_pos (by rw[HN.o];exact wN))) rfl);clear hz wN;go_wp2_with (refine Zv none rfl ?_);refine Stop.go (Zo rfl 104 rfl rfl rfl (Uz (vs:=[.int .i64 0,.string ⟨#[]⟩,.int .i64 0]) rfl rfl HI1.o rfl (by intro u hu;simp only[List.mem_cons,List.not_mem_nil,or_false]at hu;rcases hu with rfl|rfl|rfl <;> rfl)) ?_);have HRW:=Lh (Zj _ _ _ _ _ _ HI1.o:(w1.setRow w.heap.size [.int .i64 0,.string ⟨#[]⟩,.int .i64 0].toArray).heap[w.heap.size]?=_);have HBR:=Lh (Zk HB1.o (Yb _) [.int .i64 0,.string ⟨#[]⟩,.int .i64 0].toArray);generalize w1.setRow w.heap.size [.int .i64 0,.string ⟨#[]⟩,.int .i64 0].toArray=w3 at*;(conv in Act.put _ _ _=>simp[Act.put]);go_wp2_with fail;refine Uq (g:=w.heap.size) rfl rfl rfl rfl rfl HRW.o ?_;exact⟨congrArg Ending.returned HV.o,HBR.o⟩
    have g32:decide ((32:Int)<(e:Int)-(i:Int)-1)=false:=by simp;omega
    have HV:=Lh (Ot (j:=(e:Int)+1) (b:=s.extract (i+1) e) (HT2.o.trans (if_neg (by rw[HN.o];exact wN))) (by rw[uv s hie,HN.o]) (by simp only[HN.o];omega) rfl);clear hz wN;go_wp2_with (refine Zv none rfl ?_);refine Stop.go (Zo rfl 104 rfl rfl rfl (Uz (vs:=[.int .i64 2,.string (s.extract (i+1) e),.int .i64 i]) rfl rfl HI1.o rfl (by intro u hu;simp only[List.mem_cons,List.not_mem_nil,or_false]at hu;rcases hu with rfl|rfl|rfl <;> rfl)) ?_);have HRW:=Lh (Zj _ _ _ _ _ _ HI1.o:(w1.setRow w.heap.size [.int .i64 2,.string (s.extract (i+1) e),.int .i64 i].toArray).heap[w.heap.size]?=_);have HBR:=Lh (Zk HB1.o (Yb _) [.int .i64 2,.string (s.extract (i+1) e),.int .i64 i].toArray);generalize w1.setRow w.heap.size [.int .i64 2,.string (s.extract (i+1) e),.int .i64 i].toArray=w3 at*;(conv in Act.put _ _ _=>simp[Act.put]);go_wp2_with fail;refine Uq (g:=w.heap.size) rfl rfl rfl rfl rfl HRW.o ?_;exact⟨congrArg Ending.returned HV.o,HBR.o⟩
   .have ei:Jg x=true:=by
     unfold Jg;simp;omega
    have e1:(x != 39)=true:=by rw[Yv];omega
    have e2:(x != 92)=true:=by rw[Yv];omega
    have e3:decide (32<=x)=true:=by simp;omega
    have e4:decide (x<=126)=true:=by simp;omega
    have HSTEP:=Lh (show Ko Jg (s.data.toList.drop (i+1))=(e+1-(i+1))+Ko Jg (s.data.toList.drop (e+1)) by
     rw[HR.o,Oe.o ei]
     omega)
    clear ei h Oe bC yU;go_wp2;go_round;exact⟨e+1,by omega,by omega,by go_num,HSTEP.o⟩;simp[intOf];omega
   .have ei:Jg x=false:=by
     unfold Jg;simp;omega
    have e1:(x != 39)=true:=by rw[Yv];omega
    have e2:(x != 92)=false:=by rw[bne_eq_false_iff_eq];omega
    have e3:decide (32<=x)=true:=by simp;omega
    have e4:decide (x<=126)=true:=by simp;omega
    have HV:=Lh (Fw (HTN.o.trans (if_neg (fun hh=>by
     rw[HR.o,bC.o ei,Yq,yU.o]at hh
     omega))) rfl)
    clear ei h Oe bC yU;go_wp2_with (refine Zv none rfl ?_);refine Stop.go (Zo rfl 104 rfl rfl rfl (Uz (vs:=[.int .i64 0,.string ⟨#[]⟩,.int .i64 0]) rfl rfl HI1.o rfl (by intro u hu;simp only[List.mem_cons,List.not_mem_nil,or_false]at hu;rcases hu with rfl|rfl|rfl <;> rfl)) ?_);have HRW:=Lh (Zj _ _ _ _ _ _ HI1.o:(w1.setRow w.heap.size [.int .i64 0,.string ⟨#[]⟩,.int .i64 0].toArray).heap[w.heap.size]?=_);have HBR:=Lh (Zk HB1.o (Yb _) [.int .i64 0,.string ⟨#[]⟩,.int .i64 0].toArray);generalize w1.setRow w.heap.size [.int .i64 0,.string ⟨#[]⟩,.int .i64 0].toArray=w3 at*;(conv in Act.put _ _ _=>simp[Act.put]);go_wp2_with fail;refine Uq (g:=w.heap.size) rfl rfl rfl rfl rfl HRW.o ?_;exact⟨congrArg Ending.returned HV.o,HBR.o⟩
   .have ei:Jg x=true:=by
     unfold Jg;simp;omega
    have e1:(x != 39)=true:=by rw[Yv];omega
    have e2:(x != 92)=true:=by rw[Yv];omega
    have e3:decide (32<=x)=true:=by simp;omega
    have e4:decide (x<=126)=true:=by simp;omega
    have HSTEP:=Lh (show Ko Jg (s.data.toList.drop (i+1))=(e+1-(i+1))+Ko Jg (s.data.toList.drop (e+1)) by
     rw[HR.o,Oe.o ei]
     omega)
    clear ei h Oe bC yU;go_wp2;go_round;exact⟨e+1,by omega,by omega,by go_num,HSTEP.o⟩;simp[intOf];omega
   have ei:Jg x=false:=by
    unfold Jg;simp;omega
   have e1:(x != 39)=true:=by rw[Yv];omega
   have e2:(x != 92)=true:=by rw[Yv];omega
   have e3:decide (32<=x)=true:=by simp;omega
   have e4:decide (x<=126)=false:=by simp;omega
   have HV:=Lh (Fw (HTN.o.trans (if_neg (fun hh=>by
    rw[HR.o,bC.o ei,Yq,yU.o]at hh
    omega))) rfl)
   clear ei h Oe bC yU;go_wp2_with (refine Zv none rfl ?_);refine Stop.go (Zo rfl 104 rfl rfl rfl (Uz (vs:=[.int .i64 0,.string ⟨#[]⟩,.int .i64 0]) rfl rfl HI1.o rfl (by intro u hu;simp only[List.mem_cons,List.not_mem_nil,or_false]at hu;rcases hu with rfl|rfl|rfl <;> rfl)) ?_);have HRW:=Lh (Zj _ _ _ _ _ _ HI1.o:(w1.setRow w.heap.size [.int .i64 0,.string ⟨#[]⟩,.int .i64 0].toArray).heap[w.heap.size]?=_);have HBR:=Lh (Zk HB1.o (Yb _) [.int .i64 0,.string ⟨#[]⟩,.int .i64 0].toArray);generalize w1.setRow w.heap.size [.int .i64 0,.string ⟨#[]⟩,.int .i64 0].toArray=w3 at*;(conv in Act.put _ _ _=>simp[Act.put]);go_wp2_with fail;refine Uq (g:=w.heap.size) rfl rfl rfl rfl rfl HRW.o ?_;exact⟨congrArg Ending.returned HV.o,HBR.o⟩
  have HV:=Lh (Fw (HTN.o.trans (if_neg (fun hh=>by
   have he:e=s.size:=by omega
   rw[HR.o,uI (by rw[Ns.o];omega),Yq,he,qzE.o]at hh
   cases hh.2))) rfl)
  go_wp2_with (refine Zv none rfl ?_);refine Stop.go (Zo rfl 104 rfl rfl rfl (Uz (vs:=[.int .i64 0,.string ⟨#[]⟩,.int .i64 0]) rfl rfl HI1.o rfl (by intro u hu;simp only[List.mem_cons,List.not_mem_nil,or_false]at hu;rcases hu with rfl|rfl|rfl <;> rfl)) ?_);have HRW:=Lh (Zj _ _ _ _ _ _ HI1.o:(w1.setRow w.heap.size [.int .i64 0,.string ⟨#[]⟩,.int .i64 0].toArray).heap[w.heap.size]?=_);have HBR:=Lh (Zk HB1.o (Yb _) [.int .i64 0,.string ⟨#[]⟩,.int .i64 0].toArray);generalize w1.setRow w.heap.size [.int .i64 0,.string ⟨#[]⟩,.int .i64 0].toArray=w3 at*;(conv in Act.put _ _ _=>simp[Act.put]);go_wp2_with fail;refine Uq (g:=w.heap.size) rfl rfl rfl rfl rfl HRW.o ?_;exact⟨congrArg Ending.returned HV.o,HBR.o⟩
 have HV:=Lh (Fw (HT.o.trans (og n1 n2 n3 n4 (fun e=>h4 (by rw[Vn,e];rfl)))) rfl);have h5:(Nf s i != 39)=true:=by simpa using h4
 clear HT lJ Vn hdr n1 n2 n3 n4 hl h4;go_enter Tryz.func109,Tryz.ntmps109;go_wp2_with fail;refine (eA.o _).mono ?_;rintro e w1 ⟨rfl,rfl⟩;go_wp2_with fail;refine Uq (g:=w.heap.size) rfl rfl rfl rfl rfl (Xn _ _) ?_;exact⟨congrArg Ending.returned HV.o,(Xr _ _).alloc (Yb _) _⟩
def Lf(l:Wd)(w:World)(e:Ending)(w':World):Prop:=∃v:Value,e=.returned (.tuple #[v,.int .i64 (Sk l).2.1,.int .i64 (Sk l).2.2])/\w'.ownsRow w.heap.size 104 3 v (Sk l).1.length (Eo (Sk l).1)/\Below w.heap.size w w'
theorem qfG:Dg Tryz.prog 95 104 3 32 (.agg #[.int .i64 0,.string ⟨#[]⟩,.int .i64 0]):=Gh (by kernel_rfl) (by kernel_rfl) rfl (by omega)
theorem Lf.of{w':World}(h:Sk l=(toks,i,e))(ho:w'.ownsRow w.heap.size 104 3 v toks.length (Eo toks))(hb:Below w.heap.size w w'):Lf l w (.returned (.tuple #[v,.int .i64 i,.int .i64 e])) w':=by
 unfold Lf;rw[h];exact⟨v,rfl,ho,hb⟩
theorem qkK(s:ByteArray)(w:World)(hs:s.size<=maxLen):Calls Tryz.prog 53 #[.string s] w (Lf s.data.toList w):=by
 have Be:=hs;unfold maxLen at hs;have hbt:=fD s;have Ns:=Lh (show s.data.toList.length=s.size by simp);by_cases qaJ:65536<s.size
 .have HL:=Lh (dy (s:=s.data.toList) (by rw[Ns.o];exact qaJ));have g0:decide ((65536:Int)<(s.size:Int))=true:=by simp;omega
  clear hs Be qaJ;go_enter Tryz.func53,Tryz.ntmps53;go_wp2_with fail;refine Zh (Zi rfl _ _ _) rfl ?_;exact Lf.of HL.o (Za _ _ _ _) (Xr _ _)
 have Mo:s.size<=65536:=by omega
 have g0:decide ((65536:Int)<(s.size:Int))=false:=by simp;omega
 have HOWN:=Lh (Za w w.heap.size 104 3);have HB0:=Lh (Xr w.heap.size w);have HX:=Lh (ReachX.refl (s:=s.data.toList) (0,[]));go_enter Tryz.func53,Tryz.ntmps53;go_wp2_with fail;go_loopw [5,6] (fun v5 v6 wr=>∃(i:Nat)(toks:List Kz),i<=s.size/\toks.length<=i/\v6=.int .i64 i/\Hid (ReachX s.data.toList (0,[]) (i,toks))/\Hid (wr.ownsRow w.heap.size 104 3 v5 toks.length (Eo toks))/\Hid (Below w.heap.size w wr)) (fun _ v6 _=>s.size-(intOf v6).toNat);exact⟨0,[],Yg _,Yg _,rfl,HX.o,HOWN.o,HB0.o⟩;clear HX HOWN HB0;obtain⟨i,toks,hi,hti,rfl,HX,HOWN,HB⟩:=hrel;by_cases Jl:i<s.size
 .have Wp:i<s.data.toList.length:=by rw[Ns.o];exact Jl
  have HF:=Lh (N_ s i wr Be Jl);have HBK:=Lh (fun h=>tW Wp ((kz s Wp).2 h) toks);have am:=Lh (fun h=>bj Wp ((dP s Wp 35).2 h) toks);have yw:=Lt (¬ (Nf s i=32\/Nf s i=9\/Nf s i=13\/Nf s i=10)->rS s.data.toList[i]=false) (fun h=>by rw[<-Bool.not_eq_true,kz s Wp];exact h);have HNF:=Lt (Nf s i≠35->s.data.toList[i]≠35) (fun h e=>h ((dP s Wp 35).1 e));have hc:Nf s i=35\/Nf s i=32\/Nf s i=9\/Nf s i=13\/Nf s i=10\/(Nf s i≠35/\Nf s i≠32/\Nf s i≠9/\Nf s i≠13/\Nf s i≠10):=by omega
  rcases hc with h|h|h|h|h|⟨h1,h2,h3,h4,h5⟩
  .have HX2:=Lh (HX.o.snoc (am.o h));have HP:=Lh (show 1<=Ko Sq (s.data.toList.drop i) by
    rw[Ql Wp,(dP s Wp 35).2 h];exact Oo (by decide))
   go_wp2_with fail;go_loop [6] (fun v6=>∃e:Nat,i<=e/\e<=s.size/\v6=.int .i64 e/\Hid (Ko Sq (s.data.toList.drop i)=(e-i)+Ko Sq (s.data.toList.drop e))) (fun v6=>s.size-(intOf v6).toNat);exact⟨i,Yb _,hi,rfl,by show _=_;rw[Nat.sub_self,Yr]⟩;obtain⟨e,hie,hes,rfl,HR⟩:=hrel;by_cases hle:e<s.size
   .have eu:e<s.data.toList.length:=by rw[Ns.o];exact hle
    by_cases Ow:Nf s e=10
    .have HN:=Lh (show Ko Sq (s.data.toList.drop i)=e-i by
      rw[HR.o,nJ eu (by rw[<-Fm s e eu,Ow];rfl),Yq])
     have jv:i<e:=by have:=HP.o;have:=HN.o;omega
     have HX3:=Lh (show ReachX s.data.toList (0,[]) (e,toks) by
      have:=HX2.o
      rwa [HN.o,show i+(e-i)=e by omega]at this)
     go_wp2;go_roundw;exact⟨e,toks,hes,by omega,rfl,HX3.o,HOWN.o,HB.o⟩;simp[intOf];omega
    have HN:=Lh (show Ko Sq (s.data.toList.drop i)=(e+1-i)+Ko Sq (s.data.toList.drop (e+1)) by
     rw[HR.o,uH eu (by rw[<-Fm s e eu];exact Yw Ow)]
     omega)
    have qqN:(Nf s e != 10)=true:=by simpa using Ow
    clear Ow;go_wp2;go_round;exact⟨e+1,by omega,by omega,by go_num,HN.o⟩;simp[intOf];omega
   have HN:=Lh (show Ko Sq (s.data.toList.drop i)=e-i by
    rw[HR.o,uI (by rw[Ns.o];omega),Yq])
   have jv:i<e:=by have:=HP.o;have:=HN.o;omega
   have HX3:=Lh (show ReachX s.data.toList (0,[]) (e,toks) by
    have:=HX2.o
    rwa [HN.o,show i+(e-i)=e by omega]at this)
   go_wp2;go_roundw;exact⟨e,toks,hes,by omega,rfl,HX3.o,HOWN.o,HB.o⟩;simp[intOf];omega
  iterate 4
   .have HX2:=Lh (HX.o.snoc (HBK.o (by omega)));go_wp2;go_roundw;exact⟨i+1,toks,by omega,by omega,by go_num,HX2.o,HOWN.o,HB.o⟩;simp[intOf];omega
  have HB1:=Lh (yw.o (by omega));have HB2:=Lh (HNF.o h1);have b1:(Nf s i==32)=false:=by simpa using h2
  have b2:(Nf s i==9)=false:=by simpa using h3
  have b3:(Nf s i==10)=false:=by simpa using h5
  have b4:(Nf s i==13)=false:=by simpa using h4
  have b5:(Nf s i==35)=false:=by simpa using h1
  clear h1 h2 h3 h4 h5;unfold qbS at HF;cases ht:Fg (s.data.toList.drop i)with
  |error en =>
   have HV:=Lh (Fw ht rfl).symm;have Jw:=Lh (ru (by rw[Ns.o];exact Mo) HX.o Wp HB1.o HB2.o ht);have hen:=tN ht;clear ht;go_wp2_with fail;refine HF.o.mono ?_;rintro e w2 ⟨rfl,Jd⟩;rw[HV.o];have HB2:=Lh ((HB.o.trans (Jd.mono HB.o.size)).alloc (by have:=HB.o.size;have:=Jd.size;omega) (.cells #[.int .i64 0,.string ⟨#[]⟩,.int .i64 0] 104));rcases hen with rfl|rfl
   all_goals
    go_wp2_with fail;refine Zh (Zi rfl _ _ _) rfl ?_;exact Lf.of Jw.o (Za _ _ _ _) HB2.o
  |ok t =>
   obtain⟨k,txt,n⟩:=t;have HV:=Lh (Ot ht (b:=Jp txt) rfl (j:=((i+n:Nat):Int)) (by simp) rfl).symm;have hn1:1<=n:=eI ht;have t_:i+n<=s.size:=by have:=oh ht;rw[Xl,Ns.o]at this;simp only at this;omega
   have HXN:=Lh (HX.o.snoc (ou Wp HB1.o HB2.o ht toks));clear ht;obtain⟨j,hj⟩:=Xe (i+n);simp only at HV HXN;rw[<-hj]at HV HXN t_;have hij:i<j:=by omega
   clear hj hn1;go_wp2_with fail;refine HF.o.mono ?_;rintro e w2 ⟨rfl,Jd⟩;rw[HV.o];have HB2:=Lh (HB.o.trans (Jd.mono HB.o.size));have hb4:Below w2.heap.size w2 ((w2.alloc (.cells #[.int .i64 k,.string (Jp txt),.int .i64 i] 104)).alloc (.cells #[.int .i64 k,.string (Jp txt),.int .i64 i] 104)):=((Xr _ _).alloc (Yb _) _).alloc (by rw[Xs];omega) _;have nk:=Lh (Jc (Jc HOWN.o Jd) hb4);have HB4:=Lh (HB2.o.trans (hb4.mono HB2.o.size));have HN4:=Lh (Xn (w2.alloc (.cells #[.int .i64 k,.string (Jp txt),.int .i64 i] 104)) (.cells #[.int .i64 k,.string (Jp txt),.int .i64 i] 104));rw[Xs]at HN4;clear Jd hb4;go_wp2_with (at_builtin;refine Zy (m:=1) qfG rfl rfl rfl rfl nk.o (Rd.row (B:=w2.heap.size+2) HN4.o (by omega)) rfl (by simp[Value.oneCell']) ?h63 ?hby ?hbase ?_)
   case h63=>simp only[maxLen];omega
   case hby=>omega
   case hbase=>exact HB4.o.size
   intro v5' w7 Un Rk _ _;have HO7:=Lt (w7.ownsRow w.heap.size 104 3 v5' (toks++[(k,txt,i)]).length (Eo (toks++[(k,txt,i)]))) (by
    rw[pM,Qe,Qf]
    exact Un)
   have HB7:=Lh (Zr HB4.o Rk nk.o (Yb _) HB4.o.size);clear Un Rk;go_wp2;go_roundw;exact⟨j,toks++[(k,txt,i)],by omega,by rw[Qe,Qf];omega,by go_num,HXN.o,HO7.o,HB7.o⟩;simp[intOf];omega
 have Jw:=Lh (rv (by rw[Ns.o];exact Mo) HX.o (by rw[Ns.o];omega));go_wp2_with fail;refine Zh (Zi rfl _ _ _) rfl ?_;exact Lf.of Jw.o HOWN.o HB.o
structure bN(tA tI:TypeId)(w:World)(N:Nat)(vA:Value)(cA:List Value)(alts:List (List Wf))(vI:Value)(cI:List (List Value))(alt:List Wf)(B:Nat):Prop where
 row:w.ownsRow N tA 1 vA alts.length cA
 al:Vo (yY tI) w B (cA.map fun v=>[v]) alts
 last:w.ownsRow B tI 2 vI alt.length cI.flatten
 it:Vo kE w B cI alt
 nB:N<=B
 bB:B<=w.heap.size
section
variable {tA tI:TypeId} {w w1:World} {N:Nat} {vA:Value} {cA:List Value} {alts:List (List Wf)} {vI:Value} {cI:List (List Value)} {alt:List Wf} {B:Nat}
theorem bN.start(h:N<=w.heap.size):bN tA tI w N (.slice none 0 0) [] [] (.slice none 0 0) [] [] w.heap.size :=
 ⟨Za _ _ _ _,Vo.nil _ _ _,Za _ _ _ _,Vo.nil _ _ _,h,Yb _⟩
theorem bN.below(h:bN tA tI w N vA cA alts vI cI alt B)(hb:Below w.heap.size w w1):bN tA tI w1 N vA cA alts vI cI alt B :=
 ⟨Jc h.row hb,h.al.below hb,Jc h.last hb,h.it.below hb,h.nB,Yd h.bB hb.size⟩
theorem bN.set(h:bN tA tI w N vA cA alts vI cI alt B){T:TypeId}(hg:w.heap[g]?=some (.cells cs T (0,0)))(hA:T≠tA)(hI:T≠tI)(v:Value):bN tA tI (w.setCell ⟨g,k,none⟩ v) N vA cA alts vI cI alt B :=
 ⟨ownsRow_setCell_other h.row (vH h.row hg hA) v,h.al.keep (.of_setT hg (by rw[kF];simpa using hI) v),ownsRow_setCell_other h.last (vH h.last hg hI) v,h.it.keep (.of_setT hg (by rw[oc];simp) v),h.nB,by rw[Zb];exact h.bB⟩
theorem bN.item{vI':Value}{b:Bool}{s:ByteArray}(h:bN tA tI w N vA cA alts vI cI alt B)(hAI:tA≠tI)(hs:s.size<=maxLen)(ho:w1.ownsRow B tI 2 vI' (alt.length+1) (cI.flatten++[.bool b,.string s]))(hg:w.grownBy w1 vI.ownBlock) :
  bN tA tI w1 N vA cA alts vI' (cI++[[.bool b,.string s]]) (alt++[(b,s)]) B:=by
 refine⟨Vy h.row h.last hAI hg,h.al.keep (.of_grown h.last hg (Yb _)),?_,?_,h.nB,Yd h.bB hg.size⟩
 .rw[Qe,Qf,Qs];simpa using ho
 exact Vo.snoc (h.it.keep (w':=w1) ⟨hg.size,fun _ _ _ _ ht=>nomatch ht⟩) ⟨[.bool b],[.string s],rfl,rfl,rfl,hs⟩
theorem bN.bar{Pr:Value}(h:bN tA tI w N vA cA alts vI cI alt B)(hAI:tA≠tI)(ho:w1.ownsRow N tA 1 Pr (alts.length+1) (cA++[vI]))(hg:w.grownBy w1 vA.ownBlock) :
  bN tA tI w1 N Pr (cA++[vI]) (alts++[alt]) (.slice none 0 0) [] [] w1.heap.size:=by
 refine⟨?_,?_,Za _ _ _ _,Vo.nil _ _ _,Yd h.nB (Yd h.bB hg.size),Yb _⟩
 .rw[Qe,Qf];exact ho
 rw[Qt];have h1:=(h.al.keep (.of_keepT (Jk.of_grown h.row hg (by rw[kF];simpa using hAI)))).more (Yd h.bB hg.size);refine Vo.snoc (xs:=alts) (x:=alt) h1 ⟨vI,rfl,?_⟩;exact Ae.of_row (O:=kE) (Vy h.last h.row (Ne.symm hAI) hg) ((h.it.keep (w':=w1) ⟨hg.size,fun _ _ _ _ ht=>nomatch ht⟩).more (Yd h.bB hg.size))
theorem bN.toU(h:bN tA tI w N vA cA alts vI cI alt B):Ae (yY tI) tA w w.heap.size vA alts :=
 Ae.of_row (by rw[qt];exact h.row) (h.al.more h.bB)
end
end Go.Proofs.YtmaojnmnbpomeaaGreatDoor
