/- A part. -/
import Derived.Test.YtmaojnmnbpomeaaGreatDoorVN18
import Derived.Test.YtmaojnmnbpomeaaGreatDoorCards
import Derived.Test.YtmaojnmnbpomeaaGreatDoorTie
import Derived.Deep.DeepHandedRow
import Derived.Stop.LaidErr
set_option maxRecDepth 100000
set_option maxHeartbeats 64000000
namespace Go.Proofs.YtmaojnmnbpomeaaGreatDoor
open Go.RowKit
theorem ik(sa sb:ByteArray)(k:Int)(w:World)(hsa:sa.size<=maxLen)(hsb:sb.size<=maxLen)(ht:fQ w) :
  Calls Tryz.prog 5 #[.string sa,.string sb,.int .i64 k] w fun e w'=>e=.returned (.bool true)/\Below w.heap.size w w':=by
 have HT:=Lh ht;have HAW:=Lh (fun(W:World)(hb:Below w.heap.size w W)=>xg W (HT.o.below hb));have qtN:=Lh (xP sa w hsa);have qzY:=Lh (fun W=>xP sb W hsb);have qzG:=Lh (qbK sa.data.toList);have qtC:=Lh (lh sa.data.toList);have zgP:=Lh (qbK sb.data.toList);have qzF:=Lh (lh sb.data.toList);have zzP:=Lh (fun(W:World)(hb:Below w.heap.size w W) hf=>iU sa k W hsa hf (HT.o.below hb));have zzO:=Lh (fun(W:World)(hb:Below w.heap.size w W) hf=>iU sb k W hsb hf (HT.o.below hb));have HB0:=Lh (Xr w.heap.size w);clear ht;unfold maxLen at hsa hsb;by_cases qaJ:2000<sa.size
 .have g0:decide ((2000:Int)<(sa.size:Int))=true:=by simp;omega
  have g0':decide (2000<sa.size)=true:=by simp;omega
  go_enter Tryz.func5,Tryz.ntmps5;go_wp2_with fail;refine (HAW.o w HB0.o).mono ?_;rintro e w9 ⟨rfl,dD⟩;go_wp2;go_ret;exact⟨rfl,Below.trans HB0.o (dD.mono HB0.o.size)⟩
 have g0:decide ((2000:Int)<(sa.size:Int))=false:=by simp;omega
 have g0':decide (2000<sa.size)=false:=by simp;omega
 by_cases zlV:2000<sb.size
 .have g1:decide ((2000:Int)<(sb.size:Int))=true:=by simp;omega
  have g1':decide (2000<sb.size)=true:=by simp;omega
  go_enter Tryz.func5,Tryz.ntmps5;go_wp2_with fail;refine (HAW.o w HB0.o).mono ?_;rintro e w9 ⟨rfl,dD⟩;go_wp2;go_ret;exact⟨rfl,Below.trans HB0.o (dD.mono HB0.o.size)⟩
 have g1:decide ((2000:Int)<(sb.size:Int))=false:=by simp;omega
 have g1':decide (2000<sb.size)=false:=by simp;omega
 obtain⟨l,ata,wa,hF⟩:∃l ata wa,Nc sa.data.toList=(l,ata,wa):=⟨_,_,_,rfl⟩;obtain⟨l2,atb,wb,hF2⟩:∃l2 atb wb,Nc sb.data.toList=(l2,atb,wb):=⟨_,_,_,rfl⟩;obtain⟨g,bad,hR⟩:∃g bad,Jn l=(g,bad):=⟨_,_,rfl⟩;obtain⟨x,qyJ,hR2⟩:∃x qyJ,Jn l2=(x,qyJ):=⟨_,_,rfl⟩;have HF:=Lh hF;have HF2:=Lh hF2;have HR:=Lh hR;have HR2:=Lh hR2;unfold Nb at qtN qzY;rw[hF]at qzG qtC qtN;simp only[hF2]at zgP qzF qzY;simp only at qzG qtC qtN;have qyY:=Lh (fun(W:World)(v:Value)(h:Je ut W W.heap.size v l)=>gD v l W h qzG.o (by have:=qtC.o.1;omega) (fun x hx=>by have:=(qtC.o.2 x hx).1;omega));have qyX:=Lh (fun(W:World)(v:Value)(h:Je ut W W.heap.size v l2)=>gD v l2 W h zgP.o (by have:=qzF.o.1;omega) (fun x hx=>by have:=(qzF.o.2 x hx).1;omega));unfold Ex at qyY qyX;simp only[hR]at qyY;simp only[hR2]at qyX;clear hF hF2 hR hR2 qaJ zlV qzG qtC zgP qzF;go_enter Tryz.func5,Tryz.ntmps5;go_wp2_with fail;refine qtN.o.mono ?_;rintro e w1 ⟨v7,rfl,Mo,hb1⟩;obtain⟨A7,c7,rfl,_,_⟩:=Mo.form;have HB1:=Lh hb1;have HSL:=Lh Mo;clear Mo hb1 qtN;go_wp2_with fail;refine (qzY.o w1).mono ?_;rintro e w2 ⟨v10,rfl,qiB,Jd⟩;obtain⟨A8,c8,rfl,_,_⟩:=qiB.form;have HB2:=Lh (HB1.o.trans (Jd.mono HB1.o.size));have HC:=Lh (qyY.o w2 _ (HSL.o.fut Jd (Yb _) Jd.size));have HCB:=Lh (fun(W:World)(hb:Below w2.heap.size w2 W)=>qyX.o W _ (qiB.fut hb (Yb _) hb.size));clear qiB Jd qyY qyX HSL qzY;generalize l.length=nl at*;generalize l2.length=nl2 at*;by_cases hw:wa=0
 .subst hw;by_cases mv:wb=0
  .subst mv;go_wp2_with fail;refine HC.o.mono ?_;rintro e w3 ⟨v1,v2,v3,rfl,h1,h2,h3,hb3⟩;obtain⟨A1,c1,rfl,_,_⟩:=h1.form;obtain⟨A2,c2,rfl,h21,h22⟩:=h2.form;obtain⟨A3,c3,rfl,_,_⟩:=h3.form;unfold maxLen at h22;have HB3:=Lh (HB2.o.trans (hb3.mono HB2.o.size));have Ih:=Lh hb3;have HGS:=Lt (∀W,Below w3.heap.size w3 W->jR W W.heap.size (.slice A1 g.1.length c1) (.slice A2 g.2.1.length c2) (.slice A3 g.2.2.length c3) g) (fun W hb=>(jR.mk h1 h2 h3).fut hb (Yb _) hb.size);have HFW:=Lh (fun(W:World)(hb:Below w3.heap.size w3 W)=>qjM _ _ _ g.1 g.2.1 g.2.2 W (HGS.o W hb).names (HGS.o W hb).terms (HGS.o W hb).rules);have HCN:=Lh (fun(W:World)(hb:Below w3.heap.size w3 W)(hg:Su g)=>lV _ _ _ g W hg (HGS.o W hb));clear h1 h2 h3 hb3 HC;obtain⟨n,hn⟩:=Xe g.1.length;obtain⟨m,hm⟩:=Xe g.2.1.length;obtain⟨q,hq⟩:=Xe g.2.2.length;simp only[<-hn,<-hm,<-hq]at HFW HCN HGS;rw[<-hm]at h21;rw[<-hn,<-hm,<-hq];have HNE:=Lt (m=g.2.1.length) (hm);clear hn hm hq;have hb4:Below w3.heap.size w3 (w3.alloc (.cells #[.slice A1 n c1,.slice A2 m c2,.slice A3 q c3] 25)):=(Xr _ _).alloc (Yb _) _;have HG4:=Lh (Xn w3 (.cells #[.slice A1 n c1,.slice A2 m c2,.slice A3 q c3] 25));have HD4:=Lh hb4;have HB4:=Lh (HB3.o.trans (hb4.mono HB3.o.size));have ar:=Lh (Ih.o.trans (hb4.mono Ih.o.size));obtain⟨G,hG⟩:=Xe w3.heap.size;rw[<-hG]at HG4;clear hb4;go_wp2_with (refine Zv (some 60) rfl ?_);rw[<-hG];clear hG;refine Stop.go ?_;generalize w3.alloc (.cells #[.slice A1 n c1,.slice A2 m c2,.slice A3 q c3] 25)=w4 at*;go_wp2_with fail;refine (HCB.o w4 ar.o).mono ?_;rintro e w5 ⟨v1,v2,v3,rfl,h1,h2,h3,hb5⟩;obtain⟨C1,e1,rfl,_,_⟩:=h1.form;obtain⟨C2,e2,rfl,_,_⟩:=h2.form;obtain⟨C3,e3,rfl,_,_⟩:=h3.form;have HB5:=Lh (HB4.o.trans (hb5.mono HB4.o.size));have HD5:=Lh (HD4.o.trans (hb5.mono HD4.o.size));have HG5:=Lh ((hb5.block G (gl HG4.o)).trans HG4.o);have HHS:=Lt (∀W,Below w5.heap.size w5 W->jR W W.heap.size (.slice C1 x.1.length e1) (.slice C2 x.2.1.length e2) (.slice C3 x.2.2.length e3) x) (fun W hb=>(jR.mk h1 h2 h3).fut hb (Yb _) hb.size);have HCH:=Lh (fun(W:World)(hb:Below w5.heap.size w5 W)(hg:Su x)=>lV _ _ _ x W hg (HHS.o W hb));clear h1 h2 h3 hb5 HCB;generalize x.1.length=n2 at*;generalize x.2.1.length=m2 at*;generalize x.2.2.length=q2 at*;have hb6:Below w5.heap.size w5 (w5.alloc (.cells #[.slice C1 n2 e1,.slice C2 m2 e2,.slice C3 q2 e3] 25)):=(Xr _ _).alloc (Yb _) _;have HH6:=Lh (Xn w5 (.cells #[.slice C1 n2 e1,.slice C2 m2 e2,.slice C3 q2 e3] 25));have HK6:=Lh hb6;have HB6:=Lh (HB5.o.trans (hb6.mono HB5.o.size));have HD6:=Lh (HD5.o.trans (hb6.mono HD5.o.size));have HG6:=Lh ((hb6.block G (gl HG5.o)).trans HG5.o);obtain⟨H,hH⟩:=Xe w5.heap.size;rw[<-hH]at HH6;clear hb6;go_wp2_with fail;rw[<-hH];clear hH;generalize w5.alloc (.cells #[.slice C1 n2 e1,.slice C2 m2 e2,.slice C3 q2 e3] 25)=w6 at*;by_cases Lr:bad=0
   .subst Lr;by_cases dB:qyJ=0
    .subst dB;refine tC [8,19,21,22] [7,13,18,20] [] (by kernel_rfl) (by kernel_rfl) ?_;have HB7:=Lh HB6.o.drew;have HD7:=Lh HD6.o.drew;have HK7:=Lh HK6.o.drew;have HG7:=Lt (w6.drew.heap[G]?=some (.cells #[.slice A1 n c1,.slice A2 m c2,.slice A3 q c3] 25 (0,0))) (HG6.o);have HH7:=Lt (w6.drew.heap[H]?=some (.cells #[.slice C1 n2 e1,.slice C2 m2 e2,.slice C3 q2 e3] 25 (0,0))) (HH6.o);generalize w6.drew=w7 at*;obtain⟨a0,a1,a2⟩:=Zq HG7.o;obtain⟨b0,b1,b2⟩:=Zq HH7.o;refine Mn 8 (by decide) (fun Q' hQ'=>?_);simp only[Xta,Xtz];go_wp2_with fail
     try simp only[Yr,Xy,List.drop_zero]
     refine Na (fun Q' hQ'=>?_);go_wp2_with fail;refine (HFW.o w7 HD7.o).mono ?_;rintro e w8 ⟨z,rfl,hz,hb8⟩;have HB8:=Lh (HB7.o.trans (hb8.mono HB7.o.size));have HD8:=Lh (HD7.o.trans (hb8.mono HD7.o.size));have HK8:=Lh (HK7.o.trans (hb8.mono HK7.o.size));have yI:=Lh hb8;have HG8:=Lh ((hb8.block G (gl HG7.o)).trans HG7.o);have HH8:=Lh ((hb8.block H (gl HH7.o)).trans HH7.o);clear hb8;rcases hz with rfl|⟨rfl,hf1,_,hf3⟩
     .go_wp2_with fail;refine⟨yI.o,?_⟩;obtain⟨p0,p1,p2⟩:=Zq HG8.o;refine Mn 10 (by decide) (fun Q' hQ'=>?_);simp only[Xta,Xtz];go_wp2_with fail
      try simp only[Xy,List.drop_zero]
      refine Na (fun Q' hQ'=>?_);go_wp2_with fail;refine⟨yI.o,?_⟩;refine Mn 1 (by decide) (fun Q' hQ'=>?_);simp only[Xta,Xtz];go_wp2_with fail
      try simp only[Xy,List.drop_zero]
      refine Na (fun Q' hQ'=>?_);go_wp2_with fail;refine⟨yI.o,?_⟩;refine Na (fun Q' hQ'=>?_);go_wp2_with fail;refine⟨yI.o,?_⟩;refine Mn 2 (by decide) (fun Q' hQ'=>?_);simp only[Xta,Xtz];go_wp2_with fail
      try simp only[Xy,List.drop_zero]
      refine eF ⟨by kernel_rfl,⟨fun _=>⟨_,_,rfl,a0⟩,Text.no_want rfl,Text.no_want rfl,Text.no_want rfl,trivial⟩,?_⟩;go_wp2_with fail;refine (HAW.o w8 HB8.o).mono ?_;rintro e w9 ⟨rfl,dD⟩;go_wp2;go_ret;exact⟨rfl,Below.trans HB8.o (dD.mono HB8.o.size)⟩
     by_cases hm3:m<=3
     .have HFG:=Lt (aH g) (⟨hf1,by rw[<-HNE.o];exact hm3,hf3⟩);have hd:decide ((3:Int)<m)=false:=by simp;omega
      have mV:decide (3<m)=false:=by simp;omega
      have HGA:=Lh (Sv HF.o HR.o);have HGB:=Lh (Sv HF2.o HR2.o);clear hf1 hf3;go_wp2_with fail;refine⟨yI.o,?_⟩;obtain⟨p0,p1,p2⟩:=Zq HG8.o;refine Mn 10 (by decide) (fun Q' hQ'=>?_);simp only[Xta,Xtz];go_wp2_with fail
      try simp only[Xy,List.drop_zero]
      refine Na (fun Q' hQ'=>?_);go_wp2_with fail;refine (HCN.o w8 HD8.o HGA.o).mono ?_;rintro e w9 ⟨y1,y2,y3,rfl,hy,dD⟩;obtain⟨E1,E2,E3,f1,f2,f3,rfl,rfl,rfl⟩:=hy.form;have HB9:=Lh (HB8.o.trans (dD.mono HB8.o.size));have HK9:=Lh (HK8.o.trans (dD.mono HK8.o.size));have zhA:=Lh (yI.o.trans (dD.mono yI.o.size));have HH9:=Lh ((dD.block H (gl HH8.o)).trans HH8.o);have HY:=Lh (fun(W:World)(hb:Below w9.heap.size w9 W)=>hy.fut hb (Yb _) hb.size);clear dD hy p0 p1 p2;go_wp2_with fail;refine⟨zhA.o,?_⟩;obtain⟨p0,p1,p2⟩:=Zq HH9.o;refine Mn 1 (by decide) (fun Q' hQ'=>?_);simp only[Xta,Xtz];go_wp2_with fail
      try simp only[Xy,List.drop_zero]
      refine Na (fun Q' hQ'=>?_);go_wp2_with fail;refine (HCH.o w9 HK9.o HGB.o).mono ?_;rintro e w10 ⟨y1,y2,y3,rfl,hy,qqN⟩;obtain⟨J1,J2,J3,j1,j2,j3,rfl,rfl,rfl⟩:=hy.form;have HB10:=Lh (HB9.o.trans (qqN.mono HB9.o.size));have qtL:=Lh (zhA.o.trans (qqN.mono zhA.o.size));have qX:=Lh (dH _ _ _ _ _ _ (Jh g) (Jh x) w10 (HY.o w10 qqN) hy);clear qqN hy p0 p1 p2;generalize (Jh g).1.length=r1 at*;generalize (Jh g).2.1.length=r2 at*;generalize (Jh g).2.2.length=r3 at*;generalize (Jh x).1.length=r4 at*;generalize (Jh x).2.1.length=r5 at*;generalize (Jh x).2.2.length=r6 at*;go_wp2_with fail;refine⟨qtL.o,?_⟩;refine Na (fun Q' hQ'=>?_);go_wp2_with fail;refine qX.o.mono ?_;rintro e Iq ⟨rfl,zeS⟩;have pH:=Lh (HB10.o.trans (zeS.mono HB10.o.size));have zcK:=Lh (qtL.o.trans (zeS.mono qtL.o.size));clear zeS;by_cases hgx:Jh g=Jh x
      .have HGX:=Lh hgx;rw[Yw hgx];go_wp2_with fail;refine⟨zcK.o,?_⟩;refine Mn 2 (by decide) (fun Q' hQ'=>?_);simp only[Xta,Xtz];go_wp2_with fail
       try simp only[Xy,List.drop_zero]
       refine eF ⟨by kernel_rfl,⟨fun _=>⟨_,_,rfl,a0⟩,fun _=>⟨_,_,rfl,a1⟩,fun _=>⟨_,_,rfl,a0⟩,fun _=>⟨_,_,rfl,b0⟩,trivial⟩,?_⟩;go_wp2_with fail;refine (zzP.o Iq pH.o (ri HF.o HR.o (fun _ _=>HFG.o))).mono ?_;rintro e zb ⟨u1,u2,u3,ur,um,uc,v,cl,nn,er,hmv,rfl,hvs,fP,zlY⟩;obtain⟨B1,B2,B3,B4,B5,d1,d2,d3,d4,d5,rfl,rfl,rfl,rfl,rfl⟩:=hvs.form;obtain⟨B6,d6,rfl,_,_⟩:=fP.form;have HB12:=Lh (pH.o.trans (zlY.mono pH.o.size));have HV:=Lh (fun(W:World)(hb:Below zb.heap.size zb W)=>hvs.fut hb (Yb _) hb.size);have HVC:=Lh (fun(W:World)(hb:Below zb.heap.size zb W)=>fP.fut hb (Yb _) hb.size);have HMV:=Lh hmv;clear hvs fP hmv zlY;unfold Pq;have ii:=Lh (fun(W:World)(hb:Below zb.heap.size zb W)(u:Nv)(u1 u2 u3 ur um:Value)(hu:Lz W W.heap.size u1 u2 u3 ur um u)=>yX _ _ _ _ _ u1 u2 u3 ur um v u W (HV.o W hb) hu);have zeR:Below zb.heap.size zb (zb.alloc (.cells #[.slice B1 v.1.1.length d1,.slice B2 v.1.2.1.length d2,.slice B3 v.1.2.2.length d3,.int .i64 v.2.1,.slice B4 v.2.2.1.length d4,.slice B5 v.2.2.2.length d5] 31)):=(Xr _ _).alloc (Yb _) _;have zfQ:=Lh (Xn zb (.cells #[.slice B1 v.1.1.length d1,.slice B2 v.1.2.1.length d2,.slice B3 v.1.2.2.length d3,.int .i64 v.2.1,.slice B4 v.2.2.1.length d4,.slice B5 v.2.2.2.length d5] 31));have zoL:=Lh zeR;have qkV:=Lh (HB12.o.trans (zeR.mono HB12.o.size));obtain⟨X,hX⟩:=Xe zb.heap.size;rw[<-hX]at zfQ;clear zeR;obtain⟨nv,hnv⟩:=Xe cl.length;rw[<-hnv];have HNV:=Lh hnv;clear hnv;go_wp2_with (refine Zv (some 100) rfl ?_);rw[<-hX];clear hX;refine Stop.go ?_;generalize zb.alloc (.cells #[.slice B1 v.1.1.length d1,.slice B2 v.1.2.1.length d2,.slice B3 v.1.2.2.length d3,.int .i64 v.2.1,.slice B4 v.2.2.1.length d4,.slice B5 v.2.2.2.length d5] 31)=w13 at*;go_wp2_with fail;refine (zzO.o w13 qkV.o (ri HF2.o HR2.o (fun _ _=>qjL HFG.o HGX.o))).mono ?_;rintro e w14 ⟨y1,y2,y3,yr,ym,yc,u,cl2,nn2,er2,u_,rfl,zdA,zeJ,qxW⟩;obtain⟨e1',e2',e3'⟩:=qgX HMV.o u_ HF.o HR.o HF2.o HR2.o HGX.o HFG.o;subst e1' e2' e3';obtain⟨E1,E2,E3,E4,E5,f1,f2,f3,f4,f5,rfl,rfl,rfl,rfl,rfl⟩:=zdA.form;obtain⟨E6,f6,rfl,_,_⟩:=zeJ.form;have zoZ:=Lh (qkV.o.trans (qxW.mono qkV.o.size));have qzP:=Lh (zoL.o.trans (qxW.mono zoL.o.size));have zmX:=Lh ((qxW.block X (gl zfQ.o)).trans zfQ.o);have HU:=Lh (fun(W:World)(hb:Below w14.heap.size w14 W)=>zdA.fut hb (Yb _) hb.size);have HCL:=Lh (fun(W:World)(hb:Below w14.heap.size w14 W)=>vh _ _ cl cl W (HVC.o W (qzP.o.trans (hb.mono qzP.o.size))) (zeJ.fut hb (Yb _) hb.size));clear u_ zdA zeJ qxW;unfold Pq;simp only[<-HNV.o,decide_true]at HCL;rw[<-HNV.o];have qqM:Below w14.heap.size w14 (w14.alloc (.cells #[.slice E1 v.1.1.length f1,.slice E2 v.1.2.1.length f2,.slice E3 v.1.2.2.length f3,.int .i64 v.2.1,.slice E4 v.2.2.1.length f4,.slice E5 v.2.2.2.length f5] 31)):=(Xr _ _).alloc (Yb _) _;have zmW:=Lh (Xn w14 (.cells #[.slice E1 v.1.1.length f1,.slice E2 v.1.2.1.length f2,.slice E3 v.1.2.2.length f3,.int .i64 v.2.1,.slice E4 v.2.2.1.length f4,.slice E5 v.2.2.2.length f5] 31));have zfU:=Lh qqM;have zoY:=Lh (zoZ.o.trans (qqM.mono zoZ.o.size));have jaI:=Lh (qzP.o.trans (qqM.mono qzP.o.size));have zxT:=Lh ((qqM.block X (gl zmX.o)).trans zmX.o);have qyU:=ii.o _ jaI.o v _ _ _ _ _ (HU.o _ zfU.o);rw[Yw (rfl:v=v)]at qyU;replace qyU:=Lh qyU;obtain⟨Y,hY⟩:=Xe w14.heap.size;rw[<-hY]at zmW;clear qqM;go_wp2_with (refine Zv (some 105) rfl ?_);rw[<-hY];clear hY;refine Stop.go ?_;generalize w14.alloc (.cells #[.slice E1 v.1.1.length f1,.slice E2 v.1.2.1.length f2,.slice E3 v.1.2.2.length f3,.int .i64 v.2.1,.slice E4 v.2.2.1.length f4,.slice E5 v.2.2.2.length f5] 31)=w15 at*;obtain⟨x0,x1,x2,x3,x4,x5⟩:=Zu zxT.o;obtain⟨z0,z1,z2,z3,z4,z5⟩:=Zu zmW.o;have hee:(er==er)=true:=by simp
       go_wp2_with fail;refine qyU.o.mono ?_;rintro e w16 ⟨rfl,zeQ⟩;have zoX:=Lh (zoY.o.trans (zeQ.mono zoY.o.size));have zyA:=Lh (zfU.o.trans (zeQ.mono zfU.o.size));clear zeQ;go_wp2_with fail;refine (HCL.o w16 zyA.o).mono ?_;rintro e w17 ⟨rfl,zlX⟩;have zhC:=Lh (zoX.o.trans (zlX.mono zoX.o.size));clear zlX;go_wp2_with fail;refine (HAW.o w17 zhC.o).mono ?_;rintro e w9 ⟨rfl,dD⟩;go_wp2;go_ret;exact⟨rfl,Below.trans zhC.o (dD.mono zhC.o.size)⟩
      rw[Yx hgx];go_wp2_with fail;refine⟨zcK.o,?_⟩;refine Mn 2 (by decide) (fun Q' hQ'=>?_);simp only[Xta,Xtz];go_wp2_with fail
      try simp only[Xy,List.drop_zero]
      refine eF ⟨by kernel_rfl,⟨fun _=>⟨_,_,rfl,a0⟩,fun _=>⟨_,_,rfl,a1⟩,fun _=>⟨_,_,rfl,a0⟩,fun _=>⟨_,_,rfl,b0⟩,trivial⟩,?_⟩;go_wp2_with fail;refine (HAW.o Iq pH.o).mono ?_;rintro e w9 ⟨rfl,dD⟩;go_wp2;go_ret;exact⟨rfl,Below.trans pH.o (dD.mono pH.o.size)⟩
     have hd:decide ((3:Int)<m)=true:=by simp;omega
     have mV:decide (3<m)=true:=by simp;omega
     go_wp2_with fail;refine⟨yI.o,?_⟩;obtain⟨p0,p1,p2⟩:=Zq HG8.o;refine Mn 10 (by decide) (fun Q' hQ'=>?_);simp only[Xta,Xtz];go_wp2_with fail
     try simp only[Xy,List.drop_zero]
     refine Na (fun Q' hQ'=>?_);go_wp2_with fail;refine⟨yI.o,?_⟩;refine Mn 1 (by decide) (fun Q' hQ'=>?_);simp only[Xta,Xtz];go_wp2_with fail
     try simp only[Xy,List.drop_zero]
     refine Na (fun Q' hQ'=>?_);go_wp2_with fail;refine⟨yI.o,?_⟩;refine Na (fun Q' hQ'=>?_);go_wp2_with fail;refine⟨yI.o,?_⟩;refine Mn 2 (by decide) (fun Q' hQ'=>?_);simp only[Xta,Xtz];go_wp2_with fail
     try simp only[Xy,List.drop_zero]
     refine eF ⟨by kernel_rfl,⟨fun _=>⟨_,_,rfl,a0⟩,fun _=>⟨_,_,rfl,a1⟩,Text.no_want rfl,Text.no_want rfl,trivial⟩,?_⟩;go_wp2_with fail;refine (HAW.o w8 HB8.o).mono ?_;rintro e w9 ⟨rfl,dD⟩;go_wp2;go_ret;exact⟨rfl,Below.trans HB8.o (dD.mono HB8.o.size)⟩
    have gx:((qyJ:Int) != 0)=true:=by rw[Yv];omega
    clear dB;refine tC [8,19,21,22] [7,13,18,20] [] (by kernel_rfl) (by kernel_rfl) ?_;have HB7:=Lh HB6.o.drew;have HD7:=Lh HD6.o.drew;have HK7:=Lh HK6.o.drew;have HG7:=Lt (w6.drew.heap[G]?=some (.cells #[.slice A1 n c1,.slice A2 m c2,.slice A3 q c3] 25 (0,0))) (HG6.o);have HH7:=Lt (w6.drew.heap[H]?=some (.cells #[.slice C1 n2 e1,.slice C2 m2 e2,.slice C3 q2 e3] 25 (0,0))) (HH6.o);generalize w6.drew=w7 at*;obtain⟨a0,a1,a2⟩:=Zq HG7.o;obtain⟨b0,b1,b2⟩:=Zq HH7.o;refine Mn 8 (by decide) (fun Q' hQ'=>?_);simp only[Xta,Xtz];go_wp2_with fail
    try simp only[Yr,Xy,List.drop_zero]
    refine Na (fun Q' hQ'=>?_);go_wp2_with fail;refine⟨Xr _ _,?_⟩;refine Mn 10 (by decide) (fun Q' hQ'=>?_);simp only[Xta,Xtz];go_wp2_with fail
    try simp only[Xy,List.drop_zero]
    refine Na (fun Q' hQ'=>?_);go_wp2_with fail;refine⟨Xr _ _,?_⟩;refine Mn 1 (by decide) (fun Q' hQ'=>?_);simp only[Xta,Xtz];go_wp2_with fail
    try simp only[Xy,List.drop_zero]
    refine Na (fun Q' hQ'=>?_);go_wp2_with fail;refine⟨Xr _ _,?_⟩;refine Na (fun Q' hQ'=>?_);go_wp2_with fail;refine⟨Xr _ _,?_⟩;refine Mn 2 (by decide) (fun Q' hQ'=>?_);simp only[Xta,Xtz];go_wp2_with fail
    try simp only[Xy,List.drop_zero]
    refine eF ⟨by kernel_rfl,⟨Text.no_want rfl,Text.no_want rfl,Text.no_want rfl,Text.no_want rfl,trivial⟩,?_⟩;go_wp2_with fail;refine (HAW.o w7 HB7.o).mono ?_;rintro e w9 ⟨rfl,dD⟩;go_wp2;go_ret;exact⟨rfl,Below.trans HB7.o (dD.mono HB7.o.size)⟩
   have gx:((bad:Int) != 0)=true:=by rw[Yv];omega
   clear Lr;refine tC [8,19,21,22] [7,13,18,20] [] (by kernel_rfl) (by kernel_rfl) ?_;have HB7:=Lh HB6.o.drew;have HD7:=Lh HD6.o.drew;have HK7:=Lh HK6.o.drew;have HG7:=Lt (w6.drew.heap[G]?=some (.cells #[.slice A1 n c1,.slice A2 m c2,.slice A3 q c3] 25 (0,0))) (HG6.o);have HH7:=Lt (w6.drew.heap[H]?=some (.cells #[.slice C1 n2 e1,.slice C2 m2 e2,.slice C3 q2 e3] 25 (0,0))) (HH6.o);generalize w6.drew=w7 at*;obtain⟨a0,a1,a2⟩:=Zq HG7.o;obtain⟨b0,b1,b2⟩:=Zq HH7.o;refine Mn 8 (by decide) (fun Q' hQ'=>?_);simp only[Xta,Xtz];go_wp2_with fail
   try simp only[Yr,Xy,List.drop_zero]
   refine Na (fun Q' hQ'=>?_);go_wp2_with fail;refine⟨Xr _ _,?_⟩;refine Mn 10 (by decide) (fun Q' hQ'=>?_);simp only[Xta,Xtz];go_wp2_with fail
   try simp only[Xy,List.drop_zero]
   refine Na (fun Q' hQ'=>?_);go_wp2_with fail;refine⟨Xr _ _,?_⟩;refine Mn 1 (by decide) (fun Q' hQ'=>?_);simp only[Xta,Xtz];go_wp2_with fail
   try simp only[Xy,List.drop_zero]
   refine Na (fun Q' hQ'=>?_);go_wp2_with fail;refine⟨Xr _ _,?_⟩;refine Na (fun Q' hQ'=>?_);go_wp2_with fail;refine⟨Xr _ _,?_⟩;refine Mn 2 (by decide) (fun Q' hQ'=>?_);simp only[Xta,Xtz];go_wp2_with fail
   try simp only[Xy,List.drop_zero]
   refine eF ⟨by kernel_rfl,⟨Text.no_want rfl,Text.no_want rfl,Text.no_want rfl,Text.no_want rfl,trivial⟩,?_⟩;go_wp2_with fail;refine (HAW.o w7 HB7.o).mono ?_;rintro e w9 ⟨rfl,dD⟩;go_wp2;go_ret;exact⟨rfl,Below.trans HB7.o (dD.mono HB7.o.size)⟩
  have gw:((wb:Int) != 0)=true:=by rw[Yv];omega
  clear mv;go_wp2_with fail;refine (HAW.o w2 HB2.o).mono ?_;rintro e w9 ⟨rfl,dD⟩;go_wp2;go_ret;exact⟨rfl,Below.trans HB2.o (dD.mono HB2.o.size)⟩
 have gw:((wa:Int) != 0)=true:=by rw[Yv];omega
 clear hw;go_wp2_with fail;refine (HAW.o w2 HB2.o).mono ?_;rintro e w9 ⟨rfl,dD⟩;go_wp2;go_ret;exact⟨rfl,Below.trans HB2.o (dD.mono HB2.o.size)⟩
open Go.ChangeMaps (open_string)
open Go.ChangeShapes Go.WideShapes Go.ChangeAt Go.RowKit
theorem own:ownKnob Tryz.prog.godebug=none:=by kernel_rfl
theorem qwU:laidOutB Tryz.prog=true:=by kernel_rfl
abbrev C_:List (String×DataW Unit):=Rows.valueOfRow.laid
theorem zwU : Tryz.prog.globalNamed "internal/strconv.uint64pow10" = some 1 := by kernel_rfl
theorem qqU:(Tryz.prog.globals[1]?).map (·.type)=some 327:=by kernel_rfl
theorem qrP:Tryz.prog.cellsOf 327=20:=by kernel_rfl
theorem qrO:Tryz.prog.cellsOf 201=1:=by kernel_rfl
theorem qvN{W:World}(h:laidMetH Tryz.prog C_ W):fQ W:=by
 have h0:laidMet Tryz.prog C_ W:=h;exact Lib.tabIs_of_head zwU qqU Tryz.underlying327 Tryz.underlying201 qrO qrP h0.tail.tail
def ziU:Array Value:=(#[0,1,28,2,29,14,24,3,30,22,20,15,25,17,4,8,31,27,13,23,21,19,16,7,26,12,18,6,11,5,10,9]:Array Int).map fun z=>.int .u8 z
def ziT:Array Value:=(#[0,1,56,2,57,49,28,3,61,58,42,50,38,29,17,4,62,47,59,36,45,43,51,22,53,39,33,30,24,18,12,5,63,55,48,27,60,41,37,16,46,35,44,21,52,32,23,11,54,26,40,15,34,20,31,10,25,14,19,9,13,8,7,6]:Array Int).map fun z=>.int .u8 z
def zcS:Array Value:=(#[1,10,100,1000,10000,100000,1000000,10000000,100000000,1000000000,10000000000,100000000000,1000000000000,10000000000000,100000000000000,1000000000000000,10000000000000000,100000000000000000,1000000000000000000,10000000000000000000]:Array Int).map fun z=>.int .u64 z
def qnO(cs:Array Value):Obj->Obj
 |.cells _ t frozen=>.cells cs t frozen
 |o=>o
noncomputable def oB(os:Os):World :=
 let w0:=World.holding Tryz.prog os ⟨#[],#[],[]⟩
 { w0 with heap:=((w0.heap.modify 2 (qnO ziU)).modify 3 (qnO ziT)).modify 1 (qnO zcS) }
theorem b_(os:Os)(args:Array Value):laidMet Tryz.prog C_ ((oB os).forCall (fun _ _=>0) ⟨#[],args,[]⟩).memory :=
 laidMet_of_run' 8 (by kernel_rfl) (by kernel_rfl)
end Go.Proofs.YtmaojnmnbpomeaaGreatDoor
