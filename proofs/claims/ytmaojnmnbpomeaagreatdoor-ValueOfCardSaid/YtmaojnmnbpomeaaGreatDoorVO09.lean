/- A part. -/
import Derived.Test.YtmaojnmnbpomeaaGreatDoorVO08
import Derived.Shelf.SlSortCmp.NoneTotal
set_option maxRecDepth 100000
set_option maxHeartbeats 64000000
namespace Go.Proofs.YtmaojnmnbpomeaaGreatDoor
open Go.RowKit Go.Sort
def qiR(k:Int)(g:Jw)(w':World)(e:Ending):Prop :=
 ∃ o1,Fq k g.2.2 g.1.length o1/\match o1 with
 |none=>e=.returned (.tuple #[.slice none 0 0,.int .i64 21])
 |some s=>∃ o2,Du s k g.2.2 g.1.length o2/\qcI w' o2 e
def qiQ(k:Int)(g:Jw)(w:World)(e:Ending)(w':World):Prop :=
 Below w.heap.size w w'/\(Ct k g->e=.returned (.tuple #[.slice none 0 0,.int .i64 1]))/\(¬ Ct k g->qiR k g w' e)
structure kJ(k:Int)(rs:Zq)(n:Nat)(sets:Zu)(gas:Nat)(p:El):Prop where
 asc:Ux p.fol
 small:p.limit=false->Ds p.fol
 over:p.limit=true->Du sets k rs n none
 done:p.limit=false->p.grown=false->Du sets k rs n (some p.fol)
 more:p.limit=false->p.grown=true->(∀ o,RoundsTo (Gy sets k rs) p.fol o->Du sets k rs n o)/\4096*n<=gas+Sz p.fol
theorem kJ.next{k:Int}{rs:Zq}{n:Nat}{sets:Zu}{gas:Nat}{p p':El}(h:kJ k rs n sets gas p)(hl:p.limit=false)(hg:p.grown=true)(he:Wb sets k rs ⟨p.fol,false,false⟩=p')(hp:tm (Sz p.fol) n p')(hb:Sz p'.fol<=4096*n\/p'.limit=true) :
  kJ k rs n sets (gas - 1) p'/\(p'.limit=false->p'.grown=true->1<=gas):=by
 obtain⟨h1,h2⟩:=h.more hl hg;have hr:=qw he;refine⟨⟨hp.asc,hp.small,fun kM=>h1 none (.fail (by rw[hr,kM];rfl)),fun kM pJ=>h1 _ (.done (by rw[hr,kM,pJ];rfl)),fun kM pJ=>⟨fun o ho=>h1 o (.more (by rw[hr,kM,pJ];rfl) ho),?_⟩⟩,fun kM pJ=>?_⟩
 ·have:=hp.grew pJ;omega
 ·have h3:=hp.grew pJ;rcases hb with hb | hb
  ·omega
  ·rw[kM] at hb;cases hb
theorem vw(w:World)(o0 o1 o2 o3 o4 o5:Obj):((((((w.alloc o0).alloc o1).alloc o2).alloc o3).alloc o4).alloc o5).heap.size=w.heap.size+6 /\
  ((((((w.alloc o0).alloc o1).alloc o2).alloc o3).alloc o4).alloc o5).heap[w.heap.size]? = some o0/\((((((w.alloc o0).alloc o1).alloc o2).alloc o3).alloc o4).alloc o5).heap[w.heap.size+1]? = some o1 /\
  ((((((w.alloc o0).alloc o1).alloc o2).alloc o3).alloc o4).alloc o5).heap[w.heap.size+2]? = some o2/\((((((w.alloc o0).alloc o1).alloc o2).alloc o3).alloc o4).alloc o5).heap[w.heap.size+3]? = some o3 /\
  ((((((w.alloc o0).alloc o1).alloc o2).alloc o3).alloc o4).alloc o5).heap[w.heap.size+4]? = some o4/\((((((w.alloc o0).alloc o1).alloc o2).alloc o3).alloc o4).alloc o5).heap[w.heap.size+5]? = some o5 /\
  Below w.heap.size w ((((((w.alloc o0).alloc o1).alloc o2).alloc o3).alloc o4).alloc o5):=by
 have z1:=Xs w o0;have z2:=Xs (w.alloc o0) o1;have z3:=Xs ((w.alloc o0).alloc o1) o2;have z4:=Xs (((w.alloc o0).alloc o1).alloc o2) o3;have z5:=Xs ((((w.alloc o0).alloc o1).alloc o2).alloc o3) o4;have z6:=Xs (((((w.alloc o0).alloc o1).alloc o2).alloc o3).alloc o4) o5;have n0:=Xn w o0;have n1:=Xn (w.alloc o0) o1;have n2:=Xn ((w.alloc o0).alloc o1) o2;have n3:=Xn (((w.alloc o0).alloc o1).alloc o2) o3;have n4:=Xn ((((w.alloc o0).alloc o1).alloc o2).alloc o3) o4;have n5:=Xn (((((w.alloc o0).alloc o1).alloc o2).alloc o3).alloc o4) o5;rw[z1] at n1 z2;rw[z2] at n2 z3;rw[z3] at n3 z4;rw[z4] at n4 z5;rw[z5] at n5 z6;refine⟨z6,?_,?_,?_,?_,?_,n5,?_⟩
 ·rw[Zc _ _ _ (by omega),Zc _ _ _ (by omega),Zc _ _ _ (by omega),Zc _ _ _ (by omega),Zc _ _ _ (by omega)];exact n0
 ·rw[Zc _ _ _ (by omega),Zc _ _ _ (by omega),Zc _ _ _ (by omega),Zc _ _ _ (by omega)];exact n1
 ·rw[Zc _ _ _ (by omega),Zc _ _ _ (by omega),Zc _ _ _ (by omega)];exact n2
 ·rw[Zc _ _ _ (by omega),Zc _ _ _ (by omega)];exact n3
 ·rw[Zc _ _ _ (by omega)];exact n4
 ·exact (((((Xr w.heap.size w).alloc (Xz _) o0).alloc (by omega) o1).alloc (by omega) o2).alloc (by omega) o3).alloc (by omega) o4 |>.alloc (by omega) o5
theorem qdV{t:TypeId}{g lo e0 n:Nat}{w:World}(hg:w.heap[g]? = some (.cells ((Array.replicate n (Value.slice none 0 0)).setIfInBounds 0 (.slice (some ⟨e0,0,none⟩) 1 1)) t (0,0)))(he:w.heap[e0]? = some (.cells #[.string ⟨#[]⟩] 9 (0,0))):Eh t g lo e0 w ((List.replicate n []).set 0 [[]]):=by
 refine⟨(List.replicate n (Value.slice none 0 0)).set 0 (.slice (some ⟨e0,0,none⟩) 1 1),?_,by simp,fun i v x hv hx=>?_⟩
 ·rw[hg];congr 2;apply Array.ext';simp
 ·rw[Xu] at hv hx;split at hv
  ·rename_i e;rw[if_pos e] at hx;split at hv
   ·split at hx
    ·injection hv with hv;injection hx with hx;subst hv hx;intro w' hw;have Jo:=(gl he);refine In (xs:=[[]]) (fun y hy=>by rw[Qi] at hy;subst hy;unfold maxLen;simp) (fun _=>⟨e0,0,rfl,Jo,fun j u hu=>?_⟩) (Xz _) (by unfold maxLen;omega)
     match j,hu with
     |0,hu =>
      injection hu with hu;subst hu;rw[hw _ (.inr rfl) Jo];exact Vo he
     |j+1,hu=>simp[Zp] at hu
    ·cases hx
   ·cases hv
  ·rename_i e;rw[if_neg e] at hx;rw[Xg] at hv hx;split at hv
   ·rename_i hi;rw[if_pos hi] at hx;injection hv with hv;injection hx with hx;subst hv hx;exact Hi.nil lo e0 w
   ·cases hv
theorem Ds.toM{s:Zu}(h:Ds s):oX 4096 s:=h
theorem qaN(n:Nat):Ds ((List.replicate n []).set 0 [[]]):=(Ds.replicate n).set 0 ⟨fun x hx=>by rw[Qi] at hx;subst hx;simp,by simp⟩
theorem yZ(n:Nat):Ux ((List.replicate n []).set 0 [[]]):=(Ux.replicate n).set 0 (by simp)
theorem uD{A1 A2 A3:Option Addr}{n m q c1 c2 c3:Nat}{g:Jw}(k:Int)(w:World)(h:Wz w w.heap.size A1 A2 A3 n m q c1 c2 c3 g) :
  Calls Tryz.prog 89 #[Nr A1 A2 A3 n m q c1 c2 c3,.int .i64 k] w (qiQ k g w):=by
 have hb1:=(Xr w.heap.size w).alloc (Xz _) (.cells #[.slice A1 n c1,.slice A2 m c2,.slice A3 q c3] 25);have z1:=Xs w (.cells #[.slice A1 n c1,.slice A2 m c2,.slice A3 q c3] 25);have k1:=Xn w (.cells #[.slice A1 n c1,.slice A2 m c2,.slice A3 q c3] 25);have Zy:=(Xr _ (w.alloc (.cells #[.slice A1 n c1,.slice A2 m c2,.slice A3 q c3] 25))).alloc (Xz _) (.cells #[.int .i64 k] 3);have z2:=Xs (w.alloc (.cells #[.slice A1 n c1,.slice A2 m c2,.slice A3 q c3] 25)) (.cells #[.int .i64 k] 3);have k2:=Fo w (.cells #[.slice A1 n c1,.slice A2 m c2,.slice A3 q c3] 25) (.cells #[.int .i64 k] 3);have HB:=Lh (hb1.trans (Zy.mono (by rw[z1];omega)));have HZ:=Lh (z2.trans (by rw[z1]));have kh:=Lh ((Zy.block w.heap.size (by rw[z1];omega)).trans k1);have HKK:=Lh k2;have HV:=Lh (h.fut HB.o (Xz _) (Xz _));have HL:=Lh h.ln;have qE:=h.small;clear h hb1 z1 k1 Zy z2 k2;go_enter Tryz.func89,Tryz.ntmps89;go_wp2_with fail;generalize (w.alloc (.cells #[.slice A1 n c1,.slice A2 m c2,.slice A3 q c3] 25)).alloc (.cells #[.int .i64 k] 3)=w1 at *;refine (eP k w1 (HV.o.fut (N:=w1.heap.size) (B':=w1.heap.size) (Xr _ _) (by rw[HZ.o];omega) (by rw[HZ.o];omega))).mono ?_;rintro e w2 ⟨Zy,tW,hgood⟩;have HB2:=Lh (HB.o.trans (Zy.mono (by rw[HZ.o];omega)));have HB12:Hid (Below (w.heap.size+2) w1 w2):=Zy.mono (Yh HZ.o.symm);have HS2:=Lh (show w.heap.size+2<=w2.heap.size by have:=Zy.size;rw[HZ.o] at this;exact this);clear Zy;by_cases gD:Ct k g
 ·have:=tW gD;subst this;have Mv:=Lh gD;clear tW hgood gD;go_wp2_with fail
  go_ret2
  exact⟨HB2.o.alloc (by have:=HS2.o;omega) _,fun _=>rfl,fun h=>absurd Mv.o h⟩
 obtain⟨o1,ft,By⟩:=hgood gD;have HNB:=Lh gD;have HF:=Lh ft;clear tW hgood gD ft;cases o1 with
 |none =>
  have:e=.returned (.tuple #[.slice none 0 0,.int .i64 21]):=By;subst this;clear By;go_wp2_with fail
  go_ret2
  exact⟨HB2.o.alloc (by have:=HS2.o;omega) _,fun h=>absurd h HNB.o,fun _=>⟨none,HF.o,rfl⟩⟩
 |some s =>
  obtain⟨As,cs,rfl,hss,hsb⟩:=By;obtain⟨ns,hns⟩:=Xe s.length;rw[<-hns] at hss |-;have HSS:=Lh hss;have pA:=Lh hsb;have jH:¬ k<1:=fun h=>HNB.o (.inl h);have Y_:¬ 4<k:=fun h=>HNB.o (.inr (.inl h));have Vi:Jr g=0:=Classical.byContradiction fun h=>HNB.o (.inr (.inr h));obtain⟨kk,tv⟩:∃ kk:Nat,k=(kk:Int):=⟨k.toNat,by omega⟩;subst tv;have jn:=Lh (Ig Vi);have zdL:=Lh ((HB12.o.block w.heap.size (by omega)).trans kh.o);have zdK:=Lh ((HB12.o.block (w.heap.size+1) (by omega)).trans HKK.o);have HN:=Lh (show 1<=n/\n<=256 by have h1:=jn.o.2.1.n1;have h2:=jn.o.2.1.nm;have:=HL.o.1;omega);have g0:w2.cell? ⟨w.heap.size,0,none⟩=some (.slice A1 n c1):=Xc zdL.o rfl;have Fn:w.heap.size<w2.heap.size:=by have:=HS2.o;omega
  have bA:=yY n (by have:=HN.o;omega) (w2.alloc (.cells #[.slice As ns cs] 76));have hn0:0<n:=HN.o.1;clear hss hsb Vi hns;go_wp2_with fail;obtain⟨a,ha⟩:∃ a:wE,a=⟨w2.heap.size+1,w2.heap.size,w2.heap.size+1+1,w.heap.size+1,w2.heap.size+1+1+1+1+1,w2.heap.size+1+1+1+1,w2.heap.size+6,w2.heap.size+1+1+1,w2.heap.size+1,w2.heap.size,As,ns,cs,n⟩:=⟨_,rfl⟩;have hW:Hid (∃ W:World,W=((((((w2.alloc (.cells #[.slice As ns cs] 76)).alloc (.cells ((Array.replicate n (Value.slice none 0 0)).setIfInBounds 0 (.slice (some ⟨w2.heap.size+1+1+1,0,none⟩) 1 1)) 22)).alloc (.cells #[.slice (some ⟨w2.heap.size+1,0,none⟩) n n] 76)).alloc (.cells #[.string ⟨#[]⟩] 9)).alloc (.cells #[.bool true] 4)).alloc (.cells #[.bool false] 4)) /\
    W.heap.size=w2.heap.size+6/\Fj a kk s W ⟨(List.replicate n []).set 0 [[]],true,false⟩ 4096/\Below w2.heap.size w2 W):=by
   refine⟨_,rfl,?_⟩;obtain⟨z,h0,h1,h2,h3,h4,h5,qg⟩:=vw w2 (.cells #[.slice As ns cs] 76) (.cells ((Array.replicate n (Value.slice none 0 0)).setIfInBounds 0 (.slice (some ⟨w2.heap.size+1+1+1,0,none⟩) 1 1)) 22) (.cells #[.slice (some ⟨w2.heap.size+1,0,none⟩) n n] 76) (.cells #[.string ⟨#[]⟩] 9) (.cells #[.bool true] 4) (.cells #[.bool false] 4);refine⟨z,?_,qg⟩;subst ha;exact⟨qdV h1 h3,by simp,(qaN n).toM,yZ n,h0,h2,(qg.block _ (by have:=HS2.o;simp only;omega)).trans zdK.o,h5,h4,HSS.o.below qg,⟨by simp only;omega,by simp only;omega,by simp only;omega,by simp only;omega,by simp only;omega,by have:=HS2.o;simp only;omega,by simp only;omega⟩,⟨by simp only;omega,by simp only;omega,by simp only;omega,by simp only;omega,by simp only;rw[z];omega⟩,⟨by simp only;omega,by simp only;omega,by simp only;omega,by simp only;omega⟩,⟨by simp only;omega,by simp only;omega,by simp only;omega,by simp only;omega,by simp only;omega,by simp only;omega⟩⟩
  obtain⟨W,hWe,hWz,hWs,hWb⟩:=hW.o;rw[<-hWe];have HWB:Hid (Below (w.heap.size+2) w1 W):=HB12.o.trans (hWb.mono HS2.o);have HWS:=Lh hWs;have HAN:=Lh (show a.n=n by rw[ha]);have HAG:=Lh (show a.g=w2.heap.size+1 by rw[ha]);have eGB:w2.heap.size+1+1+1+1=a.GB:=by rw[ha]
  have eLB:a.GB+1=a.LB:=by rw[ha]
  have eFB:w2.heap.size+1+1=a.FB:=by rw[ha]
  have eSB:w2.heap.size=a.SB:=by rw[ha]
  have eg:w2.heap.size+1=a.g:=by rw[ha]
  have eKB:w.heap.size+1=a.KB:=by rw[ha]
  rw[eGB,eLB,eFB,eg,eSB,eKB];have wS:=Lh (show a.LB=w2.heap.size+5/\a.GB=w2.heap.size+4 by rw[ha];exact⟨rfl,rfl⟩);have HHEAD:Hid (kJ kk g.2.2 n s (4096*n) ⟨(List.replicate n []).set 0 [[]],true,false⟩):=⟨yZ n,fun _=>qaN n,fun h=>(by cases h),fun _ h=>(by cases h),fun _ _=>⟨fun o ho=>ho,Nat.le_add_right _ _⟩⟩;clear hW hWe hWz hWs hWb eGB eLB eFB eSB eg eKB bA ha g0 hn0;go_loopg [] (4096*n+1) (fun gas wr=>∃(p:El)(M:Nat),Hid (Fj a kk s wr p M)/\Hid (kJ kk g.2.2 n s (gas - 1) p)/\Hid (p.limit=false->p.grown=true->1<=gas)/\Hid (Below (w.heap.size+2) w1 wr));exact⟨⟨(List.replicate n []).set 0 [[]],true,false⟩,4096,HWS.o,HHEAD.o,fun _ _=>Nat.le_add_left _ _,HWB.o⟩;clear HWS HHEAD HWB;obtain⟨p,M,HST,HHD,qzC,HBW⟩:=hrel;obtain⟨gas,Ue⟩:=Xe gk;rw[<-Ue] at HHD qzC;have HGK:=Lh Ue;obtain⟨fol,gb,lb⟩:=p;have cG:=Vo HST.o.bG;have cL:=Vo HST.o.bL;simp only at cG cL;have kg:=(HBW.o.block w.heap.size (by omega)).trans kh.o;have g2':wr.cell? ⟨w.heap.size,2,none⟩=some (.slice A3 q c3):=Xc kg rfl;have hne:w.heap.size≠a.GB:=by have:=wS.o.2;omega
  have eM:w.heap.size≠a.LB:=by have:=wS.o.1;omega
  clear Ue kg;cases lb with
  |true =>
   have zkV:=Lh (HHD.o.over rfl);cases gb
   all_goals
    go_wp2_with fail
    go_ret2
    exact⟨HB.o.trans (HBW.o.mono (by omega)),fun h=>absurd h HNB.o,fun _=>⟨some s,HF.o,none,by rw[<-HL.o.1];exact zkV.o,rfl⟩⟩
  |false =>
   cases gb with
   |false =>
    have zlQ:=Lh (HHD.o.done rfl rfl);have cF:=Vo HST.o.bF;have HSL:=Lh (HST.o.row.sl (by rw[HST.o.len,HAN.o];have:=HN.o;unfold maxLen;omega));have qQ:=Lh (HHD.o.small rfl);go_wp2_with fail
    go_ret2
    refine⟨HB.o.trans (HBW.o.mono (by omega)),fun h=>absurd h HNB.o,fun _=>⟨some s,HF.o,some fol,by rw[<-HL.o.1];exact zlQ.o,some ⟨a.g,0,none⟩,fol.length,?_,HSL.o,qQ.o⟩⟩;rw[show fol.length=a.n from HST.o.len];rfl
   |true =>
    have fG:wr.frozen? ⟨a.GB,0,none⟩=false:=by simp[World.frozen?,HST.o.bG]
    have HST0:=Lh (show Fj a kk s (wr.setCell ⟨a.GB,0,none⟩ (.bool false)) ⟨fol,false,false⟩ 4096 by
     obtain⟨f1,f2,f3,f4,f5,f6,f7,f8,f9,f10,f11⟩:=HST.o.setG false
     exact⟨f1,f2,(HHD.o.small rfl).toM,f4,f5,f6,f7,f8,f9,f10,f11⟩)
    have HB0:Hid (Below (w.heap.size+2) w1 (wr.setCell ⟨a.GB,0,none⟩ (.bool false))):=Below.setCell (p:=⟨a.GB,0,none⟩) HBW.o (by show w.heap.size+2<=a.GB;have:=wS.o.2;have:=HS2.o;omega) _;have HFP0:Hid (tm (Sz fol) n ⟨fol,false,false⟩):=⟨HHD.o.asc,by rw[<-HAN.o];exact HST.o.len,fun _=>HHD.o.small rfl,Xz _,fun h=>(by cases h)⟩;go_wp2_with fail;go_loopg [40] q (fun left v40 wt=>∃(j:Nat)(p':El),j<=q/\q - j<=left/\v40=.int .i64 j/\Hid (Fj a kk s wt p' (4096+262144*j))/\Hid (Wb s kk (g.2.2.drop j) p'=Wb s kk g.2.2 ⟨fol,false,false⟩)/\Hid (tm (Sz fol) n p')/\Hid (Below (w.heap.size+2) w1 wt));exact⟨0,⟨fol,false,false⟩,by omega,by omega,rfl,HST0.o,rfl,HFP0.o,HB0.o⟩;clear HST0 HB0 HFP0 cG cL fG g2' HST HBW;obtain⟨j,p',hj,Vt,rfl,HST,HSP,HFP,HBW⟩:=hrel;obtain⟨lft,pw⟩:=Xe gk;rw[<-pw] at Vt;have HLK:=Lh pw;clear pw;by_cases be:j<q
    ·have Uh:j<g.2.2.length:=by rw[<-HL.o.2.2];exact be
     have wA:=Lh (HV.o.rules.below (HBW.o.mono (by omega)));obtain⟨bb,off,cs',rfl,_,cX,Zt,Zj⟩:=wA.o.get (k:=j) Uh (by decide);obtain⟨v,rfl,Uv,xR,pH⟩:=Jv Zt;obtain⟨A5,c5,rfl,Tc,fY⟩:=Uv.form;have Vi:=Zj 0 _ rfl;have hc1:=Zj 1 _ rfl;simp only[show Kx.size=2 from rfl,Yo,<-Yv] at Vi hc1;have HSP2:=Lh (show Wb s kk (g.2.2.drop (j+1)) (Vs s kk g.2.2[j] g.2.2[j].2.length 0 p')=Wb s kk g.2.2 ⟨fol,false,false⟩ by rw[<-HSP.o,Ql Uh];rfl);have Es:=jn.o.2.1.fit _ (Qg Uh);obtain⟨r,hr⟩:=Xe (g.2.2[j]);rw[<-hr] at Vi hc1 HSP2 Uv xR pH Tc Es;obtain⟨r1,r2⟩:=r;obtain⟨la,rfl⟩:∃ la:Nat,r1=(la:Int):=⟨r1.toNat,by have:=Es.1;simp only at this;omega⟩;simp only at Vi hc1 Uv Tc Es pH HSP2;obtain⟨ql,xV⟩:=Xe r2.length;rw[<-xV] at hc1 Uv Tc Es HSP2;have HQL:=Lh xV;have HSL:=Lh Uv;have Az:=Lh Es;have zaF:ql<=64:=Es.2.2.1;have zwR:=Lh (show la<a.n by rw[HAN.o];have:=Es.2.1;have:=HL.o.1;omega);have HJQ:=Lh (show j<4096 by have:=jn.o.2.1.q;have:=HL.o.2.2;omega);clear Zj Zt hr xV Uv Uh HSP Es xR pH;go_wp2_with fail;have Wu:=(Xr wr.heap.size wr).alloc (Xz _) (.cells #[.int .i64 la,.slice A5 ql c5] 63);have HST1:=Lh (HST.o.below Wu);have HKX:=Lh (Xn wr (.cells #[.int .i64 la,.slice A5 ql c5] 63));have HWS:=Lh (show w2.heap.size+6<=wr.heap.size by have h1:=HST.o.le;have h2:=wS.o;omega);have HBX:=Lh (HBW.o.trans (Wu.mono (by have:=HWS.o;have:=HS2.o;omega)));have tw:=Xs wr (.cells #[.int .i64 la,.slice A5 ql c5] 63);have HSLX:=Lh (HSL.o.below (Wu.mono (by have:=HWS.o;have:=HS2.o;omega)));clear Wu;generalize wr.alloc (.cells #[.int .i64 la,.slice A5 ql c5] 63)=wx at *;obtain⟨qsO,qxL⟩:=Xe wr.heap.size;rw[<-qxL] at HKX HWS |-;have zcN:=HWS;clear qxL;go_loopg [47] ql (fun zfZ v47 wt=>∃(i:Nat)(p'':El),i<=ql/\ql - i<=zfZ/\v47=.int .i64 i/\Hid (Fj a kk s wt p'' (4096+262144*j+4096*i))/\Hid (Vs s kk ((la:Int),r2) (ql - i) i p''=Vs s kk ((la:Int),r2) ql 0 p')/\Hid (tm (Sz fol) n p'')/\Hid (Below (w.heap.size+2) w1 wt)/\Hid (wt.heap[qsO]? = some (.cells #[.int .i64 la,.slice A5 ql c5] 63 (0,0)))/\Hid (Jb Vh wt w.heap.size (.slice A5 ql c5) r2));exact⟨0,p',by omega,by omega,rfl,HST1.o,rfl,HFP.o,HBX.o,HKX.o,HSLX.o⟩;clear HST1 HKX HBX HSLX HST HBW Vi hc1;obtain⟨i,p'',hi,zaV,rfl,HST,zcU,zlM,HBW,HKX,HSLX⟩:=hrel;have b0:wr.cell? ⟨qsO,0,none⟩=some (.int .i64 la):=Xc HKX.o rfl;have b1:wr.cell? ⟨qsO,1,none⟩=some (.slice A5 ql c5):=Xc HKX.o rfl;by_cases hiq:i<ql
     ·have Vq:i<r2.length:=by rw[<-HQL.o];exact hiq
      have zqW:=(Az.o.2.2.2 _ (Qg Vq)).1;have hgd:r2.getD i 0=r2[i]:=by rw[Qb,Qa Vq];rfl
      have HFP4:=Lh (zlM.o.step (k:=kk) (by omega) (sets:=s) (r:=((la:Int),r2)) (at_:=i) (fun _=>by simp only;rw[hgd];have:=HL.o.1;omega));have HSP4:=Lh (show Vs s kk ((la:Int),r2) (ql - (i+1)) (i+1) (Vr s kk ((la:Int),r2) i p'')=Vs s kk ((la:Int),r2) ql 0 p' by
       rw[<-zcU.o,show ql - i=(ql - (i+1))+1 by omega,wX])
      have ug:=Lh (vu a kk (4096+262144*j+4096*i) w.heap.size la i s wr p'' r2 A5 ql c5 HST.o pA.o (by omega) (by omega) zwR.o (by rw[HAN.o];exact HN.o.2) HQL.o (by omega) hiq (fun x hx=>by have:=(Az.o.2.2.2 x hx).1;rw[HAN.o];have:=HL.o.1;omega) HSLX.o (by have h1:=HST.o.le;have h2:=wS.o;have:=HS2.o;omega) (by have:=HJQ.o;omega));clear Vq zqW hgd;go_wp2_with fail;refine ug.o.mono ?_;rintro e w7 ⟨rfl,zgM,hon⟩;have HST7:Hid (Fj a kk s w7 (Vr s kk ((la:Int),r2) i p'') (4096+262144*j+4096*(i+1))):=zgM;have HB7:=Lh (HBW.o.trans (hon.below (C:=w.heap.size+2) (by have h1:=HST.o.le;have h2:=wS.o;have:=HS2.o;omega) (by rw[HAG.o];have:=HS2.o;omega) (by have:=wS.o;have:=HS2.o;omega) (by have:=wS.o;have:=HS2.o;omega)));have HK7:=Lh ((hon.block qsO (gl HKX.o) (by have h1:=zcN.o;have h2:=HAG.o;omega) (by have h1:=zcN.o;have h2:=wS.o;omega) (by have h1:=zcN.o;have h2:=wS.o;omega)).trans HKX.o);have HSL7:=Lh (HSLX.o.below (hon.below (C:=w.heap.size) (by have h1:=HST.o.le;have h2:=wS.o;have:=HS2.o;omega) (by rw[HAG.o];have:=HS2.o;omega) (by have:=wS.o;have:=HS2.o;omega) (by have:=wS.o;have:=HS2.o;omega)));clear zgM hon ug b0 b1;go_wp2_with fail;go_roundg (gk - 1);exact⟨i+1,Vr s kk ((la:Int),r2) i p'',by omega,by omega,by go_num,HST7.o,HSP4.o,HFP4.o,HB7.o,HK7.o,HSL7.o⟩;omega
     ·have zaX:i=ql:=by omega
      have HST9:=Lh (show Fj a kk s wr (Vs s kk ((la:Int),r2) ql 0 p') (4096+262144*(j+1)) by
       have h1:=zcU.o
       rw[zaX,Nat.sub_self] at h1
       have h2:p''=Vs s kk ((la:Int),r2) ql 0 p':=h1
       rw[<-h2]
       obtain⟨f1,f2,f3,f4,f5,f6,f7,f8,f9,f10,f11⟩:=HST.o
       exact⟨f1,f2,f3.mono (by omega),f4,f5,f6,f7,f8,f9,f10,f11⟩)
      have HFP9:=Lh (show tm (Sz fol) n (Vs s kk ((la:Int),r2) ql 0 p') by
       have h1:=zcU.o
       rw[zaX,Nat.sub_self] at h1
       have h2:p''=Vs s kk ((la:Int),r2) ql 0 p':=h1
       rw[<-h2]
       exact zlM.o)
      clear zaX;go_wp2_with fail;go_roundg (lft - 1);exact⟨j+1,_,by omega,by omega,by go_num,HST9.o,HSP2.o,HFP9.o,HBW.o⟩;have:=HLK.o;omega
    ·have HEND:=Lh (show Wb s kk g.2.2 ⟨fol,false,false⟩=p' by
      rw[<-HSP.o,show j=g.2.2.length by rw[<-HL.o.2.2];omega,List.drop_length];rfl)
     have HNX:=Lh (HHD.o.next rfl rfl HEND.o HFP.o (by
      rcases Ym p'.limit with h | h
      ·exact .inr h
      ·left
       have:=vd p'.fol (HFP.o.small h)
       rw[HFP.o.len] at this
       exact this))
     have HG1:=Lh (qzC.o trivial trivial);clear HSP HEND;go_wp2_with fail;go_roundg (gas - 1);exact⟨p',_,HST.o,HNX.o.1,fun h1 h2=>HNX.o.2 h1 h2,HBW.o⟩;have:=HGK.o;have:=HG1.o;omega
theorem qdK:Ev Tryz.prog 76 22 1 24 (.slice none 0 0):=Sv Tryz.underlying76 (by kernel_rfl) rfl (by omega)
def Lc(k:Int)(g:Jw)(o:Option Zu):Prop :=
 ∃ o1,Fq k g.2.2 g.1.length o1/\match o1 with
 |none=>o=none
 |some s=>∃ o2,Du s k g.2.2 g.1.length o2/\match o2 with
  |none=>o=none
  |some f=>o=Mo s f k g.2.2
theorem Lc.det{k:Int}{g:Jw}{o o':Option Zu}(h:Lc k g o)(h':Lc k g o'):o=o':=by
 obtain⟨o1,h1,h2⟩:=h;obtain⟨o1',h1',h2'⟩:=h';have:=RoundsTo.det h1 h1';subst this;cases o1 with
 |none=>exact (show o=none from h2).trans (show o'=none from h2').symm
 |some s =>
  obtain⟨o2,h3,h4⟩:=h2;obtain⟨o2',h3',h4'⟩:=h2';have:=RoundsTo.det h3 h3';subst this;cases o2 with
  |none=>exact (show o=none from h4).trans (show o'=none from h4').symm
  |some f=>exact (show o=Mo s f k g.2.2 from h4).trans (show o'=Mo s f k g.2.2 from h4').symm
def tq(w':World)(o:Option Zu)(e:Ending):Prop :=
 match o with
 |none=>e=.returned (.tuple #[.slice none 0 0,.int .i64 21])
 |some s=>∃ A c,e=.returned (.tuple #[.slice A s.length c,.int .i64 0])/\Jb (Ro eW) w' w'.heap.size (.slice A s.length c) s
def qrF(k:Int)(g:Jw)(w:World)(e:Ending)(w':World):Prop :=
 Below w.heap.size w w'/\(Ct k g->e=.returned (.tuple #[.slice none 0 0,.int .i64 1]))/\(¬ Ct k g->∃ o,Lc k g o/\tq w' o e)
theorem sx{s f:Zu}{k:Int}{r:Int×List Int}{rs:Zq}:Mo s f k (r::rs)=(Kg s f k r (-1)).bind fun x=>(Mo s f k rs).map (x::·):=rfl
theorem qvQ{w:World}{base:Nat}{t:TypeId}{v:Value}{x:List Wd}(hf:aB x)(h:w.ownsRow base t 1 v x.length (Zp x)){r:Option Nat}(hr:∀ b,r=some b->b<base):∀ w',jv w w' w.heap.size r->(Ro eW).rep w' w.heap.size [v] x:=by
 intro w' ha;obtain⟨A,c,rfl,h1,h2⟩:=Zk h;refine⟨_,rfl,In hf (fun hne=>?_) h1 h2⟩;obtain⟨b,off,e,Jo,hc⟩:=Rd.of_own h hne;subst e;have hge:base<=b:=by
  rcases h.2 with ⟨hn,_⟩ | ⟨g,cap,cur,hv,hg,_⟩
  ·injection hn with e1;cases e1
  ·injection hv with e1 _ _;injection e1 with e1;injection e1 with e1 _;omega
 exact⟨b,off,rfl,Jo,fun j u hu=>(ha _ Jo (fun e=>by have:=hr b e.symm;omega)).trans (hc j u hu)⟩
theorem yH{A1 A2 A3:Option Addr}{n m q c1 c2 c3:Nat}{g:Jw}(k:Int)(w:World)(h:Wz w w.heap.size A1 A2 A3 n m q c1 c2 c3 g) :
  Calls Tryz.prog 39 #[Nr A1 A2 A3 n m q c1 c2 c3,.int .i64 k] w (qrF k g w):=by
 have Wu:=(Xr w.heap.size w).alloc (Xz _) (.cells #[.slice A1 n c1,.slice A2 m c2,.slice A3 q c3] 25);have HV:=Lh (h.fut (B':=w.heap.size) Wu (Xz _) (Xz _));have HK:=Lh (Xn w (.cells #[.slice A1 n c1,.slice A2 m c2,.slice A3 q c3] 25));have HZ:=Lh (Xs w (.cells #[.slice A1 n c1,.slice A2 m c2,.slice A3 q c3] 25));have HBX:=Lh Wu;have HL:=Lh h.ln;have qE:=h.small;clear h Wu;go_enter Tryz.func39,Tryz.ntmps39;go_wp2_with fail;generalize w.alloc (.cells #[.slice A1 n c1,.slice A2 m c2,.slice A3 q c3] 25)=w1 at *;refine (uD k w1 (HV.o.fut (N:=w1.heap.size) (B':=w1.heap.size) (Xr _ _) (by rw[HZ.o];omega) (by rw[HZ.o];omega))).mono ?_;rintro e w2 ⟨Zy,tW,hgood⟩;have HB2:=Lh (HBX.o.trans (Zy.mono (by rw[HZ.o];omega)));have HB12:Hid (Below (w.heap.size+1) w1 w2):=Zy.mono (Yh HZ.o.symm);have HS2:=Lh (show w.heap.size+1<=w2.heap.size by have:=Zy.size;rw[HZ.o] at this;exact this);clear Zy;by_cases gD:Ct k g
 ·have:=tW gD;subst this;have Mv:=Lh gD;clear tW hgood gD;go_wp2_with fail
  go_ret2
  exact⟨HB2.o,fun _=>rfl,fun h=>absurd Mv.o h⟩
 obtain⟨o1,ft,By⟩:=hgood gD;have HNB:=Lh gD;have HF:=Lh ft;clear tW hgood gD ft;cases o1 with
 |none =>
  have:e=.returned (.tuple #[.slice none 0 0,.int .i64 21]):=By;subst this;clear By;go_wp2_with fail
  go_ret2
  exact⟨HB2.o,fun h=>absurd h HNB.o,fun _=>⟨none,⟨none,HF.o,rfl⟩,rfl⟩⟩
 |some s =>
  obtain⟨o2,ho2,qnF⟩:=By;have HO2:=Lh ho2;clear ho2;cases o2 with
  |none =>
   have:e=.returned (.tuple #[.slice none 0 0,.int .i64 21]):=qnF;subst this;clear qnF;go_wp2_with fail
   go_ret2
   exact⟨HB2.o,fun h=>absurd h HNB.o,fun _=>⟨none,⟨some s,HF.o,none,HO2.o,rfl⟩,rfl⟩⟩
  |some f =>
   obtain⟨Af,cf,rfl,hsf,hfb⟩:=qnF;obtain⟨nf,hnf⟩:=Xe f.length;rw[<-hnf] at hsf |-;have HNF:=Lh hnf;have pU:=Lh hsf;have HFB:=Lh hfb;have k2:=(HB12.o.block w.heap.size (by omega)).trans HK.o;have d0:w2.cell? ⟨w.heap.size,0,none⟩=some (.slice A1 n c1):=Xc k2 rfl;have d1:w2.cell? ⟨w.heap.size,1,none⟩=some (.slice A2 m c2):=Xc k2 rfl;have d2:w2.cell? ⟨w.heap.size,2,none⟩=some (.slice A3 q c3):=Xc k2 rfl;clear hsf hfb hnf k2;go_wp2_with fail;refine (eP k w2 ((HV.o.fut (HB12.o) (by omega) (by omega:w.heap.size<=w.heap.size)).fut (N:=w2.heap.size) (B':=w2.heap.size) (Xr _ _) (by have:=HS2.o;omega) (by have:=HS2.o;omega))).mono ?_;rintro e w3 ⟨hb3,_,hgood⟩;obtain⟨o1',qgD,By⟩:=hgood HNB.o;have zsO:=RoundsTo.det HF.o qgD;subst zsO;obtain⟨As,cs,rfl,hss,hsb⟩:=By;obtain⟨ns,hns⟩:=Xe s.length;rw[<-hns] at hss |-;have HSS:=Lh hss;have pA:=Lh hsb;have zvU:=Lh (pU.o.next hb3 hb3.size);have HB3:=Lh (HB2.o.trans (hb3.mono (by have:=HS2.o;omega)));have zmD:=Lh (HB12.o.trans (hb3.mono HS2.o));have HS3:=Lh (Ya HS2.o hb3.size);have k3:=(zmD.o.block w.heap.size (by omega)).trans HK.o;have d2:w3.cell? ⟨w.heap.size,2,none⟩=some (.slice A3 q c3):=Xc k3 rfl;have jH:¬ k<1:=fun h=>HNB.o (.inl h);have Y_:¬ 4<k:=fun h=>HNB.o (.inr (.inl h));have Vi:Jr g=0:=Classical.byContradiction fun h=>HNB.o (.inr (.inr h));obtain⟨kk,tv⟩:∃ kk:Nat,k=(kk:Int):=⟨k.toNat,by omega⟩;subst tv;have jn:=Lh (Ig Vi);have jo:=Lh (show nf=g.1.length by
    rw[HNF.o]
    have:=(Du.full (by have:=jn.o.2.1.n1;omega) (Fq.full jn.o.2.1.well HF.o).1.sound (Fq.full jn.o.2.1.well HF.o).2 HO2.o).1.len
    exact this)
   clear hgood qgD hss hsb hb3 Vi hns d0 d1 k3;go_wp2_with fail;go_loopg [33,10] q (fun left v33 v10 wr=>∃(j:Nat)(outs:Zu),j<=q/\q - j<=left/\v33=.int .i64 j/\Hid (dT (Ro eW) wr w3.heap.size 22 v10 outs)/\Hid (outs.length=j)/\Hid (Mo s f kk g.2.2=(Mo s f kk (g.2.2.drop j)).map (outs++·))/\Hid (Below w3.heap.size w3 wr));exact⟨0,[],by omega,by omega,rfl,dT.nil _ _ _,rfl,by simp[Hid],Xr _ _⟩;obtain⟨j,outs,hj,Vt,rfl,HO,HOL,HAW,HBR⟩:=hrel;obtain⟨A10,c10,rfl,qnM,zsA⟩:=HO.o.form;rw[HOL.o] at HO qnM |-;by_cases be:j<q
   ·have Uh:j<g.2.2.length:=by rw[<-HL.o.2.2];exact be
    have wA:=Lh ((HV.o.rules.below (zmD.o.mono (by omega))).below (HBR.o.mono (by have:=HS3.o;omega)));obtain⟨bb,off,cs',rfl,_,cX,Zt,Zj⟩:=wA.o.get (k:=j) Uh (by decide);obtain⟨v,rfl,Uv,xR,pH⟩:=Jv Zt;obtain⟨A5,c5,rfl,Tc,fY⟩:=Uv.form;have Vi:=Zj 0 _ rfl;have hc1:=Zj 1 _ rfl;simp only[show Kx.size=2 from rfl,Yo,<-Yv] at Vi hc1;have qqX:=Lh (show Mo s f kk g.2.2=((Kg s f kk g.2.2[j] (-1)).bind fun x=>(Mo s f kk (g.2.2.drop (j+1))).map (x::·)).map (outs++·) by rw[HAW.o,Ql Uh,sx]);have Es:=jn.o.2.1.fit _ (Qg Uh);obtain⟨r,hr⟩:=Xe (g.2.2[j]);rw[<-hr] at Vi hc1 qqX Uv xR pH Tc Es;obtain⟨r1,r2⟩:=r;obtain⟨la,rfl⟩:∃ la:Nat,r1=(la:Int):=⟨r1.toNat,by have:=Es.1;simp only at this;omega⟩;simp only at Vi hc1 Uv Tc Es pH;obtain⟨ql,xV⟩:=Xe r2.length;rw[<-xV] at hc1 Uv Tc Es;have HSL:=Lh Uv;have zaF:ql<=64:=Es.2.2.1;have HJQ:=Lh (show j<4096 by have:=jn.o.2.1.q;have:=HL.o.2.2;omega);have HLA:=Lh (show la<nf by rw[jo.o];have:=Es.2.1;omega);clear Zj Zt hr xV Uv Uh HAW Es xR pH;go_wp2_with fail;have Wu:=(Xr wr.heap.size wr).alloc (Xz _) (.cells #[.int .i64 la,.slice A5 ql c5] 63);have HOX:=Lh (HO.o.later Wu);have qiO:=Lh (HBR.o.trans (Wu.mono HBR.o.size));have HWS:=Lh (show w.heap.size<=wr.heap.size by have:=HS3.o;have:=HBR.o.size;omega);have HSLX:=Lh (HSL.o.fut Wu HWS.o (Xz _));have HZX:=Lh (Xs wr (.cells #[.int .i64 la,.slice A5 ql c5] 63));clear Wu;generalize wr.alloc (.cells #[.int .i64 la,.slice A5 ql c5] 63)=wx at *;have D_:=uZ As Af A5 cs cf c5 ql ns nf kk la 0 s f r2 wx (by omega) (by omega) (HSS.o.next (qiO.o) qiO.o.size) (zvU.o.next qiO.o qiO.o.size) (HSLX.o.more (by rw[HZX.o];have:=HWS.o;omega)) zaF (Ye _) HLA.o (fun i x hx=>by have:=pA.o i x hx;exact⟨this.1,by omega⟩) (fun i x hx=>by have:=HFB.o i x hx;exact⟨this.1,by omega⟩);rw[show (((0:Nat):Int) - 1)=(-1:Int) by rfl] at D_;refine D_.mono ?_;rintro e w6 ⟨hb6,he⟩;have HB6:=Lh (qiO.o.trans (hb6.mono qiO.o.size));have HO6:=Lh (HOX.o.later hb6);obtain⟨o,ho⟩:=Xe (Kg s f kk ((la:Int),r2) (-1));rw[<-ho] at he qqX;have HBO:=Lh ho;clear hb6 D_ ho;cases o with
    |none =>
     simp only at he;subst he;have HN:=Lh (show Mo s f kk g.2.2=none by rw[qqX.o];rfl);go_wp2_with fail
     go_ret2
     exact⟨HB3.o.trans (HB6.o.mono (by have:=HS3.o;omega)),fun h=>absurd h HNB.o,fun _=>⟨none,⟨some s,HF.o,some f,HO2.o,HN.o.symm⟩,rfl⟩⟩
    |some x =>
     simp only at he;obtain⟨v,rfl,hown⟩:=he;have HX:=Lh (mR (by omega) HBO.o.symm);have HAW3:=Lh (show Mo s f kk g.2.2=(Mo s f kk (g.2.2.drop (j+1))).map ((outs++[x])++·) by
      rw[qqX.o]
      simp only[Option.bind_some,Option.map_map]
      congr 1
      funext y
      simp)
     have HOB:=Lh (show ∀ b,(Value.slice A10 j c10).ownBlock=some b->b<wx.heap.size from fun b hb=>by
      obtain⟨css,h1,_⟩:=HOX.o
      exact (h1.lt b hb).2)
     have HES:=Lh (qvQ (Pl HX.o.1) hown HOB.o);obtain⟨Ax,cx,rfl,hx5,hx6⟩:=Zk hown;obtain⟨css,qnV,qyG,qyF⟩:=HO6.o;rw[HOL.o] at qnV;have yQ:=Lh qnV;have nA:=Lh qyG;have HC3:=Lh qyF;have Te:Hid (w3.heap.size<=w6.heap.size):=HB6.o.size;obtain⟨qx,pq⟩:=Xe x.length;rw[<-pq] at HES hx5 |-;clear hown qnV qyG qyF pq qqX;go_wp2_with (at_builtin;refine Ja (m:=1) (n:=j) qdK rfl rfl rfl rfl (yQ.o.alloc _) (Rd.row (B:=w6.heap.size+1) (Xn w6 _) (by omega)) rfl (fun u hu=>by simp at hu;subst hu;rfl) (by have:=HJQ.o;unfold maxLen;omega) (by have:=HJQ.o;omega) (by rw[Xs];have:=Te.o;omega) ?_);intro v' w7 ho7 jI hv7 _;have qh:=(Xr w6.heap.size w6).alloc (Xz _) (.cells #[.slice Ax qx cx] 22);have HO7:=Lt (dT (Ro eW) w7 w3.heap.size 22 v' (outs++[x])) (by
      have hO':dT (Ro eW) (w6.alloc (.cells #[.slice Ax qx cx] 22)) w3.heap.size 22 (.slice A10 j c10) outs:=HO6.o.later qh
      refine dT.snoc (v:=.slice A10 j c10) (w:=w6.alloc (.cells #[.slice Ax qx cx] 22)) (css:=css) nA.o (fun i cs x hc hx w' ha=>?_) (fun w' ha=>?_) (by rw[HOL.o];exact ho7) jI (by rw[Xs];exact hv7)
      ·refine Lf.more _ (HC3.o i cs x hc hx w' fun p hp hn=>?_) qh.size
       rw[ha p (Yb hp qh.size) hn,qh.cell hp]
      ·refine Lf.more _ (HES.o w' fun p hp hn=>?_) qh.size
       rw[ha p (Yb hp qh.size) hn,qh.cell hp])
     have HB7:=Lh (Zr (HB6.o.alloc HB6.o.size (.cells #[.slice Ax qx cx] 22)) jI (yQ.o.alloc _) (Xz _) (by rw[Xs];have:=Te.o;omega));obtain⟨A7,c7,rfl,h71,h72⟩:=Zk ho7;have HOL7:=Lh (show (outs++[x]).length=j+1 by rw[Qe,HOL.o];rfl);clear ho7 jI hv7 qh;go_wp2_with fail;go_roundg (gk - 1);exact⟨j+1,outs++[x],by omega,by omega,by go_num,HO7.o,HOL7.o,HAW3.o,HB7.o⟩;omega
   ·have HEND:=Lh (show Mo s f kk g.2.2=some outs by
     rw[HAW.o,show j=g.2.2.length by rw[<-HL.o.2.2];omega,List.drop_length]
     simp[Mo])
    go_wp2_with fail
    go_ret2
    refine⟨HB3.o.trans (HBR.o.mono (by have:=HS3.o;omega)),fun h=>absurd h HNB.o,fun _=>⟨some outs,⟨some s,HF.o,some f,HO2.o,HEND.o.symm⟩,A10,c10,?_,?_⟩⟩
    ·rw[HOL.o];rfl
    ·rw[HOL.o];exact HO.o.sl
theorem Lz.congr{l:List (Wd×Value)}{L L':List Wd}{N:Nat}(h:Lz l L N)(hm:∀ x,x∈L↔x∈L'):Lz l L' N:=fun x=>by
 obtain⟨n,h1,h2,h3⟩:=h x;exact⟨n,h1,h2,by rw[h3,hm]⟩
def Gw(a b:List Wd):List Wd:=a.filter fun w=>decide (w∈b)
def zcF(w:World)(l:List Wd)(e:Ending)(w':World):Prop:=∃ v,e=.returned v/\w'.ownsRow w.heap.size 9 1 v l.length (Zp l)/\Below w.heap.size w w'
theorem qeU{a b:List Wd}{i:Nat}(h:i<a.length):Gw (a.take (i+1)) b=Gw (a.take i) b++if a[i]∈b then [a[i]] else []:=by
 unfold Gw;rw[Qc h,List.filter_append];congr 1;by_cases hb:a[i]∈b <;> simp[hb]
theorem qlZ(A B:Option Addr)(ca cb:Nat)(a b:List Wd)(w:World)(ha:Jb eW w w.heap.size (.slice A a.length ca) a)(hb:Jb eW w w.heap.size (.slice B b.length cb) b)(la:a.length<=1048576)(lb:b.length<=1048576) :
  Calls Tryz.prog 148 #[.slice A a.length ca,.slice B b.length cb] w (zcF w (Gw a b)):=by
 have HA:=Lh ha;have HB:=Lh hb;obtain⟨na,hna⟩:∃ n,n=a.length:=⟨_,rfl⟩;obtain⟨nb,kc⟩:∃ n,n=b.length:=⟨_,rfl⟩;rw[<-hna] at HA la |-;rw[<-kc] at HB lb |-;have HNA:=Lh hna;have HNB:=Lh kc;clear ha hb hna kc;have pu:=@run_makeMap Tryz.prog;go_enter Tryz.func148,Tryz.ntmps148;go_wp2_with fail;have HM1:=Lh (Uo.made (κ:=wv) w);have HB1:=Lh ((Xr w.heap.size w).alloc (Xz _) (.map #[] 0));have HZ1:=Lh (Xs w (.map #[] 0));generalize w.alloc (.map #[] 0)=w1 at *;clear pu;go_loopg [14] nb (fun left v14 wr=>∃(i:Nat)(l:List (Wd×Value)),i<=nb/\nb - i<=left/\v14=.int .i64 i/\Hid (Uo wv wr w.heap.size l)/\Hid (Lz l (b.take i) i)/\Hid (Below w.heap.size w wr)/\Hid (wr.heap.size=w.heap.size+1));exact⟨0,[],by omega,by omega,rfl,HM1.o,Lz.nil,HB1.o,HZ1.o⟩;clear HM1 HB1 HZ1;obtain⟨i,l,hi,Vt,rfl,HM,HS,HBR,HZ⟩:=hrel;by_cases Sb:i<nb
 ·have Vq:i<b.length:=by rw[<-HNB.o];exact Sb
  obtain⟨b2,o2,rfl,_,Zy,hc2⟩:=(HB.o.below HBR.o).wd Vq;have HT:=Lh (Qc Vq);obtain⟨x,hx⟩:=Xe (b[i]);rw[<-hx] at hc2 HT;clear hx Vq;obtain⟨n,hn,hnN,_⟩:=HS.o x;have hlk:=HM.o.lookup Ke Dv x;rw[hn] at hlk;have kc:(n:Int)<=1048576:=by omega
  have HS2:=Lh ((HS.o.put x hn hnN).congr (L':=b.take (i+1)) (fun y=>by rw[iY,HT.o,Qh,Qi]));clear hn hnN;go_wp2_with (at_mapUpdate;refine Sg Ke rfl rfl rfl rfl rfl HM.o ?_);intro w2 qgG aE Le;have HM2:=Lh qgG;have HB2:=Lh (HBR.o.grown aE HBR.o.size (fun k hk=>by injection hk with hk;subst hk;exact Xz _));have HZ2:=Lh (Le.trans HZ.o);clear qgG aE Le hlk;go_wp2_with fail;go_roundg (gk - 1);exact⟨i+1,_,by omega,by omega,by go_num,HM2.o,HS2.o,HB2.o,HZ2.o⟩;omega
 ·have Mq:i=nb:=by omega
  have pU:=Lh (show Lz l b i by
   have:=HS.o
   rwa [Mq,HNB.o,Qd (Xz _),<-HNB.o,<-Mq] at this)
  have HG:=Lh HM.o.lt;clear Mq HS;obtain⟨wm,hwm⟩:=Xe wr;rw[<-hwm] at HM HBR HZ HG |-;clear hwm;go_wp2_with fail;go_loopg [25,8] na (fun left v25 v8 wt=>∃(j:Nat),j<=na/\na - j<=left/\v25=.int .i64 j/\Hid (wt.ownsRow (w.heap.size+1) 9 1 v8 (Gw (a.take j) b).length (Zp (Gw (a.take j) b)))/\Hid (Below (w.heap.size+1) wm wt));exact⟨0,by omega,by omega,rfl,by simp only[List.take_zero,Gw,List.filter_nil];exact Yx _ _ _ _,Xr _ _⟩;obtain⟨j,hj,zaV,rfl,HO,HBT⟩:=hrel;have HBW:=Lh (HBR.o.trans (HBT.o.mono (by omega:w.heap.size<=w.heap.size+1)));obtain⟨L,hL⟩:=Xe (Gw (a.take j) b);rw[<-hL] at HO;have HLE:=Lh (show L.length<=na by
   rw[hL]
   unfold Gw
   refine Ya (List.length_filter_le _ _) ?_
   rw[Qq]
   omega)
  have HLL:=Lh hL;obtain⟨A8,c8,rfl,hl8,hl9⟩:=Zk HO.o;obtain⟨nl,eM⟩:=Xe L.length;rw[<-eM] at HO HLE hl8 |-;have wC:=Lh eM;clear hL eM;by_cases hja:j<na
  ·have Uh:j<a.length:=by rw[<-HNA.o];exact hja
   obtain⟨b2,o2,rfl,_,Zy,hc2⟩:=(HA.o.below HBW.o).wd Uh;have HMT:=Lh (qeU (b:=b) Uh);obtain⟨x,hx⟩:=Xe (a[j]);rw[<-hx,<-HLL.o] at HMT;rw[<-hx] at hc2;clear hx Uh;obtain⟨n,hn,hnN,hn0⟩:=pU.o x;have hlk:=(HM.o.below HBT.o (by omega:w.heap.size<w.heap.size+1)).lookup Ke Dv x;rw[hn] at hlk;by_cases Mq:x∈b
   ·have Dh:(0:Int)<(n:Int):=by
     have:n≠0:=fun e=>(hn0.1 e) Mq;omega
    have zdG:=Lh (show Gw (a.take (j+1)) b=L++[x] by rw[HMT.o,if_pos Mq]);have HWS:=Lh (show w.heap.size+1<=wr.heap.size by have:=HBT.o.size;have:=HZ.o;omega);have hle:=HLE.o;clear hn0 hn Mq;go_wp2_with (at_builtin;refine Ja (m:=1) (n:=nl) aM rfl rfl rfl rfl (HO.o.alloc _) (Rd.row (B:=wr.heap.size+1) (Xn wr _) (by omega)) rfl (fun u hu=>by simp at hu;subst hu;rfl) (by unfold maxLen;omega) (by omega) (by rw[Xs];have:=HWS.o;omega) ?_);intro v' w' ho hg _ _;have HO2:=Lh (show w'.ownsRow (w.heap.size+1) 9 1 v' (Gw (a.take (j+1)) b).length (Zp (Gw (a.take (j+1)) b)) by
     rw[zdG.o,Qe,<-wC.o]
     simp only[Zp,Qt]
     exact ho)
    have HB3:=Lh (Zr (HBT.o.alloc (by have:=HWS.o;omega) _) hg (HO.o.alloc _) (Xz _) (by rw[Xs];have:=HWS.o;omega));obtain⟨A6,c6,rfl,hl7,qnM⟩:=Zk ho;clear ho hg hlk;go_wp2_with fail;go_roundg (gk - 1);exact⟨j+1,by omega,by omega,by go_num,HO2.o,HB3.o⟩;omega
   ·have hz:n=0:=hn0.2 Mq;subst hz;have zdG:=Lh (show Gw (a.take (j+1)) b=L by rw[HMT.o,if_neg Mq,List.append_nil]);have HO2:=Lh (show wr.ownsRow (w.heap.size+1) 9 1 (.slice A8 nl c8) (Gw (a.take (j+1)) b).length (Zp (Gw (a.take (j+1)) b)) by rw[zdG.o,<-wC.o];exact HO.o);clear hn0 hn Mq;go_wp2_with fail;go_roundg (gk - 1);exact⟨j+1,by omega,by omega,by go_num,HO2.o,HBT.o⟩;omega
  ·have Up:=Lh (show Gw a b=L by rw[HLL.o,Qd (by rw[<-HNA.o];omega)]);go_wp2_with fail;go_ret;refine⟨_,rfl,?_,HBW.o⟩;rw[Up.o,<-wC.o];exact Nc HO.o (by omega)
def qrC(w:World)(o:Option Wd)(e:Ending)(w':World):Prop:=Below w.heap.size w w'/\match o with
 |none=>e=.returned (.tuple #[.string ⟨#[]⟩,.bool false])
 |some x=>e=.returned (.tuple #[wv x,.bool true])
theorem im(a b:List Wd):Di a b=(Gw a b).head? := rfl
theorem b_(g:Nat)(A B:Option Addr)(ca cb:Nat)(a b:List Wd)(w:World)(h0:w.cell? ⟨g,0,none⟩=some (.slice A a.length ca))(h1:w.cell? ⟨g,1,none⟩=some (.slice B b.length cb))(ha:Jb eW w w.heap.size (.slice A a.length ca) a)(hb:Jb eW w w.heap.size (.slice B b.length cb) b)(la:a.length<=1048576)(lb:b.length<=1048576) :
  Calls Tryz.prog 94 #[.slice (some ⟨g,0,none⟩) 2 2] w (qrC w (Di a b)):=by
 have HME:=Lh (qlZ A B ca cb a b w ha hb la lb);rw[im];have HLE:Hid ((Gw a b).length<=1048576):=Ya (List.length_filter_le _ _) la;obtain⟨L,hL⟩:=Xe (Gw a b);rw[<-hL] at HME HLE |-;have hgl:=Zi w _ h0;simp only at hgl;clear hL ha hb;obtain⟨na,hna⟩:∃ n,n=a.length:=⟨_,rfl⟩;obtain⟨nb,kc⟩:∃ n,n=b.length:=⟨_,rfl⟩;rw[<-hna] at HME la h0;rw[<-kc] at HME lb h1;clear hna kc;go_enter Tryz.func94,Tryz.ntmps94;go_wp2_with fail;go_loopg [13,4] 1 (fun left v13 v4 wr=>(v13=.int .i64 0/\v4=.slice A na ca/\wr=w/\left=1)\/(v13=.int .i64 1/\Hid (wr.ownsRow w.heap.size 9 1 v4 L.length (Zp L))/\Hid (Below w.heap.size w wr)));exact .inl ⟨rfl,rfl,rfl,rfl⟩;rcases hrel with ⟨rfl,rfl,rfl,hgk⟩ | ⟨rfl,HO,HB⟩
 ·go_wp2_with fail;refine HME.o.mono ?_;rintro e w2 ⟨v,rfl,hown,Zy⟩;have HO:=Lh hown;have HB:=Lh Zy;obtain⟨A2,c2,rfl,_,_⟩:=Zk hown;clear hown Zy;go_wp2_with fail;go_roundg 0;exact .inr ⟨by go_num,HO.o,HB.o⟩;omega
 ·obtain⟨A2,c2,rfl,tT,Pj⟩:=Zk HO.o;cases L with
  |nil =>
   go_wp2_with fail
   go_ret2
   exact⟨HB.o,rfl⟩
  |cons x L =>
   have yM:=Lh (Rd.of_own HO.o);obtain⟨b2,o2,rfl,cX,Zj⟩:=yM.o.at_ (k:=0) (by rw[Fr];simp);have K_:wr.cell? ⟨b2,o2,none⟩=some (wv x):=by rw[Yo] at Zj;exact Zj
   have hne:(((x::L).length:Int)==0)=false:=by simp;omega
   clear Zj;obtain⟨nl,eM⟩:=Xe ((x::L).length);have Dh:0<nl:=by rw[eM];simp
   rw[<-eM] at hne tT |-;clear eM;go_wp2_with fail
   go_ret2
   exact⟨HB.o,rfl⟩
open Go.RowKit
section
variable {P:Program} {ops:Array Oper} {I:World->Prop} {G:List Nat}
theorem qaK{Q:Act->World->Prop}(n:Nat){k:Nat}{l:List Oper}{a:Act}{w:World}(hG:(List.range' k n).all (fun i=>!G.contains i)=true)
  (h:∀ Q':Exit->Act->World->Prop,(∀ a w,Stop (TextI.wpS P ops I G Q (k+n) (l.drop n) a w)->Q' .normal a w)->wpList P ops Q' (l.take n) a w):Stop (TextI.wpS P ops I G Q k l a w) :=
 ⟨TextI.wpS_seg n k l a w hG fun Q' hQ'=>h Q' fun a w hh=>hQ' a w hh.o⟩
theorem qaL{Q:Act->World->Prop}{k:Nat}{o:Oper}{r:List Oper}{a:Act}{w:World}
  (h:∀ Q':Exit->Act->World->Prop,(∀ a' w',I w'/\Stop (TextI.wpS P ops I G Q (k+1) r a' w')->Q' .normal a' w')->wpList P ops Q' [o] a w):Stop (TextI.wpS P ops I G Q k (o::r) a w) :=
 ⟨TextI.wpS_one fun Q' hQ'=>h Q' fun a w hh=>hQ' a w ⟨hh.1,hh.2.o⟩⟩
theorem qsN{Q:Act->World->Prop}{k:Nat}{a:Act}{w:World}(h:Q a w):Stop (TextI.wpS P ops I G Q k [] a w):=⟨h⟩
theorem qsM{id:Nat}{Q:Exit->Act->World->Prop}{a:Act}{w:World}{l:List Oper}(G LD ex:List Nat)(I:World->Prop)(hI:I w.drew)(hm:P.follows .mixedOrders=true)(hB:Text.growB P l.toArray G LD ex=true)
  (h:Stop (TextI.wpS P l.toArray I G (fun a' w'=>Text.chk l.toArray ex a'=true/\TextI.oldAll P l.toArray I a' LD/\Q .normal a' w') 0 l a w.drew)):(Code.region id l.toArray true).wp P Q a w :=
 TextI.wp_inv G LD ex I hI hm hB h.o
end
theorem pc{P:Program}{w:World}{ty e:TypeId}{v:Value}{p:Addr}(hu:P.underlying ty=some (.slice e))(hc:w.cell? p=some v):(Instr.loadAt ty (.pointer (some p))).run P w=.ok v w:=by
 have gE:(isAgg ty).run P w=.ok false w:=by
  unfold isAgg;rw[Zd,run_underlying hu w];rfl
 simp[Instr.loadAt,Instr.sureAddr,loadVar,gE,hc]
theorem qfA{P:Program}{w:World}{ty k e:TypeId}{v:Value}{p:Addr}(hu:P.underlying ty=some (.map k e))(hc:w.cell? p=some v):(Instr.loadAt ty (.pointer (some p))).run P w=.ok v w:=by
 have gE:(isAgg ty).run P w=.ok false w:=by
  unfold isAgg;rw[Zd,run_underlying hu w];rfl
 simp[Instr.loadAt,Instr.sureAddr,loadVar,gE,hc]
abbrev Ed(w:World)(x:Nat)(L:List Int):Prop:=w.heap[x]? = some (.cells (L.map (Value.int .i64)).toArray 3 (0,0))
def Fz(n:Nat)(f:Nat->Int):List Int:=(List.range n).map f
theorem tM(n:Nat)(f:Nat->Int):(Fz n f).length=n:=by simp[Fz]
theorem tN{n k:Nat}{f:Nat->Int}(h:k<n):(Fz n f)[k]? = some (f k):=by
 unfold Fz;rw[Qv,List.getElem?_range h];rfl
theorem pj{n:Nat}{f g:Nat->Int}(h:∀ k<n,f k=g k):Fz n f=Fz n g:=List.map_congr_left fun k hk=>h k (Xy.1 hk)
theorem qmO{n i:Nat}{f:Nat->Int}{b:Int}:(Fz n f).set i b=Fz n (fun k=>if k=i then b else f k):=by
 apply List.ext_getElem?;intro k;by_cases hn:k<n
 ·rw[tN hn,Xu,tN hn,tM];by_cases hk:i=k
  ·subst hk;simp[hn]
  ·have:¬ k=i:=fun e=>hk e.symm;simp[hk,this]
 ·rw[Xf (by rw[Qm,tM];omega),Xf (by rw[tM];omega)]
theorem zq(n:Nat)(v:Int):Fz n (fun _=>v)=List.replicate n v:=by
 unfold Fz;rw[List.map_const',List.length_range]
theorem Ed.at_{w:World}{x n k:Nat}{f:Nat->Int}(h:Ed w x (Fz n f))(hk:k<n):w.cell? ⟨x,k,none⟩=some (.int .i64 (f k))/\w.frozen? ⟨x,k,none⟩=false:=by
 refine⟨?_,by simp[World.frozen?,h]⟩;rw[Za w x k _ _ _ h,List.getElem?_toArray,Qv,tN hk];rfl
theorem Ed.set{w:World}{x n:Nat}{f:Nat->Int}(h:Ed w x (Fz n f))(k:Nat)(b:Int):Ed (w.setCell ⟨x,k,none⟩ (.int .i64 b)) x (Fz n (fun j=>if j=k then b else f j)):=by
 show _=_;rw[Mx h,<-qmO,List.map_set,List.setIfInBounds_toArray]
theorem Ed.below{w w':World}{x:Nat}{L:List Int}(h:Ed w x L)(hb:Below w.heap.size w w'):Ed w' x L:=(hb.block x (gl h)).trans h
theorem qfQ(n:Nat)(hn:n<=2199023255552)(w:World):(Instr.makeSlice 61 (.int .i64 (n:Int)) (.int .i64 (n:Int))).run Tryz.prog w=.ok (.slice (some ⟨w.heap.size,0,none⟩) n n) (w.alloc (.cells ((Fz n fun _=>0).map (Value.int .i64)).toArray 3)):=by
 rw[zq,List.map_replicate,<-af];exact run_make_row' 61 3 (.int .i64 0) 8 Tryz.underlying61 (by kernel_rfl) rfl .i64 .i64 n (by omega) (by omega) w
theorem iw{α:Type}[DecidableEq α]{l:List (α×Value)}{k:α}(h:Ni l k=none)(v:Value):Wm l k v=l++[(k,v)]:=by
 induction l with
 |nil=>rfl
 |cons a r ih =>
  unfold Ni at h ih;rw[List.find?_cons] at h;by_cases hk:a.1=k
  ·simp[hk] at h
  ·simp only[hk,decide_false] at h;unfold Wm;rw[if_neg hk,ih h];rfl
def Nm(W:World)(g:Nat)(S:List dI):Prop:=∃ l,Uo wv W g l/\l.length=S.length/\∀ t,Ni l t=if t∈S then some (.int .i64 (S.idxOf t)) else none
theorem Nm.made(w:World):Nm (w.alloc (.map #[] 0)) w.heap.size []:=⟨[],Uo.made w,rfl,fun t=>by simp[Ni]⟩
theorem Nm.below{W W':World}{g:Nat}{S:List dI}(h:Nm W g S)(hb:Below W.heap.size W W'):Nm W' g S:=by
 obtain⟨l,h1,h2,h3⟩:=h;exact⟨l,h1.below hb h1.lt,h2,h3⟩
theorem Nm.setCell{W:World}{g x k:Nat}{S:List dI}(h:Nm W g S)(hx:g≠x)(v:Value):Nm (W.setCell ⟨x,k,none⟩ v) g S:=by
 obtain⟨l,h1,h2,h3⟩:=h;exact⟨l,h1.setCell hx,h2,h3⟩
theorem Nm.look{W:World}{g:Nat}{S:List dI}(h:Nm W g S){mt kt et:TypeId}{P:Program}(K:Rv P mt kt et wv)(hz:∀ w:World,(zeroValue et).run P w=.ok (.int .i64 0) w)(t:dI) :
  (Instr.lookup mt (.map (some g)) (wv t) true).run P W=.ok (.tuple #[if t∈S then .int .i64 (S.idxOf t) else .int .i64 0,.bool (decide (t∈S))]) W /\
  (t∈S->(Instr.lookup mt (.map (some g)) (wv t) false).run P W=.ok (.int .i64 (S.idxOf t)) W):=by
 obtain⟨l,h1,h2,h3⟩:=h;constructor
 ·rw[h1.lookup_ok K hz t,h3];by_cases ht:t∈S <;> simp[ht]
 ·intro ht;rw[h1.lookup K hz t,h3,if_pos ht];rfl
theorem Nm.len{W:World}{g:Nat}{S:List dI}(h:Nm W g S){mt kt et ty:TypeId}{P:Program}(K:Rv P mt kt et wv):(Builtin.len_ #[mt] ty #[.map (some g)]).run P W=.ok (.int .i64 S.length) W:=by
 obtain⟨l,⟨es,c,hh,he⟩,h2,h3⟩:=h;have Fd:es.size=S.length:=by
  have:=congrArg List.length he;simp at this;omega
 simp[Builtin.len_,run_underlying K.und,getObj,Sem.run,hh,Result.andThen,Fd,goInt]
theorem Nm.put{W:World}{g:Nat}{S:List dI}(h:Nm W g S){mt kt et:TypeId}{P:Program}(K:Rv P mt kt et wv){t:dI}(ht:t∉S) :
  ∃ W',(Instr.mapUpdate mt (.map (some g)) (wv t) (.int .i64 S.length)).run P W=.ok () W'/\Nm W' g (S++[t])/\W.grownBy W' (some g)/\W'.heap.size=W.heap.size:=by
 obtain⟨l,h1,h2,h3⟩:=h;obtain⟨W1,gZ,jF,Cp,Ea⟩:=h1.update K t (.int .i64 S.length);refine⟨W1,gZ,⟨_,jF,?_,fun u=>?_⟩,Cp,Ea⟩
 ·rw[iw (by rw[h3,if_neg ht]),Qe,Qe,h2];rfl
 ·rw[Ps,h3];by_cases hu:u=t
  ·subst hu;rw[if_pos rfl,if_pos (by simp),List.idxOf_append,if_neg ht];simp
  ·rw[if_neg hu];by_cases hS:u∈S
   ·rw[if_pos hS,if_pos (List.mem_append_left _ hS),List.idxOf_append,if_pos hS]
   ·rw[if_neg hS,if_neg];simp[hS,hu]
def dR (w : World) : Prop := Lib.TabIs Tryz.prog w "internal/strconv.uint64pow10" .u64 Lib.pow10Tab
theorem dR.below{w w':World}(h:dR w)(hb:Below w.heap.size w w'):dR w':=qcW h hb
theorem cW(n:Int)(w:World)(h0:-9223372036854775808<=n)(h1:n<=9223372036854775807)(ht:dR w):Calls Tryz.prog 164 #[.int .i64 n] w fun e w'=>e=.returned (wv (Lib.itoa n))/\Below w.heap.size w w':=by
 refine (Tryz.strconv_Itoa n h0 h1 w ht).mono ?_;rintro e w' ⟨rfl,k,os,rfl⟩;exact⟨rfl,j_ w k os⟩
def ol(m:Kf)(use:Nat->Bool)(c:Nat->Int)(i k:Nat):Int:=if k<i then Th m use c i k else 0
theorem qlQ{m:Kf}{use:Nat->Bool}{c:Nat->Int}{i:Nat}(hu:use i=false)(k:Nat):(if k=i then -1 else ol m use c i k)=ol m use c (i+1) k:=by
 unfold ol;by_cases hk:k=i
 ·subst hk;rw[if_pos rfl,if_pos (by omega),qbC hu]
 ·rw[if_neg hk];by_cases Jo:k<i
  ·rw[if_pos Jo,if_pos (by omega),aa Jo]
  ·rw[if_neg Jo,if_neg (by omega)]
theorem qbB{m:Kf}{use:Nat->Bool}{c:Nat->Int}{i:Nat}(k:Nat):(if k=i then Th m use c (i+1) i else if k=i then -1 else ol m use c i k)=ol m use c (i+1) k:=by
 unfold ol;by_cases hk:k=i
 ·subst hk;rw[if_pos rfl,if_pos (by omega)]
 ·rw[if_neg hk,if_neg hk];by_cases Jo:k<i
  ·rw[if_pos Jo,if_pos (by omega),aa Jo]
  ·rw[if_neg Jo,if_neg (by omega)]
theorem qlP(m:Kf)(use:Nat->Bool)(c:Nat->Int):ol m use c 0=fun _=>0:=by
 funext k
 unfold ol;rw[if_neg (by omega)]
theorem qbD(m:Kf)(use:Nat->Bool)(c:Nat->Int)(i k:Nat):-1<=Th m use c i k/\Th m use c i k<=i:=by
 unfold Th;split
 ·have h1:=List.idxOf_le_length (l:=Tf m use c i) (a:=Io m use c k);have h2:=qaR m use c i;omega
 ·omega
structure Iz(w W:World)(g xo xn n:Nat)(c:Nat->Int)(S:List dI)(f:Nat->Int):Prop where
 map:Nm W g S
 old:Ed W xo (Fz n c)
 new:Ed W xn (Fz n f)
 bel:Below w.heap.size w W
 lo:w.heap.size<=g/\w.heap.size<=xo/\w.heap.size<=xn/\xo≠xn
section
variable {w W W':World} {g xo xn n:Nat} {c f:Nat->Int} {S:List dI}
theorem Iz.below(h:Iz w W g xo xn n c S f)(hb:Below W.heap.size W W'):Iz w W' g xo xn n c S f:=⟨h.map.below hb,h.old.below hb,h.new.below hb,h.bel.trans (hb.mono h.bel.size),h.lo⟩
theorem Iz.alloc(h:Iz w W g xo xn n c S f)(o:Obj):Iz w (W.alloc o) g xo xn n c S f:=h.below ((Xr _ _).alloc (Xz _) _)
theorem Iz.drew(h:Iz w W g xo xn n c S f):Iz w W.drew g xo xn n c S f:=h.below (Xr _ _).drew
theorem Nm.ne{x:Nat}{cs:Array Value}{t:TypeId}{fr:Nat×Nat}(h:Nm W g S)(hx:W.heap[x]? = some (.cells cs t fr)):g≠x:=by
 obtain⟨l,⟨es,c,hh,_⟩,_⟩:=h;rintro rfl;rw[hh] at hx;cases hx
theorem Iz.set(h:Iz w W g xo xn n c S f)(k:Nat)(b:Int):Iz w (W.setCell ⟨xn,k,none⟩ (.int .i64 b)) g xo xn n c S (fun j=>if j=k then b else f j) :=
 ⟨h.map.setCell (h.map.ne h.new) _,(Yz _ _ _ _ h.lo.2.2.2).trans h.old,h.new.set k b,h.bel.setCell h.lo.2.2.1 _,h.lo⟩
theorem Iz.put(h:Iz w W g xo xn n c S f){mt kt et:TypeId}{P:Program}(K:Rv P mt kt et wv){t:dI}(ht:t∉S) :
  ∃ W',(Instr.mapUpdate mt (.map (some g)) (wv t) (.int .i64 S.length)).run P W=.ok () W'/\Iz w W' g xo xn n c (S++[t]) f/\W'.heap.size=W.heap.size:=by
 obtain⟨W1,gZ,jF,Cp,Ea⟩:=h.map.put K ht;refine⟨W1,gZ,⟨jF,(Cp.block xo (gl h.old) fun e=>?_).trans h.old,(Cp.block xn (gl h.new) fun e=>?_).trans h.new,?_,h.lo⟩,Ea⟩
 ·injection e with e;exact h.map.ne h.old e.symm
 ·injection e with e;exact h.map.ne h.new e.symm
 ·exact h.bel.trans ((Xr _ _).grown Cp h.bel.size fun k e=>by injection e with e;have:=h.lo.1;omega)
end
def qxD(m:Kf)(w:World)(n:Nat)(e:Ending)(w':World):Prop:=∃(y:Nat)(C:Nat->Int),e=.returned (.slice (some ⟨y,0,none⟩) n n)/\Ed w' y (Fz n C)/\w.heap.size<=y/\Below w.heap.size w w'/\(∀ k,-1<=C k/\C k<=n) /\
 ∀ i<n,∀ j<n,Kb m i=true->Kb m j=true->(C i=C j↔Gj m i j)
def aL:aA Jj:=qkF qsQ (uSl qsQ 3)
structure Dk(w:World)(P Q gn gt:Nat)(vN vT vR:Value)(B0 B1:Nat)(ns ts:List Wd)(rs:List Jj)(css:List (List Value)):Prop where
 box:w.heap[Q]? = some (.cells #[.map (some gn),.map (some gt),vN,vT,vR] 224 (0,0))
 mn:Nm w gn ns
 mt:Nm w gt ts
 names:dJ wW 9 w B0 vN (ns.map Ki)
 terms:w.ownsRow B0 9 1 vT ts.length (ts.map wv)
 rules:w.ownsRow B0 63 2 vR rs.length css.flatten
 rrows:Ul aL w B1 css rs
 lo:P<=gn/\P<=gt/\P<=Q/\P<=B0/\gn≠gt
 b0:B0<=w.heap.size
 b1:B1<=w.heap.size
theorem lP{w:World}{g:Nat}{S:List dI}(h:Nm w g S):∃ es c,w.heap[g]? = some (.map es c):=by
 obtain⟨l,⟨es,c,hh,_⟩,_⟩:=h;exact⟨es,c,hh⟩
theorem Jq.of_map{ts:List TypeId}{w w':World}{g:Nat}{S:List dI}(h:Nm w g S)(hg:w.grownBy w' (some g)):Jq ts w w':=by
 obtain⟨es,c,hh⟩:=lP h;refine⟨hg.size,fun k cur t _ hk=>(hg.block k (gl hk) fun e=>?_).trans hk⟩;injection e with e;subst e;rw[hh] at hk;cases hk
theorem Nm.other{w w':World}{g g':Nat}{S:List dI}(h:Nm w g S)(hg:w.grownBy w' (some g'))(hne:g≠g'):Nm w' g S:=by
 obtain⟨l,h1,h2⟩:=h;exact⟨l,h1.grown hg (fun e=>hne (by injection e)),h2⟩
theorem Nm.row{w w':World}{g base:Nat}{e:TypeId}{size n:Nat}{v:Value}{xs:List Value}{S:List dI}(h:Nm w g S)(ho:w.ownsRow base e size v n xs)(hg:w.grownBy w' v.ownBlock):Nm w' g S:=by
 obtain⟨es,c,hh⟩:=lP h;obtain⟨l,h1,h2⟩:=h;refine⟨l,h1.grown hg (fun e=>?_),h2⟩;rcases ho.2 with ⟨rfl,_⟩ | ⟨g',cap,cur,rfl,hb,hr,_⟩
 ·simp[Value.ownBlock] at e
 ·have:g=g':=by simpa[Value.ownBlock] using e
  subst this;rw[hh] at hr;cases hr
theorem Nm.cell{w:World}{g x k:Nat}{S:List dI}{cs:Array Value}{t:TypeId}(h:Nm w g S)(hx:w.heap[x]? = some (.cells cs t (0,0)))(v:Value):Nm (w.setCell ⟨x,k,none⟩ v) g S:=by
 refine h.setCell (fun e=>?_) v;subst e;obtain⟨es,c,hh⟩:=lP h;rw[hh] at hx;cases hx
section
variable {w w':World} {P Q gn gt:Nat} {vN vT vR:Value} {B0 B1:Nat} {ns ts:List Wd} {rs:List Jj} {css:List (List Value)}
theorem Dk.below(h:Dk w P Q gn gt vN vT vR B0 B1 ns ts rs css)(hb:Below w.heap.size w w'):Dk w' P Q gn gt vN vT vR B0 B1 ns ts rs css :=
 ⟨(hb.block Q (gl h.box)).trans h.box,h.mn.below hb,h.mt.below hb,h.names.keep (.of_below hb),Jk h.terms hb,Jk h.rules hb,h.rrows.below hb,h.lo,Ya h.b0 hb.size,Ya h.b1 hb.size⟩
theorem Dk.drew(h:Dk w P Q gn gt vN vT vR B0 B1 ns ts rs css):Dk w.drew P Q gn gt vN vT vR B0 B1 ns ts rs css:=h.below ((Xr _ _).drew)
end
structure u_(w:World)(P Q gn gt:Nat)(vN vT vR:Value)(B0 B1:Nat)(ns ts:List Wd)(T:Wd)(rs:List Jj)(css:List (List Value)):Prop where
 box:w.heap[Q]? = some (.cells #[.map (some gn),.map (some gt),vN,vT,vR] 224 (0,0))
 mn:Nm w gn ns
 mt:Nm w gt (ts++[T])
 names:dJ wW 9 w B0 vN (ns.map Ki)
 terms:w.ownsRow B0 9 1 vT ts.length (ts.map wv)
 rules:w.ownsRow B0 63 2 vR rs.length css.flatten
 rrows:Ul aL w B1 css rs
 lo:P<=gn/\P<=gt/\P<=Q/\P<=B0/\gn≠gt
 b0:B0<=w.heap.size
 b1:B1<=w.heap.size
section
variable {w w':World} {P Q gn gt:Nat} {vN vT pB vR:Value} {B0 B1:Nat} {ns ts:List Wd} {T:Wd} {rs:List Jj} {css:List (List Value)}
theorem u_.below(h:u_ w P Q gn gt vN vT vR B0 B1 ns ts T rs css)(hb:Below w.heap.size w w'):u_ w' P Q gn gt vN vT vR B0 B1 ns ts T rs css :=
 ⟨(hb.block Q (gl h.box)).trans h.box,h.mn.below hb,h.mt.below hb,h.names.keep (.of_below hb),Jk h.terms hb,Jk h.rules hb,h.rrows.below hb,h.lo,Ya h.b0 hb.size,Ya h.b1 hb.size⟩
theorem Dk.half(h:Dk w P Q gn gt vN vT vR B0 B1 ns ts rs css)(hm:Nm w' gt (ts++[T]))(hg:w.grownBy w' (some gt)):u_ w' P Q gn gt vN vT vR B0 B1 ns ts T rs css:=by
 have hk:∀ us,Jq us w w':=fun us=>Jq.of_map h.mt hg;exact⟨(hk [224]).2 Q _ _ (by simp) h.box,h.mn.other hg h.lo.2.2.2.2,hm,h.names.keep (.of_keepT (hk _)),Vc h.terms (hk [9]) (by simp),Vc h.rules (hk [63]) (by simp),h.rrows.keep (.of_keepT (hk _)),h.lo,Ya h.b0 hg.size,Ya h.b1 hg.size⟩
theorem u_.whole(h:u_ w P Q gn gt vN vT vR B0 B1 ns ts T rs css)(ho:w'.ownsRow B0 9 1 pB (ts.length+1) (ts.map wv++[wv T]))(hg:w.grownBy w' vT.ownBlock):Dk (w'.setCell ⟨Q,3,none⟩ pB) P Q gn gt vN pB vR B0 B1 ns (ts++[T]) rs css:=by
 have Wv:=Jd h.terms hg h.box (by decide);have hb:=Uw (k:=3) Wv pB;have hQ0:pB.ownBlock≠some Q:=by
  rcases ho.2 with ⟨rfl,_⟩ | ⟨g',cap,cur,rfl,_,hr,_⟩
  ·simp[Value.ownBlock]
  ·intro e;have e:g'=Q:=by simpa[Value.ownBlock] using e
   subst e;rw[Wv] at hr;injection hr with hr;injection hr with _ hr;exact absurd hr (by decide)
 have hR:=Mw h.rules h.terms (by decide) hg;have hQ1:vR.ownBlock≠some Q:=by
  rcases hR.2 with ⟨rfl,_⟩ | ⟨g',cap,cur,rfl,_,hr,_⟩
  ·simp[Value.ownBlock]
  ·intro e;have e:g'=Q:=by simpa[Value.ownBlock] using e
   subst e;rw[Wv] at hr;injection hr with hr;injection hr with _ hr;exact absurd hr (by decide)
 refine⟨hb,(h.mn.row h.terms hg).cell Wv pB,(h.mt.row h.terms hg).cell Wv pB,(h.names.keep (.of_grown h.terms hg (Xz _))).keep (.of_setT Wv (by decide) pB),?_,ownsRow_setCell_other hR hQ1 pB,((h.rrows.keep (.of_keepT (Jq.of_grown h.terms hg (by decide)))).keep (.of_setT Wv (by decide) pB)),h.lo,by rw[Yy];exact Ya h.b0 hg.size,by rw[Yy];exact Ya h.b1 hg.size⟩;have:=ownsRow_setCell_other ho (a:=⟨Q,3,none⟩) hQ0 pB;rw[Qt,Qe,Qf];exact this
end
def vM(w:World)(P Q gn gt:Nat)(vN vR:Value)(B0 B1:Nat)(ns ts:List Wd)(rs:List Jj)(css:List (List Value))(it:Nv)(e:Ending)(w':World):Prop :=
 (iG ns ts it=none/\e=.returned (.tuple #[.int .i64 0,.bool false])/\Below P w w') \/
 ∃ s Em pB,iG ns ts it=some (s,Em)/\e=.returned (.tuple #[.int .i64 s,.bool true])/\Dk w' P Q gn gt vN pB vR B0 B1 ns Em rs css/\Below P w w'/\Jq [3,63,277] w w'
theorem lc:Ev Tryz.prog 22 9 1 16 (.string ⟨#[]⟩):=Sv (by kernel_rfl) (by kernel_rfl) rfl (by omega)
theorem qdJ{ns ts:List Wd}{T:Wd}:iG ns ts (false,Ki T)=if T∈ns then some ((ns.idxOf T:Int),ts) else none:=rfl
theorem qdI{ns ts:List Wd}{T:Wd}:iG ns ts (true,Ki T)=if T∈ts then some (-1 - (ts.idxOf T:Int),ts) else some (-1 - (ts.length:Int),ts++[T]):=rfl
theorem vM.ok{w w':World}{P Q gn gt:Nat}{vN pB vR:Value}{B0 B1:Nat}{ns ts Em:List Wd}{rs:List Jj}{css:List (List Value)}{it:Nv}{s:Int}(h:iG ns ts it=some (s,Em))(hm:Dk w' P Q gn gt vN pB vR B0 B1 ns Em rs css)(hb:Below P w w')(hk:Jq [3,63,277] w w') :
  vM w P Q gn gt vN vR B0 B1 ns ts rs css it (.returned (.tuple #[.int .i64 s,.bool true])) w':=.inr ⟨s,Em,pB,h,rfl,hm,hb,hk⟩
theorem Uu{w:World}{g:Nat}{a b c d e:Value}{t:TypeId}{fr:Nat×Nat}(h:w.heap[g]? = some (.cells #[a,b,c,d,e] t fr)):w.cell? ⟨g,0,none⟩=some a/\w.cell? ⟨g,1,none⟩=some b/\w.cell? ⟨g,2,none⟩=some c/\w.cell? ⟨g,3,none⟩=some d/\w.cell? ⟨g,4,none⟩=some e:=by
 refine⟨?_,?_,?_,?_,?_⟩ <;> (rw[Za _ _ _ _ _ _ h];rfl)
theorem Ml{w:World}{g:Nat}{a b:Value}{t:TypeId}{fr:Nat×Nat}(h:w.heap[g]? = some (.cells #[a,b] t fr)):w.cell? ⟨g,0,none⟩=some a/\w.cell? ⟨g,1,none⟩=some b:=by
 refine⟨?_,?_⟩ <;> (rw[Za _ _ _ _ _ _ h];rfl)
theorem vk(bo:Bool)(T:Wd)(w:World)(P Q gn gt:Nat)(vN vT vR:Value)(B0 B1:Nat)(ns ts:List Wd)(rs:List Jj)(css:List (List Value))(h:Dk w P Q gn gt vN vT vR B0 B1 ns ts rs css)(hts:ts.length<=1048576) :
  Calls Tryz.prog 240 #[.pointer (some ⟨Q,0,none⟩),.agg #[.bool bo,.string (Ki T)]] w (vM w P Q gn gt vN vR B0 B1 ns ts rs css (bo,Ki T)):=by
 have hQw:=(gl h.box);have hPQ:=h.lo.2.2.1;have Cq:Below w.heap.size w (w.alloc (.cells #[.bool bo,.string (Ki T)] 277)):=(Xr _ _).alloc (Xz _) _;have HM:=Lh (h.below Cq);have HB:=Lh (Cq.mono (show P<=w.heap.size by omega));have HK:=Lh (Jq.of_below (ts:=[3,63,277]) Cq);have HI:=Lh (Xn w (.cells #[.bool bo,.string (Ki T)] 277));obtain⟨K0,jM⟩:=Xe w.heap.size;rw[<-jM] at HI;obtain⟨AT,cT,hvT,hT1,hT2⟩:=Zk h.terms;subst hvT;unfold maxLen at hT2;have zhX:=List.idxOf_le_length (l:=ns) (a:=T);have qxY:=List.idxOf_le_length (l:=ts) (a:=T);obtain⟨m,hm⟩:=Xe ts.length;rw[<-hm] at hts hT1 qxY;have Ha:=Lh hm;clear h Cq hPQ hm hQw;cases bo with
 |false =>
  have HSY:=Lh (qdJ (ns:=ns) (ts:=ts) (T:=T));go_enter Tryz.func240,Tryz.ntmps240;go_wp2_with fail;rw[<-jM];clear jM;generalize w.alloc (.cells #[.bool false,.string (Ki T)] 277)=w1 at *;obtain⟨q0,q1,q2,q3,q4⟩:=Uu HM.o.box;obtain⟨k0,k1⟩:=Ml HI.o;go_wp2_with fail;have eZ:=Lh HM.o.drew;have HBD:=Lh HB.o.drew;have aH:=Lh (HK.o.trans (Jq.of_below ((Xr w1.heap.size w1).drew)));have hq0:w1.drew.cell? ⟨Q,0,none⟩=some (.map (some gn)):=q0;have jH:w1.drew.cell? ⟨K0,1,none⟩=some (.string (Ki T)):=k1;have Ky:=(eZ.o.mn.look Ke iE T).1;refine Text.wt (by kernel_rfl) fun Q' hQ'=>?_;clear q0 q1 q2 q3 q4 k0 k1;generalize w1.drew=wd at *;by_cases Mq:T∈ns
  ·have tT:(Instr.lookup 147 (.map (some gn)) (.string (Ki T)) true).run Tryz.prog wd=.ok (.tuple #[.int .i64 (ns.idxOf T),.bool true]) wd:=by
    have px:=Ky;rw[if_pos Mq,Yt Mq] at px;exact px
   have HR:=Lh (HSY.o.trans (if_pos Mq));clear Ky Mq;generalize ns.idxOf T=ix at *;go_wp2_with fail;refine⟨by rfl,?_⟩;go_wp2_with fail;refine Ze (results_tmp2 rfl _ _ _) rfl ?_;exact vM.ok HR.o eZ.o HBD.o aH.o
  ·have tT:(Instr.lookup 147 (.map (some gn)) (.string (Ki T)) true).run Tryz.prog wd=.ok (.tuple #[.int .i64 0,.bool false]) wd:=by
    have px:=Ky;rw[if_neg Mq,Yu Mq] at px;exact px
   have HR:=Lh (HSY.o.trans (if_neg Mq));clear Ky Mq;go_wp2_with fail;refine⟨by rfl,?_⟩;go_wp2_with fail;refine Ze (results_tmp2 rfl _ _ _) rfl ?_;exact .inl ⟨HR.o,rfl,HBD.o⟩
 |true =>
  have HSY:=Lh (qdI (ns:=ns) (ts:=ts) (T:=T));go_enter Tryz.func240,Tryz.ntmps240;go_wp2_with fail;rw[<-jM];clear jM;generalize w.alloc (.cells #[.bool true,.string (Ki T)] 277)=w1 at *;obtain⟨q0,q1,q2,q3,q4⟩:=Uu HM.o.box;obtain⟨k0,k1⟩:=Ml HI.o;go_wp2_with fail;have eZ:=Lh HM.o.drew;have HBD:=Lh HB.o.drew;have aH:=Lh (HK.o.trans (Jq.of_below ((Xr w1.heap.size w1).drew)));have HID:Hid (w1.drew.heap[K0]? = some (.cells #[.bool true,.string (Ki T)] 277 (0,0))):=HI.o;have hq1:w1.drew.cell? ⟨Q,1,none⟩=some (.map (some gt)):=q1;have jH:w1.drew.cell? ⟨K0,1,none⟩=some (.string (Ki T)):=k1;have Ky:=(eZ.o.mt.look Ke iE T).1;refine Text.wt (by kernel_rfl) fun Q' hQ'=>?_;clear q0 q1 q2 q3 q4 k0 k1;generalize w1.drew=wd at *;by_cases Mq:T∈ts
  ·have tT:(Instr.lookup 147 (.map (some gt)) (.string (Ki T)) true).run Tryz.prog wd=.ok (.tuple #[.int .i64 (ts.idxOf T),.bool true]) wd:=by
    have px:=Ky;rw[if_pos Mq,Yt Mq] at px;exact px
   have HR:=Lh (HSY.o.trans (if_pos Mq));clear Ky Mq;generalize ts.idxOf T=ix at *;go_wp2_with fail;refine⟨by rfl,?_⟩;go_wp2_with fail;refine Ze (results_tmp2 rfl _ _ _) rfl ?_;exact vM.ok HR.o eZ.o HBD.o aH.o
  ·have tT:(Instr.lookup 147 (.map (some gt)) (.string (Ki T)) true).run Tryz.prog wd=.ok (.tuple #[.int .i64 0,.bool false]) wd:=by
    have px:=Ky;rw[if_neg Mq,Yu Mq] at px;exact px
   have HR:=Lh (HSY.o.trans (if_neg Mq));have hq3:wd.cell? ⟨Q,3,none⟩=some (.slice AT m cT):=by rw[Ha.o];exact (Uu eZ.o.box).2.2.2.1
   go_wp2_with fail;refine⟨by rfl,?_⟩;go_wp2_with fail;have qaF:=Lh eZ.o.drew;obtain⟨W',qgB,hmn,Co,Fd⟩:=qaF.o.mt.put Ke Mq;have HMH:=Lh (Dk.half qaF.o hmn Co);have HBH:=Lh (HBD.o.drew.grown Co (by have:=qaF.o.b0;have:=qaF.o.lo;omega) (fun k hk=>by injection hk with hk;have:=qaF.o.lo;omega));have HKH:=Lh ((aH.o.trans (Jq.of_below ((Xr wd.heap.size wd).drew))).trans (Jq.of_map qaF.o.mt Co));have HIH:=Lh ((Jq.of_map (ts:=[277]) qaF.o.mt Co).2 K0 _ _ (by simp) (show wd.drew.heap[K0]? = _ from HID.o));have gZ:(Instr.mapUpdate 147 (.map (some gt)) (.string (Ki T)) (.int .i64 m)).run Tryz.prog wd.drew=.ok () W':=by rw[Ha.o];exact qgB
   have zrG:wd.drew.cell? ⟨Q,1,none⟩=some (.map (some gt)):=hq1;have zsC:wd.drew.cell? ⟨K0,1,none⟩=some (.string (Ki T)):=jH;clear Ky Mq qgB hmn Co Fd tT hq1 jH hq3 eZ HBD aH HID;refine Text.wt (by kernel_rfl) fun Q' hQ'=>?_;generalize wd.drew=we at *;go_wp2_with fail;refine⟨by rfl,?_⟩;clear gZ zrG zsC;have mZ:Hid (∀ W:World,W.heap[Q]? = some (.cells #[.map (some gn),.map (some gt),vN,.slice AT ts.length cT,vR] 224 (0,0))->W.heap[K0]? = some (.cells #[.bool true,.string (Ki T)] 277 (0,0))->W.cell? ⟨Q,3,none⟩=some (.slice AT m cT)/\W.cell? ⟨K0,1,none⟩=some (.string (Ki T))):=fun W h1 h2=>⟨by rw[Ha.o];exact (Uu h1).2.2.2.1,(Ml h2).2⟩;go_wp2_with fail;have Ws:=Lh (mZ.o W'.drew HMH.o.box HIH.o);refine Nn (fun w'=>w'.cell? ⟨Q,3,none⟩=some (.slice AT m cT)/\w'.cell? ⟨K0,1,none⟩=some (.string (Ki T))) [10] 14 (by kernel_rfl) rfl ?_;have HM2:=Lh (HMH.o.below ((Xr W'.heap.size W').drew));have HB2:=Lh (HBH.o.drew);have HK2:=Lh (HKH.o.trans (Jq.of_below ((Xr W'.heap.size W').drew)));have HI2:Hid (W'.drew.heap[K0]? = some (.cells #[.bool true,.string (Ki T)] 277 (0,0))):=HIH.o;clear HMH HBH HKH HIH;generalize W'.drew=w2 at *;refine Gm 0 (.pointer (some ⟨Q,0,none⟩)) rfl (by kernel_rfl) rfl (fun wq=>by go_simp) Ws.o ?_;generalize ha:Act.put _ _ _=z9;simp[Act.put] at ha;subst ha;refine Gm 1 (.pointer (some ⟨Q,0,none⟩)) rfl (by kernel_rfl) rfl (fun wq=>by go_simp) Ws.o ?_;generalize ha:Act.put _ _ _=z9;simp[Act.put] at ha;subst ha;refine Gm 2 (.pointer (some ⟨Q,0,none⟩)) rfl (by kernel_rfl) rfl (fun wq=>by go_simp) Ws.o ?_;generalize ha:Act.put _ _ _=z9;simp[Act.put] at ha;subst ha;refine Gm 3 (.pointer (some ⟨Q,2,none⟩)) rfl (by kernel_rfl) rfl (fun wq=>by go_simp) Ws.o ?_;generalize ha:Act.put _ _ _=z9;simp[Act.put] at ha;subst ha;refine Gm 4 (.pointer (some ⟨Q,3,none⟩)) rfl (by kernel_rfl) rfl (fun wq=>by go_simp) Ws.o ?_;generalize ha:Act.put _ _ _=z9;simp[Act.put] at ha;subst ha;refine gY 5 (.slice AT m cT) rfl (by kernel_rfl) rfl (fun wq Gk=>Jy rfl rfl (Vw (e:=9) (by kernel_rfl) Gk.1)) Ws.o ?_;generalize ha:Act.put _ _ _=z9;simp[Act.put] at ha;subst ha;refine Gm 6 (.pointer (some ⟨K0,1,none⟩)) rfl (by kernel_rfl) rfl (fun wq=>by go_simp) Ws.o ?_;generalize ha:Act.put _ _ _=z9;simp[Act.put] at ha;subst ha;refine gY 7 (.string (Ki T)) rfl (by kernel_rfl) rfl (fun wq Gk=>Jy rfl rfl (Ln (by kernel_rfl) Gk.2)) Ws.o ?_;generalize ha:Act.put _ _ _=z9;simp[Act.put] at ha;subst ha;have HB3:=Lh ((Xr w2.heap.size w2).alloc (Xz _) (.cells #[.string (Ki T)] 9));have Ek:=Lh (Xn w2 (.cells #[.string (Ki T)] 9));have wQ:Hid (w2.heap.size+1=(w2.alloc (.cells #[.string (Ki T)] 9)).heap.size):=(Xs _ _).symm;refine Zw (i:=8) (by kernel_rfl) rfl (fun Q' hQ'=>?_);go_wp2_with fail;generalize w2.alloc (.cells #[.string (Ki T)] 9)=w3 at *;have HM3:=Lh (HM2.o.below HB3.o);have HI3:=Lh ((HB3.o.block K0 (gl HI2.o)).trans HI2.o);have dU:=Lh (HB2.o.trans (HB3.o.mono (by have:=HM2.o.b0;have:=HM2.o.lo;omega)));have iD:=Lh (HK2.o.trans (Jq.of_below HB3.o));refine⟨cU (mZ.o w3 HM3.o.box HI3.o),?_⟩;have St:=HM3.o.terms;rw[<-Ha.o] at St;refine Zw (i:=9) (by kernel_rfl) rfl (fun Q' hQ'=>?_);refine Ja (m:=1) lc rfl rfl rfl rfl St (Rd.row (B:=w3.heap.size) Ek.o (by rw[<-wQ.o];exact Yd _)) rfl (by simp[Value.oneCell']) (by simp only[maxLen];omega) (by omega) HM3.o.b0 ?_;intro pB Cn hown hg _ _;obtain⟨A8,c8,lY,_,_⟩:=Zk hown;subst lY;have HM4:=Lh (u_.whole HM3.o (by rw[<-Ha.o];exact hown) (by rw[<-Ha.o];exact hg));have Ck:=Lh (Jd St hg HM3.o.box (by decide));have HI4:=Lh (Jd St hg HI3.o (by decide));have HB4:=Lh (Zr dU.o hg St HM3.o.lo.2.2.2.1 (by have:=HM3.o.b0;have:=HM3.o.lo;omega));have HK4:=Lh (iD.o.trans (Jq.of_grown St hg (by decide)));clear hown hg St;generalize ha:Act.put _ _ _=z9;simp[Act.put] at ha;subst ha;refine hQ' _ _ ⟨cU (mZ.o Cn Ck.o HI4.o),?_⟩;have q3:=(Uu Ck.o).2.2.2.1;have f3:Cn.frozen? ⟨Q,3,none⟩=false:=by simp[World.frozen?,Ck.o]
   refine Zw (i:=10) (by kernel_rfl) rfl (fun Q' hQ'=>?_);go_wp2_with fail;refine⟨Kk (by kernel_rfl),?_⟩;refine Zw (i:=11) (by kernel_rfl) rfl (fun Q' hQ'=>?_);go_wp2_with fail;refine⟨Kk (by kernel_rfl),?_⟩;refine Zw (i:=12) (by kernel_rfl) rfl (fun Q' hQ'=>?_);go_wp2_with fail;refine⟨Kk (by kernel_rfl),?_⟩;refine Zw (i:=13) (by kernel_rfl) rfl (fun Q' hQ'=>?_);go_wp2_with fail;refine⟨Kk (by kernel_rfl),?_⟩;refine Ew (by kernel_rfl) ?_ _;go_wp2_with fail;refine Ze (results_tmp2 rfl _ _ _) rfl ?_;rw[<-Ha.o] at HR;exact vM.ok HR.o HM4.o (HB4.o.setCell (p:=⟨Q,3,none⟩) HM3.o.lo.2.2.1 _) (HK4.o.trans (Ud (k:=3) Ck.o (by decide) _))
def Ae(a b:Int):Int:=Lib.compareInt (Ej a) (Ej b)
theorem Lu(a b c d:Int)(h:a<b↔c<d)(k:b<a↔d<c):Lib.compareInt a b=Lib.compareInt c d:=by
 unfold Lib.compareInt;by_cases h1:a<b
 ·rw[if_pos h1,if_pos (h.1 h1)]
 ·rw[if_neg h1,if_neg (fun e=>h1 (h.2 e))];by_cases h2:b<a
  ·rw[if_pos h2,if_pos (k.1 h2)]
  ·rw[if_neg h2,if_neg (fun e=>h2 (k.2 e))]
theorem qtL{a b:Int}(ha:a<0)(hb:b<0):Ae a b=Lib.compareInt b a:=by
 unfold Ae Ej;rw[if_pos ha,if_pos hb];exact Lu _ _ _ _ (by omega) (by omega)
theorem qtM{a b:Int}(ha:a<0)(hb:¬ b<0)(h:-1000<=a):Ae a b=-1:=by
 unfold Ae Ej Lib.compareInt;rw[if_pos ha,if_neg hb,if_pos (by omega)]
theorem qtN{a b:Int}(ha:¬ a<0)(hb:b<0)(h:-1000<=b):Ae a b=1:=by
 unfold Ae Ej Lib.compareInt;rw[if_neg ha,if_pos hb,if_neg (by omega),if_pos (by omega)]
theorem qtO{a b:Int}(ha:¬ a<0)(hb:¬ b<0):Ae a b=Lib.compareInt a b:=by
 unfold Ae Ej;rw[if_neg ha,if_neg hb];exact Lu _ _ _ _ (by omega) (by omega)
theorem yc(a b:Int)(w:World)(ha:-1000<=a)(hb:-1000<=b):Calls Tryz.prog 83 #[.int .i64 a,.int .i64 b] w fun e w'=>e=.returned (.int .i64 (Ae a b))/\w=w':=by
 by_cases h1:a<0
 ·have d1:decide (a<0)=true:=by simpa using h1
  by_cases h2:b<0
  ·have d2:decide (b<0)=true:=by simpa using h2
   have HO:=Lh (qtL h1 h2);clear h1 h2;go_enter Tryz.func83,Tryz.ntmps83;go_wp2_with fail;refine (Zz _ _).mono ?_;rintro e w' ⟨rfl,rfl⟩;go_wp2_with fail;refine (Zz _ _).mono ?_;rintro e w' ⟨rfl,rfl⟩;go_wp2_with fail;refine (Tryz.cmp_Compare_int _ _ _).mono ?_;rintro e w' ⟨rfl,rfl⟩;go_wp2_with fail;go_ret;exact⟨Kd (Fs HO.o.symm),rfl⟩
  ·have d2:decide (b<0)=false:=by simpa using h2
   have HO:=Lh (qtM h1 h2 ha);clear h1 h2;go_enter Tryz.func83,Tryz.ntmps83;go_wp2_with fail;refine (Zz _ _).mono ?_;rintro e w' ⟨rfl,rfl⟩;go_wp2_with fail;refine (Zz _ _).mono ?_;rintro e w' ⟨rfl,rfl⟩;go_wp2_with fail;refine (Zz _ _).mono ?_;rintro e w' ⟨rfl,rfl⟩;go_wp2_with fail;go_ret;exact⟨Kd (Fs HO.o.symm),rfl⟩
 ·have d1:decide (a<0)=false:=by simpa using h1
  by_cases h2:b<0
  ·have d2:decide (b<0)=true:=by simpa using h2
   have HO:=Lh (qtN h1 h2 hb);clear h1 h2;go_enter Tryz.func83,Tryz.ntmps83;go_wp2_with fail;refine (Zz _ _).mono ?_;rintro e w' ⟨rfl,rfl⟩;go_wp2_with fail;refine (Zz _ _).mono ?_;rintro e w' ⟨rfl,rfl⟩;go_wp2_with fail;refine (Zz _ _).mono ?_;rintro e w' ⟨rfl,rfl⟩;go_wp2_with fail;go_ret;exact⟨Kd (Fs HO.o.symm),rfl⟩
  ·have d2:decide (b<0)=false:=by simpa using h2
   have HO:=Lh (qtO h1 h2);clear h1 h2;go_enter Tryz.func83,Tryz.ntmps83;go_wp2_with fail;refine (Zz _ _).mono ?_;rintro e w' ⟨rfl,rfl⟩;go_wp2_with fail;refine (Zz _ _).mono ?_;rintro e w' ⟨rfl,rfl⟩;go_wp2_with fail;refine (Zz _ _).mono ?_;rintro e w' ⟨rfl,rfl⟩;go_wp2_with fail;refine (Tryz.cmp_Compare_int _ _ _).mono ?_;rintro e w' ⟨rfl,rfl⟩;go_wp2_with fail;go_ret;exact⟨Kd (Fs HO.o.symm),rfl⟩
def Ll:List Int->List Int->Int
 |[],[]=>0
 |[],_::_=>-1
 |_::_,[]=>1
 |a::x,b::y=>if Ae a b=0 then Ll x y else Ae a b
theorem zQ(a b:Int):Ae a b=0↔Ej a=Ej b:=by
 unfold Ae Lib.compareInt;split
 ·omega
 ·split <;> omega
theorem qtP(a b:Int):Ae a b<0↔Ej a<Ej b:=by
 unfold Ae Lib.compareInt;split
 ·omega
 ·split <;> omega
theorem qaW:∀ x y:List Int,Ll x y<0↔Kv x y
 |[],[]=>by simp[Ll,Kv]
 |[],_::_=>by simp[Ll,Kv]
 |_::_,[]=>by simp[Ll,Kv]
 |a::x,b::y=>by
  unfold Ll Kv;rw[List.map_cons,List.map_cons,List.cons_lt_cons_iff];by_cases h:Ae a b=0
  ·rw[if_pos h];have h2:=(zQ a b).1 h;rw[qaW x y];unfold Kv;simp[h2]
  ·rw[if_neg h,qtP];have:Ej a≠Ej b:=fun e=>h ((zQ a b).2 e);simp[this]
def sT(a b:Jj):Int:=if a.1=b.1 then Ll a.2 b.2 else Lib.compareInt a.1 b.1
theorem qtK(a b:Jj):sT a b<0↔Kr a b:=by
 unfold sT Kr;by_cases h:a.1=b.1
 ·rw[if_pos h,qaW];constructor
  ·exact fun h2=>.inr ⟨h,h2⟩
  ·rintro (h2 | ⟨_,h2⟩)
   ·omega
   ·exact h2
 ·rw[if_neg h];unfold Lib.compareInt;constructor
  ·intro h2;split at h2
   ·exact .inl (by assumption)
   ·split at h2 <;> omega
  ·rintro (h2 | ⟨h2,_⟩)
   ·rw[if_pos h2];omega
   ·exact absurd h2 h
theorem qeL{a b:Int}{x y:List Int}(h:Ae a b=0):Ll (a::x) (b::y)=Ll x y:=by
 show (if Ae a b=0 then _ else _)=_
 rw[if_pos h]
theorem qeK{a b:Int}{x y:List Int}(h:Ae a b≠0):Ll (a::x) (b::y)=Ae a b:=by
 show (if Ae a b=0 then _ else _)=_
 rw[if_neg h]
theorem qoX(v1 v2:Value)(x y:List Int)(M:Nat)(w:World)(h1:Jb Vh w M v1 x)(h2:Jb Vh w M v2 y)(hx:∀ a∈x,(-1000:Int)<=a)(hy:∀ a∈y,(-1000:Int)<=a) :
  Calls Tryz.prog 82 #[v1,v2,.func (.func 83) #[] #[]] w fun e w'=>e=.returned (.int .i64 (Ll x y))/\w=w':=by
 obtain⟨A1,c1,rfl,kP,oN⟩:=h1.form;obtain⟨A2,c2,rfl,hb1,Zy⟩:=h2.form;unfold maxLen at oN Zy;have H1:=Lh h1;have H2:=Lh h2;have HX:=Lh hx;have HY:=Lh hy;clear h1 h2 hx hy;obtain⟨n,hn⟩:=Xe x.length;obtain⟨m,hm⟩:=Xe y.length;rw[<-hn] at H1 kP |-;rw[<-hm] at H2 hb1 |-;have HN:=Lh hn;have HM:=Lh hm;clear hn hm;go_enter Tryz.func82,Tryz.ntmps82;go_wp2_with fail;go_loopw [13] (fun v13 wr=>∃ i:Nat,i<=n/\i<=m/\v13=.int .i64 i/\Hid (Ll x y=Ll (x.drop i) (y.drop i))/\wr=w) (fun v13 _=>n - (intOf v13).toNat);exact⟨0,by omega,by omega,rfl,by simp[Hid],rfl⟩;obtain⟨i,hi,pz,rfl,HE,rfl⟩:=hrel;by_cases Mq:i<n
 ·have Ge:i<x.length:=by rw[<-HN.o];exact Mq
  obtain⟨b1,o1,cs1,rfl,_,_,Eg,Kn⟩:=H1.o.get Ge (by decide);obtain⟨rfl,Ta,Hn⟩:=Eg;have hc1:=Kn 0 _ rfl;clear Kn;simp only[show Vh.size=1 from rfl,Yq,Yo] at hc1;by_cases hjm:i<m
  ·have Gn:i<y.length:=by rw[<-HM.o];exact hjm
   obtain⟨b2,o2,cs2,rfl,_,_,Us,Je⟩:=H2.o.get Gn (by decide);obtain⟨rfl,qC,tP⟩:=Us;have hc2:=Je 0 _ rfl;clear Je;simp only[show Vh.size=1 from rfl,Yq,Yo] at hc2;have HDX:=Lh (Ql Ge);have HDY:=Lh (Ql Gn);have HOR:=Lh (yc x[i] y[i] wr (HX.o _ (Qg Ge)) (HY.o _ (Qg Gn)));generalize x[i]=a at *;generalize y[i]=b at *;by_cases hz:Ae a b=0
   ·have HZ:=Lh hz;have HNE:=Lh (show Ll x y=Ll (x.drop (i+1)) (y.drop (i+1)) by rw[HE.o,HDX.o,HDY.o,qeL hz]);clear hz;go_wp2_with fail;refine HOR.o.mono ?_;rintro e w1 ⟨rfl,rfl⟩;rw[HZ.o];go_wp2_with fail;go_roundw;exact⟨i+1,by omega,by omega,by go_num,HNE.o,trivial⟩;simp[intOf];omega
   ·have HNE:=Lh (show Ll x y=Ae a b by rw[HE.o,HDX.o,HDY.o,qeK hz]);have d0:(Ae a b != 0)=true:=by simpa using hz
    clear hz;go_wp2_with fail;refine HOR.o.mono ?_;rintro e w1 ⟨rfl,rfl⟩;go_wp2_with fail;go_ret;exact⟨Kd (Fs HNE.o.symm),rfl⟩
  ·have HNE:=Lh (show Ll x y=1 by
    rw[HE.o,Xl (l:=y) (by rw[<-HM.o];omega),Ql Ge]
    rfl)
   go_wp2_with fail;go_ret;exact⟨Kd (Fs HNE.o.symm),rfl⟩
 ·obtain rfl:i=n:=by omega
  have hdx:x.drop i=[]:=Xl (by rw[<-HN.o];exact Xz _);by_cases hjm:i<m
  ·have Gn:i<y.length:=by rw[<-HM.o];exact hjm
   have HNE:=Lh (show Ll x y=-1 by
    rw[HE.o,hdx,Ql Gn]
    rfl)
   clear hdx;go_wp2_with fail;go_ret;exact⟨Kd (Fs HNE.o.symm),rfl⟩
  ·have HNE:=Lh (show Ll x y=0 by
    rw[HE.o,hdx,Xl (l:=y) (by rw[<-HM.o];omega)]
    rfl)
   clear hdx;go_wp2_with fail;go_ret;exact⟨Kd (Fs HNE.o.symm),rfl⟩
theorem qtW(v1 v2:Value)(l1 l2:Int)(x y:List Int)(M:Nat)(w:World)(h1:Jb Vh w M v1 x)(h2:Jb Vh w M v2 y)(hM:M<=w.heap.size)(hx:∀ a∈x,(-1000:Int)<=a)(hy:∀ a∈y,(-1000:Int)<=a) :
  Calls Tryz.prog 80 #[.agg #[.int .i64 l1,v1],.agg #[.int .i64 l2,v2]] w fun e w'=>e=.returned (.int .i64 (sT (l1,x) (l2,y)))/\Below w.heap.size w w'/\w.drawn<=w'.drawn:=by
 obtain⟨A1,c1,rfl,kP,oN⟩:=h1.form;obtain⟨A2,c2,rfl,hb1,Zy⟩:=h2.form;have hB:Below w.heap.size w ((w.alloc (.cells #[.int .i64 l1,.slice A1 x.length c1] 63)).alloc (.cells #[.int .i64 l2,.slice A2 y.length c2] 63)):=((Xr _ _).alloc (Xz _) _).alloc (by rw[Xs];omega) _;have HB:=Lh hB;have HC:=Lh (qoX (.slice A1 x.length c1) (.slice A2 y.length c2) x y M _ (h1.below (hB.mono hM)) (h2.below (hB.mono hM)) hx hy);clear h1 h2 hx hy hB;generalize x.length=n at *;generalize y.length=m at *;by_cases h:l1=l2
 ·have d0:(l1 != l2)=false:=by simp[h]
  have HO:=Lh (show sT (l1,x) (l2,y)=Ll x y by unfold sT;rw[if_pos h]);clear h;go_enter Tryz.func80,Tryz.ntmps80;go_wp2_with fail;refine HC.o.mono ?_;rintro e w' ⟨rfl,rfl⟩;go_wp2_with fail;go_ret;exact⟨Kd (Fs HO.o.symm),HB.o,Xz _⟩
 ·have d0:(l1 != l2)=true:=by simp[h]
  have HO:=Lh (show sT (l1,x) (l2,y)=Lib.compareInt l1 l2 by unfold sT;rw[if_neg h]);clear h;go_enter Tryz.func80,Tryz.ntmps80;go_wp2_with fail;refine (Tryz.cmp_Compare_int _ _ _).mono ?_;rintro e w' ⟨rfl,rfl⟩;go_wp2_with fail;go_ret;exact⟨Kd (Fs HO.o.symm),HB.o,Xz _⟩
def Cb{α:Type}(enc:α->List Value)(ks:List α):List Value:=(ks.map enc).flatten
section
variable {α:Type} [Inhabited α] {enc:α->List Value} {k:Nat}
omit [Inhabited α] in
theorem gJ(hk:∀ x,(enc x).length=k):∀ ks:List α,(Cb enc ks).length=ks.length*k
 |[]=>by simp[Cb]
 |x::r=>by
  have ih:=gJ hk r;unfold Cb at *;rw[List.map_cons,List.flatten_cons,Qe,ih,hk,Qu,Nat.add_mul];omega
theorem uL(hk:∀ x,(enc x).length=k)(k0:0<k):∀(ks:List α)(t:Nat),t<ks.length*k->(Cb enc ks)[t]? = some ((enc (ks.toArray[t/k]!))[t%k]!)
 |[],t,h=>by simp at h
 |x::r,t,h=>by
  unfold Cb;rw[List.map_cons,List.flatten_cons];by_cases ht:t<k
  ·rw[Qo (by rw[hk];exact ht),Nat.div_eq_of_lt ht,Nat.mod_eq_of_lt ht];have hl:t<(enc x).length:=by rw[hk];exact ht
   rw[Qa hl];simp only[List.getElem!_toArray,List.getElem!_cons_zero];rw[getElem!_pos (enc x) t hl]
  ·rw[Qn (by rw[hk];omega)];have ih:=uL hk k0 r (t - k) (by rw[Qu,Nat.add_mul] at h;omega);unfold Cb at ih;rw[hk,ih];have e0:t=(t - k)+k:=by omega
   have e1:t/k=(t - k)/k+1:=by
    conv=>lhs;rw[e0]
    exact Nat.add_div_right _ k0
   have e2:t%k=(t - k)%k:=by
    conv=>lhs;rw[e0]
    exact Nat.add_mod_right _ _
   rw[e1,e2];have Jo:(t - k)/k<r.length:=by
    rw[Qu,Nat.add_mul] at h;exact Nat.div_lt_of_lt_mul (by rw[Nat.mul_comm];omega)
   simp[Jo]
theorem uI(hk:∀ x,(enc x).length=k)(k0:0<k)(ks:List α):(flatK enc k ks.toArray).toList=Cb enc ks:=by
 apply List.ext_getElem?;intro t;by_cases h:t<ks.length*k
 ·rw[uL hk k0 ks t h,Array.getElem?_toList];have h':t<ks.toArray.size*k:=by simpa using h
  have hs:t<(flatK enc k ks.toArray).size:=by rw[size_flatK];exact h'
  have:=get_flatK enc k ks.toArray t h';rw[getElem!_pos _ t hs] at this;rw[Array.getElem?_eq_getElem hs,this]
 ·rw[Xf (by rw[Array.length_toList,size_flatK];simpa using h),Xf (by rw[gJ hk];omega)]
theorem fq(hk:∀ x,(enc x).length=k)(k0:0<k){w:World}{g:Nat}{cur:Array Value}{e:TypeId}{ks:List α}(hb:w.heap[g]? = some (.cells cur e (0,0)))(ht:cur.toList.take (ks.length*k)=Cb enc ks):HoldsK enc k w g 0 ks.toArray:=by
 intro j hj;have Hp:j<ks.length*k:=by simpa using hj
 refine⟨?_,by simp[World.frozen?,hb]⟩;have h1:(cur.toList.take (ks.length*k))[j]? = (flatK enc k ks.toArray).toList[j]? := by rw[ht,uI hk k0]
 rw[List.getElem?_take_of_lt Hp,Array.getElem?_toList,Array.getElem?_toList,Array.getElem?_eq_getElem hj] at h1;rw[getElem!_pos _ j hj];simp only[World.cell?,hb,Yp];simp only[Option.isSome_none,Bool.false_eq_true,if_false];rw[h1];rfl
end
theorem fy{w:World}{g n:Nat}{os:Array Obj}{cur:Array Value}{e:TypeId}{fr:Nat×Nat}(F:Array Value)(hb:w.heap[g]? = some (.cells cur e fr)) :
  (Go.Sort.grow (putRow id (Sort.ahead w n) g 0 F) os).heap[g]? = some (.cells (putCells id 0 F cur) e fr):=by
 have hg:g<w.heap.size:=(gl hb);rw[heap_grow_old _ _ (by simpa using hg)];simp[putRow,mapBlock,Sort.ahead,Xx,hb,onCells]
theorem Hq{w:World}{g n:Nat}{os:Array Obj}(F:Array Value):w.grownBy (Go.Sort.grow (putRow id (Sort.ahead w n) g 0 F) os) (some g):=by
 refine⟨rfl,rfl,rfl,by simp,fun k hk hne=>?_⟩;rw[heap_grow_old _ _ (by simpa using hk)];have:g≠k:=fun e=>hne (by rw[e]);simp[putRow,mapBlock,Sort.ahead,Xx,this]
theorem rH(cur F:Array Value)(h:F.size<=cur.size):(putCells id 0 F cur).toList.take F.size=F.toList:=by
 apply List.ext_getElem?;intro j;by_cases hj:j<F.size
 ·rw[List.getElem?_take_of_lt hj,Array.getElem?_toList];simp[putCells,hj,show j<cur.size by omega]
 ·rw[List.getElem?_take_eq_none (by omega),Xf (by simp;omega)]
def Gv:mW Jj:=qlO Oz (oSl Oz 3)
def yK(w:World)(N:Nat):Type:={ p:Int×Value×List Int // (-9223372036854775808<=p.1/\p.1<=9223372036854775807)/\Mg Oz 3 w N p.2.1 p.2.2/\∀ a∈p.2.2,(-1000:Int)<=a }
instance {w:World}{N:Nat}:Inhabited (yK w N):=⟨⟨(0,.slice none 0 0,[]),⟨by decide,by decide⟩,Mg.nil w N,by simp⟩⟩
def Hr{w:World}{N:Nat}(p:yK w N):List Value:=[.int .i64 p.1.1,p.1.2.1]
def Su{w:World}{N:Nat}(p:yK w N):Jj:=(p.1.1,p.1.2.2)
theorem qbH{w:World}{N:Nat}:∀(css:List (List Value))(rs:List Jj),css.length=rs.length->(∀(i:Nat)(cs:List Value)(x:Jj),css[i]? = some cs->rs[i]? = some x->Gv.rep w N cs x)->(∀ r∈rs,gV r) ->
  ∃ ks:List (yK w N),Cb Hr ks=css.flatten/\ks.map Su=rs
 |[],[],_,_,_=>⟨[],rfl,rfl⟩
 |[],_::_,h,_,_=>by simp at h
 |_::_,[],h,_,_=>by simp at h
 |cs::css,r::rs,hl,h,ho=>by
  obtain⟨ks,e1,e2⟩:=qbH css rs (by simpa using hl) (fun i cs x hc hx=>h (i+1) cs x hc hx) fun r hr=>ho r (Xi _ hr);obtain⟨c1,c2,hc,⟨h1,h2⟩,v,h3,h4⟩:=h 0 cs r rfl rfl;obtain⟨p,hp1,hp2⟩:∃ p:yK w N,Hr p=[.int .i64 r.1,v]/\Su p=r:=⟨⟨(r.1,v,r.2),h2,h4,ho r (Xh ..)⟩,rfl,rfl⟩;refine⟨p::ks,?_,?_⟩
  ·unfold Cb at e1 |-;rw[List.map_cons,List.flatten_cons,List.flatten_cons,e1,hc,h1,h3,hp1];rfl
  ·rw[List.map_cons,e2,hp2]
theorem qtG{w w':World}{N:Nat}(hk:Jq [3] w w')(ks:List (yK w N)):∀(i:Nat)(cs:List Value)(x:Jj),(ks.map Hr)[i]? = some cs->(ks.map Su)[i]? = some x->Gv.rep w' N cs x:=by
 intro i cs x hc hx;rw[Qv] at hc hx;cases X_:ks[i]? with
 |none=>rw[X_] at hc;cases hc
 |some p =>
  rw[X_] at hc hx;injection hc with hc;injection hx with hx;subst hc hx;exact⟨[.int .i64 p.1.1],[p.1.2.1],rfl,⟨rfl,p.2.1⟩,p.1.2.1,rfl,p.2.2.1.keep hk⟩
theorem aj{w:World}{N:Nat}(x y:yK w N):ltOf (fun a b=>sT (Su a) (Su b)) x y=true↔Kr (Su x) (Su y):=by
 unfold ltOf;rw[Yi];exact qtK _ _
theorem fW{w:World}{N:Nat}(x y:yK w N):ltOf (fun a b=>sT (Su a) (Su b)) x y=false↔¬ Kr (Su x) (Su y):=by
 rw[<-aj,Bool.not_eq_true]
theorem zpV{w:World}{N:Nat}:SWO (ltOf fun a b:yK w N=>sT (Su a) (Su b)) where
 irrefl:=fun x=>by rw[fW];exact Ip _
 trans:=fun x y z h1 h2=>by rw[aj] at *;exact Aa h1 h2
 ntrans:=fun x y z h1 h2=>by rw[fW] at *;exact Oq _ _ _ h2 h1
theorem zn(w:World):(isAgg 63).run Tryz.prog w=.ok true w:=by kernel_rfl
theorem ls(w:World):(Go.sizeOf 63).run Tryz.prog w=.ok 2 w:=by kernel_rfl
theorem qtH{w:World}{N:Nat}{v:Value}{xs:List Int}(h:Mg Oz 3 w N v xs):v.oneCell'=true:=by
 obtain⟨A,c,rfl,_⟩:=h.form;rfl
theorem xA(N:Nat)(v:Value)(rs:List Jj)(w:World)(h:Mg Gv 63 w N v rs)(ho:∀ r∈rs,gV r)(hn:rs.length<4611686018427387904) :
  Calls Tryz.prog 79 #[v,.func (.func 80) #[] #[]] w fun e w'=>e=.returned (.tuple #[])/\Mg Gv 63 w' N v (iL rs)/\w.grownBy w' v.ownBlock:=by
 have eg:∀ args w,(callFunc 80 args).run Tryz.prog w=.ok (.enter 80 args) w:=enters_of Tryz.func80 (by kernel_rfl) rfl;obtain⟨css,hown,Hx,Zt⟩:=h;obtain⟨ks,hf,hks⟩:=qbH css rs Hx Zt ho;have Dl:ks.length=rs.length:=by rw[<-hks,Qk]
 rcases hown.2 with ⟨xZ,h0⟩ | ⟨g,cap,cur,hv,hbase,hb,h1,h2,h3,h4⟩
 ·subst xZ;have hr:rs=[]:=Xv h0;subst hr;refine (AnyF.slices_SortFunc_none { Tryz.sortLayR with } none 0 _ w).mono fun e w' ⟨he,hw⟩=>⟨he,?_,?_⟩
  ·subst hw;rw[show iL []=[] by simp[iL]];exact Mg.nil _ _
  ·subst hw;exact⟨rfl,rfl,rfl,Xz _,fun _ _ _=>rfl⟩
 ·subst hv;rw[<-Dl] at h1 h4 hn |-;have hlen:∀ x:yK w N,(Hr x).length=2:=fun _=>rfl;have hH:HoldsK Hr 2 w g 0 ks.toArray:=fq hlen (by decide) hb (by rw[hf];exact h4);have hgl:g<w.heap.size:=(gl hb);have oI:∀(F:Array Value)(m:Nat)(os:Array Obj),Jq [3] w (Go.Sort.grow (putRow id (Sort.ahead w m) g 0 F) os):=fun F m os=>by
   have Co:=Hq (w:=w) (g:=g) (n:=m) (os:=os) F;refine⟨Co.size,fun j cu t ht hj=>(Co.block j (gl hj) ?_).trans hj⟩;intro e;injection e with e;subst e;rw[hb] at hj;injection hj with hj;injection hj with _ hj;subst hj;exact absurd ht (by decide)
  have:=AnyQ.slices_SortFunc Tryz.sortLayR 2 zn ls Hr hlen (fun p u hu=>by simp only[Hr,List.mem_cons,List.not_mem_nil,or_false] at hu;rcases hu with rfl | rfl;rfl;exact qtH p.2.2.1) (fun a b=>sT (Su a) (Su b)) zpV 80 #[] g 0 cap ks.toArray w eg (fun m os dk hdk x y=>(qtW x.1.2.1 y.1.2.1 x.1.1 y.1.1 x.1.2.2 y.1.2.2 _ _ (x.2.2.1.keep (oI _ m os)).sl (y.2.2.1.keep (oI _ m os)).sl (Xz _) x.2.2.2 y.2.2.2).mono fun e w' ⟨he,hb,hd⟩=>⟨he,tY hb hd⟩) hH hgl (by simpa using hn);simp only[List.size_toArray] at this;refine Calls.mono this fun e w' ⟨he,d',n,os,hp,hs,hw⟩=>⟨he,?_,?_⟩
  ·have oH:(d'.toList.map Su).Perm rs:=by
    rw[<-hks];refine List.Perm.map _ ?_;obtain⟨p1,_,p3⟩:=hp;have e1:d'.extract 0 ks.length=d':=by
     apply Array.extract_eq_self_of_le;rw[p1];simp
    have e2:ks.toArray.extract 0 ks.length=ks.toArray:=by
     apply Array.extract_eq_self_of_le;simp
    rw[e1,e2] at p3;simpa using p3
   have zgQ:(d'.toList.map Su).Pairwise fun a b=>¬ Kr b a:=by
    rw[List.pairwise_map,List.pairwise_iff_getElem];intro i j hi hj hij;have Fd:d'.size=ks.length:=by rw[hp.1];simp
    have:=hs i j (Ye _) hij (by rw[<-Fd];simpa using hj);rw[fW] at this;have Hp:j<d'.size:=by simpa using hj
    have hi':i<d'.size:=by simpa using hi
    rw[getElem!_pos d' j Hp,getElem!_pos d' i hi'] at this;simpa using this
   rw[<-Ty ho oH zgQ];have Fd:d'.toList.length=ks.length:=by rw[Array.length_toList,hp.1];simp
   have hF:(flatK Hr 2 d')=(flatK Hr 2 d'.toList.toArray):=by simp
   subst hw;refine⟨d'.toList.map Hr,⟨by rw[<-Cb,gJ hlen,Qk];rfl,.inr ⟨g,cap,_,by rw[Qk,Fd],hbase,fy _ hb,by rw[Qk,Fd];exact h1,h2,by simpa[putCells] using h3,?_⟩⟩,by simp,qtG (oI _ n os) d'.toList⟩;have hfs:(flatK Hr 2 d').size=ks.length*2:=by rw[size_flatK,hp.1];simp
   have:=rH cur (flatK Hr 2 d') (by rw[hfs,h3];exact Nat.mul_le_mul_right 2 h1);rw[Qk,Fd];rw[hfs] at this;show List.take (ks.length*2) _=_;rw[this,hF,uI hlen (by decide)];rfl
  ·subst hw;exact Hq _
theorem xB{w:World}{B:Nat}{v:Value}{ns:List Wd}(h:Jb Mc w B v (ns.map Ki)):Jb eW w B v ns:=by
 obtain⟨A,c,css,e,h1,h2,h3,h4,h5⟩:=h;rw[Qk] at e h1 h3;exact⟨A,c,css,e,h1,h2,h3,h4,fun i cs x hc hx=>h5 i cs _ hc (by rw[Qv,hx];rfl)⟩
theorem qfV(ms:List Wd)(x:Wd)(hx:x∈ms):Lib.idxOfS (ms.map Ki) (Ki x)=((ms.idxOf x:Nat):Int):=by
 have hl:=List.idxOf_lt_length_of_mem hx;unfold Lib.idxOfS;rw[Lib.idxFromS_hit (Ki x) (ms.map Ki) (ms.idxOf x) 0 (by rw[Qk];exact hl) ?_ ?_]
 ·rw[Yp]
 ·rw[Qb,Qv,Qa hl,List.getElem_idxOf];rfl
 ·intro j hj;have Hp:j<ms.length:=by omega
  rw[Qb,Qv,Qa Hp];intro e;have e2:ms[j]=x:=by
   have:=congrArg Mr e
   rwa [show Mr ((Option.map Ki (some ms[j])).getD ByteArray.empty)=ms[j] from rfl,Ag] at this
  have:=List.not_of_lt_findIdx (p:=(·==x)) (xs:=ms) (i:=j) hj;simp[e2] at this
theorem qfS(v:Value)(ms:List Wd)(x:Wd)(B:Nat)(w:World)(h:Jb eW w B v ms)(hx:x∈ms) :
  Calls Tryz.prog 138 #[v,wv x] w fun e w'=>e=.returned (.int .i64 ((ms.idxOf x:Nat):Int))/\w=w':=by
 obtain⟨A,c,rfl,h1,h2⟩:=h.form;unfold maxLen at h2;have hp:0<ms.length:=List.length_pos_of_mem hx;obtain⟨b,off,rfl,-,-,-⟩:=h.wd (k:=0) hp;have:=Tryz.slices_Index_string b off ms.length c (ms.map Ki) (Ki x) w (by simp) (by omega) (fun j hj=>by
  have Hp:j<ms.length:=by simpa using hj
  obtain⟨b',zqB,e,_,_,hc⟩:=h.wd Hp
  injection e with e
  injection e with e1 e2
  subst e1 e2
  rw[hc,Qb,Qv,Qa Hp]
  rfl)
 refine Calls.mono this ?_;rintro e w' ⟨rfl,rfl⟩;rw[Qd (by simp),qfV ms x hx];exact⟨rfl,rfl⟩
def Pa(f:Nat->Int)(n k:Nat):List Int:=(List.range n).map fun i=>if i<k then f i else 0
theorem aU(f:Nat->Int)(n k:Nat):(Pa f n k).length=n:=by simp[Pa]
theorem tC(f:Nat->Int){n k j:Nat}(h:j<n):(Pa f n k)[j]? = some (if j<k then f j else 0):=by simp[Pa,h]
theorem lN(f:Nat->Int)(n:Nat):Pa f n 0=List.replicate n 0:=by
 unfold Pa;simp only[Nat.not_lt_zero,if_false];rw[List.map_const',List.length_range]
theorem qlS(f:Nat->Int)(n:Nat):Pa f n n=(List.range n).map f:=by
 unfold Pa;refine List.map_congr_left fun i hi=>?_;rw[if_pos (Xy.1 hi)]
theorem qlR(f:Nat->Int){n k:Nat}:(Pa f n k).set k (f k)=Pa f n (k+1):=by
 apply List.ext_getElem?;intro j;by_cases hj:j<n
 ·rw[Xu,tC f hj,tC f hj,aU];by_cases e:k=j
  ·subst e;simp[hj]
  ·rw[if_neg e];by_cases h2:j<k
   ·rw[if_pos h2,if_pos (by omega)]
   ·rw[if_neg h2,if_neg (by omega)]
 ·rw[Xf (by rw[Qm,aU];omega),Xf (by rw[aU];omega)]
theorem qkY(z:Value)(n:Nat):madeCells #[z] n=(List.replicate n z).toArray:=by
 apply Array.ext
 ·simp[madeCells]
 ·intro i h1 h2;simp[madeCells,Nat.mod_one]
theorem qfR(n:Nat)(hn:n<=1048576)(w:World):(Instr.makeSlice 61 (.int .i64 (n:Int)) (.int .i64 (n:Int))).run Tryz.prog w=.ok (.slice (some ⟨w.heap.size,0,none⟩) n n) (w.alloc (.cells (Ks (Pa (fun _=>0) n 0)).toArray 3)):=by
 rw[lN,Ks,List.map_replicate,<-qkY];exact run_make_row' 61 3 (.int .i64 0) 8 Tryz.underlying61 (by kernel_rfl) rfl .i64 .i64 n (by omega) (by omega) w
def qpY(ns ms:List Wd)(w:World)(e:Ending)(w':World):Prop:=∃ v,e=.returned v/\Mg Oz 3 w' w.heap.size v (ns.map fun n=>((ms.idxOf n:Nat):Int))/\Below w.heap.size w w'
theorem qz:∀ xs:List Int,(xs.map fun x=>[Value.int .i64 x]).flatten=Ks xs
 |[]=>rfl
 |x::l=>by rw[List.map_cons,List.flatten_cons,qz l];rfl
theorem qtJ{w:World}{N g:Nat}{xs:List Int}(h:w.heap[g]? = some (.cells (Ks xs).toArray 3 (0,0)))(hN:N<=g)(hl:xs.length<=1048576)(hb:∀ x∈xs,-9223372036854775808<=x/\x<=9223372036854775807):Mg Oz 3 w N (.slice (some ⟨g,0,none⟩) xs.length xs.length) xs:=by
 have hf:=qz xs;refine⟨xs.map fun x=>[.int .i64 x],?_,by simp,fun i cs x hc hx=>?_⟩
 ·rw[hf];refine⟨by simp[Ks,Oz,zV,Vh],.inr ⟨g,xs.length,_,rfl,hN,h,Xz _,by unfold maxLen;omega,by simp[Ks,Oz,zV,Vh],?_⟩⟩;show List.take (xs.length*1) _=_;rw[Yq];exact Qd (by simp[Ks])
 ·rw[Qv,hx] at hc;injection hc with hc;exact⟨hc.symm,hb x (Qp hx)⟩
theorem nX(v1 v2:Value)(ns ms:List Wd)(w:World)(h1:Jb eW w w.heap.size v1 ns)(h2:Jb eW w w.heap.size v2 ms)(hm:∀ n∈ns,n∈ms)(hn:ns.length<=1048576)(hml:ms.length<=1048576) :
  Calls Tryz.prog 76 #[v1,v2] w (qpY ns ms w):=by
 obtain⟨A1,c1,rfl,kP,oN⟩:=h1.form;unfold maxLen at oN;have H1:=Lh h1;have H2:=Lh h2;have HM:=Lh hm;clear h1 h2 hm;obtain⟨n,xY⟩:=Xe ns.length;rw[<-xY] at H1 kP hn |-;have HN:=Lh xY;obtain⟨F,hF⟩:∃ F:Nat->Int,F=fun i=>((ms.idxOf (ns.getD i []):Nat):Int):=⟨_,rfl⟩;have HF:=Lh hF;clear xY hF;have bA:=qfR n hn w;rw[show Pa (fun _=>0) n 0=Pa F n 0 by rw[lN,lN]] at bA;have HB0:=Lh ((Xr w.heap.size w).alloc (Xz _) (.cells (Ks (Pa F n 0)).toArray 3));have HG0:=Lh (Xn w (.cells (Ks (Pa F n 0)).toArray 3));go_enter Tryz.func76,Tryz.ntmps76;go_wp2_with fail;generalize w.alloc (.cells (Ks (Pa F n 0)).toArray 3)=w1 at *;go_loopw [12] (fun v12 wr=>∃ k:Nat,k<=n/\v12=.int .i64 k/\Hid (wr.heap[w.heap.size]? = some (.cells (Ks (Pa F n k)).toArray 3 (0,0)))/\Hid (Below w.heap.size w wr)) (fun v12 _=>n - (intOf v12).toNat);exact⟨0,by omega,rfl,HG0.o,HB0.o⟩;clear HG0 HB0 bA;obtain⟨k,hk,rfl,HG,HB⟩:=hrel;by_cases Jo:k<n
 ·have oK:k<ns.length:=by rw[<-HN.o];exact Jo
  obtain⟨b,off,rfl,_,hb,hcw⟩:=(H1.o.below HB.o).wd oK;have HIX:=Lh (qfS v2 ms ns[k] w.heap.size wr (H2.o.below HB.o) (HM.o _ (Qg oK)));have HFK:=Lh (show F k=((ms.idxOf ns[k]:Nat):Int) by rw[HF.o];simp[oK]);generalize ns[k]=x at *;rw[<-HFK.o] at HIX;have Zj:wr.cell? ⟨w.heap.size,k,none⟩=some (.int .i64 0):=by
   rw[Za _ _ _ _ _ _ HG.o,List.getElem?_toArray,Ks,Qv,tC F Jo];simp
  have wN:wr.frozen? ⟨w.heap.size,k,none⟩=false:=by simp[World.frozen?,HG.o]
  have HG1:=Lh (show (wr.setCell ⟨w.heap.size,k,none⟩ (.int .i64 (F k))).heap[w.heap.size]? = some (.cells (Ks (Pa F n (k+1))).toArray 3 (0,0)) by
   simp only[World.setCell,Xx,if_true,HG.o,Option.map_some]
   rw[<-qlR,Ks,Ks,List.map_set,List.setIfInBounds_toArray]
   rfl)
  have HB1:=Lh (HB.o.setCell (p:=⟨w.heap.size,k,none⟩) (Xz _) (.int .i64 (F k)));generalize F k=fk at *;go_wp2_with fail;refine HIX.o.mono ?_;rintro e w' ⟨rfl,rfl⟩;go_wp2_with fail;go_roundw;exact⟨k+1,by omega,by go_num,HG1.o,HB1.o⟩;simp[intOf];omega
 ·obtain rfl:k=n:=by omega
  have Kl:=Lh (show Mg Oz 3 wr w.heap.size (.slice (some ⟨w.heap.size,0,none⟩) k k) (ns.map fun n=>((ms.idxOf n:Nat):Int)) by
   have e:ns.map (fun n=>((ms.idxOf n:Nat):Int))=Pa F k k:=by
    rw[qlS,HF.o]
    apply List.ext_getElem?
    intro j
    rw[Qv,Qv]
    by_cases hj:j<k
    ·have Hp:j<ns.length:=by rw[<-HN.o];exact hj
     simp[hj,Hp]
    ·rw[Xf (by rw[<-HN.o];omega),Xf (by simp;omega)]
     rfl
   have:=qtJ (N:=w.heap.size) HG.o (Xz _) (by rw[aU];exact hn) (fun x hx=>by
    rw[<-e] at hx
    obtain⟨y,hy,rfl⟩:=Xa.1 hx
    have:=List.idxOf_lt_length_of_mem (HM.o y hy)
    omega)
   rw[aU] at this
   rw[e]
   exact this)
  go_wp2_with fail;go_ret;exact⟨_,rfl,Kl.o,HB.o⟩
theorem qlN(Pt Pn:Nat)(vt vn:Value)(ts ns:List Int)(M:Nat)(s:Int)(w:World)(hct:w.cell? ⟨Pt,0,none⟩=some vt)(tw:w.cell? ⟨Pn,0,none⟩=some vn)(ht:Jb Vh w M vt ts)(hn:Jb Vh w M vn ns)(h1:-(ts.length:Int)<=s)(h2:s<ns.length)(_hl:ts.length<=1048576)(_hl2:ns.length<=1048576) :
  Calls Tryz.prog 77 #[.int .i64 s,.pointer (some ⟨Pt,0,none⟩),.pointer (some ⟨Pn,0,none⟩)] w fun e w'=>e=.returned (.int .i64 (if s<0 then -1 - ts.getD (-1 - s).toNat 0 else ns.getD s.toNat 0))/\w=w':=by
 obtain⟨A1,c1,rfl,kP,oN⟩:=ht.form;obtain⟨A2,c2,rfl,hb1,Zy⟩:=hn.form;unfold maxLen at oN Zy;have HT:=Lh ht;have HN:=Lh hn;clear ht hn;by_cases hs:s<0
 ·rw[if_pos hs];obtain⟨k,hk⟩:∃ k:Nat,s=-1 - (k:Int):=⟨(-1 - s).toNat,by omega⟩;have Dl:k<ts.length:=by omega
  obtain⟨b,off,cs,rfl,_,_,Zt,Zj⟩:=HT.o.get Dl (by decide);obtain⟨rfl,Ta,Hn⟩:=Zt;have hc:=Zj 0 _ rfl;clear Zj;simp only[show Vh.size=1 from rfl,Yq,Yo] at hc;have HE:=Lh (show ts.getD (-1 - s).toNat 0=ts[k] by rw[show (-1 - s).toNat=k by omega];simp[Dl]);rw[HE.o];generalize ts[k]=x at *;have d0:decide (s<0)=true:=by rw[Yi];exact hs
  have e1:-1 - s=(k:Int):=by omega
  clear hs hk h1 h2;go_enter Tryz.func77,Tryz.ntmps77;go_wp2_with fail;refine (Zz _ _).mono ?_;rintro e w' ⟨rfl,rfl⟩;go_wp2_with fail;go_ret;exact⟨rfl,rfl⟩
 ·rw[if_neg hs];obtain⟨k,hk⟩:∃ k:Nat,s=(k:Int):=⟨s.toNat,by omega⟩;have Dl:k<ns.length:=by omega
  obtain⟨b,off,cs,rfl,_,_,Zt,Zj⟩:=HN.o.get Dl (by decide);obtain⟨rfl,Ta,Hn⟩:=Zt;have hc:=Zj 0 _ rfl;clear Zj;simp only[show Vh.size=1 from rfl,Yq,Yo] at hc;have HE:=Lh (show ns.getD s.toNat 0=ns[k] by rw[show s.toNat=k by omega];simp[Dl]);rw[HE.o];generalize ns[k]=x at *;have d0:decide (s<0)=false:=by rw[Yj];exact hs
  subst hk;clear hs h1 h2;go_enter Tryz.func77,Tryz.ntmps77;go_wp2_with fail;refine (Zz _ _).mono ?_;rintro e w' ⟨rfl,rfl⟩;go_wp2_with fail;go_ret;exact⟨rfl,rfl⟩
end Go.Proofs.YtmaojnmnbpomeaaGreatDoor
