/- A part. -/
import Derived.Test.YtmaojnmnbpomeaaGreatDoorVN08
import Derived.Shelf.SlSortCmp.NoneTotal
set_option maxRecDepth 100000
set_option maxHeartbeats 64000000
namespace Go.Proofs.YtmaojnmnbpomeaaGreatDoor
open Go.RowKit Go.Sort
variable{Q:Act->World->Prop}{p:Addr}{os:Array Obj}{cs cur:Array Value}{a b:Int}{s:Jb}{xs y:List Int}{l:List Oper}{ns ts:List Wd}{S:List fE}{N base c1 c2 g i k m n q x:Nat}{use:Nat->Bool}{c f:Nat->Int}{fr:Nat×Nat}{A1 A2 A3:Option Addr}{P:Program}{e et kt mt t ty:TypeId}{v:Value}{W w w':World}{rs:Zz}
def qkX(k:Int)(g:Kd)(w':World)(e:Ending):Prop :=
 ∃o1,Gl k g.2.2 g.1.length o1/\match o1 with
 |none=>e=.returned (.tuple #[.slice none 0 0,.int .i64 21])
 |some s=>∃o2,Ek s k g.2.2 g.1.length o2/\qeO w' o2 e
def qkW(k:Int)(g:Kd)(w:World)(e:Ending)(w':World):Prop :=
 Below w.heap.size w w'/\(Ip k g->e=.returned (.tuple #[.slice none 0 0,.int .i64 1]))/\(¬ Ip k g->qkX k g w' e)
structure mQ(k:Int)(rs:Zz)(n:Nat)(sets:Jb)(gas:Nat)(p:Fd):Prop where
 asc:Mj p.fol
 small:p.limit=false->Eh p.fol
 over:p.limit=true->Ek sets k rs n none
 done:p.limit=false->p.grown=false->Ek sets k rs n (some p.fol)
 more:p.limit=false->p.grown=true->(∀o,RoundsTo (Rx sets k rs) p.fol o->Ek sets k rs n o)/\4096*n<=gas+Pm p.fol
theorem mQ.next{k:Int}{sets:Jb}{gas:Nat}{p p':Fd}(h:mQ k rs n sets gas p)(hl:p.limit=false)(hg:p.grown=true)(he:Wi sets k rs ⟨p.fol,false,false⟩=p')(hp:yg (Pm p.fol) n p')(hb:Pm p'.fol<=4096*n\/p'.limit=true) :
  mQ k rs n sets (gas-1) p'/\(p'.limit=false->p'.grown=true->1<=gas):=by
 obtain⟨h1,h2⟩:=h.more hl hg;have hr:=ud he;refine⟨⟨hp.asc,hp.small,fun mT=>h1 none (.fail (by rw[hr,mT];rfl)),fun mT rI=>h1 _ (.done (by rw[hr,mT,rI];rfl)),fun mT rI=>⟨fun o ho=>h1 o (.more (by rw[hr,mT,rI];rfl) ho),?_⟩⟩,fun mT rI=>?_⟩
 .have:=hp.grew rI;omega
 have h3:=hp.grew rI;rcases hb with hb|hb
 .omega
 rw[mT]at hb;cases hb
theorem zm(w:World)(o0 o1 o2 o3 o4 o5:Obj):((((((w.alloc o0).alloc o1).alloc o2).alloc o3).alloc o4).alloc o5).heap.size=w.heap.size+6 /\
  ((((((w.alloc o0).alloc o1).alloc o2).alloc o3).alloc o4).alloc o5).heap[w.heap.size]?=some o0/\((((((w.alloc o0).alloc o1).alloc o2).alloc o3).alloc o4).alloc o5).heap[w.heap.size+1]?=some o1 /\
  ((((((w.alloc o0).alloc o1).alloc o2).alloc o3).alloc o4).alloc o5).heap[w.heap.size+2]?=some o2/\((((((w.alloc o0).alloc o1).alloc o2).alloc o3).alloc o4).alloc o5).heap[w.heap.size+3]?=some o3 /\
  ((((((w.alloc o0).alloc o1).alloc o2).alloc o3).alloc o4).alloc o5).heap[w.heap.size+4]?=some o4/\((((((w.alloc o0).alloc o1).alloc o2).alloc o3).alloc o4).alloc o5).heap[w.heap.size+5]?=some o5 /\
  Below w.heap.size w ((((((w.alloc o0).alloc o1).alloc o2).alloc o3).alloc o4).alloc o5):=by
 have z1:=Xs w o0;have z2:=Xs (w.alloc o0) o1;have z3:=Xs ((w.alloc o0).alloc o1) o2;have z4:=Xs (((w.alloc o0).alloc o1).alloc o2) o3;have z5:=Xs ((((w.alloc o0).alloc o1).alloc o2).alloc o3) o4;have z6:=Xs (((((w.alloc o0).alloc o1).alloc o2).alloc o3).alloc o4) o5;have n0:=Xn w o0;have n1:=Xn (w.alloc o0) o1;have n2:=Xn ((w.alloc o0).alloc o1) o2;have n3:=Xn (((w.alloc o0).alloc o1).alloc o2) o3;have n4:=Xn ((((w.alloc o0).alloc o1).alloc o2).alloc o3) o4;have n5:=Xn (((((w.alloc o0).alloc o1).alloc o2).alloc o3).alloc o4) o5;rw[z1]at n1 z2;rw[z2]at n2 z3;rw[z3]at n3 z4;rw[z4]at n4 z5;rw[z5]at n5 z6;refine⟨z6,?_,?_,?_,?_,?_,n5,?_⟩
 .rw[Zf _ _ _ (by omega),Zf _ _ _ (by omega),Zf _ _ _ (by omega),Zf _ _ _ (by omega),Zf _ _ _ (by omega)];exact n0
 .rw[Zf _ _ _ (by omega),Zf _ _ _ (by omega),Zf _ _ _ (by omega),Zf _ _ _ (by omega)];exact n1
 .rw[Zf _ _ _ (by omega),Zf _ _ _ (by omega),Zf _ _ _ (by omega)];exact n2
 .rw[Zf _ _ _ (by omega),Zf _ _ _ (by omega)];exact n3
 .rw[Zf _ _ _ (by omega)];exact n4
 exact (((((Xr w.heap.size w).alloc (Yb _) o0).alloc (by omega) o1).alloc (by omega) o2).alloc (by omega) o3).alloc (by omega) o4 |>.alloc (by omega) o5
theorem qfX{lo e0:Nat}(hg:w.heap[g]?=some (.cells ((Array.replicate n (Value.slice none 0 0)).setIfInBounds 0 (.slice (some ⟨e0,0,none⟩) 1 1)) t (0,0)))(he:w.heap[e0]?=some (.cells #[.string ⟨#[]⟩] 9 (0,0))):Ew t g lo e0 w ((List.replicate n []).set 0 [[]]):=by
 refine⟨(List.replicate n (Value.slice none 0 0)).set 0 (.slice (some ⟨e0,0,none⟩) 1 1),?_,by simp,fun i v x hv hx=>?_⟩
 .rw[hg];congr 2;apply Array.ext';simp
 rw[Xw]at hv hx;split at hv
 .rename_i e;rw[if_pos e]at hx;split at hv
  .split at hx
   .injection hv with hv;injection hx with hx;subst hv hx;intro w' hw;have Jl:=(gl he);refine Lk (xs:=[[]]) (fun y hy=>by rw[Qi]at hy;subst hy;unfold maxLen;simp) (fun _=>⟨e0,0,rfl,Jl,fun j u hu=>?_⟩) (Yb _) (by unfold maxLen;omega)
    match j,hu with
    |0,hu =>
     injection hu with hu;subst hu;rw[hw _ (.inr rfl) Jl];exact Vv he
    |j+1,hu=>simp[Zx]at hu
   cases hx
  cases hv
 rename_i e;rw[if_neg e]at hx;rw[Xh]at hv hx;split at hv
 .rename_i hi;rw[if_pos hi]at hx;injection hv with hv;injection hx with hx;subst hv hx;exact Hi.nil lo e0 w
 cases hv
theorem Eh.toM(h:Eh s):qU 4096 s:=h
theorem qcO(n:Nat):Eh ((List.replicate n []).set 0 [[]]):=(Eh.replicate n).set 0 ⟨fun x hx=>by rw[Qi]at hx;subst hx;simp,by simp⟩
theorem bm(n:Nat):Mj ((List.replicate n []).set 0 [[]]):=(Mj.replicate n).set 0 (by simp)
theorem wS{c3:Nat}{g:Kd}(k:Int)(w:World)(h:Np w w.heap.size A1 A2 A3 n m q c1 c2 c3 g) :
  Calls Tryz.prog 89 #[Rw A1 A2 A3 n m q c1 c2 c3,.int .i64 k] w (qkW k g w):=by
 have hb1:=(Xr w.heap.size w).alloc (Yb _) (.cells #[.slice A1 n c1,.slice A2 m c2,.slice A3 q c3] 25);have z1:=Xs w (.cells #[.slice A1 n c1,.slice A2 m c2,.slice A3 q c3] 25);have k1:=Xn w (.cells #[.slice A1 n c1,.slice A2 m c2,.slice A3 q c3] 25);have Jd:=(Xr _ (w.alloc (.cells #[.slice A1 n c1,.slice A2 m c2,.slice A3 q c3] 25))).alloc (Yb _) (.cells #[.int .i64 k] 3);have z2:=Xs (w.alloc (.cells #[.slice A1 n c1,.slice A2 m c2,.slice A3 q c3] 25)) (.cells #[.int .i64 k] 3);have k2:=Gg w (.cells #[.slice A1 n c1,.slice A2 m c2,.slice A3 q c3] 25) (.cells #[.int .i64 k] 3);have HB:=Lh (hb1.trans (Jd.mono (by rw[z1];omega)));have HZ:=Lh (z2.trans (by rw[z1]));have HKG:=Lh ((Jd.block w.heap.size (by rw[z1];omega)).trans k1);have HKK:=Lh k2;have HV:=Lh (h.fut HB.o (Yb _) (Yb _));have HL:=Lh h.ln;have yO:=h.small;clear h hb1 z1 k1 Jd z2 k2;go_enter Tryz.func89,Tryz.ntmps89;go_wp2_with fail;generalize (w.alloc (.cells #[.slice A1 n c1,.slice A2 m c2,.slice A3 q c3] 25)).alloc (.cells #[.int .i64 k] 3)=w1 at*;refine (gO k w1 (HV.o.fut (N:=w1.heap.size) (B':=w1.heap.size) (Xr _ _) (by rw[HZ.o];omega) (by rw[HZ.o];omega))).mono ?_;rintro e w2 ⟨Jd,wM,hgood⟩;have HB2:=Lh (HB.o.trans (Jd.mono (by rw[HZ.o];omega)));have HB12:=Lt (Below (w.heap.size+2) w1 w2) (Jd.mono (Yj HZ.o.symm));have HS2:=Lh (show w.heap.size+2<=w2.heap.size by have:=Jd.size;rw[HZ.o]at this;exact this);clear Jd;by_cases mX:Ip k g
 .have:=wM mX;subst this;have Sl:=Lh mX;clear wM hgood mX;go_wp2
  go_ret2
  exact⟨HB2.o.alloc (by have:=HS2.o;omega) _,fun _=>rfl,fun h=>absurd Sl.o h⟩
 obtain⟨o1,ju,Ls⟩:=hgood mX;have HNB:=Lh mX;have HF:=Lh ju;clear wM hgood mX ju;cases o1 with
 |none =>
  have:e=.returned (.tuple #[.slice none 0 0,.int .i64 21]):=Ls;subst this;clear Ls;go_wp2
  go_ret2
  exact⟨HB2.o.alloc (by have:=HS2.o;omega) _,fun h=>absurd h HNB.o,fun _=>⟨none,HF.o,rfl⟩⟩
 |some s =>
  obtain⟨As,cs,rfl,hss,hsb⟩:=Ls;obtain⟨ns,hns⟩:=Xe s.length;rw[<-hns]at hss |-;have HSS:=Lh hss;have mI:=Lh hsb;have gM:¬ k<1:=fun h=>HNB.o (.inl h);have y_:¬ 4<k:=fun h=>HNB.o (.inr (.inl h));have Vn:Kf g=0:=Classical.byContradiction fun h=>HNB.o (.inr (.inr h));obtain⟨kk,hkk⟩:∃kk:Nat,k=(kk:Int):=⟨k.toNat,by omega⟩;subst hkk;have me:=Lh (Ld Vn);have zgR:=Lh ((HB12.o.block w.heap.size (by omega)).trans HKG.o);have zgQ:=Lh ((HB12.o.block (w.heap.size+1) (by omega)).trans HKK.o);have HN:=Lh (show 1<=n/\n<=256 by have h1:=me.o.2.1.n1;have h2:=me.o.2.1.nm;have:=HL.o.1;omega);have g0:w2.cell? ⟨w.heap.size,0,none⟩=some (.slice A1 n c1):=Xc zgR.o rfl;have Si:w.heap.size<w2.heap.size:=by have:=HS2.o;omega
  have sK:=bi n (by have:=HN.o;omega) (w2.alloc (.cells #[.slice As ns cs] 76));have hn0:0<n:=HN.o.1;clear hss hsb Vn hns;go_wp2_with fail;obtain⟨a,ha⟩:∃a:yK,a=⟨w2.heap.size+1,w2.heap.size,w2.heap.size+1+1,w.heap.size+1,w2.heap.size+1+1+1+1+1,w2.heap.size+1+1+1+1,w2.heap.size+6,w2.heap.size+1+1+1,w2.heap.size+1,w2.heap.size,As,ns,cs,n⟩:=⟨_,rfl⟩;have hW:Hid (∃W:World,W=((((((w2.alloc (.cells #[.slice As ns cs] 76)).alloc (.cells ((Array.replicate n (Value.slice none 0 0)).setIfInBounds 0 (.slice (some ⟨w2.heap.size+1+1+1,0,none⟩) 1 1)) 22)).alloc (.cells #[.slice (some ⟨w2.heap.size+1,0,none⟩) n n] 76)).alloc (.cells #[.string ⟨#[]⟩] 9)).alloc (.cells #[.bool true] 4)).alloc (.cells #[.bool false] 4)) /\
    W.heap.size=w2.heap.size+6/\Gb a kk s W ⟨(List.replicate n []).set 0 [[]],true,false⟩ 4096/\Below w2.heap.size w2 W):=by
   refine⟨_,rfl,?_⟩;obtain⟨z,h0,h1,h2,h3,h4,h5,tg⟩:=zm w2 (.cells #[.slice As ns cs] 76) (.cells ((Array.replicate n (Value.slice none 0 0)).setIfInBounds 0 (.slice (some ⟨w2.heap.size+1+1+1,0,none⟩) 1 1)) 22) (.cells #[.slice (some ⟨w2.heap.size+1,0,none⟩) n n] 76) (.cells #[.string ⟨#[]⟩] 9) (.cells #[.bool true] 4) (.cells #[.bool false] 4);refine⟨z,?_,tg⟩;subst ha;exact⟨qfX h1 h3,by simp,(qcO n).toM,bm n,h0,h2,(tg.block _ (by have:=HS2.o;simp only;omega)).trans zgQ.o,h5,h4,HSS.o.below tg,⟨by simp only;omega,by simp only;omega,by simp only;omega,by simp only;omega,by simp only;omega,by have:=HS2.o;simp only;omega,by simp only;omega⟩,⟨by simp only;omega,by simp only;omega,by simp only;omega,by simp only;omega,by simp only;rw[z];omega⟩,⟨by simp only;omega,by simp only;omega,by simp only;omega,by simp only;omega⟩,⟨by simp only;omega,by simp only;omega,by simp only;omega,by simp only;omega,by simp only;omega,by simp only;omega⟩⟩
  obtain⟨W,hWe,hWz,hWs,hWb⟩:=hW.o;rw[<-hWe];have HWB:=Lt (Below (w.heap.size+2) w1 W) (HB12.o.trans (hWb.mono HS2.o));have HWS:=Lh hWs;have HAN:=Lh (show a.n=n by rw[ha]);have HAG:=Lh (show a.g=w2.heap.size+1 by rw[ha]);have eGB:w2.heap.size+1+1+1+1=a.GB:=by rw[ha]
  have eLB:a.GB+1=a.LB:=by rw[ha]
  have eFB:w2.heap.size+1+1=a.FB:=by rw[ha]
  have eSB:w2.heap.size=a.SB:=by rw[ha]
  have eg:w2.heap.size+1=a.g:=by rw[ha]
  have eKB:w.heap.size+1=a.KB:=by rw[ha]
  rw[eGB,eLB,eFB,eg,eSB,eKB];have sW:=Lh (show a.LB=w2.heap.size+5/\a.GB=w2.heap.size+4 by rw[ha];exact⟨rfl,rfl⟩);have HHEAD:=Lt (mQ kk g.2.2 n s (4096*n) ⟨(List.replicate n []).set 0 [[]],true,false⟩) (⟨bm n,fun _=>qcO n,fun h=>(by cases h),fun _ h=>(by cases h),fun _ _=>⟨fun o ho=>ho,Nat.le_add_right _ _⟩⟩);clear hW hWe hWz hWs hWb eGB eLB eFB eSB eg eKB sK ha g0 hn0;go_loopg [] (4096*n+1) (fun gas wr=>∃(p:Fd)(M:Nat),Hid (Gb a kk s wr p M)/\Hid (mQ kk g.2.2 n s (gas-1) p)/\Hid (p.limit=false->p.grown=true->1<=gas)/\Hid (Below (w.heap.size+2) w1 wr));exact⟨⟨(List.replicate n []).set 0 [[]],true,false⟩,4096,HWS.o,HHEAD.o,fun _ _=>Nat.le_add_left _ _,HWB.o⟩;clear HWS HHEAD HWB;obtain⟨p,M,HST,HHD,zcD,HBW⟩:=hrel;obtain⟨gas,Gx⟩:=Xe gk;rw[<-Gx]at HHD zcD;have HGK:=Lh Gx;obtain⟨fol,gb,lb⟩:=p;have cG:=Vv HST.o.bG;have cL:=Vv HST.o.bL;simp only at cG cL;have kg:=(HBW.o.block w.heap.size (by omega)).trans HKG.o;have g2':wr.cell? ⟨w.heap.size,2,none⟩=some (.slice A3 q c3):=Xc kg rfl;have hne:w.heap.size≠a.GB:=by have:=sW.o.2;omega
  have Ow:w.heap.size≠a.LB:=by have:=sW.o.1;omega
  clear Gx kg;cases lb with
  |true =>
   have znS:=Lh (HHD.o.over rfl);cases gb
   all_goals
    go_wp2
    go_ret2
    exact⟨HB.o.trans (HBW.o.mono (by omega)),fun h=>absurd h HNB.o,fun _=>⟨some s,HF.o,none,by rw[<-HL.o.1];exact znS.o,rfl⟩⟩
  |false =>
   cases gb with
   |false =>
    have zoH:=Lh (HHD.o.done rfl rfl);have cF:=Vv HST.o.bF;have HSL:=Lh (HST.o.row.sl (by rw[HST.o.len,HAN.o];have:=HN.o;unfold maxLen;omega));have ii:=Lh (HHD.o.small rfl);go_wp2
    go_ret2
    refine⟨HB.o.trans (HBW.o.mono (by omega)),fun h=>absurd h HNB.o,fun _=>⟨some s,HF.o,some fol,by rw[<-HL.o.1];exact zoH.o,some ⟨a.g,0,none⟩,fol.length,?_,HSL.o,ii.o⟩⟩;rw[show fol.length=a.n from HST.o.len];rfl
   |true =>
    have fG:wr.frozen? ⟨a.GB,0,none⟩=false:=by simp[World.frozen?,HST.o.bG]
    have HST0:=Lh (show Gb a kk s (wr.setCell ⟨a.GB,0,none⟩ (.bool false)) ⟨fol,false,false⟩ 4096 by
     obtain⟨f1,f2,f3,f4,f5,f6,f7,f8,f9,f10,f11⟩:=HST.o.setG false
     exact⟨f1,f2,(HHD.o.small rfl).toM,f4,f5,f6,f7,f8,f9,f10,f11⟩)
    have HB0:=Lt (Below (w.heap.size+2) w1 (wr.setCell ⟨a.GB,0,none⟩ (.bool false))) (Below.setCell (p:=⟨a.GB,0,none⟩) HBW.o (by show w.heap.size+2<=a.GB;have:=sW.o.2;have:=HS2.o;omega) _);have HFP0:=Lt (yg (Pm fol) n ⟨fol,false,false⟩) (⟨HHD.o.asc,by rw[<-HAN.o];exact HST.o.len,fun _=>HHD.o.small rfl,Yb _,fun h=>(by cases h)⟩);go_wp2_with fail;go_loopg [40] q (fun left v40 wt=>∃(j:Nat)(p':Fd),j<=q/\q-j<=left/\v40=.int .i64 j/\Hid (Gb a kk s wt p' (4096+262144*j))/\Hid (Wi s kk (g.2.2.drop j) p'=Wi s kk g.2.2 ⟨fol,false,false⟩)/\Hid (yg (Pm fol) n p')/\Hid (Below (w.heap.size+2) w1 wt));exact⟨0,⟨fol,false,false⟩,by omega,by omega,rfl,HST0.o,rfl,HFP0.o,HB0.o⟩;clear HST0 HB0 HFP0 cG cL fG g2' HST HBW;obtain⟨j,p',hj,Ef,rfl,HST,HSP,HFP,HBW⟩:=hrel;obtain⟨lft,sv⟩:=Xe gk;rw[<-sv]at Ef;have HLK:=Lh sv;clear sv;by_cases hjq:j<q
    .have Mw:j<g.2.2.length:=by rw[<-HL.o.2.2];exact hjq
     have yG:=Lh (HV.o.rules.below (HBW.o.mono (by omega)));obtain⟨bb,off,cs',rfl,_,iY,Ja,Zn⟩:=yG.o.get (k:=j) Mw (by decide);obtain⟨v,rfl,Mo,zQ,rE⟩:=Kn Ja;obtain⟨A5,c5,rfl,Ct,jW⟩:=Mo.form;have Vn:=Zn 0 _ rfl;have Nj:=Zn 1 _ rfl;simp only[show Vw.size=2 from rfl,Yq,<-Yy]at Vn Nj;have HSP2:=Lh (show Wi s kk (g.2.2.drop (j+1)) (Wa s kk g.2.2[j] g.2.2[j].2.length 0 p')=Wi s kk g.2.2 ⟨fol,false,false⟩ by rw[<-HSP.o,Ql Mw];rfl);have Fj:=me.o.2.1.fit _ (Qg Mw);obtain⟨r,hr⟩:=Xe (g.2.2[j]);rw[<-hr]at Vn Nj HSP2 Mo zQ rE Ct Fj;obtain⟨r1,r2⟩:=r;obtain⟨la,rfl⟩:∃la:Nat,r1=(la:Int):=⟨r1.toNat,by have:=Fj.1;simp only at this;omega⟩;simp only at Vn Nj Mo Ct Fj rE HSP2;obtain⟨ql,sp⟩:=Xe r2.length;rw[<-sp]at Nj Mo Ct Fj HSP2;have HQL:=Lh sp;have HSL:=Lh Mo;have jQ:=Lh Fj;have qxD:ql<=64:=Fj.2.2.1;have zzT:=Lh (show la<a.n by rw[HAN.o];have:=Fj.2.1;have:=HL.o.1;omega);have HJQ:=Lh (show j<4096 by have:=me.o.2.1.q;have:=HL.o.2.2;omega);clear Zn Ja hr sp Mo Mw HSP Fj zQ rE;go_wp2_with fail;have Nd:=(Xr wr.heap.size wr).alloc (Yb _) (.cells #[.int .i64 la,.slice A5 ql c5] 63);have HST1:=Lh (HST.o.below Nd);have HKX:=Lh (Xn wr (.cells #[.int .i64 la,.slice A5 ql c5] 63));have HWS:=Lh (show w2.heap.size+6<=wr.heap.size by have h1:=HST.o.le;have h2:=sW.o;omega);have HBX:=Lh (HBW.o.trans (Nd.mono (by have:=HWS.o;have:=HS2.o;omega)));have yo:=Xs wr (.cells #[.int .i64 la,.slice A5 ql c5] 63);have HSLX:=Lh (HSL.o.below (Nd.mono (by have:=HWS.o;have:=HS2.o;omega)));clear Nd;generalize wr.alloc (.cells #[.int .i64 la,.slice A5 ql c5] 63)=wx at*;obtain⟨qvI,zaH⟩:=Xe wr.heap.size;rw[<-zaH]at HKX HWS |-;have zfS:=HWS;clear zaH;go_loopg [47] ql (fun zjG v47 wt=>∃(i:Nat)(p'':Fd),i<=ql/\ql-i<=zjG/\v47=.int .i64 i/\Hid (Gb a kk s wt p'' (4096+262144*j+4096*i))/\Hid (Wa s kk ((la:Int),r2) (ql-i) i p''=Wa s kk ((la:Int),r2) ql 0 p')/\Hid (yg (Pm fol) n p'')/\Hid (Below (w.heap.size+2) w1 wt)/\Hid (wt.heap[qvI]?=some (.cells #[.int .i64 la,.slice A5 ql c5] 63 (0,0)))/\Hid (Je Wg wt w.heap.size (.slice A5 ql c5) r2));exact⟨0,p',by omega,by omega,rfl,HST1.o,rfl,HFP.o,HBX.o,HKX.o,HSLX.o⟩;clear HST1 HKX HBX HSLX HST HBW Vn Nj;obtain⟨i,p'',hi,zeC,rfl,HST,zgA,zoD,HBW,HKX,HSLX⟩:=hrel;have b0:wr.cell? ⟨qvI,0,none⟩=some (.int .i64 la):=Xc HKX.o rfl;have b1:wr.cell? ⟨qvI,1,none⟩=some (.slice A5 ql c5):=Xc HKX.o rfl;by_cases hiq:i<ql
     .have Wp:i<r2.length:=by rw[<-HQL.o];exact hiq
      have ztJ:=(jQ.o.2.2.2 _ (Qg Wp)).1;have hgd:r2.getD i 0=r2[i]:=by rw[Qb,Qa Wp];rfl
      have HFP4:=Lh (zoD.o.step (k:=kk) (by omega) (sets:=s) (r:=((la:Int),r2)) (at_:=i) (fun _=>by simp only;rw[hgd];have:=HL.o.1;omega));have HSP4:=Lh (show Wa s kk ((la:Int),r2) (ql-(i+1)) (i+1) (Vx s kk ((la:Int),r2) i p'')=Wa s kk ((la:Int),r2) ql 0 p' by
       rw[<-zgA.o,show ql-i=(ql-(i+1))+1 by omega,yZ])
      have yv:=Lh (zk a kk (4096+262144*j+4096*i) w.heap.size la i s wr p'' r2 A5 ql c5 HST.o mI.o (by omega) (by omega) zzT.o (by rw[HAN.o];exact HN.o.2) HQL.o (by omega) hiq (fun x hx=>by have:=(jQ.o.2.2.2 x hx).1;rw[HAN.o];have:=HL.o.1;omega) HSLX.o (by have h1:=HST.o.le;have h2:=sW.o;have:=HS2.o;omega) (by have:=HJQ.o;omega));clear Wp ztJ hgd;go_wp2_with fail;refine yv.o.mono ?_;rintro e w7 ⟨rfl,zjR,hon⟩;have HST7:=Lt (Gb a kk s w7 (Vx s kk ((la:Int),r2) i p'') (4096+262144*j+4096*(i+1))) (zjR);have HB7:=Lh (HBW.o.trans (hon.below (C:=w.heap.size+2) (by have h1:=HST.o.le;have h2:=sW.o;have:=HS2.o;omega) (by rw[HAG.o];have:=HS2.o;omega) (by have:=sW.o;have:=HS2.o;omega) (by have:=sW.o;have:=HS2.o;omega)));have HK7:=Lh ((hon.block qvI (gl HKX.o) (by have h1:=zfS.o;have h2:=HAG.o;omega) (by have h1:=zfS.o;have h2:=sW.o;omega) (by have h1:=zfS.o;have h2:=sW.o;omega)).trans HKX.o);have HSL7:=Lh (HSLX.o.below (hon.below (C:=w.heap.size) (by have h1:=HST.o.le;have h2:=sW.o;have:=HS2.o;omega) (by rw[HAG.o];have:=HS2.o;omega) (by have:=sW.o;have:=HS2.o;omega) (by have:=sW.o;have:=HS2.o;omega)));clear zjR hon yv b0 b1;go_wp2;go_roundg (gk-1);exact⟨i+1,Vx s kk ((la:Int),r2) i p'',by omega,by omega,by go_num,HST7.o,HSP4.o,HFP4.o,HB7.o,HK7.o,HSL7.o⟩;omega
     have zeE:i=ql:=by omega
     have HST9:=Lh (show Gb a kk s wr (Wa s kk ((la:Int),r2) ql 0 p') (4096+262144*(j+1)) by
      have h1:=zgA.o
      rw[zeE,Nat.sub_self]at h1
      have h2:p''=Wa s kk ((la:Int),r2) ql 0 p':=h1
      rw[<-h2]
      obtain⟨f1,f2,f3,f4,f5,f6,f7,f8,f9,f10,f11⟩:=HST.o
      exact⟨f1,f2,f3.mono (by omega),f4,f5,f6,f7,f8,f9,f10,f11⟩)
     have HFP9:=Lh (show yg (Pm fol) n (Wa s kk ((la:Int),r2) ql 0 p') by
      have h1:=zgA.o
      rw[zeE,Nat.sub_self]at h1
      have h2:p''=Wa s kk ((la:Int),r2) ql 0 p':=h1
      rw[<-h2]
      exact zoD.o)
     clear zeE;go_wp2;go_roundg (lft-1);exact⟨j+1,_,by omega,by omega,by go_num,HST9.o,HSP2.o,HFP9.o,HBW.o⟩;have:=HLK.o;omega
    have HEND:=Lh (show Wi s kk g.2.2 ⟨fol,false,false⟩=p' by
     rw[<-HSP.o,show j=g.2.2.length by rw[<-HL.o.2.2];omega,List.drop_length];rfl)
    have HNX:=Lh (HHD.o.next rfl rfl HEND.o HFP.o (by
     rcases Yo p'.limit with h|h
     .exact .inr h
     left
     have:=zf p'.fol (HFP.o.small h)
     rw[HFP.o.len]at this
     exact this))
    have HG1:=Lh (zcD.o trivial trivial);clear HSP HEND;go_wp2;go_roundg (gas-1);exact⟨p',_,HST.o,HNX.o.1,fun h1 h2=>HNX.o.2 h1 h2,HBW.o⟩;have:=HGK.o;have:=HG1.o;omega
theorem qfO:Dg Tryz.prog 76 22 1 24 (.slice none 0 0):=Gh Tryz.underlying76 (by kernel_rfl) rfl (by omega)
def Og(k:Int)(g:Kd)(o:Option Jb):Prop :=
 ∃o1,Gl k g.2.2 g.1.length o1/\match o1 with
 |none=>o=none
 |some s=>∃o2,Ek s k g.2.2 g.1.length o2/\match o2 with
  |none=>o=none
  |some f=>o=My s f k g.2.2
theorem Og.det{k:Int}{g:Kd}{o o':Option Jb}(h:Og k g o)(h':Og k g o'):o=o':=by
 obtain⟨o1,h1,h2⟩:=h;obtain⟨o1',h1',h2'⟩:=h';have:=RoundsTo.det h1 h1';subst this;cases o1 with
 |none=>exact (show o=none from h2).trans (show o'=none from h2').symm
 |some s =>
  obtain⟨o2,h3,h4⟩:=h2;obtain⟨o2',h3',h4'⟩:=h2';have:=RoundsTo.det h3 h3';subst this;cases o2 with
  |none=>exact (show o=none from h4).trans (show o'=none from h4').symm
  |some f=>exact (show o=My s f k g.2.2 from h4).trans (show o'=My s f k g.2.2 from h4').symm
def yh(w':World)(o:Option Jb)(e:Ending):Prop :=
 match o with
 |none=>e=.returned (.tuple #[.slice none 0 0,.int .i64 21])
 |some s=>∃A c,e=.returned (.tuple #[.slice A s.length c,.int .i64 0])/\Je (Tw eW) w' w'.heap.size (.slice A s.length c) s
def qtU(k:Int)(g:Kd)(w:World)(e:Ending)(w':World):Prop :=
 Below w.heap.size w w'/\(Ip k g->e=.returned (.tuple #[.slice none 0 0,.int .i64 1]))/\(¬ Ip k g->∃o,Og k g o/\yh w' o e)
theorem xm{f:Jb}{k:Int}{r:Int×List Int}:My s f k (r::rs)=(Kk s f k r (-1)).bind fun x=>(My s f k rs).map (x::·):=rfl
theorem qyD{x:List Wd}(hf:bI x)(h:w.ownsRow base t 1 v x.length (Zx x)){r:Option Nat}(hr:∀b,r=some b->b<base):∀w',mo w w' w.heap.size r->(Tw eW).rep w' w.heap.size [v] x:=by
 intro w' ha;obtain⟨A,c,rfl,h1,h2⟩:=Zp h;refine⟨_,rfl,Lk hf (fun hne=>?_) h1 h2⟩;obtain⟨b,off,e,Jl,hc⟩:=Rd.of_own h hne;subst e;have hge:base<=b:=by
  rcases h.2 with ⟨hn,_⟩|⟨g,cap,cur,hv,hg,_⟩
  .injection hn with e1;cases e1
  injection hv with e1 _ _;injection e1 with e1;injection e1 with e1 _;omega
 exact⟨b,off,rfl,Jl,fun j u hu=>(ha _ Jl (fun e=>by have:=hr b e.symm;omega)).trans (hc j u hu)⟩
theorem ae{c3:Nat}{g:Kd}(k:Int)(w:World)(h:Np w w.heap.size A1 A2 A3 n m q c1 c2 c3 g) :
  Calls Tryz.prog 39 #[Rw A1 A2 A3 n m q c1 c2 c3,.int .i64 k] w (qtU k g w):=by
 have Nd:=(Xr w.heap.size w).alloc (Yb _) (.cells #[.slice A1 n c1,.slice A2 m c2,.slice A3 q c3] 25);have HV:=Lh (h.fut (B':=w.heap.size) Nd (Yb _) (Yb _));have HK:=Lh (Xn w (.cells #[.slice A1 n c1,.slice A2 m c2,.slice A3 q c3] 25));have HZ:=Lh (Xs w (.cells #[.slice A1 n c1,.slice A2 m c2,.slice A3 q c3] 25));have HBX:=Lh Nd;have HL:=Lh h.ln;have yO:=h.small;clear h Nd;go_enter Tryz.func39,Tryz.ntmps39;go_wp2_with fail;generalize w.alloc (.cells #[.slice A1 n c1,.slice A2 m c2,.slice A3 q c3] 25)=w1 at*;refine (wS k w1 (HV.o.fut (N:=w1.heap.size) (B':=w1.heap.size) (Xr _ _) (by rw[HZ.o];omega) (by rw[HZ.o];omega))).mono ?_;rintro e w2 ⟨Jd,wM,hgood⟩;have HB2:=Lh (HBX.o.trans (Jd.mono (by rw[HZ.o];omega)));have HB12:=Lt (Below (w.heap.size+1) w1 w2) (Jd.mono (Yj HZ.o.symm));have HS2:=Lh (show w.heap.size+1<=w2.heap.size by have:=Jd.size;rw[HZ.o]at this;exact this);clear Jd;by_cases mX:Ip k g
 .have:=wM mX;subst this;have Sl:=Lh mX;clear wM hgood mX;go_wp2
  go_ret2
  exact⟨HB2.o,fun _=>rfl,fun h=>absurd Sl.o h⟩
 obtain⟨o1,ju,Ls⟩:=hgood mX;have HNB:=Lh mX;have HF:=Lh ju;clear wM hgood mX ju;cases o1 with
 |none =>
  have:e=.returned (.tuple #[.slice none 0 0,.int .i64 21]):=Ls;subst this;clear Ls;go_wp2
  go_ret2
  exact⟨HB2.o,fun h=>absurd h HNB.o,fun _=>⟨none,⟨none,HF.o,rfl⟩,rfl⟩⟩
 |some s =>
  obtain⟨o2,ho2,qpP⟩:=Ls;have HO2:=Lh ho2;clear ho2;cases o2 with
  |none =>
   have:e=.returned (.tuple #[.slice none 0 0,.int .i64 21]):=qpP;subst this;clear qpP;go_wp2
   go_ret2
   exact⟨HB2.o,fun h=>absurd h HNB.o,fun _=>⟨none,⟨some s,HF.o,none,HO2.o,rfl⟩,rfl⟩⟩
  |some f =>
   obtain⟨Af,cf,rfl,hsf,hfb⟩:=qpP;obtain⟨nf,hnf⟩:=Xe f.length;rw[<-hnf]at hsf |-;have HNF:=Lh hnf;have rX:=Lh hsf;have HFB:=Lh hfb;have k2:=(HB12.o.block w.heap.size (by omega)).trans HK.o;have d0:w2.cell? ⟨w.heap.size,0,none⟩=some (.slice A1 n c1):=Xc k2 rfl;have d1:w2.cell? ⟨w.heap.size,1,none⟩=some (.slice A2 m c2):=Xc k2 rfl;have d2:w2.cell? ⟨w.heap.size,2,none⟩=some (.slice A3 q c3):=Xc k2 rfl;clear hsf hfb hnf k2;go_wp2_with fail;refine (gO k w2 ((HV.o.fut (HB12.o) (by omega) (by omega:w.heap.size<=w.heap.size)).fut (N:=w2.heap.size) (B':=w2.heap.size) (Xr _ _) (by have:=HS2.o;omega) (by have:=HS2.o;omega))).mono ?_;rintro e w3 ⟨hb3,_,hgood⟩;obtain⟨o1',qiH,Ls⟩:=hgood HNB.o;have zvJ:=RoundsTo.det HF.o qiH;subst zvJ;obtain⟨As,cs,rfl,hss,hsb⟩:=Ls;obtain⟨ns,hns⟩:=Xe s.length;rw[<-hns]at hss |-;have HSS:=Lh hss;have mI:=Lh hsb;have zyQ:=Lh (rX.o.next hb3 hb3.size);have HB3:=Lh (HB2.o.trans (hb3.mono (by have:=HS2.o;omega)));have qkV:=Lh (HB12.o.trans (hb3.mono HS2.o));have HS3:=Lh (Yd HS2.o hb3.size);have k3:=(qkV.o.block w.heap.size (by omega)).trans HK.o;have d2:w3.cell? ⟨w.heap.size,2,none⟩=some (.slice A3 q c3):=Xc k3 rfl;have gM:¬ k<1:=fun h=>HNB.o (.inl h);have y_:¬ 4<k:=fun h=>HNB.o (.inr (.inl h));have Vn:Kf g=0:=Classical.byContradiction fun h=>HNB.o (.inr (.inr h));obtain⟨kk,hkk⟩:∃kk:Nat,k=(kk:Int):=⟨k.toNat,by omega⟩;subst hkk;have me:=Lh (Ld Vn);have mf:=Lh (show nf=g.1.length by
    rw[HNF.o]
    have:=(Ek.full (by have:=me.o.2.1.n1;omega) (Gl.full me.o.2.1.well HF.o).1.sound (Gl.full me.o.2.1.well HF.o).2 HO2.o).1.len
    exact this)
   clear hgood qiH hss hsb hb3 Vn hns d0 d1 k3;go_wp2_with fail;go_loopg [33,10] q (fun left v33 v10 wr=>∃(j:Nat)(outs:Jb),j<=q/\q-j<=left/\v33=.int .i64 j/\Hid (fR (Tw eW) wr w3.heap.size 22 v10 outs)/\Hid (outs.length=j)/\Hid (My s f kk g.2.2=(My s f kk (g.2.2.drop j)).map (outs++·))/\Hid (Below w3.heap.size w3 wr));exact⟨0,[],by omega,by omega,rfl,fR.nil _ _ _,rfl,by simp[Hid],Xr _ _⟩;obtain⟨j,outs,hj,Ef,rfl,HO,HOL,HAW,HBR⟩:=hrel;obtain⟨A10,c10,rfl,qpW,zuT⟩:=HO.o.form;rw[HOL.o]at HO qpW |-;by_cases hjq:j<q
   .have Mw:j<g.2.2.length:=by rw[<-HL.o.2.2];exact hjq
    have yG:=Lh ((HV.o.rules.below (qkV.o.mono (by omega))).below (HBR.o.mono (by have:=HS3.o;omega)));obtain⟨bb,off,cs',rfl,_,iY,Ja,Zn⟩:=yG.o.get (k:=j) Mw (by decide);obtain⟨v,rfl,Mo,zQ,rE⟩:=Kn Ja;obtain⟨A5,c5,rfl,Ct,jW⟩:=Mo.form;have Vn:=Zn 0 _ rfl;have Nj:=Zn 1 _ rfl;simp only[show Vw.size=2 from rfl,Yq,<-Yy]at Vn Nj;have qtM:=Lh (show My s f kk g.2.2=((Kk s f kk g.2.2[j] (-1)).bind fun x=>(My s f kk (g.2.2.drop (j+1))).map (x::·)).map (outs++·) by rw[HAW.o,Ql Mw,xm]);have Fj:=me.o.2.1.fit _ (Qg Mw);obtain⟨r,hr⟩:=Xe (g.2.2[j]);rw[<-hr]at Vn Nj qtM Mo zQ rE Ct Fj;obtain⟨r1,r2⟩:=r;obtain⟨la,rfl⟩:∃la:Nat,r1=(la:Int):=⟨r1.toNat,by have:=Fj.1;simp only at this;omega⟩;simp only at Vn Nj Mo Ct Fj rE;obtain⟨ql,sp⟩:=Xe r2.length;rw[<-sp]at Nj Mo Ct Fj;have HSL:=Lh Mo;have qxD:ql<=64:=Fj.2.2.1;have HJQ:=Lh (show j<4096 by have:=me.o.2.1.q;have:=HL.o.2.2;omega);have HLA:=Lh (show la<nf by rw[mf.o];have:=Fj.2.1;omega);clear Zn Ja hr sp Mo Mw HAW Fj zQ rE;go_wp2_with fail;have Nd:=(Xr wr.heap.size wr).alloc (Yb _) (.cells #[.int .i64 la,.slice A5 ql c5] 63);have HOX:=Lh (HO.o.later Nd);have qkT:=Lh (HBR.o.trans (Nd.mono HBR.o.size));have HWS:=Lh (show w.heap.size<=wr.heap.size by have:=HS3.o;have:=HBR.o.size;omega);have HSLX:=Lh (HSL.o.fut Nd HWS.o (Yb _));have HZX:=Lh (Xs wr (.cells #[.int .i64 la,.slice A5 ql c5] 63));clear Nd;generalize wr.alloc (.cells #[.int .i64 la,.slice A5 ql c5] 63)=wx at*;have qaL:=xK As Af A5 cs cf c5 ql ns nf kk la 0 s f r2 wx (by omega) (by omega) (HSS.o.next (qkT.o) qkT.o.size) (zyQ.o.next qkT.o qkT.o.size) (HSLX.o.more (by rw[HZX.o];have:=HWS.o;omega)) qxD (Yg _) HLA.o (fun i x hx=>by have:=mI.o i x hx;exact⟨this.1,by omega⟩) (fun i x hx=>by have:=HFB.o i x hx;exact⟨this.1,by omega⟩);rw[show (((0:Nat):Int)-1)=(-1:Int) by rfl]at qaL;refine qaL.mono ?_;rintro e w6 ⟨hb6,he⟩;have HB6:=Lh (qkT.o.trans (hb6.mono qkT.o.size));have HO6:=Lh (HOX.o.later hb6);obtain⟨o,ho⟩:=Xe (Kk s f kk ((la:Int),r2) (-1));rw[<-ho]at he qtM;have HBO:=Lh ho;clear hb6 qaL ho;cases o with
    |none =>
     simp only at he;subst he;have HN:=Lh (show My s f kk g.2.2=none by rw[qtM.o];rfl);go_wp2
     go_ret2
     exact⟨HB3.o.trans (HB6.o.mono (by have:=HS3.o;omega)),fun h=>absurd h HNB.o,fun _=>⟨none,⟨some s,HF.o,some f,HO2.o,HN.o.symm⟩,rfl⟩⟩
    |some x =>
     simp only at he;obtain⟨v,rfl,hown⟩:=he;have HX:=Lh (oZ (by omega) HBO.o.symm);have HAW3:=Lh (show My s f kk g.2.2=(My s f kk (g.2.2.drop (j+1))).map ((outs++[x])++·) by
      rw[qtM.o]
      simp only[Option.bind_some,Option.map_map]
      congr 1
      funext y
      simp)
     have HOB:=Lh (show ∀b,(Value.slice A10 j c10).ownBlock=some b->b<wx.heap.size from fun b hb=>by
      obtain⟨css,h1,_⟩:=HOX.o
      exact (h1.lt b hb).2)
     have HES:=Lh (qyD (Hp HX.o.1) hown HOB.o);obtain⟨Ax,cx,rfl,hx5,hx6⟩:=Zp hown;obtain⟨css,qqE,zbG,zbF⟩:=HO6.o;rw[HOL.o]at qqE;have aq:=Lh qqE;have pG:=Lh zbG;have HC3:=Lh zbF;have Do:=Lt (w3.heap.size<=w6.heap.size) (HB6.o.size);obtain⟨qx,sn⟩:=Xe x.length;rw[<-sn]at HES hx5 |-;clear hown qqE zbG zbF sn qtM;go_wp2_with (at_builtin;refine Zy (m:=1) (n:=j) qfO rfl rfl rfl rfl (aq.o.alloc _) (Rd.row (B:=w6.heap.size+1) (Xn w6 _) (by omega)) rfl (fun u hu=>by simp at hu;subst hu;rfl) (by have:=HJQ.o;unfold maxLen;omega) (by have:=HJQ.o;omega) (by rw[Xs];have:=Do.o;omega) ?_);intro v' w7 ho7 Rk hv7 _;have th:=(Xr w6.heap.size w6).alloc (Yb _) (.cells #[.slice Ax qx cx] 22);have HO7:=Lt (fR (Tw eW) w7 w3.heap.size 22 v' (outs++[x])) (by
      have hO':fR (Tw eW) (w6.alloc (.cells #[.slice Ax qx cx] 22)) w3.heap.size 22 (.slice A10 j c10) outs:=HO6.o.later th
      refine fR.snoc (v:=.slice A10 j c10) (w:=w6.alloc (.cells #[.slice Ax qx cx] 22)) (css:=css) pG.o (fun i cs x hc hx w' ha=>?_) (fun w' ha=>?_) (by rw[HOL.o];exact ho7) Rk (by rw[Xs];exact hv7)
      .refine gX.more _ (HC3.o i cs x hc hx w' fun p hp hn=>?_) th.size
       rw[ha p (Ye hp th.size) hn,th.cell hp]
      refine gX.more _ (HES.o w' fun p hp hn=>?_) th.size
      rw[ha p (Ye hp th.size) hn,th.cell hp])
     have HB7:=Lh (Zr (HB6.o.alloc HB6.o.size (.cells #[.slice Ax qx cx] 22)) Rk (aq.o.alloc _) (Yb _) (by rw[Xs];have:=Do.o;omega));obtain⟨A7,c7,rfl,h71,h72⟩:=Zp ho7;have HOL7:=Lh (show (outs++[x]).length=j+1 by rw[Qe,HOL.o];rfl);clear ho7 Rk hv7 th;go_wp2;go_roundg (gk-1);exact⟨j+1,outs++[x],by omega,by omega,by go_num,HO7.o,HOL7.o,HAW3.o,HB7.o⟩;omega
   have HEND:=Lh (show My s f kk g.2.2=some outs by
    rw[HAW.o,show j=g.2.2.length by rw[<-HL.o.2.2];omega,List.drop_length]
    simp[My])
   go_wp2
   go_ret2
   refine⟨HB3.o.trans (HBR.o.mono (by have:=HS3.o;omega)),fun h=>absurd h HNB.o,fun _=>⟨some outs,⟨some s,HF.o,some f,HO2.o,HEND.o.symm⟩,A10,c10,?_,?_⟩⟩
   .rw[HOL.o];rfl
   rw[HOL.o];exact HO.o.sl
theorem Pf.congr{l:List (Wd×Value)}{L L':List Wd}(h:Pf l L N)(hm:∀x,x∈L↔x∈L'):Pf l L' N:=fun x=>by
 obtain⟨n,h1,h2,h3⟩:=h x;exact⟨n,h1,h2,by rw[h3,hm]⟩
def Rt(a b:List Wd):List Wd:=a.filter fun w=>decide (w∈b)
def zfN(w:World)(l:List Wd)(e:Ending)(w':World):Prop:=∃v,e=.returned v/\w'.ownsRow w.heap.size 9 1 v l.length (Zx l)/\Below w.heap.size w w'
theorem qgU{a b:List Wd}(h:i<a.length):Rt (a.take (i+1)) b=Rt (a.take i) b++if a[i]∈b then [a[i]]else []:=by
 unfold Rt;rw[Qc h,List.filter_append];congr 1;by_cases hb:a[i]∈b <;> simp[hb]
theorem qoK(A B:Option Addr)(ca cb:Nat)(a b:List Wd)(w:World)(ha:Je eW w w.heap.size (.slice A a.length ca) a)(hb:Je eW w w.heap.size (.slice B b.length cb) b)(la:a.length<=1048576)(lb:b.length<=1048576) :
  Calls Tryz.prog 148 #[.slice A a.length ca,.slice B b.length cb] w (zfN w (Rt a b)):=by
 have HA:=Lh ha;have HB:=Lh hb;obtain⟨na,hna⟩:∃n,n=a.length:=⟨_,rfl⟩;obtain⟨nb,hnb⟩:∃n,n=b.length:=⟨_,rfl⟩;rw[<-hna]at HA la |-;rw[<-hnb]at HB lb |-;have HNA:=Lh hna;have HNB:=Lh hnb;clear ha hb hna hnb;have su:=@run_makeMap Tryz.prog;go_enter Tryz.func148,Tryz.ntmps148;go_wp2_with fail;have HM1:=Lh (Mb.made (κ:=wv) w);have HB1:=Lh ((Xr w.heap.size w).alloc (Yb _) (.map #[] 0));have HZ1:=Lh (Xs w (.map #[] 0));generalize w.alloc (.map #[] 0)=w1 at*;clear su;go_loopg [14] nb (fun left v14 wr=>∃(i:Nat)(l:List (Wd×Value)),i<=nb/\nb-i<=left/\v14=.int .i64 i/\Hid (Mb wv wr w.heap.size l)/\Hid (Pf l (b.take i) i)/\Hid (Below w.heap.size w wr)/\Hid (wr.heap.size=w.heap.size+1));exact⟨0,[],by omega,by omega,rfl,HM1.o,Pf.nil,HB1.o,HZ1.o⟩;clear HM1 HB1 HZ1;obtain⟨i,l,hi,Ef,rfl,HM,HS,HBR,HZ⟩:=hrel;by_cases Oh:i<nb
 .have Wp:i<b.length:=by rw[<-HNB.o];exact Oh
  obtain⟨b2,o2,rfl,_,Jd,Uw⟩:=(HB.o.below HBR.o).wd Wp;have HT:=Lh (Qc Wp);obtain⟨x,hx⟩:=Xe (b[i]);rw[<-hx]at Uw HT;clear hx Wp;obtain⟨n,hn,hnN,_⟩:=HS.o x;have hlk:=HM.o.lookup Ki El x;rw[hn]at hlk;have hnb:(n:Int)<=1048576:=by omega
  have HS2:=Lh ((HS.o.put x hn hnN).congr (L':=b.take (i+1)) (fun y=>by rw[kZ,HT.o,Qh,Qi]));clear hn hnN;go_wp2_with (at_mapUpdate;refine Tj Ki rfl rfl rfl rfl rfl HM.o ?_);intro w2 qiK bP eR;have HM2:=Lh qiK;have HB2:=Lh (HBR.o.grown bP HBR.o.size (fun k hk=>by injection hk with hk;subst hk;exact Yb _));have HZ2:=Lh (eR.trans HZ.o);clear qiK bP eR hlk;go_wp2;go_roundg (gk-1);exact⟨i+1,_,by omega,by omega,by go_num,HM2.o,HS2.o,HB2.o,HZ2.o⟩;omega
 have Uh:i=nb:=by omega
 have rX:=Lh (show Pf l b i by
  have:=HS.o
  rwa [Uh,HNB.o,Qd (Yb _),<-HNB.o,<-Uh]at this)
 have HG:=Lh HM.o.lt;clear Uh HS;obtain⟨wm,hwm⟩:=Xe wr;rw[<-hwm]at HM HBR HZ HG |-;clear hwm;go_wp2_with fail;go_loopg [25,8] na (fun left v25 v8 wt=>∃(j:Nat),j<=na/\na-j<=left/\v25=.int .i64 j/\Hid (wt.ownsRow (w.heap.size+1) 9 1 v8 (Rt (a.take j) b).length (Zx (Rt (a.take j) b)))/\Hid (Below (w.heap.size+1) wm wt));exact⟨0,by omega,by omega,rfl,by simp only[List.take_zero,Rt,List.filter_nil];exact Za _ _ _ _,Xr _ _⟩;obtain⟨j,hj,zeC,rfl,HO,HBT⟩:=hrel;have HBW:=Lh (HBR.o.trans (HBT.o.mono (by omega:w.heap.size<=w.heap.size+1)));obtain⟨L,hL⟩:=Xe (Rt (a.take j) b);rw[<-hL]at HO;have HLE:=Lh (show L.length<=na by
  rw[hL]
  unfold Rt
  refine Yd (List.length_filter_le _ _) ?_
  rw[Qq]
  omega)
 have HLL:=Lh hL;obtain⟨A8,c8,rfl,mz,hl9⟩:=Zp HO.o;obtain⟨nl,Ow⟩:=Xe L.length;rw[<-Ow]at HO HLE mz |-;have kB:=Lh Ow;clear hL Ow;by_cases hja:j<na
 .have Mw:j<a.length:=by rw[<-HNA.o];exact hja
  obtain⟨b2,o2,rfl,_,Jd,Uw⟩:=(HA.o.below HBW.o).wd Mw;have HMT:=Lh (qgU (b:=b) Mw);obtain⟨x,hx⟩:=Xe (a[j]);rw[<-hx,<-HLL.o]at HMT;rw[<-hx]at Uw;clear hx Mw;obtain⟨n,hn,hnN,hn0⟩:=rX.o x;have hlk:=(HM.o.below HBT.o (by omega:w.heap.size<w.heap.size+1)).lookup Ki El x;rw[hn]at hlk;by_cases Uh:x∈b
  .have Dt:(0:Int)<(n:Int):=by
    have:n≠0:=fun e=>(hn0.1 e) Uh;omega
   have zgN:=Lh (show Rt (a.take (j+1)) b=L++[x] by rw[HMT.o,if_pos Uh]);have HWS:=Lh (show w.heap.size+1<=wr.heap.size by have:=HBT.o.size;have:=HZ.o;omega);have hle:=HLE.o;clear hn0 hn Uh;go_wp2_with (at_builtin;refine Zy (m:=1) (n:=nl) bY rfl rfl rfl rfl (HO.o.alloc _) (Rd.row (B:=wr.heap.size+1) (Xn wr _) (by omega)) rfl (fun u hu=>by simp at hu;subst hu;rfl) (by unfold maxLen;omega) (by omega) (by rw[Xs];have:=HWS.o;omega) ?_);intro v' w' ho hg _ _;have HO2:=Lh (show w'.ownsRow (w.heap.size+1) 9 1 v' (Rt (a.take (j+1)) b).length (Zx (Rt (a.take (j+1)) b)) by
    rw[zgN.o,Qe,<-kB.o]
    simp only[Zx,Qt]
    exact ho)
   have HB3:=Lh (Zr (HBT.o.alloc (by have:=HWS.o;omega) _) hg (HO.o.alloc _) (Yb _) (by rw[Xs];have:=HWS.o;omega));obtain⟨A6,c6,rfl,hl7,qpW⟩:=Zp ho;clear ho hg hlk;go_wp2;go_roundg (gk-1);exact⟨j+1,by omega,by omega,by go_num,HO2.o,HB3.o⟩;omega
  have hz:n=0:=hn0.2 Uh;subst hz;have zgN:=Lh (show Rt (a.take (j+1)) b=L by rw[HMT.o,if_neg Uh,List.append_nil]);have HO2:=Lh (show wr.ownsRow (w.heap.size+1) 9 1 (.slice A8 nl c8) (Rt (a.take (j+1)) b).length (Zx (Rt (a.take (j+1)) b)) by rw[zgN.o,<-kB.o];exact HO.o);clear hn0 hn Uh;go_wp2;go_roundg (gk-1);exact⟨j+1,by omega,by omega,by go_num,HO2.o,HBT.o⟩;omega
 have Mc:=Lh (show Rt a b=L by rw[HLL.o,Qd (by rw[<-HNA.o];omega)]);go_wp2;go_ret;refine⟨_,rfl,?_,HBW.o⟩;rw[Mc.o,<-kB.o];exact Nn HO.o (by omega)
def qtR(w:World)(o:Option Wd)(e:Ending)(w':World):Prop:=Below w.heap.size w w'/\match o with
 |none=>e=.returned (.tuple #[.string ⟨#[]⟩,.bool false])
 |some x=>e=.returned (.tuple #[wv x,.bool true])
theorem ku(a b:List Wd):Dv a b=(Rt a b).head? := rfl
theorem qbA(g:Nat)(A B:Option Addr)(ca cb:Nat)(a b:List Wd)(w:World)(h0:w.cell? ⟨g,0,none⟩=some (.slice A a.length ca))(h1:w.cell? ⟨g,1,none⟩=some (.slice B b.length cb))(ha:Je eW w w.heap.size (.slice A a.length ca) a)(hb:Je eW w w.heap.size (.slice B b.length cb) b)(la:a.length<=1048576)(lb:b.length<=1048576) :
  Calls Tryz.prog 94 #[.slice (some ⟨g,0,none⟩) 2 2] w (qtR w (Dv a b)):=by
 have HME:=Lh (qoK A B ca cb a b w ha hb la lb);rw[ku];have HLE:=Lt ((Rt a b).length<=1048576) (Yd (List.length_filter_le _ _) la);obtain⟨L,hL⟩:=Xe (Rt a b);rw[<-hL]at HME HLE |-;have hgl:=Zm w _ h0;simp only at hgl;clear hL ha hb;obtain⟨na,hna⟩:∃n,n=a.length:=⟨_,rfl⟩;obtain⟨nb,hnb⟩:∃n,n=b.length:=⟨_,rfl⟩;rw[<-hna]at HME la h0;rw[<-hnb]at HME lb h1;clear hna hnb;go_enter Tryz.func94,Tryz.ntmps94;go_wp2_with fail;go_loopg [13,4] 1 (fun left v13 v4 wr=>(v13=.int .i64 0/\v4=.slice A na ca/\wr=w/\left=1)\/(v13=.int .i64 1/\Hid (wr.ownsRow w.heap.size 9 1 v4 L.length (Zx L))/\Hid (Below w.heap.size w wr)));exact .inl ⟨rfl,rfl,rfl,rfl⟩;rcases hrel with ⟨rfl,rfl,rfl,hgk⟩|⟨rfl,HO,HB⟩
 .go_wp2_with fail;refine HME.o.mono ?_;rintro e w2 ⟨v,rfl,hown,Jd⟩;have HO:=Lh hown;have HB:=Lh Jd;obtain⟨A2,c2,rfl,_,_⟩:=Zp hown;clear hown Jd;go_wp2;go_roundg 0;exact .inr ⟨by go_num,HO.o,HB.o⟩;omega
 obtain⟨A2,c2,rfl,wJ,Hn⟩:=Zp HO.o;cases L with
 |nil =>
  go_wp2
  go_ret2
  exact⟨HB.o,rfl⟩
 |cons x L =>
  have ak:=Lh (Rd.of_own HO.o);obtain⟨b2,o2,rfl,iY,Zn⟩:=ak.o.at_ (k:=0) (by rw[Gm];simp);have zvM:wr.cell? ⟨b2,o2,none⟩=some (wv x):=by rw[Yq]at Zn;exact Zn
  have hne:(((x::L).length:Int)==0)=false:=by simp;omega
  clear Zn;obtain⟨nl,Ow⟩:=Xe ((x::L).length);have Dt:0<nl:=by rw[Ow];simp
  rw[<-Ow]at hne wJ |-;clear Ow;go_wp2
  go_ret2
  exact⟨HB.o,rfl⟩
open Go.RowKit
section
variable {P:Program} {ops:Array Oper} {I:World->Prop} {G:List Nat}
theorem qcJ(n:Nat){a:Act}(hG:(List.range' k n).all (fun i=>!G.contains i)=true)
  (h:∀Q':Exit->Act->World->Prop,(∀a w,Stop (TextI.wpS P ops I G Q (k+n) (l.drop n) a w)->Q' .normal a w)->wpList P ops Q' (l.take n) a w):Stop (TextI.wpS P ops I G Q k l a w) :=
 ⟨TextI.wpS_seg n k l a w hG fun Q' hQ'=>h Q' fun a w hh=>hQ' a w hh.o⟩
theorem qcK{o:Oper}{r:List Oper}{a:Act}
  (h:∀Q':Exit->Act->World->Prop,(∀a' w',I w'/\Stop (TextI.wpS P ops I G Q (k+1) r a' w')->Q' .normal a' w')->wpList P ops Q' [o] a w):Stop (TextI.wpS P ops I G Q k (o::r) a w) :=
 ⟨TextI.wpS_one fun Q' hQ'=>h Q' fun a w hh=>hQ' a w ⟨hh.1,hh.2.o⟩⟩
theorem qvH{a:Act}(h:Q a w):Stop (TextI.wpS P ops I G Q k [] a w):=⟨h⟩
theorem qvG{id:Nat}{Q:Exit->Act->World->Prop}{a:Act}(G LD ex:List Nat)(I:World->Prop)(hI:I w.drew)(hm:P.follows .mixedOrders=true)(hB:Text.growB P l.toArray G LD ex=true)
  (h:Stop (TextI.wpS P l.toArray I G (fun a' w'=>Text.chk l.toArray ex a'=true/\TextI.oldAll P l.toArray I a' LD/\Q .normal a' w') 0 l a w.drew)):(Code.region id l.toArray true).wp P Q a w :=
 TextI.wp_inv G LD ex I hI hm hB h.o
end
theorem rq(hu:P.underlying ty=some (.slice e))(hc:w.cell? p=some v):(Instr.loadAt ty (.pointer (some p))).run P w=.ok v w:=by
 have iZ:(isAgg ty).run P w=.ok false w:=by
  unfold isAgg;rw[Zg,run_underlying hu w];rfl
 simp[Instr.loadAt,Instr.sureAddr,loadVar,iZ,hc]
theorem qhB{k:TypeId}(hu:P.underlying ty=some (.map k e))(hc:w.cell? p=some v):(Instr.loadAt ty (.pointer (some p))).run P w=.ok v w:=by
 have iZ:(isAgg ty).run P w=.ok false w:=by
  unfold isAgg;rw[Zg,run_underlying hu w];rfl
 simp[Instr.loadAt,Instr.sureAddr,loadVar,iZ,hc]
abbrev Er(w:World)(x:Nat)(L:List Int):Prop:=w.heap[x]?=some (.cells (L.map (Value.int .i64)).toArray 3 (0,0))
def Gw(n:Nat)(f:Nat->Int):List Int:=(List.range n).map f
theorem wC(n:Nat)(f:Nat->Int):(Gw n f).length=n:=by simp[Gw]
theorem wD(h:k<n):(Gw n f)[k]?=some (f k):=by
 unfold Gw;rw[Qv,List.getElem?_range h];rfl
theorem sf{g:Nat->Int}(h:∀k<n,f k=g k):Gw n f=Gw n g:=List.map_congr_left fun k hk=>h k (Ya.1 hk)
theorem qoY:(Gw n f).set i b=Gw n (fun k=>if k=i then b else f k):=by
 apply List.ext_getElem?;intro k;by_cases hn:k<n
 .rw[wD hn,Xw,wD hn,wC];by_cases hk:i=k
  .subst hk;simp[hn]
  have:¬ k=i:=fun e=>hk e.symm;simp[hk,this]
 rw[Xg (by rw[Qm,wC];omega),Xg (by rw[wC];omega)]
theorem m_(n:Nat)(v:Int):Gw n (fun _=>v)=List.replicate n v:=by
 unfold Gw;rw[List.map_const',List.length_range]
theorem Er.at_(h:Er w x (Gw n f))(hk:k<n):w.cell? ⟨x,k,none⟩=some (.int .i64 (f k))/\w.frozen? ⟨x,k,none⟩=false:=by
 refine⟨?_,by simp[World.frozen?,h]⟩;rw[Zd w x k _ _ _ h,List.getElem?_toArray,Qv,wD hk];rfl
theorem Er.set(h:Er w x (Gw n f))(k:Nat)(b:Int):Er (w.setCell ⟨x,k,none⟩ (.int .i64 b)) x (Gw n (fun j=>if j=k then b else f j)):=by
 show _=_;rw[Ni h,<-qoY,List.map_set,List.setIfInBounds_toArray]
theorem Er.below{L:List Int}(h:Er w x L)(hb:Below w.heap.size w w'):Er w' x L:=(hb.block x (gl h)).trans h
theorem qhQ(n:Nat)(hn:n<=2199023255552)(w:World):(Instr.makeSlice 61 (.int .i64 (n:Int)) (.int .i64 (n:Int))).run Tryz.prog w=.ok (.slice (some ⟨w.heap.size,0,none⟩) n n) (w.alloc (.cells ((Gw n fun _=>0).map (Value.int .i64)).toArray 3)):=by
 rw[m_,List.map_replicate,<-dp];exact run_make_row' 61 3 (.int .i64 0) 8 Tryz.underlying61 (by kernel_rfl) rfl .i64 .i64 n (by omega) (by omega) w
theorem ld{α:Type}[DecidableEq α]{l:List (α×Value)}{k:α}(h:Nt l k=none)(v:Value):Ue l k v=l++[(k,v)]:=by
 induction l with
 |nil=>rfl
 |cons a r ih =>
  unfold Nt at h ih;rw[List.find?_cons]at h;by_cases hk:a.1=k
  .simp[hk]at h
  simp only[hk,decide_false]at h;unfold Ue;rw[if_neg hk,ih h];rfl
def Nx(W:World)(g:Nat)(S:List fE):Prop:=∃l,Mb wv W g l/\l.length=S.length/\∀t,Nt l t=if t∈S then some (.int .i64 (S.idxOf t))else none
theorem Nx.made(w:World):Nx (w.alloc (.map #[] 0)) w.heap.size []:=⟨[],Mb.made w,rfl,fun t=>by simp[Nt]⟩
theorem Nx.below{W W':World}{g:Nat}{S:List fE}(h:Nx W g S)(hb:Below W.heap.size W W'):Nx W' g S:=by
 obtain⟨l,h1,h2,h3⟩:=h;exact⟨l,h1.below hb h1.lt,h2,h3⟩
theorem Nx.setCell{W:World}{g x k:Nat}{S:List fE}(h:Nx W g S)(hx:g≠x)(v:Value):Nx (W.setCell ⟨x,k,none⟩ v) g S:=by
 obtain⟨l,h1,h2,h3⟩:=h;exact⟨l,h1.setCell hx,h2,h3⟩
theorem Nx.look(h:Nx W g S)(K:St P mt kt et wv)(hz:∀w:World,(zeroValue et).run P w=.ok (.int .i64 0) w)(t:fE) :
  (Instr.lookup mt (.map (some g)) (wv t) true).run P W=.ok (.tuple #[if t∈S then .int .i64 (S.idxOf t)else .int .i64 0,.bool (decide (t∈S))]) W /\
  (t∈S->(Instr.lookup mt (.map (some g)) (wv t) false).run P W=.ok (.int .i64 (S.idxOf t)) W):=by
 obtain⟨l,h1,h2,h3⟩:=h;constructor
 .rw[h1.lookup_ok K hz t,h3];by_cases ht:t∈S <;> simp[ht]
 intro ht;rw[h1.lookup K hz t,h3,if_pos ht];rfl
theorem Nx.len(h:Nx W g S)(K:St P mt kt et wv):(Builtin.len_ #[mt] ty #[.map (some g)]).run P W=.ok (.int .i64 S.length) W:=by
 obtain⟨l,⟨es,c,hh,he⟩,h2,h3⟩:=h;have Fb:es.size=S.length:=by
  have:=congrArg List.length he;simp at this;omega
 simp[Builtin.len_,run_underlying K.und,getObj,Sem.run,hh,Result.andThen,Fb,goInt]
theorem Nx.put(h:Nx W g S)(K:St P mt kt et wv){t:fE}(ht:t∉S) :
  ∃W',(Instr.mapUpdate mt (.map (some g)) (wv t) (.int .i64 S.length)).run P W=.ok () W'/\Nx W' g (S++[t])/\W.grownBy W' (some g)/\W'.heap.size=W.heap.size:=by
 obtain⟨l,h1,h2,h3⟩:=h;obtain⟨W1,jV,lH,Il,Gc⟩:=h1.update K t (.int .i64 S.length);refine⟨W1,jV,⟨_,lH,?_,fun u=>?_⟩,Il,Gc⟩
 .rw[ld (by rw[h3,if_neg ht]),Qe,Qe,h2];rfl
 rw[Hy,h3];by_cases hu:u=t
 .subst hu;rw[if_pos rfl,if_pos (by simp),List.idxOf_append,if_neg ht];simp
 rw[if_neg hu];by_cases hS:u∈S
 .rw[if_pos hS,if_pos (List.mem_append_left _ hS),List.idxOf_append,if_pos hS]
 rw[if_neg hS,if_neg];simp[hS,hu]
def fQ (w : World) : Prop := Lib.TabIs Tryz.prog w "internal/strconv.uint64pow10" .u64 Lib.pow10Tab
theorem fQ.below(h:fQ w)(hb:Below w.heap.size w w'):fQ w':=qfB h hb
theorem eQ(n:Int)(w:World)(h0:-9223372036854775808<=n)(h1:n<=9223372036854775807)(ht:fQ w):Calls Tryz.prog 164 #[.int .i64 n] w fun e w'=>e=.returned (wv (Lib.itoa n))/\Below w.heap.size w w':=by
 refine (Tryz.strconv_Itoa n h0 h1 w ht).mono ?_;rintro e w' ⟨rfl,k,os,rfl⟩;exact⟨rfl,qbG w k os⟩
def re(m:Kj)(use:Nat->Bool)(c:Nat->Int)(i k:Nat):Int:=if k<i then Tz m use c i k else 0
theorem qoB{m:Kj}(hu:use i=false)(k:Nat):(if k=i then -1 else re m use c i k)=re m use c (i+1) k:=by
 unfold re;by_cases hk:k=i
 .subst hk;rw[if_pos rfl,if_pos (by omega),qdE hu]
 rw[if_neg hk];by_cases Jl:k<i
 .rw[if_pos Jl,if_pos (by omega),dl Jl]
 rw[if_neg Jl,if_neg (by omega)]
theorem qdD{m:Kj}(k:Nat):(if k=i then Tz m use c (i+1) i else if k=i then -1 else re m use c i k)=re m use c (i+1) k:=by
 unfold re;by_cases hk:k=i
 .subst hk;rw[if_pos rfl,if_pos (by omega)]
 rw[if_neg hk,if_neg hk];by_cases Jl:k<i
 .rw[if_pos Jl,if_pos (by omega),dl Jl]
 rw[if_neg Jl,if_neg (by omega)]
theorem qoA(m:Kj)(use:Nat->Bool)(c:Nat->Int):re m use c 0=fun _=>0:=by
 funext k
 unfold re;rw[if_neg (by omega)]
theorem qdF(m:Kj)(use:Nat->Bool)(c:Nat->Int)(i k:Nat):-1<=Tz m use c i k/\Tz m use c i k<=i:=by
 unfold Tz;split
 .have h1:=List.idxOf_le_length (l:=Tx m use c i) (a:=Ll m use c k);have h2:=qcS m use c i;omega
 omega
structure Oa(w W:World)(g xo xn n:Nat)(c:Nat->Int)(S:List fE)(f:Nat->Int):Prop where
 map:Nx W g S
 old:Er W xo (Gw n c)
 new:Er W xn (Gw n f)
 bel:Below w.heap.size w W
 lo:w.heap.size<=g/\w.heap.size<=xo/\w.heap.size<=xn/\xo≠xn
section
variable {w W W':World} {g xo xn n:Nat} {c f:Nat->Int} {S:List fE}
theorem Oa.below(h:Oa w W g xo xn n c S f)(hb:Below W.heap.size W W'):Oa w W' g xo xn n c S f:=⟨h.map.below hb,h.old.below hb,h.new.below hb,h.bel.trans (hb.mono h.bel.size),h.lo⟩
theorem Oa.alloc(h:Oa w W g xo xn n c S f)(o:Obj):Oa w (W.alloc o) g xo xn n c S f:=h.below ((Xr _ _).alloc (Yb _) _)
theorem Oa.drew(h:Oa w W g xo xn n c S f):Oa w W.drew g xo xn n c S f:=h.below (Xr _ _).drew
theorem Nx.ne(h:Nx W g S)(hx:W.heap[x]?=some (.cells cs t fr)):g≠x:=by
 obtain⟨l,⟨es,c,hh,_⟩,_⟩:=h;rintro rfl;rw[hh]at hx;cases hx
theorem Oa.set(h:Oa w W g xo xn n c S f)(k:Nat)(b:Int):Oa w (W.setCell ⟨xn,k,none⟩ (.int .i64 b)) g xo xn n c S (fun j=>if j=k then b else f j) :=
 ⟨h.map.setCell (h.map.ne h.new) _,(Zc _ _ _ _ h.lo.2.2.2).trans h.old,h.new.set k b,h.bel.setCell h.lo.2.2.1 _,h.lo⟩
theorem Oa.put(h:Oa w W g xo xn n c S f){mt kt et:TypeId}{P:Program}(K:St P mt kt et wv){t:fE}(ht:t∉S) :
  ∃W',(Instr.mapUpdate mt (.map (some g)) (wv t) (.int .i64 S.length)).run P W=.ok () W'/\Oa w W' g xo xn n c (S++[t]) f/\W'.heap.size=W.heap.size:=by
 obtain⟨W1,jV,lH,Il,Gc⟩:=h.map.put K ht;refine⟨W1,jV,⟨lH,(Il.block xo (gl h.old) fun e=>?_).trans h.old,(Il.block xn (gl h.new) fun e=>?_).trans h.new,?_,h.lo⟩,Gc⟩
 .injection e with e;exact h.map.ne h.old e.symm
 .injection e with e;exact h.map.ne h.new e.symm
 exact h.bel.trans ((Xr _ _).grown Il h.bel.size fun k e=>by injection e with e;have:=h.lo.1;omega)
end
def zaA(m:Kj)(w:World)(n:Nat)(e:Ending)(w':World):Prop:=∃(y:Nat)(C:Nat->Int),e=.returned (.slice (some ⟨y,0,none⟩) n n)/\Er w' y (Gw n C)/\w.heap.size<=y/\Below w.heap.size w w'/\(∀k,-1<=C k/\C k<=n) /\
 ∀i<n,∀j<n,Ke m i=true->Ke m j=true->(C i=C j↔Rg m i j)
def Rl:bH Jj:=qmP qvK (uSl qvK 3)
structure Dz(w:World)(P Q gn gt:Nat)(vN vT vR:Value)(B0 B1:Nat)(ns ts:List Wd)(rs:List Jj)(css:List (List Value)):Prop where
 box:w.heap[Q]?=some (.cells #[.map (some gn),.map (some gt),vN,vT,vR] 224 (0,0))
 mn:Nx w gn ns
 mt:Nx w gt ts
 names:Ae fH 9 w B0 vN (ns.map Jp)
 terms:w.ownsRow B0 9 1 vT ts.length (ts.map wv)
 rules:w.ownsRow B0 63 2 vR rs.length css.flatten
 rrows:Vo Rl w B1 css rs
 lo:P<=gn/\P<=gt/\P<=Q/\P<=B0/\gn≠gt
 b0:B0<=w.heap.size
 b1:B1<=w.heap.size
theorem nW(h:Nx w g S):∃es c,w.heap[g]?=some (.map es c):=by
 obtain⟨l,⟨es,c,hh,_⟩,_⟩:=h;exact⟨es,c,hh⟩
theorem Jk.of_map{ts:List TypeId}(h:Nx w g S)(hg:w.grownBy w' (some g)):Jk ts w w':=by
 obtain⟨es,c,hh⟩:=nW h;refine⟨hg.size,fun k cur t _ hk=>(hg.block k (gl hk) fun e=>?_).trans hk⟩;injection e with e;subst e;rw[hh]at hk;cases hk
theorem Nx.other{g':Nat}(h:Nx w g S)(hg:w.grownBy w' (some g'))(hne:g≠g'):Nx w' g S:=by
 obtain⟨l,h1,h2⟩:=h;exact⟨l,h1.grown hg (fun e=>hne (by injection e)),h2⟩
theorem Nx.row{size:Nat}{xs:List Value}(h:Nx w g S)(ho:w.ownsRow base e size v n xs)(hg:w.grownBy w' v.ownBlock):Nx w' g S:=by
 obtain⟨es,c,hh⟩:=nW h;obtain⟨l,h1,h2⟩:=h;refine⟨l,h1.grown hg (fun e=>?_),h2⟩;rcases ho.2 with ⟨rfl,_⟩|⟨g',cap,cur,rfl,hb,hr,_⟩
 .simp[Value.ownBlock]at e
 have:g=g':=by simpa[Value.ownBlock]using e
 subst this;rw[hh]at hr;cases hr
theorem Nx.cell(h:Nx w g S)(hx:w.heap[x]?=some (.cells cs t (0,0)))(v:Value):Nx (w.setCell ⟨x,k,none⟩ v) g S:=by
 refine h.setCell (fun e=>?_) v;subst e;obtain⟨es,c,hh⟩:=nW h;rw[hh]at hx;cases hx
section
variable {w w':World} {P Q gn gt:Nat} {vN vT vR:Value} {B0 B1:Nat} {ns ts:List Wd} {rs:List Jj} {css:List (List Value)}
theorem Dz.below(h:Dz w P Q gn gt vN vT vR B0 B1 ns ts rs css)(hb:Below w.heap.size w w'):Dz w' P Q gn gt vN vT vR B0 B1 ns ts rs css :=
 ⟨(hb.block Q (gl h.box)).trans h.box,h.mn.below hb,h.mt.below hb,h.names.keep (.of_below hb),Jc h.terms hb,Jc h.rules hb,h.rrows.below hb,h.lo,Yd h.b0 hb.size,Yd h.b1 hb.size⟩
theorem Dz.drew(h:Dz w P Q gn gt vN vT vR B0 B1 ns ts rs css):Dz w.drew P Q gn gt vN vT vR B0 B1 ns ts rs css:=h.below ((Xr _ _).drew)
end
structure qbT(w:World)(P Q gn gt:Nat)(vN vT vR:Value)(B0 B1:Nat)(ns ts:List Wd)(T:Wd)(rs:List Jj)(css:List (List Value)):Prop where
 box:w.heap[Q]?=some (.cells #[.map (some gn),.map (some gt),vN,vT,vR] 224 (0,0))
 mn:Nx w gn ns
 mt:Nx w gt (ts++[T])
 names:Ae fH 9 w B0 vN (ns.map Jp)
 terms:w.ownsRow B0 9 1 vT ts.length (ts.map wv)
 rules:w.ownsRow B0 63 2 vR rs.length css.flatten
 rrows:Vo Rl w B1 css rs
 lo:P<=gn/\P<=gt/\P<=Q/\P<=B0/\gn≠gt
 b0:B0<=w.heap.size
 b1:B1<=w.heap.size
section
variable {w w':World} {P Q gn gt:Nat} {vN vT bO vR:Value} {B0 B1:Nat} {ns ts:List Wd} {T:Wd} {rs:List Jj} {css:List (List Value)}
theorem qbT.below(h:qbT w P Q gn gt vN vT vR B0 B1 ns ts T rs css)(hb:Below w.heap.size w w'):qbT w' P Q gn gt vN vT vR B0 B1 ns ts T rs css :=
 ⟨(hb.block Q (gl h.box)).trans h.box,h.mn.below hb,h.mt.below hb,h.names.keep (.of_below hb),Jc h.terms hb,Jc h.rules hb,h.rrows.below hb,h.lo,Yd h.b0 hb.size,Yd h.b1 hb.size⟩
theorem Dz.half(h:Dz w P Q gn gt vN vT vR B0 B1 ns ts rs css)(hm:Nx w' gt (ts++[T]))(hg:w.grownBy w' (some gt)):qbT w' P Q gn gt vN vT vR B0 B1 ns ts T rs css:=by
 have hk:∀us,Jk us w w':=fun us=>Jk.of_map h.mt hg;exact⟨(hk [224]).2 Q _ _ (by simp) h.box,h.mn.other hg h.lo.2.2.2.2,hm,h.names.keep (.of_keepT (hk _)),Kg h.terms (hk [9]) (by simp),Kg h.rules (hk [63]) (by simp),h.rrows.keep (.of_keepT (hk _)),h.lo,Yd h.b0 hg.size,Yd h.b1 hg.size⟩
theorem qbT.whole(h:qbT w P Q gn gt vN vT vR B0 B1 ns ts T rs css)(ho:w'.ownsRow B0 9 1 bO (ts.length+1) (ts.map wv++[wv T]))(hg:w.grownBy w' vT.ownBlock):Dz (w'.setCell ⟨Q,3,none⟩ bO) P Q gn gt vN bO vR B0 B1 ns (ts++[T]) rs css:=by
 have Wo:=Zs h.terms hg h.box (by decide);have hb:=Kq (k:=3) Wo bO;have hQ0:bO.ownBlock≠some Q:=by
  rcases ho.2 with ⟨rfl,_⟩|⟨g',cap,cur,rfl,_,hr,_⟩
  .simp[Value.ownBlock]
  intro e;have e:g'=Q:=by simpa[Value.ownBlock]using e
  subst e;rw[Wo]at hr;injection hr with hr;injection hr with _ hr;exact absurd hr (by decide)
 have hR:=Vy h.rules h.terms (by decide) hg;have hQ1:vR.ownBlock≠some Q:=by
  rcases hR.2 with ⟨rfl,_⟩|⟨g',cap,cur,rfl,_,hr,_⟩
  .simp[Value.ownBlock]
  intro e;have e:g'=Q:=by simpa[Value.ownBlock]using e
  subst e;rw[Wo]at hr;injection hr with hr;injection hr with _ hr;exact absurd hr (by decide)
 refine⟨hb,(h.mn.row h.terms hg).cell Wo bO,(h.mt.row h.terms hg).cell Wo bO,(h.names.keep (.of_grown h.terms hg (Yb _))).keep (.of_setT Wo (by decide) bO),?_,ownsRow_setCell_other hR hQ1 bO,((h.rrows.keep (.of_keepT (Jk.of_grown h.terms hg (by decide)))).keep (.of_setT Wo (by decide) bO)),h.lo,by rw[Zb];exact Yd h.b0 hg.size,by rw[Zb];exact Yd h.b1 hg.size⟩;have:=ownsRow_setCell_other ho (a:=⟨Q,3,none⟩) hQ0 bO;rw[Qt,Qe,Qf];exact this
end
def xT(w:World)(P Q gn gt:Nat)(vN vR:Value)(B0 B1:Nat)(ns ts:List Wd)(rs:List Jj)(css:List (List Value))(it:Wf)(e:Ending)(w':World):Prop :=
 (Ok ns ts it=none/\e=.returned (.tuple #[.int .i64 0,.bool false])/\Below P w w') \/
 ∃s ts' bO,Ok ns ts it=some (s,ts')/\e=.returned (.tuple #[.int .i64 s,.bool true])/\Dz w' P Q gn gt vN bO vR B0 B1 ns ts' rs css/\Below P w w'/\Jk [3,63,277] w w'
theorem kG:Dg Tryz.prog 22 9 1 16 (.string ⟨#[]⟩):=Gh (by kernel_rfl) (by kernel_rfl) rfl (by omega)
theorem qfN{T:Wd}:Ok ns ts (false,Jp T)=if T∈ns then some ((ns.idxOf T:Int),ts)else none:=rfl
theorem qfM{T:Wd}:Ok ns ts (true,Jp T)=if T∈ts then some (-1-(ts.idxOf T:Int),ts)else some (-1-(ts.length:Int),ts++[T]):=rfl
theorem xT.ok{P Q gn gt:Nat}{vN bO vR:Value}{B0 B1:Nat}{ts':List Wd}{rs:List Jj}{css:List (List Value)}{it:Wf}{s:Int}(h:Ok ns ts it=some (s,ts'))(hm:Dz w' P Q gn gt vN bO vR B0 B1 ns ts' rs css)(hb:Below P w w')(hk:Jk [3,63,277] w w') :
  xT w P Q gn gt vN vR B0 B1 ns ts rs css it (.returned (.tuple #[.int .i64 s,.bool true])) w':=.inr ⟨s,ts',bO,h,rfl,hm,hb,hk⟩
theorem Mh{a b c d e:Value}(h:w.heap[g]?=some (.cells #[a,b,c,d,e] t fr)):w.cell? ⟨g,0,none⟩=some a/\w.cell? ⟨g,1,none⟩=some b/\w.cell? ⟨g,2,none⟩=some c/\w.cell? ⟨g,3,none⟩=some d/\w.cell? ⟨g,4,none⟩=some e:=by
 refine⟨?_,?_,?_,?_,?_⟩ <;> (rw[Zd _ _ _ _ _ _ h];rfl)
theorem Kx{a b:Value}(h:w.heap[g]?=some (.cells #[a,b] t fr)):w.cell? ⟨g,0,none⟩=some a/\w.cell? ⟨g,1,none⟩=some b:=by
 refine⟨?_,?_⟩ <;> (rw[Zd _ _ _ _ _ _ h];rfl)
theorem zi(bo:Bool)(T:Wd)(w:World)(P Q gn gt:Nat)(vN vT vR:Value)(B0 B1:Nat)(ns ts:List Wd)(rs:List Jj)(css:List (List Value))(h:Dz w P Q gn gt vN vT vR B0 B1 ns ts rs css)(hts:ts.length<=1048576) :
  Calls Tryz.prog 240 #[.pointer (some ⟨Q,0,none⟩),.agg #[.bool bo,.string (Jp T)]] w (xT w P Q gn gt vN vR B0 B1 ns ts rs css (bo,Jp T)):=by
 have hQw:=(gl h.box);have hPQ:=h.lo.2.2.1;have Bf:Below w.heap.size w (w.alloc (.cells #[.bool bo,.string (Jp T)] 277)):=(Xr _ _).alloc (Yb _) _;have HM:=Lh (h.below Bf);have HB:=Lh (Bf.mono (show P<=w.heap.size by omega));have HK:=Lh (Jk.of_below (ts:=[3,63,277]) Bf);have HI:=Lh (Xn w (.cells #[.bool bo,.string (Jp T)] 277));obtain⟨K0,lN⟩:=Xe w.heap.size;rw[<-lN]at HI;obtain⟨AT,cT,hvT,hT1,hT2⟩:=Zp h.terms;subst hvT;unfold maxLen at hT2;have zlC:=List.idxOf_le_length (l:=ns) (a:=T);have zaY:=List.idxOf_le_length (l:=ts) (a:=T);obtain⟨m,hm⟩:=Xe ts.length;rw[<-hm]at hts hT1 zaY;have aF:=Lh hm;clear h Bf hPQ hm hQw;cases bo with
 |false =>
  have HSY:=Lh (qfN (ns:=ns) (ts:=ts) (T:=T));go_enter Tryz.func240,Tryz.ntmps240;go_wp2_with fail;rw[<-lN];clear lN;generalize w.alloc (.cells #[.bool false,.string (Jp T)] 277)=w1 at*;obtain⟨q0,q1,q2,q3,q4⟩:=Mh HM.o.box;obtain⟨k0,k1⟩:=Kx HI.o;go_wp2_with fail;have gU:=Lh HM.o.drew;have HBD:=Lh HB.o.drew;have bU:=Lh (HK.o.trans (Jk.of_below ((Xr w1.heap.size w1).drew)));have hq0:w1.drew.cell? ⟨Q,0,none⟩=some (.map (some gn)):=q0;have gM:w1.drew.cell? ⟨K0,1,none⟩=some (.string (Jp T)):=k1;have Vd:=(gU.o.mn.look Ki kC T).1;refine Text.wt (by kernel_rfl) fun Q' hQ'=>?_;clear q0 q1 q2 q3 q4 k0 k1;generalize w1.drew=wd at*;by_cases Uh:T∈ns
  .have wJ:(Instr.lookup 147 (.map (some gn)) (.string (Jp T)) true).run Tryz.prog wd=.ok (.tuple #[.int .i64 (ns.idxOf T),.bool true]) wd:=by
    have sw:=Vd;rw[if_pos Uh,Yw Uh]at sw;exact sw
   have HR:=Lh (HSY.o.trans (if_pos Uh));clear Vd Uh;generalize ns.idxOf T=ix at*;go_wp2;refine⟨by rfl,?_⟩;go_wp2_with fail;refine Zh (results_tmp2 rfl _ _ _) rfl ?_;exact xT.ok HR.o gU.o HBD.o bU.o
  have wJ:(Instr.lookup 147 (.map (some gn)) (.string (Jp T)) true).run Tryz.prog wd=.ok (.tuple #[.int .i64 0,.bool false]) wd:=by
   have sw:=Vd;rw[if_neg Uh,Yx Uh]at sw;exact sw
  have HR:=Lh (HSY.o.trans (if_neg Uh));clear Vd Uh;go_wp2;refine⟨by rfl,?_⟩;go_wp2_with fail;refine Zh (results_tmp2 rfl _ _ _) rfl ?_;exact .inl ⟨HR.o,rfl,HBD.o⟩
 |true =>
  have HSY:=Lh (qfM (ns:=ns) (ts:=ts) (T:=T));go_enter Tryz.func240,Tryz.ntmps240;go_wp2_with fail;rw[<-lN];clear lN;generalize w.alloc (.cells #[.bool true,.string (Jp T)] 277)=w1 at*;obtain⟨q0,q1,q2,q3,q4⟩:=Mh HM.o.box;obtain⟨k0,k1⟩:=Kx HI.o;go_wp2_with fail;have gU:=Lh HM.o.drew;have HBD:=Lh HB.o.drew;have bU:=Lh (HK.o.trans (Jk.of_below ((Xr w1.heap.size w1).drew)));have HID:=Lt (w1.drew.heap[K0]?=some (.cells #[.bool true,.string (Jp T)] 277 (0,0))) (HI.o);have hq1:w1.drew.cell? ⟨Q,1,none⟩=some (.map (some gt)):=q1;have gM:w1.drew.cell? ⟨K0,1,none⟩=some (.string (Jp T)):=k1;have Vd:=(gU.o.mt.look Ki kC T).1;refine Text.wt (by kernel_rfl) fun Q' hQ'=>?_;clear q0 q1 q2 q3 q4 k0 k1;generalize w1.drew=wd at*;by_cases Uh:T∈ts
  .have wJ:(Instr.lookup 147 (.map (some gt)) (.string (Jp T)) true).run Tryz.prog wd=.ok (.tuple #[.int .i64 (ts.idxOf T),.bool true]) wd:=by
    have sw:=Vd;rw[if_pos Uh,Yw Uh]at sw;exact sw
   have HR:=Lh (HSY.o.trans (if_pos Uh));clear Vd Uh;generalize ts.idxOf T=ix at*;go_wp2;refine⟨by rfl,?_⟩;go_wp2_with fail;refine Zh (results_tmp2 rfl _ _ _) rfl ?_;exact xT.ok HR.o gU.o HBD.o bU.o
  have wJ:(Instr.lookup 147 (.map (some gt)) (.string (Jp T)) true).run Tryz.prog wd=.ok (.tuple #[.int .i64 0,.bool false]) wd:=by
   have sw:=Vd;rw[if_neg Uh,Yx Uh]at sw;exact sw
  have HR:=Lh (HSY.o.trans (if_neg Uh));have hq3:wd.cell? ⟨Q,3,none⟩=some (.slice AT m cT):=by rw[aF.o];exact (Mh gU.o.box).2.2.2.1
  go_wp2;refine⟨by rfl,?_⟩;go_wp2_with fail;have qcC:=Lh gU.o.drew;obtain⟨W',qiF,hmn,Ox,Fb⟩:=qcC.o.mt.put Ki Uh;have HMH:=Lh (Dz.half qcC.o hmn Ox);have HBH:=Lh (HBD.o.drew.grown Ox (by have:=qcC.o.b0;have:=qcC.o.lo;omega) (fun k hk=>by injection hk with hk;have:=qcC.o.lo;omega));have HKH:=Lh ((bU.o.trans (Jk.of_below ((Xr wd.heap.size wd).drew))).trans (Jk.of_map qcC.o.mt Ox));have HIH:=Lh ((Jk.of_map (ts:=[277]) qcC.o.mt Ox).2 K0 _ _ (by simp) (show wd.drew.heap[K0]?=_ from HID.o));have jV:(Instr.mapUpdate 147 (.map (some gt)) (.string (Jp T)) (.int .i64 m)).run Tryz.prog wd.drew=.ok () W':=by rw[aF.o];exact qiF
  have ztU:wd.drew.cell? ⟨Q,1,none⟩=some (.map (some gt)):=hq1;have zuV:wd.drew.cell? ⟨K0,1,none⟩=some (.string (Jp T)):=gM;clear Vd Uh qiF hmn Ox Fb wJ hq1 gM hq3 gU HBD bU HID;refine Text.wt (by kernel_rfl) fun Q' hQ'=>?_;generalize wd.drew=we at*;go_wp2;refine⟨by rfl,?_⟩;clear jV ztU zuV;have gW:=Lt (∀W:World,W.heap[Q]?=some (.cells #[.map (some gn),.map (some gt),vN,.slice AT ts.length cT,vR] 224 (0,0))->W.heap[K0]?=some (.cells #[.bool true,.string (Jp T)] 277 (0,0))->W.cell? ⟨Q,3,none⟩=some (.slice AT m cT)/\W.cell? ⟨K0,1,none⟩=some (.string (Jp T))) (fun W h1 h2=>⟨by rw[aF.o];exact (Mh h1).2.2.2.1,(Kx h2).2⟩);go_wp2_with fail;have Ul:=Lh (gW.o W'.drew HMH.o.box HIH.o);refine Ny (fun w'=>w'.cell? ⟨Q,3,none⟩=some (.slice AT m cT)/\w'.cell? ⟨K0,1,none⟩=some (.string (Jp T))) [10] 14 (by kernel_rfl) rfl ?_;have HM2:=Lh (HMH.o.below ((Xr W'.heap.size W').drew));have HB2:=Lh (HBH.o.drew);have HK2:=Lh (HKH.o.trans (Jk.of_below ((Xr W'.heap.size W').drew)));have HI2:=Lt (W'.drew.heap[K0]?=some (.cells #[.bool true,.string (Jp T)] 277 (0,0))) (HIH.o);clear HMH HBH HKH HIH;generalize W'.drew=w2 at*;refine Rh 0 (.pointer (some ⟨Q,0,none⟩)) rfl (by kernel_rfl) rfl (fun wq=>by go_simp) Ul.o ?_;(conv in Act.put _ _ _=>simp[Act.put]);refine Rh 1 (.pointer (some ⟨Q,0,none⟩)) rfl (by kernel_rfl) rfl (fun wq=>by go_simp) Ul.o ?_;(conv in Act.put _ _ _=>simp[Act.put]);refine Rh 2 (.pointer (some ⟨Q,0,none⟩)) rfl (by kernel_rfl) rfl (fun wq=>by go_simp) Ul.o ?_;(conv in Act.put _ _ _=>simp[Act.put]);refine Rh 3 (.pointer (some ⟨Q,2,none⟩)) rfl (by kernel_rfl) rfl (fun wq=>by go_simp) Ul.o ?_;(conv in Act.put _ _ _=>simp[Act.put]);refine Rh 4 (.pointer (some ⟨Q,3,none⟩)) rfl (by kernel_rfl) rfl (fun wq=>by go_simp) Ul.o ?_;(conv in Act.put _ _ _=>simp[Act.put]);refine jT 5 (.slice AT m cT) rfl (by kernel_rfl) rfl (fun wq Ri=>Kc rfl rfl (Vs (e:=9) (by kernel_rfl) Ri.1)) Ul.o ?_;(conv in Act.put _ _ _=>simp[Act.put]);refine Rh 6 (.pointer (some ⟨K0,1,none⟩)) rfl (by kernel_rfl) rfl (fun wq=>by go_simp) Ul.o ?_;(conv in Act.put _ _ _=>simp[Act.put]);refine jT 7 (.string (Jp T)) rfl (by kernel_rfl) rfl (fun wq Ri=>Kc rfl rfl (Bx (by kernel_rfl) Ri.2)) Ul.o ?_;(conv in Act.put _ _ _=>simp[Act.put]);have HB3:=Lh ((Xr w2.heap.size w2).alloc (Yb _) (.cells #[.string (Jp T)] 9));have Ea:=Lh (Xn w2 (.cells #[.string (Jp T)] 9));have rV:=Lt (w2.heap.size+1=(w2.alloc (.cells #[.string (Jp T)] 9)).heap.size) ((Xs _ _).symm);refine Jf (i:=8) (by kernel_rfl) rfl (fun Q' hQ'=>?_);go_wp2_with fail;generalize w2.alloc (.cells #[.string (Jp T)] 9)=w3 at*;have HM3:=Lh (HM2.o.below HB3.o);have HI3:=Lh ((HB3.o.block K0 (gl HI2.o)).trans HI2.o);have fS:=Lh (HB2.o.trans (HB3.o.mono (by have:=HM2.o.b0;have:=HM2.o.lo;omega)));have nA:=Lh (HK2.o.trans (Jk.of_below HB3.o));refine⟨iP (gW.o w3 HM3.o.box HI3.o),?_⟩;have Tt:=HM3.o.terms;rw[<-aF.o]at Tt;refine Jf (i:=9) (by kernel_rfl) rfl (fun Q' hQ'=>?_);refine Zy (m:=1) kG rfl rfl rfl rfl Tt (Rd.row (B:=w3.heap.size) Ea.o (by rw[<-rV.o];exact Yf _)) rfl (by simp[Value.oneCell']) (by simp only[maxLen];omega) (by omega) HM3.o.b0 ?_;intro bO Iq hown hg _ _;obtain⟨A8,c8,dC,_,_⟩:=Zp hown;subst dC;have Od:=Lh (qbT.whole HM3.o (by rw[<-aF.o];exact hown) (by rw[<-aF.o];exact hg));have Ig:=Lh (Zs Tt hg HM3.o.box (by decide));have HI4:=Lh (Zs Tt hg HI3.o (by decide));have HB4:=Lh (Zr fS.o hg Tt HM3.o.lo.2.2.2.1 (by have:=HM3.o.b0;have:=HM3.o.lo;omega));have HK4:=Lh (nA.o.trans (Jk.of_grown Tt hg (by decide)));clear hown hg Tt;(conv in Act.put _ _ _=>simp[Act.put]);refine hQ' _ _ ⟨iP (gW.o Iq Ig.o HI4.o),?_⟩;have q3:=(Mh Ig.o).2.2.2.1;have f3:Iq.frozen? ⟨Q,3,none⟩=false:=by simp[World.frozen?,Ig.o]
  refine Jf (i:=10) (by kernel_rfl) rfl (fun Q' hQ'=>?_);go_wp2_with fail;refine⟨Km (by kernel_rfl),?_⟩;refine Jf (i:=11) (by kernel_rfl) rfl (fun Q' hQ'=>?_);go_wp2_with fail;refine⟨Km (by kernel_rfl),?_⟩;refine Jf (i:=12) (by kernel_rfl) rfl (fun Q' hQ'=>?_);go_wp2_with fail;refine⟨Km (by kernel_rfl),?_⟩;refine Jf (i:=13) (by kernel_rfl) rfl (fun Q' hQ'=>?_);go_wp2_with fail;refine⟨Km (by kernel_rfl),?_⟩;refine Gi (by kernel_rfl) ?_ _;go_wp2_with fail;refine Zh (results_tmp2 rfl _ _ _) rfl ?_;rw[<-aF.o]at HR;exact xT.ok HR.o Od.o (HB4.o.setCell (p:=⟨Q,3,none⟩) HM3.o.lo.2.2.1 _) (HK4.o.trans (Vt (k:=3) Ig.o (by decide) _))
def Bb(a b:Int):Int:=Lib.compareInt (Fa a) (Fa b)
theorem Pb(a b c d:Int)(h:a<b↔c<d)(k:b<a↔d<c):Lib.compareInt a b=Lib.compareInt c d:=by
 unfold Lib.compareInt;by_cases h1:a<b
 .rw[if_pos h1,if_pos (h.1 h1)]
 rw[if_neg h1,if_neg (fun e=>h1 (h.2 e))];by_cases h2:b<a
 .rw[if_pos h2,if_pos (k.1 h2)]
 rw[if_neg h2,if_neg (fun e=>h2 (k.2 e))]
theorem qwG(ha:a<0)(hb:b<0):Bb a b=Lib.compareInt b a:=by
 unfold Bb Fa;rw[if_pos ha,if_pos hb];exact Pb _ _ _ _ (by omega) (by omega)
theorem qwH(ha:a<0)(hb:¬ b<0)(h:-1000<=a):Bb a b=-1:=by
 unfold Bb Fa Lib.compareInt;rw[if_pos ha,if_neg hb,if_pos (by omega)]
theorem qwI(ha:¬ a<0)(hb:b<0)(h:-1000<=b):Bb a b=1:=by
 unfold Bb Fa Lib.compareInt;rw[if_neg ha,if_pos hb,if_neg (by omega),if_pos (by omega)]
theorem qwJ(ha:¬ a<0)(hb:¬ b<0):Bb a b=Lib.compareInt a b:=by
 unfold Bb Fa;rw[if_neg ha,if_neg hb];exact Pb _ _ _ _ (by omega) (by omega)
theorem J_(a b:Int)(w:World)(ha:-1000<=a)(hb:-1000<=b):Calls Tryz.prog 83 #[.int .i64 a,.int .i64 b] w fun e w'=>e=.returned (.int .i64 (Bb a b))/\w=w':=by
 by_cases h1:a<0
 .have d1:decide (a<0)=true:=by simpa using h1
  by_cases h2:b<0
  .have d2:decide (b<0)=true:=by simpa using h2
   have HO:=Lh (qwG h1 h2);clear h1 h2;go_enter Tryz.func83,Tryz.ntmps83;go_wp2_with fail;refine (Ji _ _).mono ?_;rintro e w' ⟨rfl,rfl⟩;go_wp2_with fail;refine (Ji _ _).mono ?_;rintro e w' ⟨rfl,rfl⟩;go_wp2_with fail;refine (Tryz.cmp_Compare_int _ _ _).mono ?_;rintro e w' ⟨rfl,rfl⟩;go_wp2;go_ret;exact⟨Kw (Gn HO.o.symm),rfl⟩
  have d2:decide (b<0)=false:=by simpa using h2
  have HO:=Lh (qwH h1 h2 ha);clear h1 h2;go_enter Tryz.func83,Tryz.ntmps83;go_wp2_with fail;refine (Ji _ _).mono ?_;rintro e w' ⟨rfl,rfl⟩;go_wp2_with fail;refine (Ji _ _).mono ?_;rintro e w' ⟨rfl,rfl⟩;go_wp2_with fail;refine (Ji _ _).mono ?_;rintro e w' ⟨rfl,rfl⟩;go_wp2;go_ret;exact⟨Kw (Gn HO.o.symm),rfl⟩
 have d1:decide (a<0)=false:=by simpa using h1
 by_cases h2:b<0
 .have d2:decide (b<0)=true:=by simpa using h2
  have HO:=Lh (qwI h1 h2 hb);clear h1 h2;go_enter Tryz.func83,Tryz.ntmps83;go_wp2_with fail;refine (Ji _ _).mono ?_;rintro e w' ⟨rfl,rfl⟩;go_wp2_with fail;refine (Ji _ _).mono ?_;rintro e w' ⟨rfl,rfl⟩;go_wp2_with fail;refine (Ji _ _).mono ?_;rintro e w' ⟨rfl,rfl⟩;go_wp2;go_ret;exact⟨Kw (Gn HO.o.symm),rfl⟩
 have d2:decide (b<0)=false:=by simpa using h2
 have HO:=Lh (qwJ h1 h2);clear h1 h2;go_enter Tryz.func83,Tryz.ntmps83;go_wp2_with fail;refine (Ji _ _).mono ?_;rintro e w' ⟨rfl,rfl⟩;go_wp2_with fail;refine (Ji _ _).mono ?_;rintro e w' ⟨rfl,rfl⟩;go_wp2_with fail;refine (Ji _ _).mono ?_;rintro e w' ⟨rfl,rfl⟩;go_wp2_with fail;refine (Tryz.cmp_Compare_int _ _ _).mono ?_;rintro e w' ⟨rfl,rfl⟩;go_wp2;go_ret;exact⟨Kw (Gn HO.o.symm),rfl⟩
def Oq:List Int->List Int->Int
 |[],[]=>0
 |[],_::_=>-1
 |_::_,[]=>1
 |a::x,b::y=>if Bb a b=0 then Oq x y else Bb a b
theorem db(a b:Int):Bb a b=0↔Fa a=Fa b:=by
 unfold Bb Lib.compareInt;split
 .omega
 split <;> omega
theorem qwK(a b:Int):Bb a b<0↔Fa a<Fa b:=by
 unfold Bb Lib.compareInt;split
 .omega
 split <;> omega
theorem qcY:∀x y:List Int,Oq x y<0↔Va x y
 |[],[]=>by simp[Oq,Va]
 |[],_::_=>by simp[Oq,Va]
 |_::_,[]=>by simp[Oq,Va]
 |a::x,b::y=>by
  unfold Oq Va;rw[List.map_cons,List.map_cons,List.cons_lt_cons_iff];by_cases h:Bb a b=0
  .rw[if_pos h];have h2:=(db a b).1 h;rw[qcY x y];unfold Va;simp[h2]
  rw[if_neg h,qwK];have:Fa a≠Fa b:=fun e=>h ((db a b).2 e);simp[this]
def vK(a b:Jj):Int:=if a.1=b.1 then Oq a.2 b.2 else Lib.compareInt a.1 b.1
theorem qwF(a b:Jj):vK a b<0↔Kt a b:=by
 unfold vK Kt;by_cases h:a.1=b.1
 .rw[if_pos h,qcY];constructor
  .exact fun h2=>.inr ⟨h,h2⟩
  rintro (h2|⟨_,h2⟩)
  .omega
  exact h2
 rw[if_neg h];unfold Lib.compareInt;constructor
 .intro h2;split at h2
  .exact .inl (by assumption)
  split at h2 <;> omega
 rintro (h2|⟨h2,_⟩)
 .rw[if_pos h2];omega
 exact absurd h2 h
theorem qgO{x:List Int}(h:Bb a b=0):Oq (a::x) (b::y)=Oq x y:=by
 show (if Bb a b=0 then _ else _)=_
 rw[if_pos h]
theorem qgN{x:List Int}(h:Bb a b≠0):Oq (a::x) (b::y)=Bb a b:=by
 show (if Bb a b=0 then _ else _)=_
 rw[if_neg h]
theorem qrM(v1 v2:Value)(x y:List Int)(M:Nat)(w:World)(h1:Je Wg w M v1 x)(h2:Je Wg w M v2 y)(hx:∀a∈x,(-1000:Int)<=a)(hy:∀a∈y,(-1000:Int)<=a) :
  Calls Tryz.prog 82 #[v1,v2,.func (.func 83) #[] #[]] w fun e w'=>e=.returned (.int .i64 (Oq x y))/\w=w':=by
 obtain⟨A1,c1,rfl,jZ,mY⟩:=h1.form;obtain⟨A2,c2,rfl,hb1,Jd⟩:=h2.form;unfold maxLen at mY Jd;have H1:=Lh h1;have H2:=Lh h2;have HX:=Lh hx;have HY:=Lh hy;clear h1 h2 hx hy;obtain⟨n,hn⟩:=Xe x.length;obtain⟨m,hm⟩:=Xe y.length;rw[<-hn]at H1 jZ |-;rw[<-hm]at H2 hb1 |-;have HN:=Lh hn;have HM:=Lh hm;clear hn hm;go_enter Tryz.func82,Tryz.ntmps82;go_wp2_with fail;go_loopw [13] (fun v13 wr=>∃i:Nat,i<=n/\i<=m/\v13=.int .i64 i/\Hid (Oq x y=Oq (x.drop i) (y.drop i))/\wr=w) (fun v13 _=>n-(intOf v13).toNat);exact⟨0,by omega,by omega,rfl,by simp[Hid],rfl⟩;obtain⟨i,hi,sy,rfl,HE,rfl⟩:=hrel;by_cases Uh:i<n
 .have Gj:i<x.length:=by rw[<-HN.o];exact Uh
  obtain⟨b1,o1,cs1,rfl,_,_,Ev,Kr⟩:=H1.o.get Gj (by decide);obtain⟨rfl,Lr,dB⟩:=Ev;have Nj:=Kr 0 _ rfl;clear Kr;simp only[show Wg.size=1 from rfl,Ys,Yq]at Nj;by_cases hjm:i<m
  .have Rj:i<y.length:=by rw[<-HM.o];exact hjm
   obtain⟨b2,o2,cs2,rfl,_,_,Mv,Jr⟩:=H2.o.get Rj (by decide);obtain⟨rfl,sG,wF⟩:=Mv;have Uw:=Jr 0 _ rfl;clear Jr;simp only[show Wg.size=1 from rfl,Ys,Yq]at Uw;have HDX:=Lh (Ql Gj);have HDY:=Lh (Ql Rj);have HOR:=Lh (J_ x[i] y[i] wr (HX.o _ (Qg Gj)) (HY.o _ (Qg Rj)));generalize x[i]=a at*;generalize y[i]=b at*;by_cases hz:Bb a b=0
   .have HZ:=Lh hz;have HNE:=Lh (show Oq x y=Oq (x.drop (i+1)) (y.drop (i+1)) by rw[HE.o,HDX.o,HDY.o,qgO hz]);clear hz;go_wp2_with fail;refine HOR.o.mono ?_;rintro e w1 ⟨rfl,rfl⟩;rw[HZ.o];go_wp2;go_roundw;exact⟨i+1,by omega,by omega,by go_num,HNE.o,trivial⟩;simp[intOf];omega
   have HNE:=Lh (show Oq x y=Bb a b by rw[HE.o,HDX.o,HDY.o,qgN hz]);have d0:(Bb a b != 0)=true:=by simpa using hz
   clear hz;go_wp2_with fail;refine HOR.o.mono ?_;rintro e w1 ⟨rfl,rfl⟩;go_wp2;go_ret;exact⟨Kw (Gn HNE.o.symm),rfl⟩
  have HNE:=Lh (show Oq x y=1 by
   rw[HE.o,Xm (l:=y) (by rw[<-HM.o];omega),Ql Gj]
   rfl)
  go_wp2;go_ret;exact⟨Kw (Gn HNE.o.symm),rfl⟩
 obtain rfl:i=n:=by omega
 have hdx:x.drop i=[]:=Xm (by rw[<-HN.o];exact Yb _);by_cases hjm:i<m
 .have Rj:i<y.length:=by rw[<-HM.o];exact hjm
  have HNE:=Lh (show Oq x y=-1 by
   rw[HE.o,hdx,Ql Rj]
   rfl)
  clear hdx;go_wp2;go_ret;exact⟨Kw (Gn HNE.o.symm),rfl⟩
 have HNE:=Lh (show Oq x y=0 by
  rw[HE.o,hdx,Xm (l:=y) (by rw[<-HM.o];omega)]
  rfl)
 clear hdx;go_wp2;go_ret;exact⟨Kw (Gn HNE.o.symm),rfl⟩
theorem qwR(v1 v2:Value)(l1 l2:Int)(x y:List Int)(M:Nat)(w:World)(h1:Je Wg w M v1 x)(h2:Je Wg w M v2 y)(hM:M<=w.heap.size)(hx:∀a∈x,(-1000:Int)<=a)(hy:∀a∈y,(-1000:Int)<=a) :
  Calls Tryz.prog 80 #[.agg #[.int .i64 l1,v1],.agg #[.int .i64 l2,v2]] w fun e w'=>e=.returned (.int .i64 (vK (l1,x) (l2,y)))/\Below w.heap.size w w'/\w.drawn<=w'.drawn:=by
 obtain⟨A1,c1,rfl,jZ,mY⟩:=h1.form;obtain⟨A2,c2,rfl,hb1,Jd⟩:=h2.form;have hB:Below w.heap.size w ((w.alloc (.cells #[.int .i64 l1,.slice A1 x.length c1] 63)).alloc (.cells #[.int .i64 l2,.slice A2 y.length c2] 63)):=((Xr _ _).alloc (Yb _) _).alloc (by rw[Xs];omega) _;have HB:=Lh hB;have HC:=Lh (qrM (.slice A1 x.length c1) (.slice A2 y.length c2) x y M _ (h1.below (hB.mono hM)) (h2.below (hB.mono hM)) hx hy);clear h1 h2 hx hy hB;generalize x.length=n at*;generalize y.length=m at*;by_cases h:l1=l2
 .have d0:(l1 != l2)=false:=by simp[h]
  have HO:=Lh (show vK (l1,x) (l2,y)=Oq x y by unfold vK;rw[if_pos h]);clear h;go_enter Tryz.func80,Tryz.ntmps80;go_wp2_with fail;refine HC.o.mono ?_;rintro e w' ⟨rfl,rfl⟩;go_wp2;go_ret;exact⟨Kw (Gn HO.o.symm),HB.o,Yb _⟩
 have d0:(l1 != l2)=true:=by simp[h]
 have HO:=Lh (show vK (l1,x) (l2,y)=Lib.compareInt l1 l2 by unfold vK;rw[if_neg h]);clear h;go_enter Tryz.func80,Tryz.ntmps80;go_wp2_with fail;refine (Tryz.cmp_Compare_int _ _ _).mono ?_;rintro e w' ⟨rfl,rfl⟩;go_wp2;go_ret;exact⟨Kw (Gn HO.o.symm),HB.o,Yb _⟩
def Cw{α:Type}(enc:α->List Value)(ks:List α):List Value:=(ks.map enc).flatten
section
variable {α:Type} [Inhabited α] {enc:α->List Value} {k:Nat}
omit [Inhabited α] in
theorem jC(hk:∀x,(enc x).length=k):∀ks:List α,(Cw enc ks).length=ks.length*k
 |[]=>by simp[Cw]
 |x::r=>by
  have ih:=jC hk r;unfold Cw at*;rw[List.map_cons,List.flatten_cons,Qe,ih,hk,Qu,Nat.add_mul];omega
theorem wZ(hk:∀x,(enc x).length=k)(k0:0<k):∀(ks:List α)(t:Nat),t<ks.length*k->(Cw enc ks)[t]?=some ((enc (ks.toArray[t/k]!))[t%k]!)
 |[],t,h=>by simp at h
 |x::r,t,h=>by
  unfold Cw;rw[List.map_cons,List.flatten_cons];by_cases ht:t<k
  .rw[Qo (by rw[hk];exact ht),Nat.div_eq_of_lt ht,Nat.mod_eq_of_lt ht];have hl:t<(enc x).length:=by rw[hk];exact ht
   rw[Qa hl];simp only[List.getElem!_toArray,List.getElem!_cons_zero];rw[getElem!_pos (enc x) t hl]
  rw[Qn (by rw[hk];omega)];have ih:=wZ hk k0 r (t-k) (by rw[Qu,Nat.add_mul]at h;omega);unfold Cw at ih;rw[hk,ih];have e0:t=(t-k)+k:=by omega
  have e1:t/k=(t-k)/k+1:=by
   conv=>lhs;rw[e0]
   exact Nat.add_div_right _ k0
  have e2:t%k=(t-k)%k:=by
   conv=>lhs;rw[e0]
   exact Nat.add_mod_right _ _
  rw[e1,e2];have Jl:(t-k)/k<r.length:=by
   rw[Qu,Nat.add_mul]at h;exact Nat.div_lt_of_lt_mul (by rw[Nat.mul_comm];omega)
  simp[Jl]
theorem wW(hk:∀x,(enc x).length=k)(k0:0<k)(ks:List α):(flatK enc k ks.toArray).toList=Cw enc ks:=by
 apply List.ext_getElem?;intro t;by_cases h:t<ks.length*k
 .rw[wZ hk k0 ks t h,Array.getElem?_toList];have h':t<ks.toArray.size*k:=by simpa using h
  have hs:t<(flatK enc k ks.toArray).size:=by rw[size_flatK];exact h'
  have:=get_flatK enc k ks.toArray t h';rw[getElem!_pos _ t hs]at this;rw[Array.getElem?_eq_getElem hs,this]
 rw[Xg (by rw[Array.length_toList,size_flatK];simpa using h),Xg (by rw[jC hk];omega)]
theorem jt(hk:∀x,(enc x).length=k)(k0:0<k){ks:List α}(hb:w.heap[g]?=some (.cells cur e (0,0)))(ht:cur.toList.take (ks.length*k)=Cw enc ks):HoldsK enc k w g 0 ks.toArray:=by
 intro j hj;have aU:j<ks.length*k:=by simpa using hj
 refine⟨?_,by simp[World.frozen?,hb]⟩;have h1:(cur.toList.take (ks.length*k))[j]?=(flatK enc k ks.toArray).toList[j]? := by rw[ht,wW hk k0]
 rw[List.getElem?_take_of_lt aU,Array.getElem?_toList,Array.getElem?_toList,Array.getElem?_eq_getElem hj]at h1;rw[getElem!_pos _ j hj];simp only[World.cell?,hb,Yr];simp only[Option.isSome_none,Bool.false_eq_true,if_false];rw[h1];rfl
end
theorem kc(F:Array Value)(hb:w.heap[g]?=some (.cells cur e fr)) :
  (Go.Sort.grow (putRow id (Sort.ahead w n) g 0 F) os).heap[g]?=some (.cells (putCells id 0 F cur) e fr):=by
 have hg:g<w.heap.size:=(gl hb);rw[heap_grow_old _ _ (by simpa using hg)];simp[putRow,mapBlock,Sort.ahead,Xz,hb,onCells]
theorem aW(F:Array Value):w.grownBy (Go.Sort.grow (putRow id (Sort.ahead w n) g 0 F) os) (some g):=by
 refine⟨rfl,rfl,rfl,by simp,fun k hk hne=>?_⟩;rw[heap_grow_old _ _ (by simpa using hk)];have:g≠k:=fun e=>hne (by rw[e]);simp[putRow,mapBlock,Sort.ahead,Xz,this]
theorem tS(cur F:Array Value)(h:F.size<=cur.size):(putCells id 0 F cur).toList.take F.size=F.toList:=by
 apply List.ext_getElem?;intro j;by_cases hj:j<F.size
 .rw[List.getElem?_take_of_lt hj,Array.getElem?_toList];simp[putCells,hj,show j<cur.size by omega]
 rw[List.getElem?_take_eq_none (by omega),Xg (by simp;omega)]
def Rs:pD Jj:=qnZ Hd (oSl Hd 3)
def ai(w:World)(N:Nat):Type:={ p:Int×Value×List Int // (-9223372036854775808<=p.1/\p.1<=9223372036854775807)/\Mp Hd 3 w N p.2.1 p.2.2/\∀a∈p.2.2,(-1000:Int)<=a }
instance {w:World}{N:Nat}:Inhabited (ai w N):=⟨⟨(0,.slice none 0 0,[]),⟨by decide,by decide⟩,Mp.nil w N,by simp⟩⟩
def aX{w:World}{N:Nat}(p:ai w N):List Value:=[.int .i64 p.1.1,p.1.2.1]
def Tu{w:World}{N:Nat}(p:ai w N):Jj:=(p.1.1,p.1.2.2)
theorem qdL{w:World}{N:Nat}:∀(css:List (List Value))(rs:List Jj),css.length=rs.length->(∀(i:Nat)(cs:List Value)(x:Jj),css[i]?=some cs->rs[i]?=some x->Rs.rep w N cs x)->(∀r∈rs,jN r) ->
  ∃ks:List (ai w N),Cw aX ks=css.flatten/\ks.map Tu=rs
 |[],[],_,_,_=>⟨[],rfl,rfl⟩
 |[],_::_,h,_,_=>by simp at h
 |_::_,[],h,_,_=>by simp at h
 |cs::css,r::rs,hl,h,ho=>by
  obtain⟨ks,e1,e2⟩:=qdL css rs (by simpa using hl) (fun i cs x hc hx=>h (i+1) cs x hc hx) fun r hr=>ho r (Xj _ hr);obtain⟨c1,c2,hc,⟨h1,h2⟩,v,h3,h4⟩:=h 0 cs r rfl rfl;obtain⟨p,hp1,hp2⟩:∃p:ai w N,aX p=[.int .i64 r.1,v]/\Tu p=r:=⟨⟨(r.1,v,r.2),h2,h4,ho r (Xi ..)⟩,rfl,rfl⟩;refine⟨p::ks,?_,?_⟩
  .unfold Cw at e1 |-;rw[List.map_cons,List.flatten_cons,List.flatten_cons,e1,hc,h1,h3,hp1];rfl
  rw[List.map_cons,e2,hp2]
theorem qwB(hk:Jk [3] w w')(ks:List (ai w N)):∀(i:Nat)(cs:List Value)(x:Jj),(ks.map aX)[i]?=some cs->(ks.map Tu)[i]?=some x->Rs.rep w' N cs x:=by
 intro i cs x hc hx;rw[Qv]at hc hx;cases x_:ks[i]? with
 |none=>rw[x_]at hc;cases hc
 |some p =>
  rw[x_]at hc hx;injection hc with hc;injection hx with hx;subst hc hx;exact⟨[.int .i64 p.1.1],[p.1.2.1],rfl,⟨rfl,p.2.1⟩,p.1.2.1,rfl,p.2.2.1.keep hk⟩
theorem dt(x y:ai w N):ltOf (fun a b=>vK (Tu a) (Tu b)) x y=true↔Kt (Tu x) (Tu y):=by
 unfold ltOf;rw[Yk];exact qwF _ _
theorem iV(x y:ai w N):ltOf (fun a b=>vK (Tu a) (Tu b)) x y=false↔¬ Kt (Tu x) (Tu y):=by
 rw[<-dt,Bool.not_eq_true]
theorem zsM:SWO (ltOf fun a b:ai w N=>vK (Tu a) (Tu b)) where
 irrefl:=fun x=>by rw[iV];exact Lm _
 trans:=fun x y z h1 h2=>by rw[dt]at*;exact Aw h1 h2
 ntrans:=fun x y z h1 h2=>by rw[iV]at*;exact Pw _ _ _ h2 h1
theorem j_(w:World):(isAgg 63).run Tryz.prog w=.ok true w:=by kernel_rfl
theorem pe(w:World):(Go.sizeOf 63).run Tryz.prog w=.ok 2 w:=by kernel_rfl
theorem qwC(h:Mp Hd 3 w N v xs):v.oneCell'=true:=by
 obtain⟨A,c,rfl,_⟩:=h.form;rfl
theorem zC(N:Nat)(v:Value)(rs:List Jj)(w:World)(h:Mp Rs 63 w N v rs)(ho:∀r∈rs,jN r)(hn:rs.length<4611686018427387904) :
  Calls Tryz.prog 79 #[v,.func (.func 80) #[] #[]] w fun e w'=>e=.returned (.tuple #[])/\Mp Rs 63 w' N v (kL rs)/\w.grownBy w' v.ownBlock:=by
 have eg:∀args w,(callFunc 80 args).run Tryz.prog w=.ok (.enter 80 args) w:=enters_of Tryz.func80 (by kernel_rfl) rfl;obtain⟨css,hown,fP,Ja⟩:=h;obtain⟨ks,hf,hks⟩:=qdL css rs fP Ja ho;have Du:ks.length=rs.length:=by rw[<-hks,Qk]
 rcases hown.2 with ⟨zU,h0⟩|⟨g,cap,cur,hv,hbase,hb,h1,h2,h3,h4⟩
 .subst zU;have hr:rs=[]:=Xx h0;subst hr;refine (AnyF.slices_SortFunc_none { Tryz.sortLayR with } none 0 _ w).mono fun e w' ⟨he,hw⟩=>⟨he,?_,?_⟩
  .subst hw;rw[show kL []=[] by simp[kL]];exact Mp.nil _ _
  subst hw;exact⟨rfl,rfl,rfl,Yb _,fun _ _ _=>rfl⟩
 subst hv;rw[<-Du]at h1 h4 hn |-;have hlen:∀x:ai w N,(aX x).length=2:=fun _=>rfl;have hH:HoldsK aX 2 w g 0 ks.toArray:=jt hlen (by decide) hb (by rw[hf];exact h4);have hgl:g<w.heap.size:=(gl hb);have qL:∀(F:Array Value)(m:Nat)(os:Array Obj),Jk [3] w (Go.Sort.grow (putRow id (Sort.ahead w m) g 0 F) os):=fun F m os=>by
  have Ox:=aW (w:=w) (g:=g) (n:=m) (os:=os) F;refine⟨Ox.size,fun j cu t ht hj=>(Ox.block j (gl hj) ?_).trans hj⟩;intro e;injection e with e;subst e;rw[hb]at hj;injection hj with hj;injection hj with _ hj;subst hj;exact absurd ht (by decide)
 have:=AnyQ.slices_SortFunc Tryz.sortLayR 2 j_ pe aX hlen (fun p u hu=>by simp only[aX,List.mem_cons,List.not_mem_nil,or_false]at hu;rcases hu with rfl|rfl;rfl;exact qwC p.2.2.1) (fun a b=>vK (Tu a) (Tu b)) zsM 80 #[] g 0 cap ks.toArray w eg (fun m os dk hdk x y=>(qwR x.1.2.1 y.1.2.1 x.1.1 y.1.1 x.1.2.2 y.1.2.2 _ _ (x.2.2.1.keep (qL _ m os)).sl (y.2.2.1.keep (qL _ m os)).sl (Yb _) x.2.2.2 y.2.2.2).mono fun e w' ⟨he,hb,hd⟩=>⟨he,wP hb hd⟩) hH hgl (by simpa using hn);simp only[List.size_toArray]at this;refine Calls.mono this fun e w' ⟨he,d',n,os,hp,hs,hw⟩=>⟨he,?_,?_⟩
 .have qK:(d'.toList.map Tu).Perm rs:=by
   rw[<-hks];refine List.Perm.map _ ?_;obtain⟨p1,_,p3⟩:=hp;have e1:d'.extract 0 ks.length=d':=by
    apply Array.extract_eq_self_of_le;rw[p1];simp
   have e2:ks.toArray.extract 0 ks.length=ks.toArray:=by
    apply Array.extract_eq_self_of_le;simp
   rw[e1,e2]at p3;simpa using p3
  have zjU:(d'.toList.map Tu).Pairwise fun a b=>¬ Kt b a:=by
   rw[List.pairwise_map,List.pairwise_iff_getElem];intro i j hi hj hij;have Fb:d'.size=ks.length:=by rw[hp.1];simp
   have:=hs i j (Yg _) hij (by rw[<-Fb];simpa using hj);rw[iV]at this;have aU:j<d'.size:=by simpa using hj
   have hi':i<d'.size:=by simpa using hi
   rw[getElem!_pos d' j aU,getElem!_pos d' i hi']at this;simpa using this
  rw[<-At ho qK zjU];have Fb:d'.toList.length=ks.length:=by rw[Array.length_toList,hp.1];simp
  have hF:(flatK aX 2 d')=(flatK aX 2 d'.toList.toArray):=by simp
  subst hw;refine⟨d'.toList.map aX,⟨by rw[<-Cw,jC hlen,Qk];rfl,.inr ⟨g,cap,_,by rw[Qk,Fb],hbase,kc _ hb,by rw[Qk,Fb];exact h1,h2,by simpa[putCells]using h3,?_⟩⟩,by simp,qwB (qL _ n os) d'.toList⟩;have hfs:(flatK aX 2 d').size=ks.length*2:=by rw[size_flatK,hp.1];simp
  have:=tS cur (flatK aX 2 d') (by rw[hfs,h3];exact Nat.mul_le_mul_right 2 h1);rw[Qk,Fb];rw[hfs]at this;show List.take (ks.length*2) _=_;rw[this,hF,wW hlen (by decide)];rfl
 subst hw;exact aW _
theorem zD{B:Nat}(h:Je Mi w B v (ns.map Jp)):Je eW w B v ns:=by
 obtain⟨A,c,css,e,h1,h2,h3,h4,h5⟩:=h;rw[Qk]at e h1 h3;exact⟨A,c,css,e,h1,h2,h3,h4,fun i cs x hc hx=>h5 i cs _ hc (by rw[Qv,hx];rfl)⟩
theorem qhV(ms:List Wd)(x:Wd)(hx:x∈ms):Lib.idxOfS (ms.map Jp) (Jp x)=((ms.idxOf x:Nat):Int):=by
 have hl:=List.idxOf_lt_length_of_mem hx;unfold Lib.idxOfS;rw[Lib.idxFromS_hit (Jp x) (ms.map Jp) (ms.idxOf x) 0 (by rw[Qk];exact hl) ?_ ?_]
 .rw[Yr]
 .rw[Qb,Qv,Qa hl,List.getElem_idxOf];rfl
 intro j hj;have aU:j<ms.length:=by omega
 rw[Qb,Qv,Qa aU];intro e;have e2:ms[j]=x:=by
  have:=congrArg Wt e
  rwa [show Wt ((Option.map Jp (some ms[j])).getD ByteArray.empty)=ms[j]from rfl,Fu]at this
 have:=List.not_of_lt_findIdx (p:=(·==x)) (xs:=ms) (i:=j) hj;simp[e2]at this
theorem qhS(v:Value)(ms:List Wd)(x:Wd)(B:Nat)(w:World)(h:Je eW w B v ms)(hx:x∈ms) :
  Calls Tryz.prog 138 #[v,wv x] w fun e w'=>e=.returned (.int .i64 ((ms.idxOf x:Nat):Int))/\w=w':=by
 obtain⟨A,c,rfl,h1,h2⟩:=h.form;unfold maxLen at h2;have hp:0<ms.length:=List.length_pos_of_mem hx;obtain⟨b,off,rfl,-,-,-⟩:=h.wd (k:=0) hp;have:=Tryz.slices_Index_string b off ms.length c (ms.map Jp) (Jp x) w (by simp) (by omega) (fun j hj=>by
  have aU:j<ms.length:=by simpa using hj
  obtain⟨b',zsS,e,_,_,hc⟩:=h.wd aU
  injection e with e
  injection e with e1 e2
  subst e1 e2
  rw[hc,Qb,Qv,Qa aU]
  rfl)
 refine Calls.mono this ?_;rintro e w' ⟨rfl,rfl⟩;rw[Qd (by simp),qhV ms x hx];exact⟨rfl,rfl⟩
def He(f:Nat->Int)(n k:Nat):List Int:=(List.range n).map fun i=>if i<k then f i else 0
theorem cU(f:Nat->Int)(n k:Nat):(He f n k).length=n:=by simp[He]
theorem vQ(f:Nat->Int){j:Nat}(h:j<n):(He f n k)[j]?=some (if j<k then f j else 0):=by simp[He,h]
theorem nT(f:Nat->Int)(n:Nat):He f n 0=List.replicate n 0:=by
 unfold He;simp only[Nat.not_lt_zero,if_false];rw[List.map_const',List.length_range]
theorem qoD(f:Nat->Int)(n:Nat):He f n n=(List.range n).map f:=by
 unfold He;refine List.map_congr_left fun i hi=>?_;rw[if_pos (Ya.1 hi)]
theorem qoC(f:Nat->Int):(He f n k).set k (f k)=He f n (k+1):=by
 apply List.ext_getElem?;intro j;by_cases hj:j<n
 .rw[Xw,vQ f hj,vQ f hj,cU];by_cases e:k=j
  .subst e;simp[hj]
  rw[if_neg e];by_cases h2:j<k
  .rw[if_pos h2,if_pos (by omega)]
  rw[if_neg h2,if_neg (by omega)]
 rw[Xg (by rw[Qm,cU];omega),Xg (by rw[cU];omega)]
theorem qnL(z:Value)(n:Nat):madeCells #[z] n=(List.replicate n z).toArray:=by
 apply Array.ext
 .simp[madeCells]
 intro i h1 h2;simp[madeCells,Nat.mod_one]
theorem qhR(n:Nat)(hn:n<=1048576)(w:World):(Instr.makeSlice 61 (.int .i64 (n:Int)) (.int .i64 (n:Int))).run Tryz.prog w=.ok (.slice (some ⟨w.heap.size,0,none⟩) n n) (w.alloc (.cells (Ku (He (fun _=>0) n 0)).toArray 3)):=by
 rw[nT,Ku,List.map_replicate,<-qnL];exact run_make_row' 61 3 (.int .i64 0) 8 Tryz.underlying61 (by kernel_rfl) rfl .i64 .i64 n (by omega) (by omega) w
def qsN(ns ms:List Wd)(w:World)(e:Ending)(w':World):Prop:=∃v,e=.returned v/\Mp Hd 3 w' w.heap.size v (ns.map fun n=>((ms.idxOf n:Nat):Int))/\Below w.heap.size w w'
theorem uf:∀xs:List Int,(xs.map fun x=>[Value.int .i64 x]).flatten=Ku xs
 |[]=>rfl
 |x::l=>by rw[List.map_cons,List.flatten_cons,uf l];rfl
theorem qwE(h:w.heap[g]?=some (.cells (Ku xs).toArray 3 (0,0)))(hN:N<=g)(hl:xs.length<=1048576)(hb:∀x∈xs,-9223372036854775808<=x/\x<=9223372036854775807):Mp Hd 3 w N (.slice (some ⟨g,0,none⟩) xs.length xs.length) xs:=by
 have hf:=uf xs;refine⟨xs.map fun x=>[.int .i64 x],?_,by simp,fun i cs x hc hx=>?_⟩
 .rw[hf];refine⟨by simp[Ku,Hd,dg,Wg],.inr ⟨g,xs.length,_,rfl,hN,h,Yb _,by unfold maxLen;omega,by simp[Ku,Hd,dg,Wg],?_⟩⟩;show List.take (xs.length*1) _=_;rw[Ys];exact Qd (by simp[Ku])
 rw[Qv,hx]at hc;injection hc with hc;exact⟨hc.symm,hb x (Qp hx)⟩
theorem qC(v1 v2:Value)(ns ms:List Wd)(w:World)(h1:Je eW w w.heap.size v1 ns)(h2:Je eW w w.heap.size v2 ms)(hm:∀n∈ns,n∈ms)(hn:ns.length<=1048576)(hml:ms.length<=1048576) :
  Calls Tryz.prog 76 #[v1,v2] w (qsN ns ms w):=by
 obtain⟨A1,c1,rfl,jZ,mY⟩:=h1.form;unfold maxLen at mY;have H1:=Lh h1;have H2:=Lh h2;have HM:=Lh hm;clear h1 h2 hm;obtain⟨n,sJ⟩:=Xe ns.length;rw[<-sJ]at H1 jZ hn |-;have HN:=Lh sJ;obtain⟨F,hF⟩:∃F:Nat->Int,F=fun i=>((ms.idxOf (ns.getD i []):Nat):Int):=⟨_,rfl⟩;have HF:=Lh hF;clear sJ hF;have sK:=qhR n hn w;rw[show He (fun _=>0) n 0=He F n 0 by rw[nT,nT]]at sK;have HB0:=Lh ((Xr w.heap.size w).alloc (Yb _) (.cells (Ku (He F n 0)).toArray 3));have HG0:=Lh (Xn w (.cells (Ku (He F n 0)).toArray 3));go_enter Tryz.func76,Tryz.ntmps76;go_wp2_with fail;generalize w.alloc (.cells (Ku (He F n 0)).toArray 3)=w1 at*;go_loopw [12] (fun v12 wr=>∃k:Nat,k<=n/\v12=.int .i64 k/\Hid (wr.heap[w.heap.size]?=some (.cells (Ku (He F n k)).toArray 3 (0,0)))/\Hid (Below w.heap.size w wr)) (fun v12 _=>n-(intOf v12).toNat);exact⟨0,by omega,rfl,HG0.o,HB0.o⟩;clear HG0 HB0 sK;obtain⟨k,hk,rfl,HG,HB⟩:=hrel;by_cases Jl:k<n
 .have qM:k<ns.length:=by rw[<-HN.o];exact Jl
  obtain⟨b,off,rfl,_,hb,hcw⟩:=(H1.o.below HB.o).wd qM;have HIX:=Lh (qhS v2 ms ns[k] w.heap.size wr (H2.o.below HB.o) (HM.o _ (Qg qM)));have HFK:=Lh (show F k=((ms.idxOf ns[k]:Nat):Int) by rw[HF.o];simp[qM]);generalize ns[k]=x at*;rw[<-HFK.o]at HIX;have Zn:wr.cell? ⟨w.heap.size,k,none⟩=some (.int .i64 0):=by
   rw[Zd _ _ _ _ _ _ HG.o,List.getElem?_toArray,Ku,Qv,vQ F Jl];simp
  have jy:wr.frozen? ⟨w.heap.size,k,none⟩=false:=by simp[World.frozen?,HG.o]
  have HG1:=Lh (show (wr.setCell ⟨w.heap.size,k,none⟩ (.int .i64 (F k))).heap[w.heap.size]?=some (.cells (Ku (He F n (k+1))).toArray 3 (0,0)) by
   simp only[World.setCell,Xz,if_true,HG.o,Option.map_some]
   rw[<-qoC,Ku,Ku,List.map_set,List.setIfInBounds_toArray]
   rfl)
  have HB1:=Lh (HB.o.setCell (p:=⟨w.heap.size,k,none⟩) (Yb _) (.int .i64 (F k)));generalize F k=fk at*;go_wp2_with fail;refine HIX.o.mono ?_;rintro e w' ⟨rfl,rfl⟩;go_wp2;go_roundw;exact⟨k+1,by omega,by go_num,HG1.o,HB1.o⟩;simp[intOf];omega
 obtain rfl:k=n:=by omega
 have Jw:=Lh (show Mp Hd 3 wr w.heap.size (.slice (some ⟨w.heap.size,0,none⟩) k k) (ns.map fun n=>((ms.idxOf n:Nat):Int)) by
  have e:ns.map (fun n=>((ms.idxOf n:Nat):Int))=He F k k:=by
   rw[qoD,HF.o]
   apply List.ext_getElem?
   intro j
   rw[Qv,Qv]
   by_cases hj:j<k
   .have aU:j<ns.length:=by rw[<-HN.o];exact hj
    simp[hj,aU]
   rw[Xg (by rw[<-HN.o];omega),Xg (by simp;omega)]
   rfl
  have:=qwE (N:=w.heap.size) HG.o (Yb _) (by rw[cU];exact hn) (fun x hx=>by
   rw[<-e]at hx
   obtain⟨y,hy,rfl⟩:=Xa.1 hx
   have:=List.idxOf_lt_length_of_mem (HM.o y hy)
   omega)
  rw[cU]at this
  rw[e]
  exact this)
 go_wp2;go_ret;exact⟨_,rfl,Jw.o,HB.o⟩
theorem qnY(Pt Pn:Nat)(vt vn:Value)(ts ns:List Int)(M:Nat)(s:Int)(w:World)(hct:w.cell? ⟨Pt,0,none⟩=some vt)(yo:w.cell? ⟨Pn,0,none⟩=some vn)(ht:Je Wg w M vt ts)(hn:Je Wg w M vn ns)(h1:-(ts.length:Int)<=s)(h2:s<ns.length)(_hl:ts.length<=1048576)(_hl2:ns.length<=1048576) :
  Calls Tryz.prog 77 #[.int .i64 s,.pointer (some ⟨Pt,0,none⟩),.pointer (some ⟨Pn,0,none⟩)] w fun e w'=>e=.returned (.int .i64 (if s<0 then -1-ts.getD (-1-s).toNat 0 else ns.getD s.toNat 0))/\w=w':=by
 obtain⟨A1,c1,rfl,jZ,mY⟩:=ht.form;obtain⟨A2,c2,rfl,hb1,Jd⟩:=hn.form;unfold maxLen at mY Jd;have HT:=Lh ht;have HN:=Lh hn;clear ht hn;by_cases hs:s<0
 .rw[if_pos hs];obtain⟨k,hk⟩:∃k:Nat,s=-1-(k:Int):=⟨(-1-s).toNat,by omega⟩;have Du:k<ts.length:=by omega
  obtain⟨b,off,cs,rfl,_,_,Ja,Zn⟩:=HT.o.get Du (by decide);obtain⟨rfl,Lr,dB⟩:=Ja;have hc:=Zn 0 _ rfl;clear Zn;simp only[show Wg.size=1 from rfl,Ys,Yq]at hc;have HE:=Lh (show ts.getD (-1-s).toNat 0=ts[k] by rw[show (-1-s).toNat=k by omega];simp[Du]);rw[HE.o];generalize ts[k]=x at*;have d0:decide (s<0)=true:=by rw[Yk];exact hs
  have e1:-1-s=(k:Int):=by omega
  clear hs hk h1 h2;go_enter Tryz.func77,Tryz.ntmps77;go_wp2_with fail;refine (Ji _ _).mono ?_;rintro e w' ⟨rfl,rfl⟩;go_wp2;go_ret;exact⟨rfl,rfl⟩
 rw[if_neg hs];obtain⟨k,hk⟩:∃k:Nat,s=(k:Int):=⟨s.toNat,by omega⟩;have Du:k<ns.length:=by omega
 obtain⟨b,off,cs,rfl,_,_,Ja,Zn⟩:=HN.o.get Du (by decide);obtain⟨rfl,Lr,dB⟩:=Ja;have hc:=Zn 0 _ rfl;clear Zn;simp only[show Wg.size=1 from rfl,Ys,Yq]at hc;have HE:=Lh (show ns.getD s.toNat 0=ns[k] by rw[show s.toNat=k by omega];simp[Du]);rw[HE.o];generalize ns[k]=x at*;have d0:decide (s<0)=false:=by rw[Yl];exact hs
 subst hk;clear hs h1 h2;go_enter Tryz.func77,Tryz.ntmps77;go_wp2_with fail;refine (Ji _ _).mono ?_;rintro e w' ⟨rfl,rfl⟩;go_wp2;go_ret;exact⟨rfl,rfl⟩
end Go.Proofs.YtmaojnmnbpomeaaGreatDoor
