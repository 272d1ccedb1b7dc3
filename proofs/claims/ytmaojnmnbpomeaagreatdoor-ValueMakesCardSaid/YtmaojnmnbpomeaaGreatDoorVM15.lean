/- A part. -/
import Derived.Test.YtmaojnmnbpomeaaGreatDoorVM14
set_option maxRecDepth 100000
set_option maxHeartbeats 64000000
namespace Go.Proofs.YtmaojnmnbpomeaaGreatDoor
open Go.RowKit
theorem jB{fn:Func}{p u x y:Tmp}{ty:TypeId}(h:fn.results=#[.cell p ty,.tmp u,.tmp x,.tmp y])(tmps:Array Value)(P:Program)(w:World) :
  (results fn tmps).run P w=((asAddr (tmps.getD p undef)).run P w).andThen fun a w₁=>((loadVar ty a).run P w₁).andThen fun v w₂=>.ok (.tuple #[v,tmps.getD u undef,tmps.getD x undef,tmps.getD y undef]) w₂:=by
 simp only[results,h];simp[Result.andThen]
theorem sO{fn:Func}{p u x y:Tmp}{r1 r2 r3:Value}{Q:Ending->World->Prop}(h:fn.results=#[.cell p 31,.tmp u,.tmp x,.tmp y]){a:Act}{w:World}{g:Nat}{c0 c1 c2 c3 c4 c5:Value}{fr:Nat×Nat}{t:TypeId}(hd:a.defers=[])
  (hp:a.tmps.getD p undef=.pointer (some ⟨g,0,none⟩)) (hu:a.tmps.getD u undef=r1) (hx:a.tmps.getD x undef=r2) (hy:a.tmps.getD y undef=r3) (hg:w.heap[g]? = some (.cells #[c0,c1,c2,c3,c4,c5] t fr)) (hq:Q (.returned (.tuple #[.agg #[c0,c1,c2,c3,c4,c5],r1,r2,r3])) w):bodyPost Tryz.prog fn Q .ret a w:=by
 refine Zg (v:=.tuple #[.agg #[c0,c1,c2,c3,c4,c5],r1,r2,r3]) ?_ hd hq;rw[jB h,hp,hu,hx,hy];simp[asAddr,Result.andThen,run_loadVar_row w g t 31 #[c0,c1,c2,c3,c4,c5] fr _ hg Tryz.underlying31 rfl (by kernel_rfl)]
def kL(s:Wd)(k:Int)(v:Ng)(c:List Wf)(n:Nat)(e:Int):Prop :=
 (¬ (1<=k/\k<=4)/\v=Wa/\c=[]/\n=0/\e=1)\/((1<=k/\k<=4)/\(Nx s).2.2≠0/\v=Wa/\c=[]/\n=(Nx s).2.1/\e=(Nx s).2.2) \/
 ((1<=k/\k<=4)/\(Nx s).2.2=0/\n=0/\vV (Nx s).1 k v c e)
def Ok(s:Wd)(k:Int)(w:World)(e:Ending)(w':World):Prop :=
 ∃(v1 v2 v3 vr vm vc:Value)(v:Ng)(cl:List Wf)(n:Nat)(er:Int),kL s k v cl n er/\e=.returned (.tuple #[Im v1 v2 v3 vr vm v.2.1,vc,.int .i64 n,.int .i64 er])/\Gh w' w'.heap.size v1 v2 v3 vr vm v/\Je Ie w' w'.heap.size vc cl/\Below w.heap.size w w'
theorem Ok.bad{s:Wd}{k:Int}{w w':World}{n:Nat}{er:Int}(h:kL s k Wa [] n er)(hb:Below w.heap.size w w'):Ok s k w (.returned (.tuple #[Im (.slice none 0 0) (.slice none 0 0) (.slice none 0 0) (.slice none 0 0) (.slice none 0 0) 0,.slice none 0 0,.int .i64 n,.int .i64 er])) w' :=
 ⟨_,_,_,_,_,_,Wa,[],n,er,h,rfl,Gh.zero,Je.nil_,hb⟩
theorem tN(s:ByteArray)(k:Int)(w:World)(hs:s.size<=maxLen)(hf:(Nx s.data.toList).2.2=0->cE (Nx s.data.toList).1)(ht:dX w) :
  Calls Tryz.prog 20 #[.string s,.int .i64 k] w (Ok s.data.toList k w):=by
 obtain⟨S,hS⟩:=Xe w.heap.size;have HSE:=Lh hS;have HT:=Lh ht;have HF:=Lh hf;have HB1:=Lt (Below w.heap.size w (w.alloc (.cells #[.slice none 0 0,.slice none 0 0,.slice none 0 0,.int .i64 0,.slice none 0 0,.slice none 0 0] 31))) ((Xr _ _).alloc (Ya _) _);have HS1:=Lh (Xn w (.cells #[.slice none 0 0,.slice none 0 0,.slice none 0 0,.int .i64 0,.slice none 0 0,.slice none 0 0] 31));rw[<-hS] at HS1;have HLK:=Lh (fun W:World=>mG k W);have ru:=Lh (fun W:World=>qjR s W hs);clear ht hf;by_cases hk:1<=k/\k<=4
 ·rw[show Bu k=true from Yv hk] at HLK;have HK:=Lh hk;obtain⟨g,xS,er,hR⟩:∃ g xS er,Nx s.data.toList=(g,xS,er):=⟨_,_,_,rfl⟩;have HR:=Lh hR;unfold iC at ru;rw[hR] at ru HF;simp only at ru HF;clear hR;go_enter Tryz.func20,Tryz.ntmps20;go_wp2_with fail;rw[<-hS];clear hS;generalize w.alloc (.cells #[.slice none 0 0,.slice none 0 0,.slice none 0 0,.int .i64 0,.slice none 0 0,.slice none 0 0] 31)=w1 at *;refine (HLK.o w1).mono ?_;rintro e w2 ⟨rfl,rfl⟩;go_wp2_with fail;refine (ru.o w1).mono ?_;rintro e w2 ⟨u1,u2,u3,rfl,aI,Ja⟩;obtain⟨A1,A2,A3,c1,c2,c3,rfl,rfl,rfl⟩:=aI.form;have hb3:Below w2.heap.size w2 (w2.alloc (.cells #[.slice A1 g.1.length c1,.slice A2 g.2.1.length c2,.slice A3 g.2.2.length c3] 25)):=(Xr _ _).alloc (Ya _) _;have HB3:=Lh (HB1.o.trans ((Ja.trans (hb3.mono Ja.size)).mono HB1.o.size));have HS3:=Lh (((Ja.trans (hb3.mono Ja.size)).block S (gl HS1.o)).trans HS1.o);have iD:=Lh (aI.fut hb3 (Ya _) hb3.size);have HX3:=Lh (Xn w2 (.cells #[.slice A1 g.1.length c1,.slice A2 g.2.1.length c2,.slice A3 g.2.2.length c3] 25));have nI:=Lh (fun hf:cE g=>tH (.slice A1 g.1.length c1) (.slice A2 g.2.1.length c2) (.slice A3 g.2.2.length c3) g k (w2.alloc (.cells #[.slice A1 g.1.length c1,.slice A2 g.2.1.length c2,.slice A3 g.2.2.length c3] 25)) hf iD.o (HT.o.below HB3.o));clear Ja hb3 aI iD;obtain⟨n,hn⟩:=Xe g.1.length;obtain⟨m,hm⟩:=Xe g.2.1.length;obtain⟨q,hq⟩:=Xe g.2.2.length;simp only[<-hn,<-hm,<-hq] at nI HB3 HS3 HX3 |-;clear hn hm hq;by_cases her:er=0
  ·subst her;have HO:=Lh (nI.o (HF.o rfl));obtain⟨X,hX⟩:=Xe w2.heap.size;rw[<-hX] at HX3;go_wp2_with fail;rw[<-hX];clear hX;generalize w2.alloc (.cells #[.slice A1 n c1,.slice A2 m c2,.slice A3 q c3] 25)=w3 at *;obtain⟨x0,x1,x2⟩:=Jb HX3.o;go_wp2_with fail;refine HO.o.mono ?_;rintro e w4 ⟨v1,v2,v3,vr,vm,vc,v,cl,ev,hov,rfl,sk,hb4⟩;obtain⟨B1,B2,B3,B4,B5,d1,d2,d3,d4,d5,rfl,rfl,rfl,rfl,rfl⟩:=(sk w4 fun _ _ _=>rfl).1.form;obtain⟨B6,d6,rfl,_,_⟩:=(sk w4 fun _ _ _=>rfl).2.form;have HFR:=Lh sk;have HOV:=Lh hov;have HS4:=Lh ((hb4.block S (gl HS3.o)).trans HS3.o);have HB4:=Lh (HB3.o.trans (hb4.mono HB3.o.size));have pY:=Lt (S<w3.heap.size) ((gl HS3.o));clear sk hov hb4 x0 x1 x2;unfold Im;obtain⟨l1,wR⟩:=Xe v.1.1.length;obtain⟨l2,dD⟩:=Xe v.1.2.1.length;obtain⟨l3,hl3⟩:=Xe v.1.2.2.length;obtain⟨l4,hl4⟩:=Xe v.2.2.1.length;obtain⟨l5,Ic⟩:=Xe v.2.2.2.length;obtain⟨l6,kX⟩:=Xe cl.length;obtain⟨kv,hkv⟩:=Xe v.2.1;rw[<-wR,<-dD,<-hl3,<-hl4,<-Ic,<-kX] at HFR;rw[<-wR,<-dD,<-hl3,<-hl4,<-Ic,<-kX,<-hkv];have HKV:=Lh hkv;clear wR dD hl3 hl4 Ic kX hkv;have hb5:Below w4.heap.size w4 (w4.alloc (.cells #[.slice B1 l1 d1,.slice B2 l2 d2,.slice B3 l3 d3,.int .i64 kv,.slice B4 l4 d4,.slice B5 l5 d5] 31)):=(Xr _ _).alloc (Ya _) _;have wF:=Lh ((hb5.block S (gl HS4.o)).trans HS4.o);have HB5:=Lh (HB4.o.trans (hb5.mono HB4.o.size));have HBB:=Lh hb5;have wA:=Lh (Xn w4 (.cells #[.slice B1 l1 d1,.slice B2 l2 d2,.slice B3 l3 d3,.int .i64 kv,.slice B4 l4 d4,.slice B5 l5 d5] 31));clear hb5;go_wp2_with (refine Zs (some 35) rfl ?_);obtain⟨Y,hY⟩:=Xe w4.heap.size;rw[<-hY] at wA |-;clear hY;refine Stop.go ?_;generalize w4.alloc (.cells #[.slice B1 l1 d1,.slice B2 l2 d2,.slice B3 l3 d3,.int .i64 kv,.slice B4 l4 d4,.slice B5 l5 d5] 31)=w5 at *;have y0:w5.cell? ⟨Y,0,none⟩=some (.slice B1 l1 d1):=Xc wA.o rfl;have y1:w5.cell? ⟨Y,1,none⟩=some (.slice B2 l2 d2):=Xc wA.o rfl;have y2:w5.cell? ⟨Y,2,none⟩=some (.slice B3 l3 d3):=Xc wA.o rfl;have y3:w5.cell? ⟨Y,3,none⟩=some (.int .i64 kv):=Xc wA.o rfl;have y4:w5.cell? ⟨Y,4,none⟩=some (.slice B4 l4 d4):=Xc wA.o rfl;have y5:w5.cell? ⟨Y,5,none⟩=some (.slice B5 l5 d5):=Xc wA.o rfl;go_wp2_with (refine Zs none rfl ?_);refine Stop.go (Zn rfl 31 rfl rfl rfl (Sg wF.o rfl rfl rfl rfl rfl rfl rfl) ?_);have Dl:=Lh (Zi _ _ _ _ _ _ wF.o:(w5.setRow S [.slice B1 l1 d1,.slice B2 l2 d2,.slice B3 l3 d3,.int .i64 kv,.slice B4 l4 d4,.slice B5 l5 d5].toArray).heap[S]? = _);have Db:=Lh (Zj HB5.o (Yi HSE.o.symm) [.slice B1 l1 d1,.slice B2 l2 d2,.slice B3 l3 d3,.int .i64 kv,.slice B4 l4 d4,.slice B5 l5 d5].toArray);have HFF:=Lh (HFR.o (w5.setRow S [.slice B1 l1 d1,.slice B2 l2 d2,.slice B3 l3 d3,.int .i64 kv,.slice B4 l4 d4,.slice B5 l5 d5].toArray) fun b h1 h2=>(setRow_other w5 S b _ (by have:=pY.o;omega)).trans (HBB.o.block b h2));generalize w5.setRow S [.slice B1 l1 d1,.slice B2 l2 d2,.slice B3 l3 d3,.int .i64 kv,.slice B4 l4 d4,.slice B5 l5 d5].toArray=wz at *;generalize ha:Act.put _ _ _=z9;simp[Act.put] at ha;subst ha;go_wp2_with fail;refine sO (g:=S) rfl rfl rfl rfl rfl rfl Dl.o ?_;exact⟨_,_,_,_,_,_,v,cl,0,ev,.inr (.inr ⟨HK.o,by rw[HR.o],rfl,by rw[HR.o];exact HOV.o⟩),by rw[HKV.o];rfl,HFF.o.1,HFF.o.2,Db.o⟩
  ·have Ju:=Lt (kL s.data.toList k Wa [] xS er) (.inr (.inl ⟨HK.o,by rw[HR.o];exact her,rfl,rfl,by rw[HR.o],by rw[HR.o]⟩));have g0:((er:Int) != 0)=true:=by simp;omega
   clear her nI HX3;go_wp2_with (refine Zs (some 25) rfl ?_);refine Stop.go ?_;generalize w2.alloc (.cells #[.slice A1 n c1,.slice A2 m c2,.slice A3 q c3] 25)=w3 at *;go_wp2_with (refine Zs none rfl ?_);refine Stop.go (Zn rfl 31 rfl rfl rfl (Sg HS3.o rfl rfl rfl rfl rfl rfl rfl) ?_);have Dl:=Lh (Zi _ _ _ _ _ _ HS3.o:(w3.setRow S [.slice none 0 0,.slice none 0 0,.slice none 0 0,.int .i64 0,.slice none 0 0,.slice none 0 0].toArray).heap[S]? = _);have Db:=Lh (Zj HB3.o (Yi HSE.o.symm) [.slice none 0 0,.slice none 0 0,.slice none 0 0,.int .i64 0,.slice none 0 0,.slice none 0 0].toArray);generalize w3.setRow S [.slice none 0 0,.slice none 0 0,.slice none 0 0,.int .i64 0,.slice none 0 0,.slice none 0 0].toArray=wz at *;generalize ha:Act.put _ _ _=z9;simp[Act.put] at ha;subst ha;go_wp2_with fail;refine sO (g:=S) rfl rfl rfl rfl rfl rfl Dl.o ?_;exact Ok.bad Ju.o Db.o
 ·rw[show Bu k=false from Yw hk] at HLK;have Ju:=Lt (kL s.data.toList k Wa [] 0 1) (.inl ⟨hk,rfl,rfl,rfl,rfl⟩);clear hk;go_enter Tryz.func20,Tryz.ntmps20;go_wp2_with fail;rw[<-hS];clear hS;generalize w.alloc (.cells #[.slice none 0 0,.slice none 0 0,.slice none 0 0,.int .i64 0,.slice none 0 0,.slice none 0 0] 31)=w1 at *;refine (HLK.o w1).mono ?_;rintro e w2 ⟨rfl,rfl⟩;go_wp2_with (refine Zs none rfl ?_);refine Stop.go (Zn rfl 31 rfl rfl rfl (Sg HS1.o rfl rfl rfl rfl rfl rfl rfl) ?_);have Dl:=Lh (Zi _ _ _ _ _ _ HS1.o:(w1.setRow S [.slice none 0 0,.slice none 0 0,.slice none 0 0,.int .i64 0,.slice none 0 0,.slice none 0 0].toArray).heap[S]? = _);have Db:=Lh (Zj HB1.o (Yi HSE.o.symm) [.slice none 0 0,.slice none 0 0,.slice none 0 0,.int .i64 0,.slice none 0 0,.slice none 0 0].toArray);generalize w1.setRow S [.slice none 0 0,.slice none 0 0,.slice none 0 0,.int .i64 0,.slice none 0 0,.slice none 0 0].toArray=wz at *;generalize ha:Act.put _ _ _=z9;simp[Act.put] at ha;subst ha;go_wp2_with fail;refine sO (g:=S) rfl rfl rfl rfl rfl rfl Dl.o ?_;exact Ok.bad Ju.o Db.o
theorem Zp{w:World}{g:Nat}{a b c d e f:Value}{t:TypeId}{fr:Nat×Nat}(h:w.heap[g]? = some (.cells #[a,b,c,d,e,f] t fr)):w.cell? ⟨g,0,none⟩=some a/\w.cell? ⟨g,1,none⟩=some b/\w.cell? ⟨g,2,none⟩=some c/\w.cell? ⟨g,3,none⟩=some d/\w.cell? ⟨g,4,none⟩=some e/\w.cell? ⟨g,5,none⟩=some f:=by
 refine⟨?_,?_,?_,?_,?_,?_⟩ <;> (rw[Zc _ _ _ _ _ _ h];rfl)
instance decValD:DecidableEq Ng:=@instDecidableEqProd Kc (Int×List Ud×List Kf) inferInstance (@instDecidableEqProd Int (List Ud×List Kf) inferInstance (@instDecidableEqProd (List Ud) (List Kf) inferInstance inferInstance))
theorem qiP{v u:Ng}(h:v.1≠u.1\/v.2.1≠u.2.1\/v.2.2.1≠u.2.2.1):decide (v=u)=false:=Yw fun e=>by
 subst e;rcases h with h | h | h <;> exact h rfl
theorem qiQ{v u:Ng}(h1:v.1=u.1)(h2:v.2.1=u.2.1)(h3:v.2.2.1=u.2.2.1):decide (v=u)=decide (v.2.2.2=u.2.2.2):=by
 rw[decide_eq_decide];constructor
 ·intro e;rw[e]
 ·intro e;obtain⟨a,b,c,d⟩:=v;obtain⟨a',b',c',d'⟩:=u;simp only at h1 h2 h3 e;rw[h1,h2,h3,e]
theorem jt(v1 v2 v3 vr vm u1 u2 u3 ur um:Value)(v u:Ng)(w:World)(hv:Gh w w.heap.size v1 v2 v3 vr vm v)(hu:Gh w w.heap.size u1 u2 u3 ur um u) :
  Calls Tryz.prog 25 #[Im v1 v2 v3 vr vm v.2.1,Im u1 u2 u3 ur um u.2.1] w fun e w'=>e=.returned (.bool (decide (v=u)))/\Below w.heap.size w w':=by
 obtain⟨A1,A2,A3,A4,A5,c1,c2,c3,c4,c5,rfl,rfl,rfl,rfl,rfl⟩:=hv.form;obtain⟨B1,B2,B3,B4,B5,d1,d2,d3,d4,d5,rfl,rfl,rfl,rfl,rfl⟩:=hu.form;have HV:=Lh hv;have HU:=Lh hu;obtain⟨S,hS⟩:=Xe w.heap.size;have HG:=Lh (fun(W:World)(hb:Below w.heap.size w W)=>jV _ _ _ _ _ _ v.1 u.1 W (HV.o.fut hb (Ya _) hb.size).gram (HU.o.fut hb (Ya _) hb.size).gram);have HR:=Lh (fun(W:World)(hb:Below w.heap.size w W)=>qcH A4 B4 c4 d4 v.2.2.1 u.2.2.1 W (HV.o.fut hb (Ya _) hb.size).rows (HU.o.fut hb (Ya _) hb.size).rows);have HM:=Lh (fun(W:World)(hb:Below w.heap.size w W)=>xO _ _ v.2.2.2 u.2.2.2 W (HV.o.fut hb (Ya _) hb.size).machs (HU.o.fut hb (Ya _) hb.size).machs);have HNE:=Lh (fun h=>qiP (v:=v) (u:=u) h);have HEQ:=Lh (fun a b c=>qiQ (v:=v) (u:=u) a b c);clear hv hu HV HU;unfold Im;generalize v.1.1.length=n1 at *;generalize v.1.2.1.length=n2 at *;generalize v.1.2.2.length=n3 at *;generalize v.2.2.1.length=n4 at *;generalize v.2.2.2.length=n5 at *;generalize u.1.1.length=m1 at *;generalize u.1.2.1.length=m2 at *;generalize u.1.2.2.length=m3 at *;generalize u.2.2.1.length=m4 at *;generalize u.2.2.2.length=m5 at *;obtain⟨k,hk⟩:=Xe v.2.1;obtain⟨j,hj⟩:=Xe u.2.1;rw[<-hk,<-hj];have HKJ:=Lt (k=v.2.1/\j=u.2.1) (⟨hk,hj⟩);clear hk hj;have HB1:=Lt (Below w.heap.size w ((w.alloc (.cells #[.slice A1 n1 c1,.slice A2 n2 c2,.slice A3 n3 c3,.int .i64 k,.slice A4 n4 c4,.slice A5 n5 c5] 31)).alloc (.cells #[.slice B1 m1 d1,.slice B2 m2 d2,.slice B3 m3 d3,.int .i64 j,.slice B4 m4 d4,.slice B5 m5 d5] 31))) (((Xr _ _).alloc (Ya _) _).alloc (by rw[Xs];omega) _);have Bf:=Lh (Go.heap_alloc2_old w (.cells #[.slice A1 n1 c1,.slice A2 n2 c2,.slice A3 n3 c3,.int .i64 k,.slice A4 n4 c4,.slice A5 n5 c5] 31) (.cells #[.slice B1 m1 d1,.slice B2 m2 d2,.slice B3 m3 d3,.int .i64 j,.slice B4 m4 d4,.slice B5 m5 d5] 31));have iJ:=Lh (Go.heap_alloc2_new w (.cells #[.slice A1 n1 c1,.slice A2 n2 c2,.slice A3 n3 c3,.int .i64 k,.slice A4 n4 c4,.slice A5 n5 c5] 31) (.cells #[.slice B1 m1 d1,.slice B2 m2 d2,.slice B3 m3 d3,.int .i64 j,.slice B4 m4 d4,.slice B5 m5 d5] 31));rw[<-hS] at Bf iJ;by_cases e0:k=j
 ·have g0:(k==j)=true:=by simp[e0]
  have HE0:=Lt (v.2.1=u.2.1) (HKJ.o.1.symm.trans (e0.trans HKJ.o.2));clear e0;by_cases e1:v.1=u.1
  ·simp only[Yv e1] at HG;have HE1:=Lh e1;clear e1;by_cases e2:v.2.2.1=u.2.2.1
   ·simp only[Yv e2] at HR;have Ju:=Lh (HEQ.o HE1.o HE0.o e2);clear e2;go_enter Tryz.func25,Tryz.ntmps25;go_wp2_with (refine Zs (some 5) rfl ?_);rw[<-hS];clear hS;refine Stop.go ?_;generalize (w.alloc (.cells #[.slice A1 n1 c1,.slice A2 n2 c2,.slice A3 n3 c3,.int .i64 k,.slice A4 n4 c4,.slice A5 n5 c5] 31)).alloc (.cells #[.slice B1 m1 d1,.slice B2 m2 d2,.slice B3 m3 d3,.int .i64 j,.slice B4 m4 d4,.slice B5 m5 d5] 31)=w1 at *;obtain⟨a0,a1,a2,a3,a4,a5⟩:=Zp Bf.o;obtain⟨b0,b1,b2,b3,b4,b5⟩:=Zp iJ.o;go_wp2_with fail;refine (HG.o w1 HB1.o).mono ?_;rintro e w2 ⟨rfl,hb⟩;have HB2:=Lh (HB1.o.trans (hb.mono HB1.o.size));have aK:=Lh ((hb.block S (gl Bf.o)).trans Bf.o);have dP:=Lh ((hb.block (S+1) (gl iJ.o)).trans iJ.o);clear hb a0 a1 a2 a3 a4 a5 b0 b1 b2 b3 b4 b5;obtain⟨a0,a1,a2,a3,a4,a5⟩:=Zp aK.o;obtain⟨b0,b1,b2,b3,b4,b5⟩:=Zp dP.o;go_wp2_with fail;refine (HR.o w2 HB2.o).mono ?_;rintro e w3 ⟨rfl,hb⟩;have HB3:=Lh (HB2.o.trans (hb.mono HB2.o.size));have wB:=Lh ((hb.block S (gl aK.o)).trans aK.o);have HU3:=Lh ((hb.block (S+1) (gl dP.o)).trans dP.o);clear hb a0 a1 a2 a3 a4 a5 b0 b1 b2 b3 b4 b5;obtain⟨a0,a1,a2,a3,a4,a5⟩:=Zp wB.o;obtain⟨b0,b1,b2,b3,b4,b5⟩:=Zp HU3.o;go_wp2_with fail;refine (HM.o w3 HB3.o).mono ?_;rintro e w4 ⟨rfl,hb⟩;have HB4:=Lh (HB3.o.trans (hb.mono HB3.o.size));go_wp2_with fail;go_ret;exact⟨Kx (Zv Ju.o.symm),HB4.o⟩
   ·simp only[Yw e2] at HR;have Ju:=Lh (HNE.o (.inr (.inr e2)));clear e2;go_enter Tryz.func25,Tryz.ntmps25;go_wp2_with (refine Zs (some 5) rfl ?_);rw[<-hS];clear hS;refine Stop.go ?_;generalize (w.alloc (.cells #[.slice A1 n1 c1,.slice A2 n2 c2,.slice A3 n3 c3,.int .i64 k,.slice A4 n4 c4,.slice A5 n5 c5] 31)).alloc (.cells #[.slice B1 m1 d1,.slice B2 m2 d2,.slice B3 m3 d3,.int .i64 j,.slice B4 m4 d4,.slice B5 m5 d5] 31)=w1 at *;obtain⟨a0,a1,a2,a3,a4,a5⟩:=Zp Bf.o;obtain⟨b0,b1,b2,b3,b4,b5⟩:=Zp iJ.o;go_wp2_with fail;refine (HG.o w1 HB1.o).mono ?_;rintro e w2 ⟨rfl,hb⟩;have HB2:=Lh (HB1.o.trans (hb.mono HB1.o.size));have aK:=Lh ((hb.block S (gl Bf.o)).trans Bf.o);have dP:=Lh ((hb.block (S+1) (gl iJ.o)).trans iJ.o);clear hb a0 a1 a2 a3 a4 a5 b0 b1 b2 b3 b4 b5;obtain⟨a0,a1,a2,a3,a4,a5⟩:=Zp aK.o;obtain⟨b0,b1,b2,b3,b4,b5⟩:=Zp dP.o;go_wp2_with fail;refine (HR.o w2 HB2.o).mono ?_;rintro e w3 ⟨rfl,hb⟩;have HB3:=Lh (HB2.o.trans (hb.mono HB2.o.size));have wB:=Lh ((hb.block S (gl aK.o)).trans aK.o);have HU3:=Lh ((hb.block (S+1) (gl dP.o)).trans dP.o);clear hb a0 a1 a2 a3 a4 a5 b0 b1 b2 b3 b4 b5;obtain⟨a0,a1,a2,a3,a4,a5⟩:=Zp wB.o;obtain⟨b0,b1,b2,b3,b4,b5⟩:=Zp HU3.o;go_wp2_with fail;go_ret;exact⟨Kx (Zv Ju.o.symm),HB3.o⟩
  ·simp only[Yw e1] at HG;have Ju:=Lh (HNE.o (.inl e1));clear e1;go_enter Tryz.func25,Tryz.ntmps25;go_wp2_with (refine Zs (some 5) rfl ?_);rw[<-hS];clear hS;refine Stop.go ?_;generalize (w.alloc (.cells #[.slice A1 n1 c1,.slice A2 n2 c2,.slice A3 n3 c3,.int .i64 k,.slice A4 n4 c4,.slice A5 n5 c5] 31)).alloc (.cells #[.slice B1 m1 d1,.slice B2 m2 d2,.slice B3 m3 d3,.int .i64 j,.slice B4 m4 d4,.slice B5 m5 d5] 31)=w1 at *;obtain⟨a0,a1,a2,a3,a4,a5⟩:=Zp Bf.o;obtain⟨b0,b1,b2,b3,b4,b5⟩:=Zp iJ.o;go_wp2_with fail;refine (HG.o w1 HB1.o).mono ?_;rintro e w2 ⟨rfl,hb⟩;have HB2:=Lh (HB1.o.trans (hb.mono HB1.o.size));have aK:=Lh ((hb.block S (gl Bf.o)).trans Bf.o);have dP:=Lh ((hb.block (S+1) (gl iJ.o)).trans iJ.o);clear hb a0 a1 a2 a3 a4 a5 b0 b1 b2 b3 b4 b5;obtain⟨a0,a1,a2,a3,a4,a5⟩:=Zp aK.o;obtain⟨b0,b1,b2,b3,b4,b5⟩:=Zp dP.o;go_wp2_with fail;go_ret;exact⟨Kx (Zv Ju.o.symm),HB2.o⟩
 ·have g0:(k==j)=false:=by simp[e0]
  have Ju:=Lh (HNE.o (.inr (.inl (fun e=>e0 (HKJ.o.1.trans (e.trans HKJ.o.2.symm))))));clear e0;go_enter Tryz.func25,Tryz.ntmps25;go_wp2_with (refine Zs (some 5) rfl ?_);rw[<-hS];clear hS;refine Stop.go ?_;generalize (w.alloc (.cells #[.slice A1 n1 c1,.slice A2 n2 c2,.slice A3 n3 c3,.int .i64 k,.slice A4 n4 c4,.slice A5 n5 c5] 31)).alloc (.cells #[.slice B1 m1 d1,.slice B2 m2 d2,.slice B3 m3 d3,.int .i64 j,.slice B4 m4 d4,.slice B5 m5 d5] 31)=w1 at *;obtain⟨a0,a1,a2,a3,a4,a5⟩:=Zp Bf.o;obtain⟨b0,b1,b2,b3,b4,b5⟩:=Zp iJ.o;go_wp2_with fail;go_ret;exact⟨Kx (Zv Ju.o.symm),HB1.o⟩
def vQ(v:Ng)(w:World)(e:Ending)(w':World):Prop:=∃(u:Ng)(cl:List Wf)(er:Int),vV v.1 v.2.1 u cl er/\e=.returned (.bool (decide (er=0)&&decide (v=u)))/\Below w.heap.size w w'
theorem vQ.of{v u:Ng}{w w':World}{cl:List Wf}{er:Int}{x:Bool}(h:vV v.1 v.2.1 u cl er)(hx:x=(decide (er=0)&&decide (v=u)))(hb:Below w.heap.size w w'):vQ v w (.returned (.bool x)) w':=⟨u,cl,er,h,by rw[hx],hb⟩
theorem qiV(v1 v2 v3 vr vm:Value)(v:Ng)(w:World)(hv:Gh w w.heap.size v1 v2 v3 vr vm v)(hf:cE v.1)(ht:dX w) :
  Calls Tryz.prog 17 #[Im v1 v2 v3 vr vm v.2.1] w (vQ v w):=by
 obtain⟨A1,A2,A3,A4,A5,c1,c2,c3,c4,c5,rfl,rfl,rfl,rfl,rfl⟩:=hv.form;have HV:=Lh hv;obtain⟨S,hS⟩:=Xe w.heap.size;have HO:=Lh (fun(W:World)(hb:Below w.heap.size w W)=>tH _ _ _ v.1 v.2.1 W hf (HV.o.fut hb (Ya _) hb.size).gram (ht.below hb));have HS:=Lh (fun(W:World)(hb:Below w.heap.size w W)(u:Ng)(u1 u2 u3 ur um:Value)(hu:Gh W W.heap.size u1 u2 u3 ur um u)=>jt _ _ _ _ _ u1 u2 u3 ur um v u W (HV.o.fut hb (Ya _) hb.size) hu);clear hv HV hf ht;unfold Im at HS |-;generalize v.1.1.length=n1 at *;generalize v.1.2.1.length=n2 at *;generalize v.1.2.2.length=n3 at *;generalize v.2.2.1.length=n4 at *;generalize v.2.2.2.length=n5 at *;obtain⟨k,hk⟩:=Xe v.2.1;simp only[<-hk] at HO HS;rw[<-hk];have HK:=Lh hk;clear hk;have HB1:=Lt (Below w.heap.size w (w.alloc (.cells #[.slice A1 n1 c1,.slice A2 n2 c2,.slice A3 n3 c3,.int .i64 k,.slice A4 n4 c4,.slice A5 n5 c5] 31))) ((Xr _ _).alloc (Ya _) _);have Bf:=Lh (Xn w (.cells #[.slice A1 n1 c1,.slice A2 n2 c2,.slice A3 n3 c3,.int .i64 k,.slice A4 n4 c4,.slice A5 n5 c5] 31));rw[<-hS] at Bf;go_enter Tryz.func17,Tryz.ntmps17;go_wp2_with (refine Zs (some 7) rfl ?_);rw[<-hS];clear hS;refine Stop.go ?_;generalize w.alloc (.cells #[.slice A1 n1 c1,.slice A2 n2 c2,.slice A3 n3 c3,.int .i64 k,.slice A4 n4 c4,.slice A5 n5 c5] 31)=w1 at *;obtain⟨a0,a1,a2,a3,a4,a5⟩:=Zp Bf.o;go_wp2_with fail;refine (HO.o w1 HB1.o).mono ?_;rintro e w2 ⟨u1,u2,u3,ur,um,uc,u,cl,er,hov,rfl,sk,Ja⟩;have qJ:=(sk w2 fun _ _ _=>rfl).1;obtain⟨B6,d6,rfl,_,_⟩:=(sk w2 fun _ _ _=>rfl).2.form;obtain⟨B1,B2,B3,B4,B5,d1,d2,d3,d4,d5,rfl,rfl,rfl,rfl,rfl⟩:=qJ.form;have HOV:=Lh hov;have HB2:=Lh (HB1.o.trans (Ja.mono HB1.o.size));have aK:=Lh ((Ja.block S (gl Bf.o)).trans Bf.o);have dP:=Lh qJ;clear sk hov Ja qJ a0 a1 a2 a3 a4 a5;unfold Im;have Ab:=Lh (fun(W:World)(hb:Below w2.heap.size w2 W)=>HS.o W (HB2.o.trans (hb.mono HB2.o.size)) u _ _ _ _ _ (dP.o.fut hb (Ya _) hb.size));clear HS dP;generalize u.1.1.length=m1 at *;generalize u.1.2.1.length=m2 at *;generalize u.1.2.2.length=m3 at *;generalize u.2.2.1.length=m4 at *;generalize u.2.2.2.length=m5 at *;generalize cl.length=m6 at *;obtain⟨j,hj⟩:=Xe u.2.1;simp only[<-hj] at Ab;rw[<-hj];clear hj;have hb3:Below w2.heap.size w2 (w2.alloc (.cells #[.slice B1 m1 d1,.slice B2 m2 d2,.slice B3 m3 d3,.int .i64 j,.slice B4 m4 d4,.slice B5 m5 d5] 31)):=(Xr _ _).alloc (Ya _) _;have jn:=Lh (Ab.o _ hb3);have HB3:=Lh (HB2.o.trans (hb3.mono HB2.o.size));have wB:=Lh ((hb3.block S (gl aK.o)).trans aK.o);have HU3:=Lh (Xn w2 (.cells #[.slice B1 m1 d1,.slice B2 m2 d2,.slice B3 m3 d3,.int .i64 j,.slice B4 m4 d4,.slice B5 m5 d5] 31));obtain⟨X,hX⟩:=Xe w2.heap.size;rw[<-hX] at HU3;clear hb3 Ab;by_cases he:er=0
 ·subst he;go_wp2_with (refine Zs (some 16) rfl ?_);rw[<-hX];clear hX;refine Stop.go ?_;generalize w2.alloc (.cells #[.slice B1 m1 d1,.slice B2 m2 d2,.slice B3 m3 d3,.int .i64 j,.slice B4 m4 d4,.slice B5 m5 d5] 31)=w3 at *;obtain⟨a0,a1,a2,a3,a4,a5⟩:=Zp wB.o;obtain⟨b0,b1,b2,b3,b4,b5⟩:=Zp HU3.o;go_wp2_with fail;refine jn.o.mono ?_;rintro e w4 ⟨rfl,hb4⟩;have HB4:=Lh (HB3.o.trans (hb4.mono HB3.o.size));obtain⟨x,hx⟩:=Xe (decide (v=u));rw[<-hx];have HX:=Lh hx;clear hx hb4;go_wp2_with fail;go_ret;exact vQ.of (by rw[<-HK.o];exact HOV.o) (by rw[HX.o,Yv (rfl:(0:Int)=0),Bool.true_and]) HB4.o
 ·have g0:(er==0)=false:=by simpa using he
  have HER:=Lt (decide (er=0)=false) (Yw he);clear he;go_wp2_with (refine Zs (some 16) rfl ?_);rw[<-hX];clear hX;refine Stop.go ?_;generalize w2.alloc (.cells #[.slice B1 m1 d1,.slice B2 m2 d2,.slice B3 m3 d3,.int .i64 j,.slice B4 m4 d4,.slice B5 m5 d5] 31)=w3 at *;go_wp2_with fail;go_ret;exact vQ.of (by rw[<-HK.o];exact HOV.o) (by rw[HER.o,Bool.false_and]) HB3.o
theorem qw(v1 v2 v3:Value)(g:Kc)(w:World)(Ek:g.1.length+g.2.1.length<=1048576)(h:nL w w.heap.size v1 v2 v3 g) :
  Calls Tryz.prog 51 #[.agg #[v1,v2,v3]] w fun e w'=>e=.returned (.bool (Uj g&&decide (g=Jk g)))/\Below w.heap.size w w':=by
 obtain⟨A1,A2,A3,c1,c2,c3,rfl,rfl,rfl⟩:=h.form;obtain⟨S,hS⟩:=Xe w.heap.size;have HB1:=Lt (Below w.heap.size w (w.alloc (.cells #[.slice A1 g.1.length c1,.slice A2 g.2.1.length c2,.slice A3 g.2.2.length c3] 25))) ((Xr _ _).alloc (Ya _) _);have HG1:=Lh (Xn w (.cells #[.slice A1 g.1.length c1,.slice A2 g.2.1.length c2,.slice A3 g.2.2.length c3] 25));rw[<-hS] at HG1;have HVA:=Lh (fun(W:World)(hb:Below w.heap.size w W)=>Tc (.slice A1 g.1.length c1) (.slice A2 g.2.1.length c2) (.slice A3 g.2.2.length c3) g.1 g.2.1 g.2.2 W (by omega) (h.fut hb (Ya _) hb.size).names (h.fut hb (Ya _) hb.size).terms (h.fut hb (Ya _) hb.size).rules);have HCN:=Lh (fun(W:World)(hb:Below w.heap.size w W)=>gW (.slice A1 g.1.length c1) (.slice A2 g.2.1.length c2) (.slice A3 g.2.2.length c3) g W (by omega) (h.fut hb (Ya _) hb.size));have iK:=Lh (fun(W:World)(hb:Below w.heap.size w W)(u1 u2 u3:Value)(hu:nL W W.heap.size u1 u2 u3 (Py g))=>jV (.slice A1 g.1.length c1) (.slice A2 g.2.1.length c2) (.slice A3 g.2.2.length c3) u1 u2 u3 g (Py g) W (h.fut hb (Ya _) hb.size) hu);simp only[show (g.1,g.2.1,g.2.2)=g from rfl] at HVA;clear h;generalize g.1.length=n at *;generalize g.2.1.length=m at *;generalize g.2.2.length=q at *;go_enter Tryz.func51,Tryz.ntmps51;go_wp2_with fail;rw[<-hS];clear hS;generalize w.alloc (.cells #[.slice A1 n c1,.slice A2 m c2,.slice A3 q c3] 25)=w1 at *;obtain⟨a0,a1,a2⟩:=Jb HG1.o;rcases Yn (Uj g) with hg | hg
 ·have HCE:=Lt (Py g=Jk g) (if_pos hg);rw[hg] at HVA;have Ju:=Lh (show (Uj g&&decide (g=Jk g))=decide (g=Jk g) by rw[hg,Bool.true_and]);clear hg;refine Text.wp_grow [1,5,6] [0,3,4] [] (by kernel_rfl) (by kernel_rfl) ?_;have HB2:=Lh HB1.o.drew;have HG2:=Lt (w1.drew.heap[S]? = some (.cells #[.slice A1 n c1,.slice A2 m c2,.slice A3 q c3] 25 (0,0))) (HG1.o);obtain⟨a0,a1,a2⟩:=Jb HG2.o;clear HB1 HG1;generalize w1.drew=w2 at *;refine Text.wpS_seg 1 _ _ _ _ (by decide) (fun Q' hQ'=>?_);simp only[Xta,Xtz];go_wp2_with fail;simp only[Yq,Xx,List.drop_zero];refine Text.wpS_one (fun Q' hQ'=>?_);go_wp2_with fail;refine (HVA.o w2 HB2.o).mono ?_;rintro e w3 ⟨rfl,hb3⟩;have HB3:=Lh (HB2.o.trans (hb3.mono HB2.o.size));have On:=Lh hb3;have iD:=Lh ((hb3.block S (gl HG2.o)).trans HG2.o);clear hb3;go_wp2_with fail;refine⟨On.o,?_⟩;obtain⟨b0,b1,b2⟩:=Jb iD.o;refine Text.wpS_seg 3 _ _ _ _ (by decide) (fun Q' hQ'=>?_);simp only[Xta,Xtz];go_wp2_with fail;simp only[Xda,Xdz];refine Text.wpS_one (fun Q' hQ'=>?_);go_wp2_with fail;refine (HCN.o w3 HB3.o).mono ?_;rintro e w4 ⟨u1,u2,u3,rfl,hu,hb4⟩;have hu4:=hu w4 fun _ _ _=>rfl;obtain⟨B1,B2,B3,d1,d2,d3,rfl,rfl,rfl⟩:=hu4.form;have HB4:=Lh (HB3.o.trans (hb4.mono HB3.o.size));have sd:=Lh (On.o.trans (hb4.mono On.o.size));have jn:=Lh (iK.o w4 HB4.o _ _ _ hu4);rw[HCE.o] at jn;rw[show (Py g)=Jk g from HCE.o];obtain⟨x,hx⟩:=Xe (decide (g=Jk g));rw[<-hx] at jn;have HX:=Lh hx;clear hx;clear hu hu4 hb4;generalize (Jk g).1.length=n1 at *;generalize (Jk g).2.1.length=m1 at *;generalize (Jk g).2.2.length=q1 at *;go_wp2_with fail;refine⟨sd.o,?_⟩;refine Text.wpS_one (fun Q' hQ'=>?_);go_wp2_with fail;refine jn.o.mono ?_;rintro e w5 ⟨rfl,hb5⟩;have HB5:=Lh (HB4.o.trans (hb5.mono HB4.o.size));have zuF:=Lh (sd.o.trans (hb5.mono sd.o.size));clear hb5;go_wp2_with fail;refine⟨zuF.o,?_⟩;refine Text.wpS_seg 2 _ _ _ _ (by decide) (fun Q' hQ'=>?_);simp only[Xta,Xtz];go_wp2_with fail;refine⟨by rfl,⟨fun _=>⟨_,_,rfl,a0⟩,fun _=>⟨_,_,rfl,a0⟩,fun _=>⟨_,_,rfl,a0⟩,trivial⟩,?_⟩;go_wp2_with fail;go_ret;exact⟨Kx (Zv (by rw[Ju.o,<-HX.o])),HB5.o⟩
 ·rw[hg] at HVA;have Ju:=Lh (show (Uj g&&decide (g=Jk g))=false by rw[hg,Bool.false_and]);clear hg;refine Text.wp_grow [1,5,6] [0,3,4] [] (by kernel_rfl) (by kernel_rfl) ?_;have HB2:=Lh HB1.o.drew;have HG2:=Lt (w1.drew.heap[S]? = some (.cells #[.slice A1 n c1,.slice A2 m c2,.slice A3 q c3] 25 (0,0))) (HG1.o);obtain⟨a0,a1,a2⟩:=Jb HG2.o;clear HB1 HG1;generalize w1.drew=w2 at *;refine Text.wpS_seg 1 _ _ _ _ (by decide) (fun Q' hQ'=>?_);simp only[Xta,Xtz];go_wp2_with fail;simp only[Yq,Xx,List.drop_zero];refine Text.wpS_one (fun Q' hQ'=>?_);go_wp2_with fail;refine (HVA.o w2 HB2.o).mono ?_;rintro e w3 ⟨rfl,hb3⟩;have HB3:=Lh (HB2.o.trans (hb3.mono HB2.o.size));have On:=Lh hb3;clear hb3;go_wp2_with fail;refine⟨On.o,?_⟩;refine Text.wpS_seg 3 _ _ _ _ (by decide) (fun Q' hQ'=>?_);simp only[Xta,Xtz];go_wp2_with fail;simp only[Xda,Xdz];refine Text.wpS_one (fun Q' hQ'=>?_);go_wp2_with fail;refine⟨On.o,?_⟩;refine Text.wpS_one (fun Q' hQ'=>?_);go_wp2_with fail;refine⟨On.o,?_⟩;refine Text.wpS_seg 2 _ _ _ _ (by decide) (fun Q' hQ'=>?_);simp only[Xta,Xtz];go_wp2_with fail;refine⟨by rfl,⟨fun _=>⟨_,_,rfl,a0⟩,Text.no_want rfl,Text.no_want rfl,trivial⟩,?_⟩;go_wp2_with fail;go_ret;exact⟨Kx (Zv Ju.o.symm),HB3.o⟩
noncomputable def Bt(g:Kc)(i:Nat)(m:Kf):Bool:=Un m (g.2.1.length:Int)&&me g i m&&(decide (m≠[])&&decide (Ny m=m))
noncomputable def Po(v:Ng):Bool:=(List.range v.2.2.2.length).all fun i=>Bt v.1 i (v.2.2.2.getD i [])
noncomputable def Tw(v:Ng):Bool:=Bu v.2.1&&decide (Kb v.1=0)&&decide (v.2.2.2.length=v.1.1.length)&&Po v&&(Uj v.1&&decide (v.1=Jk v.1))&&xe v.1 v.2.1 v.2.2.1
theorem vq{v:Ng}{i:Nat}(hi:i<v.2.2.2.length)(h:Bt v.1 i v.2.2.2[i]=false):Po v=false:=by
 unfold Po;rw[List.all_eq_false];exact⟨i,Xz.2 hi,by rw[Qb,Qa hi];simpa using h⟩
theorem oJ{v:Ng}(h:∀(i:Nat)(hi:i<v.2.2.2.length),Bt v.1 i v.2.2.2[i]=true):Po v=true:=by
 unfold Po;rw[Xp];intro i hi;have hi:=Xz.1 hi;rw[Qb,Qa hi];exact h i hi
theorem ud{v:Ng}(h:Bu v.2.1=false\/Kb v.1≠0\/v.2.2.2.length≠v.1.1.length\/Po v=false\/(Uj v.1&&decide (v.1=Jk v.1))=false):Tw v=false:=by
 unfold Tw;rcases h with h | h | h | h | h
 ·rw[h];rfl
 ·rw[Yw h,Bool.and_false];rfl
 ·rw[Yw h,Bool.and_false];rfl
 ·rw[h,Bool.and_false];rfl
 ·rw[h,Bool.and_false];rfl
theorem nY{v:Ng}(h1:Bu v.2.1=true)(h2:Kb v.1=0)(h3:v.2.2.2.length=v.1.1.length)(h4:Po v=true)(h5:(Uj v.1&&decide (v.1=Jk v.1))=true):Tw v=xe v.1 v.2.1 v.2.2.1:=by
 unfold Tw;rw[h1,Yv h2,Yv h3,h4,h5];rfl
def zaK(m:Kf):Prop:=m.length<=2199023255552/\∀ k<m.length,(Mb m k).length<=2199023255552
def Fw(v:Ng)(w:World)(e:Ending)(w':World):Prop:=e=.returned (.bool (Tw v))/\Below w.heap.size w w'
theorem Fw.of{v:Ng}{w w':World}{x:Bool}(h:Tw v=x)(hb:Below w.heap.size w w'):Fw v w (.returned (.bool x)) w':=⟨by rw[h],hb⟩
theorem lj(v1 v2 v3 vr vm:Value)(v:Ng)(w:World)(hv:Gh w w.heap.size v1 v2 v3 vr vm v)(hs:v.1.1.length<=524288/\v.1.2.1.length<=524288/\v.1.2.2.length<=1048576/\v.2.2.1.length<=1048576)(hm:∀ m∈v.2.2.2,zaK m)(ht:dX w) :
  Calls Tryz.prog 16 #[Im v1 v2 v3 vr vm v.2.1] w (Fw v w):=by
 obtain⟨A1,A2,A3,A4,A5,c1,c2,c3,c4,c5,rfl,rfl,rfl,rfl,rfl⟩:=hv.form;have HV:=Lh hv;have HMZ:=Lh hm;have HT:=Lh ht;obtain⟨S,hS⟩:=Xe w.heap.size;have HLK:=Lh (fun W:World=>mG v.2.1 W);have HCK:=Lh (fun(W:World)(hb:Below w.heap.size w W)=>mY W (g:=v.1) (show Nb W W.heap.size A1 A2 A3 v.1.1.length v.1.2.1.length v.1.2.2.length c1 c2 c3 v.1 from ⟨(HV.o.fut hb (Ya _) hb.size).gram.names,(HV.o.fut hb (Ya _) hb.size).gram.terms,(HV.o.fut hb (Ya _) hb.size).gram.rules,by omega⟩));have HIS:=Lh (fun(W:World)(hb:Below w.heap.size w W)=>qw _ _ _ v.1 W (by omega) (HV.o.fut hb (Ya _) hb.size).gram);have pX:=Lh (fun(W:World)(hb:Below w.heap.size w W)=>qdY (g:=v.1) A4 v.2.2.1.length c4 v.2.1 v.2.2.1 W (show Nb W W.heap.size A1 A2 A3 v.1.1.length v.1.2.1.length v.1.2.2.length c1 c2 c3 v.1 from ⟨(HV.o.fut hb (Ya _) hb.size).gram.names,(HV.o.fut hb (Ya _) hb.size).gram.terms,(HV.o.fut hb (Ya _) hb.size).gram.rules,by omega⟩) (HV.o.fut hb (Ya _) hb.size).rows (by omega));have HVL:=Lh (fun(W:World)(m:Kf)(vm:Value)(h:Je Js W W.heap.size vm m)=>rC vm (v.1.2.1.length:Int) m W h);have HOW:=Lh (fun(W:World)(hb:Below w.heap.size w W)(left:Nat)(m:Kf)(vm:Value)(h:Je Js W W.heap.size vm m)=>qrW (.slice A1 v.1.1.length c1) (.slice A2 v.1.2.1.length c2) (.slice A3 v.1.2.2.length c3) vm v.1 left m W W.heap.size (HV.o.fut hb (Ya _) hb.size).gram.rules (Ya _) h);have HMS:=Lh (fun(W:World)(hb:Below w.heap.size w W)=>(HV.o.fut hb (Ya _) hb.size).machs);have HRN:=Lh (fun h=>ud (v:=v) h);have HRY:=Lh (fun a b c d e=>nY (v:=v) a b c d e);have hm5:=hv.machs.n_le;clear hv hm ht HV hs;unfold Ri at HCK pX;unfold Im;obtain⟨n1,hn1⟩:=Xe v.1.1.length;obtain⟨n2,yg⟩:=Xe v.1.2.1.length;obtain⟨n3,hn3⟩:=Xe v.1.2.2.length;obtain⟨n4,hn4⟩:=Xe v.2.2.1.length;obtain⟨n5,hn5⟩:=Xe v.2.2.2.length;obtain⟨k,hk⟩:=Xe v.2.1;simp only[<-hn1,<-yg,<-hn3,<-hn4,<-hn5,<-hk] at HLK HCK HIS pX HVL HOW HMS;rw[<-hn5] at hm5;rw[<-hn1,<-yg,<-hn3,<-hn4,<-hn5,<-hk];have HN:=Lt (n1=v.1.1.length/\n2=v.1.2.1.length/\n5=v.2.2.2.length/\k=v.2.1) (⟨hn1,yg,hn5,hk⟩);clear hn1 yg hn3 hn4 hn5 hk;have HB1:=Lt (Below w.heap.size w (w.alloc (.cells #[.slice A1 n1 c1,.slice A2 n2 c2,.slice A3 n3 c3,.int .i64 k,.slice A4 n4 c4,.slice A5 n5 c5] 31))) ((Xr _ _).alloc (Ya _) _);have Bf:=Lh (Xn w (.cells #[.slice A1 n1 c1,.slice A2 n2 c2,.slice A3 n3 c3,.int .i64 k,.slice A4 n4 c4,.slice A5 n5 c5] 31));rw[<-hS] at Bf;rcases Yn (Bu k) with hlk | hlk
 ·rw[hlk] at HLK;have HL1:=Lh (show Bu v.2.1=true by rw[<-HN.o.2.2.2];exact hlk);clear hlk;by_cases hc:Kb v.1=0
  ·have HC:=Lh hc;rw[hc] at HCK;clear hc;by_cases hn:n5=n1
   ·have g0:((n5:Int) != (n1:Int))=false:=by simp;omega
    have ztH:=Lh hn;clear hn;go_enter Tryz.func16,Tryz.ntmps16;go_wp2_with (refine Zs (some 5) rfl ?_);rw[<-hS];have HSE:=Lh hS;clear hS;refine Stop.go ?_;generalize w.alloc (.cells #[.slice A1 n1 c1,.slice A2 n2 c2,.slice A3 n3 c3,.int .i64 k,.slice A4 n4 c4,.slice A5 n5 c5] 31)=w1 at *;obtain⟨a0,a1,a2,a3,a4,a5⟩:=Zp Bf.o;go_wp2_with fail;refine (HLK.o w1).mono ?_;rintro e w2 ⟨rfl,rfl⟩;go_wp2_with fail;refine (HCK.o w1 HB1.o).mono ?_;rintro e w2 ⟨rfl,Ja⟩;have HB2:=Lh (HB1.o.trans (Ja.mono HB1.o.size));have aK:=Lh ((Ja.block S (gl Bf.o)).trans Bf.o);clear Ja a0 a1 a2 a3 a4 a5;obtain⟨a0,a1,a2,a3,a4,a5⟩:=Zp aK.o;go_wp2_with fail;have HQ0:=Lt (∀(j:Nat)(hj:j<v.2.2.2.length),j<0->Bt v.1 j v.2.2.2[j]=true) (fun j _ h=>by omega);have HBL0:=Lh (Xr w2.heap.size w2);have HSW:=Lt (S<w2.heap.size) ((gl aK.o));clear a0 a1 a2 a3 a4 a5;go_loopw [28] (fun v28 wr=>∃ i:Nat,i<=n5/\v28=.int .i64 i/\Hid (∀(j:Nat)(hj:j<v.2.2.2.length),j<i->Bt v.1 j v.2.2.2[j]=true)/\Hid (Below w2.heap.size w2 wr)) (fun v28 _=>n5 - (intOf v28).toNat);exact⟨0,by omega,rfl,HQ0.o,HBL0.o⟩;clear HQ0 HBL0;obtain⟨i,hi,rfl,HQ,HBL⟩:=hrel;have HBR:=Lh (HB2.o.trans (HBL.o.mono HB2.o.size));have jm:=Lh ((HBL.o.block S HSW.o).trans aK.o);obtain⟨a0,a1,a2,a3,a4,a5⟩:=Zp jm.o;by_cases Ji:i<n5
    ·have Wt:i<v.2.2.2.length:=by rw[<-HN.o.2.2.1];exact Ji
     obtain⟨b,off,cs,hA5,_,_,Zx,Zm⟩:=(HMS.o wr HBR.o).get Wt (by decide);subst hA5;obtain⟨vm,rfl,wN⟩:=Zx;obtain⟨Am,cm,rfl,_,_⟩:=wN.form;have hcm:=Zm 0 _ rfl;simp only[show (Th Js).size=1 from rfl,Yr,Yp] at hcm;have HZ:=Lh (HMZ.o v.2.2.2[i] (Qg Wt));have HNO:=Lt (Bt v.1 i v.2.2.2[i]=false->Tw v=false) (fun h=>HRN.o (.inr (.inr (.inr (.inl (vq Wt h))))));have cC:=Lh (show Bt v.1 i v.2.2.2[i]=true->∀(j:Nat)(hj:j<v.2.2.2.length),j<i+1->Bt v.1 j v.2.2.2[j]=true from fun h j hj Ad=>by
      by_cases e:j=i
      ·subst e;exact h
      ·exact HQ.o j hj (by omega))
     have iK:=Lh wN;clear Zm wN;generalize v.2.2.2[i]=m at *;clear Wt;have fH:=Lh (show Bt v.1 i m=(Un m (n2:Int)&&me v.1 i m&&(decide (m≠[])&&decide (Ny m=m))) by unfold Bt;rw[HN.o.2.1]);have sq:=Lh (HVL.o wr m _ iK.o);have wX:=Lh (fun(W:World)(hb:Below wr.heap.size wr W)=>HOW.o W (HBR.o.trans (hb.mono HBR.o.size)) i m _ (iK.o.fut hb (Ya _) hb.size));have HC3:=Lh (fun(W:World)(hb:Below wr.heap.size wr W)=>vf _ m W (iK.o.fut hb (Ya _) hb.size) HZ.o.1 HZ.o.2 (HT.o.below (HBR.o.trans (hb.mono HBR.o.size))));clear iK;generalize m.length=lm at *;rcases Yn (Un m (n2:Int)) with oL | oL
     ·rcases Yn (me v.1 i m) with how | how
      ·rcases Yn (decide (m≠[])&&decide (Ny m=m)) with his | his
       ·have HY:=Lh (cC.o (by rw[fH.o,oL,how,his];rfl));rw[oL] at sq;simp only[how] at wX;simp only[his] at HC3;clear oL how his;go_wp2_with fail;refine sq.o.mono ?_;rintro e w3 ⟨rfl,hb3⟩;have kQ:=Lh (HBL.o.trans (hb3.mono HBL.o.size));have On:=Lh hb3;have wB:=Lh ((hb3.block S (gl jm.o)).trans jm.o);clear hb3 a0 a1 a2 a3 a4 a5;obtain⟨a0,a1,a2,a3,a4,a5⟩:=Zp wB.o;go_wp2_with fail;refine (wX.o w3 On.o).mono ?_;rintro e w4 ⟨rfl,hb4⟩;have Cj:=Lh (kQ.o.trans (hb4.mono kQ.o.size));have sd:=Lh (On.o.trans (hb4.mono On.o.size));clear hb4;go_wp2_with fail;refine (HC3.o w4 sd.o).mono ?_;rintro e w5 ⟨rfl,hb5⟩;have HBX5:=Lh (Cj.o.trans (hb5.mono Cj.o.size));clear hb5;go_wp2_with fail;go_roundw;exact⟨i+1,by omega,by go_num,HY.o,HBX5.o⟩;simp[intOf];omega
       ·have Ju:=Lh (HNO.o (by rw[fH.o,his,Bool.and_false]));rw[oL] at sq;simp only[how] at wX;simp only[his] at HC3;clear oL how his;go_wp2_with fail;refine sq.o.mono ?_;rintro e w3 ⟨rfl,hb3⟩;have kQ:=Lh (HBL.o.trans (hb3.mono HBL.o.size));have On:=Lh hb3;have wB:=Lh ((hb3.block S (gl jm.o)).trans jm.o);clear hb3 a0 a1 a2 a3 a4 a5;obtain⟨a0,a1,a2,a3,a4,a5⟩:=Zp wB.o;go_wp2_with fail;refine (wX.o w3 On.o).mono ?_;rintro e w4 ⟨rfl,hb4⟩;have Cj:=Lh (kQ.o.trans (hb4.mono kQ.o.size));have sd:=Lh (On.o.trans (hb4.mono On.o.size));clear hb4;go_wp2_with fail;refine (HC3.o w4 sd.o).mono ?_;rintro e w5 ⟨rfl,hb5⟩;have HBX5:=Lh (Cj.o.trans (hb5.mono Cj.o.size));clear hb5;go_wp2_with fail;go_ret;exact Fw.of Ju.o (HB2.o.trans (HBX5.o.mono HB2.o.size))
      ·have Ju:=Lh (HNO.o (by rw[fH.o,how,Bool.and_false];rfl));rw[oL] at sq;simp only[how] at wX;clear oL how;go_wp2_with fail;refine sq.o.mono ?_;rintro e w3 ⟨rfl,hb3⟩;have kQ:=Lh (HBL.o.trans (hb3.mono HBL.o.size));have On:=Lh hb3;have wB:=Lh ((hb3.block S (gl jm.o)).trans jm.o);clear hb3 a0 a1 a2 a3 a4 a5;obtain⟨a0,a1,a2,a3,a4,a5⟩:=Zp wB.o;go_wp2_with fail;refine (wX.o w3 On.o).mono ?_;rintro e w4 ⟨rfl,hb4⟩;have Cj:=Lh (kQ.o.trans (hb4.mono kQ.o.size));have sd:=Lh (On.o.trans (hb4.mono On.o.size));clear hb4;go_wp2_with fail;go_ret;exact Fw.of Ju.o (HB2.o.trans (Cj.o.mono HB2.o.size))
     ·have Ju:=Lh (HNO.o (by rw[fH.o,oL];rfl));rw[oL] at sq;clear oL;go_wp2_with fail;refine sq.o.mono ?_;rintro e w3 ⟨rfl,hb3⟩;have kQ:=Lh (HBL.o.trans (hb3.mono HBL.o.size));have On:=Lh hb3;have wB:=Lh ((hb3.block S (gl jm.o)).trans jm.o);clear hb3 a0 a1 a2 a3 a4 a5;obtain⟨a0,a1,a2,a3,a4,a5⟩:=Zp wB.o;go_wp2_with fail;go_ret;exact Fw.of Ju.o (HB2.o.trans (kQ.o.mono HB2.o.size))
    ·obtain rfl:i=n5:=by omega
     have HMO:=Lh (oJ (v:=v) fun j hj=>HQ.o j hj (by rw[HN.o.2.2.1];exact hj));have Nh:=Lh (show v.2.2.2.length=v.1.1.length by rw[<-HN.o.1,<-HN.o.2.2.1];exact ztH.o);rcases Yn (Uj v.1&&decide (v.1=Jk v.1)) with sm | sm
     ·have Ju:=Lh (HRY.o HL1.o HC.o Nh.o HMO.o sm);simp only[sm] at HIS;clear sm;go_wp2_with fail;refine (HIS.o wr HBR.o).mono ?_;rintro e w3 ⟨rfl,hb3⟩;have HB3:=Lh (HBR.o.trans (hb3.mono HBR.o.size));have wB:=Lh ((hb3.block S (gl jm.o)).trans jm.o);clear hb3 a0 a1 a2 a3 a4 a5;obtain⟨a0,a1,a2,a3,a4,a5⟩:=Zp wB.o;go_wp2_with fail;refine (pX.o w3 HB3.o).mono ?_;rintro e w4 ⟨rfl,hb4⟩;have HB4:=Lh (HB3.o.trans (hb4.mono HB3.o.size));obtain⟨x,hx⟩:=Xe (xe v.1 k v.2.2.1);rw[<-hx];have HX:=Lh (show Tw v=x by rw[Ju.o,hx,HN.o.2.2.2]);clear hx hb4;go_wp2_with fail;go_ret;exact Fw.of HX.o HB4.o
     ·have Ju:=Lh (HRN.o (.inr (.inr (.inr (.inr sm)))));simp only[sm] at HIS;clear sm;go_wp2_with fail;refine (HIS.o wr HBR.o).mono ?_;rintro e w3 ⟨rfl,hb3⟩;have HB3:=Lh (HBR.o.trans (hb3.mono HBR.o.size));clear hb3;go_wp2_with fail;go_ret;exact Fw.of Ju.o HB3.o
   ·have g0:((n5:Int) != (n1:Int))=true:=by simp;omega
    have Ju:=Lh (HRN.o (.inr (.inr (.inl (by rw[<-HN.o.1,<-HN.o.2.2.1];exact hn)))));clear hn;go_enter Tryz.func16,Tryz.ntmps16;go_wp2_with (refine Zs (some 5) rfl ?_);rw[<-hS];have HSE:=Lh hS;clear hS;refine Stop.go ?_;generalize w.alloc (.cells #[.slice A1 n1 c1,.slice A2 n2 c2,.slice A3 n3 c3,.int .i64 k,.slice A4 n4 c4,.slice A5 n5 c5] 31)=w1 at *;obtain⟨a0,a1,a2,a3,a4,a5⟩:=Zp Bf.o;go_wp2_with fail;refine (HLK.o w1).mono ?_;rintro e w2 ⟨rfl,rfl⟩;go_wp2_with fail;refine (HCK.o w1 HB1.o).mono ?_;rintro e w2 ⟨rfl,Ja⟩;have HB2:=Lh (HB1.o.trans (Ja.mono HB1.o.size));have aK:=Lh ((Ja.block S (gl Bf.o)).trans Bf.o);clear Ja a0 a1 a2 a3 a4 a5;obtain⟨a0,a1,a2,a3,a4,a5⟩:=Zp aK.o;go_wp2_with fail;go_ret;exact Fw.of Ju.o HB2.o
  ·have Ju:=Lh (HRN.o (.inr (.inl hc)));obtain⟨cn,sm⟩:=Xe (Kb v.1);rw[<-sm] at HCK hc;have g1:(cn != 0)=true:=by simpa using hc
   clear hc sm;go_enter Tryz.func16,Tryz.ntmps16;go_wp2_with (refine Zs (some 5) rfl ?_);rw[<-hS];have HSE:=Lh hS;clear hS;refine Stop.go ?_;generalize w.alloc (.cells #[.slice A1 n1 c1,.slice A2 n2 c2,.slice A3 n3 c3,.int .i64 k,.slice A4 n4 c4,.slice A5 n5 c5] 31)=w1 at *;obtain⟨a0,a1,a2,a3,a4,a5⟩:=Zp Bf.o;go_wp2_with fail;refine (HLK.o w1).mono ?_;rintro e w2 ⟨rfl,rfl⟩;go_wp2_with fail;refine (HCK.o w1 HB1.o).mono ?_;rintro e w2 ⟨rfl,Ja⟩;have HB2:=Lh (HB1.o.trans (Ja.mono HB1.o.size));clear Ja a0 a1 a2 a3 a4 a5;go_wp2_with fail;go_ret;exact Fw.of Ju.o HB2.o
 ·rw[hlk] at HLK;have Ju:=Lh (HRN.o (.inl (by rw[<-HN.o.2.2.2];exact hlk)));clear hlk;go_enter Tryz.func16,Tryz.ntmps16;go_wp2_with (refine Zs (some 5) rfl ?_);rw[<-hS];have HSE:=Lh hS;clear hS;refine Stop.go ?_;generalize w.alloc (.cells #[.slice A1 n1 c1,.slice A2 n2 c2,.slice A3 n3 c3,.int .i64 k,.slice A4 n4 c4,.slice A5 n5 c5] 31)=w1 at *;obtain⟨a0,a1,a2,a3,a4,a5⟩:=Zp Bf.o;go_wp2_with fail;refine (HLK.o w1).mono ?_;rintro e w2 ⟨rfl,rfl⟩;go_wp2_with fail;go_ret;exact Fw.of Ju.o HB1.o
theorem qaZ{t:Int}:∀(l:List (Int×Int))(lo:Int),lo<=t->(∀ e∈l,lo<=e.1/\e.1<t)->l.Pairwise (fun a b=>a.1<b.1)->(l.length:Int)<=t - lo
 |[],lo,h0,_,_=>by simp only[Xt];omega
 |e::r,lo,h0,h1,h2=>by
  obtain⟨g1,g2⟩:=Qx.1 h2;obtain⟨k1,k2⟩:=h1 e (Xh ..);have:=qaZ r (e.1+1) (by omega) (fun x hx=>⟨by have:=g1 x hx;omega,(h1 x (Xi _ hx)).2⟩) g2;simp only[Qu];omega
theorem js{m:Kf}{t:Nat}(h:Un m (t:Int)=true){k:Nat}(hk:k<m.length):(Mb m k).length<=t:=by
 have hg:=Fy h;have:=qaZ (t:=(t:Int)) (Mb m k) 0 (by omega) (fun e he=>⟨(hg.tos k hk e he).1,ta h hk he⟩) (hg.rise k hk);omega
theorem qsG{g:Kc}{k:Int}{v:Ng}{c:List Wf}(hf:cE g)(h:vV g k v c 0):v.1=Jk g/\v.2.1=k/\v.2.2.2=Gd v.2.2.1 v.1.1.length/\Hc v.2.2.1/\∀ r∈v.2.2.1,0<=r.2.2:=by
 obtain⟨h1,h2,h3⟩:=hf;obtain⟨a1,a2,a3⟩:=h;by_cases hk:1<=k/\k<=4
 ·by_cases hc:Kb g=0
  ·obtain⟨s,ho,hs⟩:=a3 hk hc;rcases hs with ⟨_,_,_,n4⟩ | ⟨n1,rows,p1,p2,n2,n3,_⟩
   ·cases n4
   ·obtain⟨kk,rfl,hL⟩:=qI (qS hk hc) (by rw[(Vz g).2.1];exact h2);obtain⟨s1,Ft,hM⟩:=hL.sets ho;have e1:=Option.some.inj Ft;subst e1;rw[n2];exact⟨rfl,rfl,rfl,ng hL hM (gZ (by omega) ho).2 (by rw[(Vz g).2.2];exact h3) p1,kz hL hM p1⟩
  ·exact absurd (a2 hk hc).2.2.symm hc
 ·cases (a1 hk).2.2
theorem va{g:Kc}{k:Int}{v:Ng}{c:List Wf}(hf:cE g)(h:vV g k v c 0) :
  Tw v=true/\(∀ m∈v.2.2.2,zaK m)/\cE v.1/\v.2.2.1.length<=1048576:=by
 obtain⟨hr,_⟩:=zM hf.2.1 h;obtain⟨e1,e2,e3,Ev,qyU⟩:=qsG hf h;obtain⟨l1,l2,l3⟩:=Vz g;have qeY:cE v.1:=by rw[e1];exact⟨by rw[l1];exact hf.1,by rw[l2];exact hf.2.1,by rw[l3];exact hf.2.2⟩
 have hz:∀ m∈v.2.2.2,zaK m:=fun m hm=>by
  obtain⟨i,hi,hmi⟩:=Qz hm;have dV:v.2.2.2[i]? = some m:=by rw[Qa hi,hmi]
  obtain⟨hv,_,_⟩:=hr.mach i m dV;have Ua:i<v.1.1.length:=by rw[<-hr.len];exact hi
  rw[e3,zV _ Ua] at dV;injection dV with dV;have hl:=qkT (tF qyU (i:Int)) 1048576 (Ev.of (i:Int)).w;have hn:=(Ev.of (i:Int)).n;rw[dV] at hl;refine⟨?_,fun j hj=>?_⟩
  ·have:(Wr (i:Int) v.2.2.1).length*(1048576+1)<=1048576*(1048576+1):=Nat.mul_le_mul_right _ hn;omega
  ·have:=js hv hj;have:=qeY.2.1;omega
 refine⟨?_,hz,qeY,Ev.n⟩;have hgood:Uj v.1=true:=by
  have:=hr.chk;unfold Kb at this;split at this
  ·rename_i hb;exact hb
  ·cases this
 rw[nY (Yv ⟨hr.k1,hr.k4⟩) hr.chk hr.len (oJ fun i hi=>?_) (by rw[hgood,Yv hr.canon.symm];rfl)]
 ·exact hr.rows
 ·obtain⟨a,b,d⟩:=hr.mach i _ (Qa hi);unfold Bt;rw[a,b,Yv d,Yv (Fy a).some];rfl
theorem qkD{g:Kc}{k:Int}{v u:Ng}{c cl:List Wf}{er:Int}(hf:cE g)(h:vV g k v c 0)(hu:vV v.1 v.2.1 u cl er):er=0/\v=u:=by
 obtain⟨e1,e2,h2⟩:=qdD hf.2.1 h;have:=y_ (by rw[e1,(Vz g).2.1];exact hf.2.1) h2 hu;exact⟨this.2.2.symm,this.1⟩
theorem qoC:Gd Rm 1=[Te Rm]:=by
 unfold Gd;rw[show List.range 1=[0] from rfl,List.map_singleton,show Wr ((0:Nat):Int) Rm=Rm from by kernel_rfl]
def tA:Wd:=[83,32,58,32,39,97,39,32,83,32,124,32,59]
def lA:List Ke:=[(⟨#[83]⟩,[[(true,⟨#[97]⟩),(false,⟨#[83]⟩)],[]])]
def gB:Kc:=([⟨#[83]⟩],[⟨#[97]⟩],[(0,[-1,0]),(0,[])])
theorem qxQ:Ms tA=(lA,0,0):=by kernel_rfl
theorem xc:Jn lA=(gB,0):=by
 unfold Jn;rw[if_neg (by decide),if_neg (by decide)];have e:Kz (lA.map fun x=>Wp x.1) 0 [] [] lA=some ([(0,[-1,0]),(0,[])],[[97]]):=by kernel_rfl
 rw[e];simp only;rw[if_neg (by decide),if_neg (by decide)];rfl
theorem pr:Jk gB=([⟨#[83]⟩],[⟨#[97]⟩],[(0,[]),(0,[-1,0])]):=by
 have h1:Ky [[97]]=[[97]]:=(Oy (List.Perm.refl _) (List.pairwise_singleton ..)).symm;have h2:Ky ([]:List Wd)=[]:=(Oy (List.Perm.refl _) List.Pairwise.nil).symm;have h3:Di [[83]]=[[83]]:=by
  show [[83]]++Ky []=_;rw[h2];rfl
 have h4:pT [[83]] [[97]] [(0,[-1,0]),(0,[])]=[(0,[]),(0,[-1,0])]:=by
  unfold pT;rw[h1,h3];refine (Oz (fun r hr=>?_) ?_ ?_).symm
  ·have e:[(0,[-1,0]),(0,[])].map (Rz [[83]] [[97]] [[83]] [[97]])=[((0:Int),[(-1:Int),0]),(0,[])]:=by kernel_rfl
   rw[e] at hr;intro s hs;simp only[List.mem_cons,List.not_mem_nil,or_false] at hr;rcases hr with rfl | rfl
   ·simp only[List.mem_cons,List.not_mem_nil,or_false] at hs;omega
   ·cases hs
  ·exact List.Perm.swap _ _ _
  ·simp only[Qx,Qi,forall_eq,List.not_mem_nil,false_implies,implies_true,List.Pairwise.nil,and_true];decide
 show ((Di [[83]]).map Jp,(Ky [[97]]).map Jp,pT [[83]] [[97]] [(0,[-1,0]),(0,[])])=_;rw[h1,h3,h4];rfl
noncomputable def vA:Ng:=(gA,1,Rm,[Te Rm])
theorem da:Nx tA=(gA,0,0):=by
 unfold Nx;rw[qxQ];simp only;rw[if_neg (by decide),xc];have h:Py gB=gA:=by
  unfold Py;rw[if_pos (by kernel_rfl),pr];rfl
 rw[h]
theorem qnA:Jk gA=gA:=by
 have h:=gP ((Fj gB).1 (show Uj gB=true by kernel_rfl))
 rwa [pr] at h
theorem zi:cE gA:=⟨by decide,by decide,by decide⟩
theorem zgQ{v:Ng}{c:List Wf}{e:Int}(h:vV gA 1 v c e):v=vA/\c=[]/\e=0:=by
 obtain⟨s,ho,hs⟩:=h.2.2 (by decide) qoD;rw[qnA] at ho hs;have e0:=ho.det qoE;injection e0 with e0;subst e0;rcases hs with ⟨n1,_⟩ | ⟨_,rows,p1,p2,n2,n3,n4⟩
 ·exact absurd qmZ n1
 ·have hre:=qtX (show rows.Perm Rm by have:=p1;rwa [show gA.2.2=gAr from rfl,qtQ] at this) p2;subst hre;refine⟨?_,n3,n4⟩;rw[n2];show (gA,_,Rm,Gd Rm 1)=_;rw[qoC];rfl
theorem qrH{v:Ng}{c:List Wf}{n:Nat}{e:Int}(h:kL tA 1 v c n e):v=vA/\c=[]/\n=0/\e=0/\vV gA 1 vA [] 0:=by
 rcases h with ⟨h,_⟩ | ⟨_,h,_⟩ | ⟨_,_,h1,h2⟩
 ·exact absurd ⟨by decide,by decide⟩ h
 ·rw[da] at h;exact absurd rfl h
 ·rw[da] at h2;obtain⟨a,b,d⟩:=zgQ h2;subst a b d;exact⟨rfl,rfl,h1,rfl,h2⟩
theorem rj(w:World)(ht:dX w):Calls Tryz.prog 8 #[] w fun e w'=>e=.returned (.bool true)/\Below w.heap.size w w':=by
 have HT:=Lh ht;have HMK:=Lt (Calls Tryz.prog 20 #[.string ⟨#[83,32,58,32,39,97,39,32,83,32,124,32,59]⟩,.int .i64 1] w (Ok tA 1 w)) (tN ⟨#[83,32,58,32,39,97,39,32,83,32,124,32,59]⟩ 1 w (by decide) (fun _=>by rw[show (Nx (⟨#[83,32,58,32,39,97,39,32,83,32,124,32,59]⟩:ByteArray).data.toList).1=gA from by show (Nx tA).1=gA;rw[da]];exact zi) ht);clear ht;go_enter Tryz.func8,Tryz.ntmps8;go_wp2_with fail;refine HMK.o.mono ?_;rintro e w1 ⟨v1,v2,v3,vr,vm,vc,v,cl,n,er,hmv,rfl,sj,Oa,hb1⟩;obtain⟨rfl,rfl,rfl,rfl,hof⟩:=qrH hmv;obtain⟨hrb,hmz,qeY,hlen⟩:=va zi hof;obtain⟨A1,A2,A3,A4,A5,c1,c2,c3,c4,c5,rfl,rfl,rfl,rfl,rfl⟩:=sj.form;obtain⟨A6,c6,rfl,_,_⟩:=Oa.form;have Bf:=Lh sj;have HB1:=Lh hb1;have HRT:=Lh (fun(W:World)(hb:Below w1.heap.size w1 W)=>lj _ _ _ _ _ vA W (Bf.o.fut hb (Ya _) hb.size) (by obtain⟨h1,h2,h3⟩:=qeY;omega) hmz (HT.o.below (HB1.o.trans (hb.mono HB1.o.size))));have HTR:=Lh (fun(W:World)(hb:Below w1.heap.size w1 W)=>qiV _ _ _ _ _ vA W (Bf.o.fut hb (Ya _) hb.size) qeY (HT.o.below (HB1.o.trans (hb.mono HB1.o.size))));unfold Fw at HRT;rw[hrb] at HRT;have nI:=Lh hof;have HMS:=Lh sj.machs;clear hmv sj Oa hb1 hrb hmz qeY hlen hof HMK;have Ja:Below w1.heap.size w1 (w1.alloc (.cells #[.slice A1 1 c1,.slice A2 1 c2,.slice A3 2 c3,.int .i64 1,.slice A4 2 c4,.slice A5 1 c5] 31)):=(Xr _ _).alloc (Ya _) _;have HB2:=Lh (HB1.o.trans (Ja.mono HB1.o.size));have dP:=Lh (Xn w1 (.cells #[.slice A1 1 c1,.slice A2 1 c2,.slice A3 2 c3,.int .i64 1,.slice A4 2 c4,.slice A5 1 c5] 31));have HR2:=Lt (Calls Tryz.prog 16 #[.agg #[.slice A1 1 c1,.slice A2 1 c2,.slice A3 2 c3,.int .i64 1,.slice A4 2 c4,.slice A5 1 c5]] _ _) (HRT.o _ Ja);have zrW:=Lh (fun(W:World)(hb:Below w1.heap.size w1 W)=>show Calls Tryz.prog 17 #[.agg #[.slice A1 1 c1,.slice A2 1 c2,.slice A3 2 c3,.int .i64 1,.slice A4 2 c4,.slice A5 1 c5]] W _ from HTR.o W hb);have zsH:=Lh (HMS.o.fut Ja (Ya _) Ja.size);have HBX:=Lh Ja;clear Ja HRT HTR HMS;obtain⟨X,hX⟩:=Xe w1.heap.size;rw[<-hX] at dP;unfold Im;simp only[show vA.1.1.length=1 from rfl,show vA.1.2.1.length=1 from rfl,show vA.1.2.2.length=2 from rfl,show vA.2.2.1.length=2 from rfl,show vA.2.2.2.length=1 from rfl,show vA.2.1=1 from rfl,show ([]:List Wf).length=0 from rfl];go_wp2_with (refine Zs (some 12) rfl ?_);rw[<-hX];clear hX;refine Stop.go ?_;generalize w1.alloc (.cells #[.slice A1 1 c1,.slice A2 1 c2,.slice A3 2 c3,.int .i64 1,.slice A4 2 c4,.slice A5 1 c5] 31)=w2 at *;obtain⟨a0,a1,a2,a3,a4,a5⟩:=Zp dP.o;have wN:=zsH.o;change Je (Th Js) w2 w2.heap.size (.slice A5 1 c5) [Te Rm] at wN;obtain⟨b1,o1,cs,rfl,hc5,hb1,⟨u,rfl,hu⟩,Zm⟩:=wN.get (k:=0) (by decide) (by decide);obtain⟨A7,c7,rfl,_,_⟩:=hu.form;have d0:=Zm 0 _ rfl;simp only[show (Th Js).size=1 from rfl,Nat.zero_mul,Yp] at d0;change w2.cell? _=some (.slice A7 (Te Rm).length c7) at d0;rw[(qoF (r:=Rm) rfl).1] at d0;clear Zm hu wN;go_wp2_with fail;refine HR2.o.mono ?_;rintro e w3 ⟨rfl,hb3⟩;have HB3:=Lh (HB2.o.trans (hb3.mono HB2.o.size));have HU3:=Lh ((hb3.block X (gl dP.o)).trans dP.o);have zrV:=Lh (zrW.o w3 (HBX.o.trans (hb3.mono HBX.o.size)));clear a0 a1 a2 a3 a4 a5 hb3;obtain⟨a0,a1,a2,a3,a4,a5⟩:=Zp HU3.o;go_wp2_with fail;refine zrV.o.mono ?_;rintro e w4 ⟨u,cl,er,hov,rfl,hb4⟩;obtain⟨rfl,rfl⟩:=qkD zi nI.o hov;have HB4:=Lh (HB3.o.trans (hb4.mono HB3.o.size));clear hb4 hov;rw[show (decide ((0:Int)=0)&&decide (vA=vA))=true by simp];go_wp2_with fail;go_ret;exact⟨rfl,HB4.o⟩
theorem sC(a b:Value)(xs ys:List Ud)(w:World)(ha:Je Aj w w.heap.size a xs)(hb:Je Aj w w.heap.size b ys) :
  Calls Tryz.prog 30 #[a,b] w fun e w'=>e=.returned (.bool (decide (xs=ys)))/\Below w.heap.size w w':=by
 obtain⟨A,ca,rfl,h1,hx⟩:=ha.form;obtain⟨B,cb,rfl,h2,hy⟩:=hb.form;unfold maxLen at hx hy;have HA:=Lh ha;have HB:=Lh hb;by_cases hl:xs.length=ys.length
 ·rw[<-hl] at HB h2 |-;obtain⟨n,hn⟩:=Xe xs.length;rw[<-hn] at HA HB h1 h2 |-;have HN:=Lh hn;have Ci:=Lh (hn.trans hl);clear ha hb hl hn hy;go_enter Tryz.func30,Tryz.ntmps30;go_wp2_with fail;go_loopg [5] n (fun left v5 wr=>∃ i:Nat,i<=n/\n - i<=left/\v5=.int .i64 i/\Hid (xs.take i=ys.take i)/\Hid (Below w.heap.size w wr));exact⟨0,by omega,by omega,rfl,by simp[Hid],Xr _ _⟩;obtain⟨i,hi,Dp,rfl,HE,HBR⟩:=hrel;by_cases Li:i<n
  ·have Fv:i<xs.length:=by rw[<-HN.o];exact Li
   have Gt:i<ys.length:=by rw[<-Ci.o];exact Li
   obtain⟨b1,o1,rfl,-,hb1,a0,a1,a2,-⟩:=(HA.o.below HBR.o).rowAt Fv;obtain⟨b2,o2,rfl,-,Ja,c0,c1,c2,-⟩:=(HB.o.below HBR.o).rowAt Gt;have HT:=Lh (Qc Fv);have HT2:=Lh (Qc Gt);have Ot:=Lh (Qa Fv);have cC:=Lh (Qa Gt);obtain⟨x,hx⟩:=Xe (xs[i]);obtain⟨y,hy⟩:=Xe (ys[i]);rw[<-hx] at a0 a1 a2 HT Ot;rw[<-hy] at c0 c1 c2 HT2 cC;clear hx hy Fv Gt;obtain⟨xa,xs1,xi⟩:=x;obtain⟨ya,ys1,yi⟩:=y;simp only at a0 a1 a2 c0 c1 c2;go_wp2_with fail;refine Text.wp_text [8] (by kernel_rfl) (by kernel_rfl) (fun Q' hQ'=>?_);go_wp2_with fail
   all_goals refine⟨by rfl,?_⟩
   case isTrue.isTrue.isTrue =>
    rename_i g1 g2 g3;subst g1 g2 g3;go_wp2_with fail;go_roundg (gk - 1);exact⟨i+1,by omega,by omega,by go_num,by show _=_;rw[HT.o,HT2.o,HE.o],HBR.o.drew⟩;omega
   all_goals
    have HNE:=Lh (show ¬ xs=ys by
     intro e
     have e2:=Ot.o.symm.trans ((congrArg (fun l:List Ud=>l[i]?) e).trans cC.o)
     injection e2 with e2
     injection e2 with e2 e3
     injection e3 with e3 e4
     contradiction)
    go_wp2_with fail;go_ret;exact⟨Kx (Zv (by rw[eq_comm,Yk];exact HNE.o)),HBR.o.drew⟩
  ·have HF:=Lh (show xs=ys by
    have:=HE.o
    rwa [Qd (by rw[<-HN.o];omega),Qd (by rw[<-Ci.o];omega)] at this)
   go_wp2_with fail;go_ret;exact⟨Kx (Zv (by rw[HF.o];simp)),HBR.o⟩
 ·have hd:((xs.length:Int) != ys.length)=true:=by simpa using (show ¬ (xs.length:Int)=ys.length by omega)
  have HL:=Lh hl;clear hl;go_enter Tryz.func30,Tryz.ntmps30;go_wp2_with fail;go_ret;exact⟨Kx (Zv (by rw[eq_comm,Yk];intro h;exact HL.o (congrArg List.length h))),by go_grown⟩
theorem qp(a b:Value)(xs ys:List Wf)(w:World)(ha:Je Ie w w.heap.size a xs)(hb:Je Ie w w.heap.size b ys) :
  Calls Tryz.prog 14 #[a,b] w fun e w'=>e=.returned (.bool (decide (xs=ys)))/\Below w.heap.size w w':=by
 obtain⟨A,ca,rfl,h1,hx⟩:=ha.form;obtain⟨B,cb,rfl,h2,hy⟩:=hb.form;unfold maxLen at hx hy;have HA:=Lh ha;have HB:=Lh hb;by_cases hl:xs.length=ys.length
 ·rw[<-hl] at HB h2 |-;obtain⟨n,hn⟩:=Xe xs.length;rw[<-hn] at HA HB h1 h2 |-;have HN:=Lh hn;have Ci:=Lh (hn.trans hl);clear ha hb hl hn hy;go_enter Tryz.func14,Tryz.ntmps14;go_wp2_with fail;go_loopg [5] n (fun left v5 wr=>∃ i:Nat,i<=n/\n - i<=left/\v5=.int .i64 i/\Hid (xs.take i=ys.take i)/\Hid (Below w.heap.size w wr));exact⟨0,by omega,by omega,rfl,by simp[Hid],Xr _ _⟩;obtain⟨i,hi,Dp,rfl,HE,HBR⟩:=hrel;by_cases Li:i<n
  ·have Fv:i<xs.length:=by rw[<-HN.o];exact Li
   have Gt:i<ys.length:=by rw[<-Ci.o];exact Li
   obtain⟨b1,o1,cs1,rfl,-,hb1,⟨rfl,-⟩,Kt⟩:=(HA.o.below HBR.o).get Fv (by decide);obtain⟨b2,o2,cs2,rfl,-,Ja,⟨rfl,-⟩,Jr⟩:=(HB.o.below HBR.o).get Gt (by decide);have a0:=Kt 0 _ rfl;have a1:=Kt 1 _ rfl;have a2:=Kt 2 _ rfl;have a3:=Kt 3 _ rfl;have c0:=Jr 0 _ rfl;have c1:=Jr 1 _ rfl;have c2:=Jr 2 _ rfl;have c3:=Jr 3 _ rfl;clear Kt Jr;simp only[show Ie.size=4 from rfl,Yp,<-Yx] at a0 a1 a2 a3 c0 c1 c2 c3;have HT:=Lh (Qc Fv);have HT2:=Lh (Qc Gt);have Ot:=Lh (Qa Fv);have cC:=Lh (Qa Gt);obtain⟨x,hx⟩:=Xe (xs[i]);obtain⟨y,hy⟩:=Xe (ys[i]);rw[<-hx] at a0 a1 a2 a3 HT Ot;rw[<-hy] at c0 c1 c2 c3 HT2 cC;clear hx hy Fv Gt;obtain⟨xa,xs1,xi,xj⟩:=x;obtain⟨ya,ys1,yi,yj⟩:=y;simp only at a0 a1 a2 a3 c0 c1 c2 c3;go_wp2_with fail;refine Text.wp_text [8] (by kernel_rfl) (by kernel_rfl) (fun Q' hQ'=>?_);go_wp2_with fail
   all_goals refine⟨by rfl,?_⟩
   case isTrue.isTrue.isTrue.isTrue =>
    rename_i g1 g2 g3 g4;subst g1 g2 g3 g4;go_wp2_with fail;go_roundg (gk - 1);exact⟨i+1,by omega,by omega,by go_num,by show _=_;rw[HT.o,HT2.o,HE.o],HBR.o.drew⟩;omega
   all_goals
    have HNE:=Lh (show ¬ xs=ys by
     intro e
     have e2:=Ot.o.symm.trans ((congrArg (fun l:List Wf=>l[i]?) e).trans cC.o)
     injection e2 with e2
     injection e2 with e2 e3
     injection e3 with e3 e4
     injection e4 with e4 e5
     contradiction)
    go_wp2_with fail;go_ret;exact⟨Kx (Zv (by rw[eq_comm,Yk];exact HNE.o)),HBR.o.drew⟩
  ·have HF:=Lh (show xs=ys by
    have:=HE.o
    rwa [Qd (by rw[<-HN.o];omega),Qd (by rw[<-Ci.o];omega)] at this)
   go_wp2_with fail;go_ret;exact⟨Kx (Zv (by rw[HF.o];simp)),HBR.o⟩
 ·have hd:((xs.length:Int) != ys.length)=true:=by simpa using (show ¬ (xs.length:Int)=ys.length by omega)
  have HL:=Lh hl;clear hl;go_enter Tryz.func14,Tryz.ntmps14;go_wp2_with fail;go_ret;exact⟨Kx (Zv (by rw[eq_comm,Yk];intro h;exact HL.o (congrArg List.length h))),by go_grown⟩
theorem tv(a b:Value)(xs ys:Kf)(w:World)(ha:Je Js w w.heap.size a xs)(hb:Je Js w w.heap.size b ys) :
  Calls Tryz.prog 84 #[a,b] w fun e w'=>e=.returned (.bool (decide (xs=ys)))/\Below w.heap.size w w':=by
 obtain⟨A,ca,rfl,h1,hx⟩:=ha.form;obtain⟨B,cb,rfl,h2,hy⟩:=hb.form;unfold maxLen at hx hy;have HA:=Lh ha;have HB:=Lh hb;by_cases hl:xs.length=ys.length
 ·rw[<-hl] at HB h2 |-;obtain⟨n,hn⟩:=Xe xs.length;rw[<-hn] at HA HB h1 h2 |-;have HN:=Lh hn;have Ci:=Lh (hn.trans hl);clear ha hb hl hn hy;go_enter Tryz.func84,Tryz.ntmps84;go_wp2_with fail;go_loopg [5] n (fun left v5 wr=>∃ i:Nat,i<=n/\n - i<=left/\v5=.int .i64 i/\Hid (xs.take i=ys.take i)/\Hid (Below w.heap.size w wr));exact⟨0,by omega,by omega,rfl,by simp[Hid],Xr _ _⟩;obtain⟨i,hi,Dp,rfl,HE,HBR⟩:=hrel;obtain⟨gas,Gf⟩:=Xe gk;rw[<-Gf] at Dp;have HGK:=Lh Gf;clear Gf;generalize wr=wo at *;by_cases Li:i<n
  ·have Fv:i<xs.length:=by rw[<-HN.o];exact Li
   have Gt:i<ys.length:=by rw[<-Ci.o];exact Li
   have HT:=Lh (Qc Fv);have HT2:=Lh (Qc Gt);have Ot:=Lh (Qa Fv);have cC:=Lh (Qa Gt);obtain⟨b1,o1,cs1,rfl,-,hb1,Fm,Kt⟩:=(HA.o.below HBR.o).get Fv (by decide);obtain⟨v1,rfl,iF,Ib,Sc⟩:=Me Fm;have x0:=Kt 0 _ rfl;have x1:=Kt 1 _ rfl;simp only[show Js.size=2 from rfl,Yp,<-Yx] at x0 x1;obtain⟨b2,o2,cs2,rfl,-,Ja,Mz,Jr⟩:=(HB.o.below HBR.o).get Gt (by decide);obtain⟨v2,rfl,oM,hz3,hz4⟩:=Me Mz;have y0:=Jr 0 _ rfl;have y1:=Jr 1 _ rfl;simp only[show Js.size=2 from rfl,Yp,<-Yx] at y0 y1;obtain⟨A3,c3,rfl,h31,uE⟩:=iF.form;obtain⟨A4,c4,rfl,pk,h42⟩:=oM.form;unfold maxLen at uE h42;have Bf:=Lh iF;have aK:=Lh oM;obtain⟨x,hx⟩:=Xe (xs[i]);obtain⟨y,hy⟩:=Xe (ys[i]);rw[<-hx] at x0 x1 HT Ot h31 Bf;rw[<-hy] at y0 y1 HT2 cC pk aK;clear hx hy Fv Gt iF oM Kt Jr Fm Mz Ib Sc hz3 hz4;obtain⟨l1,r1⟩:=x;obtain⟨l2,r2⟩:=y;simp only at x0 x1 y0 y1 h31 pk Bf aK;have HNE:=Lh (show (l1,r1)≠(l2,r2)->decide (xs=ys)=false from fun h=>Yw fun e=>h (by
    have e2:=Ot.o.symm.trans ((congrArg (fun l:Kf=>l[i]?) e).trans cC.o)
    injection e2))
   clear Ot cC;by_cases kW:l1=l2
   ·by_cases hqq:r1.length=r2.length
    ·rw[<-hqq] at y1 pk aK;obtain⟨q,hq⟩:=Xe r1.length;rw[<-hq] at x1 y1 h31 pk Bf aK;have HQ:=Lt (q=r1.length/\q=r2.length) (⟨hq,hq.trans hqq⟩);clear hq hqq;subst kW;go_wp2_with fail;refine Text.wt (by kernel_rfl) fun Q' hQ'=>?_;go_wp2_with fail;refine⟨by rfl,?_⟩;go_wp2_with fail;go_loopg [6] q (fun qkY v6 wt=>∃ j:Nat,j<=q/\q - j<=qkY/\v6=.int .i64 j/\Hid (r1.take j=r2.take j)/\Hid (Below wo.heap.size wo wt));exact⟨0,by omega,by omega,rfl,by simp[Hid],(Xr _ _).drew⟩;obtain⟨j,hj,qmC,rfl,HJ,HBT⟩:=hrel;have x1:=(HBT.o.cell (p:=⟨b1,o1+i*2+1,none⟩) (Yd hb1 HBR.o.size)).trans x1;have y1:=(HBT.o.cell (p:=⟨b2,o2+i*2+1,none⟩) (Yd Ja HBR.o.size)).trans y1;have HBW:=Lh (HBR.o.trans (HBT.o.mono HBR.o.size));by_cases hjq:j<q
     ·have hjx:j<r1.length:=by rw[<-HQ.o.1];exact hjq
      have hjy:j<r2.length:=by rw[<-HQ.o.2];exact hjq
      have hbs:=HBR.o.size;obtain⟨b3,o3,cs3,rfl,-,hb3,qvN,yy⟩:=(Bf.o.fut (HBT.o.mono hbs) (Ya _) (Ya _)).get hjx (by decide);obtain⟨b4,o4,cs4,rfl,-,hb4,qvM,yx⟩:=(aK.o.fut (HBT.o.mono hbs) (Ya _) (Ya _)).get hjy (by decide);obtain⟨rfl,-,-,-,-⟩:=Nf qvN;obtain⟨rfl,-,-,-,-⟩:=Nf qvM;have a0:=yy 0 _ rfl;have a1:=yy 1 _ rfl;have c0:=yx 0 _ rfl;have c1:=yx 1 _ rfl;clear yy yx qvN qvM;simp only[show Gm.size=2 from rfl,Yp,<-Yx] at a0 a1 c0 c1;have HTJ:=Lh (Qc hjx);have HTJ2:=Lh (Qc hjy);have HXJ:=Lh (Qa hjx);have HYJ:=Lh (Qa hjy);obtain⟨x,hx⟩:=Xe (r1[j]);obtain⟨y,hy⟩:=Xe (r2[j]);rw[<-hx] at a0 a1 HTJ HXJ;rw[<-hy] at c0 c1 HTJ2 HYJ;clear hx hy hjx hjy;obtain⟨xa,xi⟩:=x;obtain⟨ya,yi⟩:=y;simp only at a0 a1 c0 c1;go_wp2_with fail;refine Text.wp_text [16] (by kernel_rfl) (by kernel_rfl) (fun Q' hQ'=>?_);go_wp2_with fail
      all_goals refine⟨by rfl,?_⟩
      case isTrue.isTrue =>
       rename_i g1 g2;subst g1 g2;go_wp2_with fail;go_roundg (gk - 1);exact⟨j+1,by omega,by omega,by go_num,by show _=_;rw[HTJ.o,HTJ2.o,HJ.o],HBT.o.drew⟩;omega
      all_goals
       have HR:=Lh (HNE.o (by
        intro e
        injection e with e0 e
        have e2:=HXJ.o.symm.trans ((congrArg (fun l:List (Int×Int)=>l[j]?) e).trans HYJ.o)
        injection e2 with e2
        injection e2 with e2 e3
        contradiction))
       go_wp2_with fail;go_ret;exact⟨Kx (Zv HR.o.symm),HBW.o.drew⟩
     ·have HF:=Lh (show r1=r2 by
       have:=HJ.o
       rwa [Qd (by rw[<-HQ.o.1];omega),Qd (by rw[<-HQ.o.2];omega)] at this)
      go_wp2_with fail;go_roundg (gas - 1);exact⟨i+1,by omega,by omega,by go_num,by show _=_;rw[HT.o,HT2.o,HE.o,HF.o],HBW.o⟩;have:=HGK.o;omega
    ·have hd:((r1.length:Int) != r2.length)=true:=by simpa using (show ¬ (r1.length:Int)=r2.length by omega)
     have HR:=Lh (HNE.o fun e=>hqq (by injection e with _ e;rw[e]));clear hqq;subst kW;go_wp2_with fail;refine Text.wt (by kernel_rfl) fun Q' hQ'=>?_;go_wp2_with fail;refine⟨by rfl,?_⟩;go_wp2_with fail;go_ret;exact⟨Kx (Zv HR.o.symm),HBR.o.drew⟩
   ·have hd:(l1 != l2)=true:=by simpa using kW
    have HR:=Lh (HNE.o fun e=>kW (by injection e));clear kW;go_wp2_with fail;refine Text.wt (by kernel_rfl) fun Q' hQ'=>?_;go_wp2_with fail;refine⟨by rfl,?_⟩;go_wp2_with fail;go_ret;exact⟨Kx (Zv HR.o.symm),HBR.o.drew⟩
  ·have HF:=Lh (show xs=ys by
    have:=HE.o
    rwa [Qd (by rw[<-HN.o];omega),Qd (by rw[<-Ci.o];omega)] at this)
   go_wp2_with fail;go_ret;exact⟨Kx (Zv (by rw[HF.o];simp)),HBR.o⟩
 ·have hd:((xs.length:Int) != ys.length)=true:=by simpa using (show ¬ (xs.length:Int)=ys.length by omega)
  have HL:=Lh hl;clear hl;go_enter Tryz.func84,Tryz.ntmps84;go_wp2_with fail;go_ret;exact⟨Kx (Zv (by rw[eq_comm,Yk];intro h;exact HL.o (congrArg List.length h))),by go_grown⟩
theorem pE(a b:Value)(xs ys:List Kf)(w:World)(ha:Je (Th Js) w w.heap.size a xs)(hb:Je (Th Js) w w.heap.size b ys) :
  Calls Tryz.prog 31 #[a,b] w fun e w'=>e=.returned (.bool (decide (xs=ys)))/\Below w.heap.size w w':=by
 obtain⟨A,ca,rfl,h1,hx⟩:=ha.form;obtain⟨B,cb,rfl,h2,hy⟩:=hb.form;unfold maxLen at hx hy;have HA:=Lh ha;have HB:=Lh hb;by_cases hl:xs.length=ys.length
 ·rw[<-hl] at HB h2 |-;obtain⟨n,hn⟩:=Xe xs.length;rw[<-hn] at HA HB h1 h2 |-;have HN:=Lh hn;have Ci:=Lh (hn.trans hl);clear ha hb hl hn hy;go_enter Tryz.func31,Tryz.ntmps31;go_wp2_with fail;go_loopg [5] n (fun left v5 wr=>∃ i:Nat,i<=n/\n - i<=left/\v5=.int .i64 i/\Hid (xs.take i=ys.take i)/\Hid (Below w.heap.size w wr));exact⟨0,by omega,by omega,rfl,by simp[Hid],Xr _ _⟩;obtain⟨i,hi,Dp,rfl,HE,HBR⟩:=hrel;by_cases Li:i<n
  ·have Fv:i<xs.length:=by rw[<-HN.o];exact Li
   have Gt:i<ys.length:=by rw[<-Ci.o];exact Li
   have HT:=Lh (Qc Fv);have HT2:=Lh (Qc Gt);have Ot:=Lh (Qa Fv);have cC:=Lh (Qa Gt);obtain⟨b1,o1,cs1,rfl,-,hb1,⟨v1,rfl,iF⟩,Kt⟩:=(HA.o.below HBR.o).get Fv (by decide);have x0:=Kt 0 _ rfl;simp only[show (Th Js).size=1 from rfl,Yr,Yp] at x0;obtain⟨b2,o2,cs2,rfl,-,Ja,⟨v2,rfl,oM⟩,Jr⟩:=(HB.o.below HBR.o).get Gt (by decide);have y0:=Jr 0 _ rfl;simp only[show (Th Js).size=1 from rfl,Yr,Yp] at y0;obtain⟨A3,c3,rfl,h31,uE⟩:=iF.form;obtain⟨A4,c4,rfl,pk,h42⟩:=oM.form;have hbs:=HBR.o.size;have Ii:=Lh (fun w1 (hb:Below wr.heap.size wr w1)=>tv _ _ _ _ w1 (iF.fut hb hbs (Yb hbs hb.size)) (oM.fut hb hbs (Yb hbs hb.size)));have HNE:=Lh (show xs[i]≠ys[i]->decide (xs=ys)=false from fun h=>Yw fun e=>h (by
    have e2:=Ot.o.symm.trans ((congrArg (fun l:List Kf=>l[i]?) e).trans cC.o)
    injection e2))
   clear Kt Jr iF oM h31 uE pk h42 Ot cC;generalize xs[i]=x at *;generalize ys[i]=y at *;generalize x.length=lx at *;generalize y.length=ly at *;clear Fv Gt;by_cases pH:x=y
   ·simp only[Yv pH] at Ii;have HX:=Lh pH;clear pH;go_wp2_with fail;refine Text.wp_grow [8] [3,7] [] (by kernel_rfl) (by kernel_rfl) ?_;refine Text.wpS_seg 8 _ _ _ _ (by decide) (fun Q' hQ'=>?_);simp only[Xta,Xtz];go_wp2_with fail
    try simp only[Yq,Xx,List.drop_zero]
    refine Text.wpS_one (fun Q' hQ'=>?_);go_wp2_with fail;refine (Ii.o _ Ub).mono ?_;rintro e w5 ⟨rfl,hb5⟩;go_wp2_with fail;refine⟨hb5,?_⟩;refine Text.wpS_seg 1 _ _ _ _ (by decide) (fun Q' hQ'=>?_);simp only[Xta,Xtz];go_wp2_with fail;refine⟨by rfl,?_,?_⟩
    ·exact⟨fun _=>⟨_,_,rfl,x0⟩,fun _=>⟨_,_,rfl,y0⟩,trivial⟩
    have HB5:=Lh (HBR.o.trans ((Ub.trans hb5).mono hbs));clear hb5;go_wp2_with fail;go_roundg (gk - 1);exact⟨i+1,by omega,by omega,by go_num,by show _=_;rw[HT.o,HT2.o,HE.o,HX.o],HB5.o⟩;omega
   ·simp only[Yw pH] at Ii;have HX:=Lh (HNE.o pH);clear pH;go_wp2_with fail;refine Text.wp_grow [8] [3,7] [] (by kernel_rfl) (by kernel_rfl) ?_;refine Text.wpS_seg 8 _ _ _ _ (by decide) (fun Q' hQ'=>?_);simp only[Xta,Xtz];go_wp2_with fail
    try simp only[Yq,Xx,List.drop_zero]
    refine Text.wpS_one (fun Q' hQ'=>?_);go_wp2_with fail;refine (Ii.o _ Ub).mono ?_;rintro e w5 ⟨rfl,hb5⟩;go_wp2_with fail;refine⟨hb5,?_⟩;refine Text.wpS_seg 1 _ _ _ _ (by decide) (fun Q' hQ'=>?_);simp only[Xta,Xtz];go_wp2_with fail;refine⟨by rfl,?_,?_⟩
    ·exact⟨fun _=>⟨_,_,rfl,x0⟩,fun _=>⟨_,_,rfl,y0⟩,trivial⟩
    have HB5:=Lh (HBR.o.trans ((Ub.trans hb5).mono hbs));clear hb5;go_wp2_with fail;go_ret;exact⟨Kx (Zv HX.o.symm),HB5.o⟩
  ·have HF:=Lh (show xs=ys by
    have:=HE.o
    rwa [Qd (by rw[<-HN.o];omega),Qd (by rw[<-Ci.o];omega)] at this)
   go_wp2_with fail;go_ret;exact⟨Kx (Zv (by rw[HF.o];simp)),HBR.o⟩
 ·have hd:((xs.length:Int) != ys.length)=true:=by simpa using (show ¬ (xs.length:Int)=ys.length by omega)
  have HL:=Lh hl;clear hl;go_enter Tryz.func31,Tryz.ntmps31;go_wp2_with fail;go_ret;exact⟨Kx (Zv (by rw[eq_comm,Yk];intro h;exact HL.o (congrArg List.length h))),by go_grown⟩
theorem Aa(c:Int)(w:World):Calls Tryz.prog 141 #[.int .u8 c] w fun e w'=>e=.returned (.bool (Ul c))/\w=w':=by
 have hc:c<65\/(65<=c/\c<=90)\/(90<c/\c<97)\/(97<=c/\c<=122)\/122<c:=by omega
 rcases hc with h | h | h | h | h
 all_goals
  go_enter Tryz.func141,Tryz.ntmps141;go_wp2
  all_goals first
   |(exfalso;omega)
   |(exfalso;simp at *;omega)
   |(go_ret;exact⟨Kx (Zv (by rw[Bool.eq_iff_iff];simp[Ul] <;> omega)),rfl⟩)
theorem gH(c:Int)(w:World):Calls Tryz.prog 142 #[.int .u8 c] w fun e w'=>e=.returned (.bool (Wl c))/\w=w':=by
 rcases Yn (Ul c) with hl | hl
 ·have HL:=Lh hl;go_enter Tryz.func142,Tryz.ntmps142;go_wp2_with (go_call Aa c _ as e w1 ⟨rfl,rfl⟩);go_ret;exact⟨Kx (Zv (by unfold Wl;rw[HL.o];rfl)),rfl⟩
 ·have HL:=Lh hl;have hc:c<48\/(48<=c/\c<=57)\/(57<c/\c<95)\/(95<=c/\c<=95)\/95<c:=by omega
  rcases hc with h | h | h | h | h
  all_goals
   go_enter Tryz.func142,Tryz.ntmps142;go_wp2_with (go_call Aa c _ as e w1 ⟨rfl,rfl⟩)
   all_goals first
    |(exfalso;omega)
    |(exfalso;simp at *;omega)
    |(go_ret;exact⟨Kx (Zv (by rw[Bool.eq_iff_iff];simp[Wl,HL.o] <;> omega)),rfl⟩)
theorem gR(v:Value)(ns:List ByteArray)(s:ByteArray)(w:World)(hv:Je Nk w w.heap.size v ns) :
  Calls Tryz.prog 37 #[v,.string s] w fun e w'=>e=.returned (.int .i64 (idxOf (fun x=>decide (x=s)) ns))/\w=w':=by
 obtain⟨A,c,rfl,Nj,Uy⟩:=hv.form;unfold maxLen at Uy;have HV:=Lh hv;obtain⟨n,hn⟩:=Xe ns.length;rw[<-hn] at HV Nj |-;have HN:=Lh hn;clear hv hn;go_enter Tryz.func37,Tryz.ntmps37;go_wp2_with fail;go_loopg [5] n (fun left v5 wr=>∃ i:Nat,i<=n/\n - i<=left/\v5=.int .i64 i/\wr=w/\Hid (∀(j:Nat)(h:j<ns.length),j<i->(fun x=>decide (x=s)) ns[j]=false));exact⟨0,by omega,by omega,rfl,rfl,fun j h hj=>by omega⟩;obtain⟨i,hi,Dp,rfl,rfl,HNO⟩:=hrel;by_cases Li:i<n
 ·have Wt:i<ns.length:=by rw[<-HN.o];exact Li
  obtain⟨b,o,cs,rfl,-,-,Zx,Zm⟩:=HV.o.get Wt (by decide);obtain⟨rfl,Pr⟩:=Zx;have Vh:=Zm 0 _ rfl;simp only[show Nk.size=1 from rfl,Yr,Yp] at Vh;have Ld:=Lh (Lx (p:=fun x=>decide (x=s)) Wt HNO.o);by_cases he:ns[i]=s
  ·have hb:(ns[i].toList==s.toList)=true:=by rw[he];exact beq_self_eq_true _
   have HX:=Lh (Ld.o (by simpa using he));clear Zm he;go_wp2_with fail;go_ret;exact⟨Kx (Gu HX.o.symm),rfl⟩
  ·have hb:(ns[i].toList==s.toList)=false:=by rw[<-beq_toListBytes,Gp,Yk];exact fun e=>he e.symm
   have HE:=Lh he;clear Zm he;go_wp2_with fail;go_roundg (gk - 1);exact⟨i+1,by omega,by omega,by go_num,rfl,fun j h hj=>by by_cases e:j=i;(subst e;simpa using HE.o);exact HNO.o j h (by omega)⟩;omega
 ·have HX:=Lh (Bv (p:=fun x=>decide (x=s)) (xs:=ns) fun j h=>HNO.o j h (by have:=HN.o;omega));go_wp2_with fail;go_ret;exact⟨Kx (Gu HX.o.symm),rfl⟩
theorem sD(a b:Value)(xs ys:List Int)(w:World)(ha:Je Wo w w.heap.size a xs)(hb:Je Wo w w.heap.size b ys) :
  Calls Tryz.prog 57 #[a,b] w fun e w'=>e=.returned (.bool (decide (xs=ys)))/\Below w.heap.size w w':=by
 obtain⟨A,c,rfl,Nj,Uy⟩:=ha.form;obtain⟨B,d,rfl,jR,jQ⟩:=hb.form;unfold maxLen at Uy jQ;by_cases hl:xs.length=ys.length
 ·have hne:((xs.length:Int) != (ys.length:Int))=false:=by simp;omega
  go_enter Tryz.func57,Tryz.ntmps57;go_wp2;go_loopw [5] (fun v8 wr=>∃ k:Nat,k<=xs.length/\v8=.int .i64 k/\Hid (∀(j:Nat)(h:j<xs.length)(h2:j<ys.length),j<k->xs[j]=ys[j])/\Below w.heap.size w wr) (fun v8 _=>xs.length - (intOf v8).toNat);exact⟨0,by omega,rfl,fun j h h2 hj=>by omega,Xr _ _⟩;obtain⟨k,hk,rfl,hno,hbr⟩:=hrel;by_cases Ji:k<xs.length
  ·have ef:k<ys.length:=by omega
   obtain⟨ab,ao,cs,rfl,_,Lj,Zx,Zm⟩:=(ha.below hbr).get Ji (by decide);obtain⟨rfl,Pr,gM⟩:=Zx;have Vh:=Zm 0 _ rfl;obtain⟨bb,bo,cs,rfl,_,jj,Zx,Jr⟩:=(hb.below hbr).get ef (by decide);obtain⟨rfl,tX,wM⟩:=Zx;have hd0:=Jr 0 _ rfl;clear Zm Jr;simp only[show Wo.size=1 from rfl,Yr,Yp] at Vh hd0;by_cases heq:xs[k]=ys[k]
   ·have hq:(xs[k] != ys[k])=false:=by simp[heq]
    have HQ:=Lh heq;clear heq;go_wp2_with fail;refine Text.wt (by kernel_rfl) fun Q' hQ'=>?_;go_wp2;refine⟨by rfl,?_⟩;go_wp2;go_roundw;exact⟨k+1,by omega,by go_num,fun j h h2 hj=>by by_cases e:j=k;(subst e;exact HQ.o);exact hno.o j h h2 (by omega),hbr.drew⟩;simp[intOf];omega
   ·have hq:(xs[k] != ys[k])=true:=by simp[heq]
    have HQ:=Lh heq;clear heq;go_wp2_with fail;refine Text.wt (by kernel_rfl) fun Q' hQ'=>?_;go_wp2;refine⟨by rfl,?_⟩;go_wp2;go_ret;exact⟨Kx (Zv (by rw[eq_comm,Yk];intro h;subst h;exact HQ.o rfl)),hbr.drew⟩
  ·have HEQ:Hid (xs=ys):=List.ext_getElem hl fun j h h2=>hno.o j h h2 (by omega);go_wp2;go_ret;exact⟨Kx (Zv (by rw[eq_comm,Yj];exact HEQ.o)),hbr⟩
 ·have hne:((xs.length:Int) != (ys.length:Int))=true:=by simp;omega
  go_enter Tryz.func57,Tryz.ntmps57;go_wp2;go_ret;exact⟨Kx (Zv (by rw[eq_comm,Yk];intro h;subst h;exact hl rfl)),Xr _ _⟩
theorem uH(v1 v2 v3 u1 u2 u3:Value)(g h:Kc)(w:World)(hg:nL w w.heap.size v1 v2 v3 g)(hh:nL w w.heap.size u1 u2 u3 h) :
  Calls Tryz.prog 21 #[.agg #[v1,v2,v3],.agg #[u1,u2,u3]] w fun e w'=>e=.returned (.bool (decide (g=h)))/\Below w.heap.size w w':=by
 obtain⟨A1,A2,A3,c1,c2,c3,rfl,rfl,rfl⟩:=hg.form;obtain⟨B1,B2,B3,d1,d2,d3,rfl,rfl,rfl⟩:=hh.form;obtain⟨S,hS⟩:=Xe w.heap.size;have HSE:=Lh hS;have HNE:=Lt ((g.1≠h.1\/g.2.1≠h.2.1\/g.2.2≠h.2.2)->decide (g=h)=false) (fun e=>Yw fun e2=>by subst e2;simp at e);have HEQ:=Lt (g.1=h.1->g.2.1=h.2.1->g.2.2=h.2.2->decide (g=h)=true) (fun a b c=>Yv (Prod.ext a (Prod.ext b c)));have iq:=Lh hg;have HHH:=Lh hh;have hn1:=hg.names.n_le;have yg:=hg.terms.n_le;have hn3:=hg.rules.n_le;have jO:=hh.names.n_le;have hm2:=hh.terms.n_le;have hm3:=hh.rules.n_le;obtain⟨n1,Pr⟩:∃ n,n=g.1.length:=⟨_,rfl⟩;obtain⟨n2,gM⟩:∃ n,n=g.2.1.length:=⟨_,rfl⟩;obtain⟨n3,hx3⟩:∃ n,n=g.2.2.length:=⟨_,rfl⟩;obtain⟨m1,tX⟩:∃ n,n=h.1.length:=⟨_,rfl⟩;obtain⟨m2,wM⟩:∃ n,n=h.2.1.length:=⟨_,rfl⟩;obtain⟨m3,og⟩:∃ n,n=h.2.2.length:=⟨_,rfl⟩;rw[<-Pr,<-gM,<-hx3] at iq;rw[<-tX,<-wM,<-og] at HHH;rw[<-Pr] at hn1;rw[<-gM] at yg;rw[<-hx3] at hn3;rw[<-tX] at jO;rw[<-wM] at hm2;rw[<-og] at hm3;rw[<-Pr,<-gM,<-hx3,<-tX,<-wM,<-og];have HL:=Lt (n1=g.1.length/\n2=g.2.1.length/\n3=g.2.2.length/\m1=h.1.length/\m2=h.2.1.length/\m3=h.2.2.length) (⟨Pr,gM,hx3,tX,wM,og⟩);clear hg hh Pr gM hx3 tX wM og;have HB1:=Lt (Below w.heap.size w ((w.alloc (.cells #[.slice A1 n1 c1,.slice A2 n2 c2,.slice A3 n3 c3] 25)).alloc (.cells #[.slice B1 m1 d1,.slice B2 m2 d2,.slice B3 m3 d3] 25))) (((Xr _ _).alloc (Ya _) _).alloc (by rw[Xs];omega) _);have HG1:=Lh (Go.heap_alloc2_old w (.cells #[.slice A1 n1 c1,.slice A2 n2 c2,.slice A3 n3 c3] 25) (.cells #[.slice B1 m1 d1,.slice B2 m2 d2,.slice B3 m3 d3] 25));have HH1:=Lh (Go.heap_alloc2_new w (.cells #[.slice A1 n1 c1,.slice A2 n2 c2,.slice A3 n3 c3] 25) (.cells #[.slice B1 m1 d1,.slice B2 m2 d2,.slice B3 m3 d3] 25));rw[<-hS] at HG1 HH1;by_cases e1:n1=m1
 ·by_cases e2:n2=m2
  ·by_cases e3:n3=m3
   ·subst e1 e2 e3;go_enter Tryz.func21,Tryz.ntmps21;go_wp2_with fail;rw[<-hS];clear hS;generalize (w.alloc (.cells #[.slice A1 n1 c1,.slice A2 n2 c2,.slice A3 n3 c3] 25)).alloc (.cells #[.slice B1 n1 d1,.slice B2 n2 d2,.slice B3 n3 d3] 25)=w1 at *;have HBL:=Lh (Xr w1.heap.size w1);have HSW:=Lt (S<w1.heap.size/\S+1<w1.heap.size) (⟨(gl HG1.o),(gl HH1.o)⟩);go_loopg [5] n1 (fun left v5 wr=>∃ i:Nat,i<=n1/\n1 - i<=left/\v5=.int .i64 i/\Hid (g.1.take i=h.1.take i)/\Hid (Below w1.heap.size w1 wr));exact⟨0,by omega,by omega,rfl,by simp[Hid],HBL.o⟩;clear HBL;obtain⟨i,hi,Dp,rfl,HE,HBL⟩:=hrel;have HGR:=Lh ((HBL.o.block S HSW.o.1).trans HG1.o);have HHR:=Lh ((HBL.o.block (S+1) HSW.o.2).trans HH1.o);obtain⟨a0,a1,a2⟩:=Jb HGR.o;obtain⟨b0,b1,b2⟩:=Jb HHR.o;by_cases Li:i<n1
    ·have HBW:=Lh (HB1.o.trans (HBL.o.mono HB1.o.size));have Fv:i<g.1.length:=by rw[<-HL.o.1];exact Li
     have Gt:i<h.1.length:=by rw[<-HL.o.2.2.2.1];exact Li
     obtain⟨ab,ao,cs,rfl,_,Lj,Zx,Zm⟩:=(iq.o.names.below HBW.o).get Fv (by decide);obtain⟨rfl,Ib⟩:=Zx;have x0:=Zm 0 _ rfl;obtain⟨bb,bo,cs,rfl,_,jj,Zx,Jr⟩:=(HHH.o.names.below HBW.o).get Gt (by decide);obtain⟨rfl,Sc⟩:=Zx;have y0:=Jr 0 _ rfl;clear Zm Jr;simp only[show Nk.size=1 from rfl,Yr,Yp] at x0 y0;have HT:=Lh (Qc Fv);have HT2:=Lh (Qc Gt);have Ot:=Lh (Qa Fv);have cC:=Lh (Qa Gt);have HNO:=Lh (show g.1[i]≠h.1[i]->decide (g=h)=false from fun e=>HNE.o (.inl fun e1=>e (by
      have e2:=Ot.o.symm.trans ((congrArg (fun l:List ByteArray=>l[i]?) e1).trans cC.o)
      injection e2)))
     clear Ot cC;generalize g.1[i]=x at *;generalize h.1[i]=y at *;clear Fv Gt;by_cases heq:x=y
     ·have hq:(x.toList==y.toList)=true:=by rw[heq];exact beq_self_eq_true _
      have HQ:=Lh heq;clear heq;go_wp2_with fail;refine Text.wt (by kernel_rfl) fun Q' hQ'=>?_;go_wp2;refine⟨by rfl,?_⟩;go_wp2;go_roundg (gk - 1);exact⟨i+1,by omega,by omega,by go_num,by show _=_;rw[HT.o,HT2.o,HE.o,HQ.o],HBL.o.drew⟩;omega
     ·have hq:(x.toList==y.toList)=false:=by rw[<-beq_toListBytes,Gp,Yk];exact fun e=>heq e.symm
      have HR:=Lh (HNO.o heq);clear heq;go_wp2_with fail;refine Text.wt (by kernel_rfl) fun Q' hQ'=>?_;go_wp2;refine⟨by rfl,?_⟩;go_wp2;go_ret;exact⟨Kx (Zv HR.o.symm),by first | exact HBW.o.drew | (rw[HSE.o];exact HBW.o.drew)⟩
    ·have HF5:=Lh (show g.1=h.1 by
      have:=HE.o
      rwa [Qd (by rw[<-HL.o.1];omega),Qd (by rw[<-HL.o.2.2.2.1];omega)] at this)
     clear HE;generalize wr=wo5 at *;go_wp2_with fail;clear a0 a1 a2 b0 b1 b2;go_loopg [6] n2 (fun left v6 wr=>∃ i:Nat,i<=n2/\n2 - i<=left/\v6=.int .i64 i/\Hid (g.2.1.take i=h.2.1.take i)/\Hid (Below w1.heap.size w1 wr));exact⟨0,by omega,by omega,rfl,by simp[Hid],HBL.o⟩;clear HBL;obtain⟨i,hi,Dp,rfl,HE,HBL⟩:=hrel;have HGR:=Lh ((HBL.o.block S HSW.o.1).trans HG1.o);have HHR:=Lh ((HBL.o.block (S+1) HSW.o.2).trans HH1.o);obtain⟨a0,a1,a2⟩:=Jb HGR.o;obtain⟨b0,b1,b2⟩:=Jb HHR.o;by_cases Li:i<n2
     ·have HBW:=Lh (HB1.o.trans (HBL.o.mono HB1.o.size));have Fv:i<g.2.1.length:=by rw[<-HL.o.2.1];exact Li
      have Gt:i<h.2.1.length:=by rw[<-HL.o.2.2.2.2.1];exact Li
      obtain⟨ab,ao,cs,rfl,_,Lj,Zx,Zm⟩:=(iq.o.terms.below HBW.o).get Fv (by decide);obtain⟨rfl,Ib⟩:=Zx;have x0:=Zm 0 _ rfl;obtain⟨bb,bo,cs,rfl,_,jj,Zx,Jr⟩:=(HHH.o.terms.below HBW.o).get Gt (by decide);obtain⟨rfl,Sc⟩:=Zx;have y0:=Jr 0 _ rfl;clear Zm Jr;simp only[show Nk.size=1 from rfl,Yr,Yp] at x0 y0;have HT:=Lh (Qc Fv);have HT2:=Lh (Qc Gt);have Ot:=Lh (Qa Fv);have cC:=Lh (Qa Gt);have HNO:=Lh (show g.2.1[i]≠h.2.1[i]->decide (g=h)=false from fun e=>HNE.o (.inr <| .inl fun e1=>e (by
       have e2:=Ot.o.symm.trans ((congrArg (fun l:List ByteArray=>l[i]?) e1).trans cC.o)
       injection e2)))
      clear Ot cC;generalize g.2.1[i]=x at *;generalize h.2.1[i]=y at *;clear Fv Gt;by_cases heq:x=y
      ·have hq:(x.toList==y.toList)=true:=by rw[heq];exact beq_self_eq_true _
       have HQ:=Lh heq;clear heq;go_wp2_with fail;refine Text.wt (by kernel_rfl) fun Q' hQ'=>?_;go_wp2;refine⟨by rfl,?_⟩;go_wp2;go_roundg (gk - 1);exact⟨i+1,by omega,by omega,by go_num,by show _=_;rw[HT.o,HT2.o,HE.o,HQ.o],HBL.o.drew⟩;omega
      ·have hq:(x.toList==y.toList)=false:=by rw[<-beq_toListBytes,Gp,Yk];exact fun e=>heq e.symm
       have HR:=Lh (HNO.o heq);clear heq;go_wp2_with fail;refine Text.wt (by kernel_rfl) fun Q' hQ'=>?_;go_wp2;refine⟨by rfl,?_⟩;go_wp2;go_ret;exact⟨Kx (Zv HR.o.symm),by first | exact HBW.o.drew | (rw[HSE.o];exact HBW.o.drew)⟩
     ·have HF6:=Lh (show g.2.1=h.2.1 by
       have:=HE.o
       rwa [Qd (by rw[<-HL.o.2.1];omega),Qd (by rw[<-HL.o.2.2.2.2.1];omega)] at this)
      clear HE;generalize wr=wo6 at *;go_wp2_with fail;clear a0 a1 a2 b0 b1 b2;go_loopg [7] n3 (fun left v7 wr=>∃ i:Nat,i<=n3/\n3 - i<=left/\v7=.int .i64 i/\Hid (g.2.2.take i=h.2.2.take i)/\Hid (Below w1.heap.size w1 wr));exact⟨0,by omega,by omega,rfl,by simp[Hid],HBL.o⟩;clear HBL;obtain⟨i,hi,Dp,rfl,HE,HBL⟩:=hrel;have HGR:=Lh ((HBL.o.block S HSW.o.1).trans HG1.o);have HHR:=Lh ((HBL.o.block (S+1) HSW.o.2).trans HH1.o);obtain⟨a0,a1,a2⟩:=Jb HGR.o;obtain⟨b0,b1,b2⟩:=Jb HHR.o;by_cases Li:i<n3
      ·have HBW:=Lh (HB1.o.trans (HBL.o.mono HB1.o.size));have Fv:i<g.2.2.length:=by rw[<-HL.o.2.2.1];exact Li
       have Gt:i<h.2.2.length:=by rw[<-HL.o.2.2.2.2.2];exact Li
       obtain⟨ab,ao,cs1,rfl,_,Lj,Fm,Kt⟩:=(iq.o.rules.below HBW.o).get Fv (by decide);obtain⟨v1,rfl,iF,Ib,Sc⟩:=Kq Fm;have x0:=Kt 0 _ rfl;have x1:=Kt 1 _ rfl;obtain⟨bb,bo,cs2,rfl,_,jj,Mz,Jr⟩:=(HHH.o.rules.below HBW.o).get Gt (by decide);obtain⟨v2,rfl,oM,hz3,hz4⟩:=Kq Mz;have y0:=Jr 0 _ rfl;have y1:=Jr 1 _ rfl;simp only[show Vv.size=2 from rfl,Yp,<-Yx] at x0 x1 y0 y1;obtain⟨A4,c4,rfl,pk,h42⟩:=iF.form;obtain⟨A5,c5,rfl,h51,h52⟩:=oM.form;have hbs:=HBW.o.size;have Ii:=Lh (fun w2 (hb:Below wr.heap.size wr w2)=>sD _ _ _ _ w2 (iF.fut hb hbs (Yb hbs hb.size)) (oM.fut hb hbs (Yb hbs hb.size)));have HT:=Lh (Qc Fv);have HT2:=Lh (Qc Gt);have Ot:=Lh (Qa Fv);have cC:=Lh (Qa Gt);have HNO:=Lh (show g.2.2[i]≠h.2.2[i]->decide (g=h)=false from fun e=>HNE.o (.inr (.inr fun e1=>e (by
        have e2:=Ot.o.symm.trans ((congrArg (fun l:List Jo=>l[i]?) e1).trans cC.o)
        injection e2))))
       clear Ot cC Kt Jr Fm Mz iF oM Ib Sc hz3 hz4 pk h42 h51 h52;generalize g.2.2[i]=x at *;generalize h.2.2[i]=y at *;clear Fv Gt;obtain⟨l1,r1⟩:=x;obtain⟨l2,r2⟩:=y;simp only at x0 x1 y0 y1 Ii;by_cases kW:l1=l2
       ·have hq:(l1==l2)=true:=by simp[kW]
        have hq2:(l1 != l2)=false:=by simp[kW]
        by_cases pH:r1=r2
        ·simp only[Yv pH] at Ii;have HQ:=Lh (show ((l1,r1):Jo)=(l2,r2) by rw[kW,pH]);clear pH kW;go_wp2_with fail;refine Text.wp_grow [26] [1,5,7,11,15,19,21,25] [] (by kernel_rfl) (by kernel_rfl) ?_;refine Text.wpS_seg 26 _ _ _ _ (by decide) (fun Q' hQ'=>?_);simp only[Xta,Xtz];go_wp2_with fail
         try simp only[Yq,Xx,List.drop_zero]
         refine Text.wpS_one (fun Q' hQ'=>?_);go_wp2_with fail;refine (Ii.o _ Ub).mono ?_;rintro e w5 ⟨rfl,hb5⟩;go_wp2_with fail;refine⟨hb5,?_⟩;refine Text.wpS_seg 2 _ _ _ _ (by decide) (fun Q' hQ'=>?_);simp only[Xta,Xtz];go_wp2_with fail;refine⟨by rfl,?_,?_⟩
         ·exact⟨fun _=>⟨_,_,rfl,a2⟩,fun _=>⟨_,_,rfl,x0⟩,fun _=>⟨_,_,rfl,b2⟩,fun _=>⟨_,_,rfl,y0⟩,fun _=>⟨_,_,rfl,a2⟩,fun _=>⟨_,_,rfl,x1⟩,fun _=>⟨_,_,rfl,b2⟩,fun _=>⟨_,_,rfl,y1⟩,trivial⟩
         have HB5:=Lh (HBL.o.trans ((Ub.trans hb5).mono HBL.o.size));clear hb5;go_wp2_with fail;go_roundg (gk - 1);exact⟨i+1,by omega,by omega,by go_num,by show _=_;rw[HT.o,HT2.o,HE.o,HQ.o],HB5.o⟩;omega
        ·simp only[Yw pH] at Ii;have HR:=Lh (HNO.o (by intro e;injection e with _ e;exact pH e));clear pH kW;go_wp2_with fail;refine Text.wp_grow [26] [1,5,7,11,15,19,21,25] [] (by kernel_rfl) (by kernel_rfl) ?_;refine Text.wpS_seg 26 _ _ _ _ (by decide) (fun Q' hQ'=>?_);simp only[Xta,Xtz];go_wp2_with fail
         try simp only[Yq,Xx,List.drop_zero]
         refine Text.wpS_one (fun Q' hQ'=>?_);go_wp2_with fail;refine (Ii.o _ Ub).mono ?_;rintro e w5 ⟨rfl,hb5⟩;go_wp2_with fail;refine⟨hb5,?_⟩;refine Text.wpS_seg 2 _ _ _ _ (by decide) (fun Q' hQ'=>?_);simp only[Xta,Xtz];go_wp2_with fail;refine⟨by rfl,?_,?_⟩
         ·exact⟨fun _=>⟨_,_,rfl,a2⟩,fun _=>⟨_,_,rfl,x0⟩,fun _=>⟨_,_,rfl,b2⟩,fun _=>⟨_,_,rfl,y0⟩,fun _=>⟨_,_,rfl,a2⟩,fun _=>⟨_,_,rfl,x1⟩,fun _=>⟨_,_,rfl,b2⟩,fun _=>⟨_,_,rfl,y1⟩,trivial⟩
         have HB5:=Lh (HBL.o.trans ((Ub.trans hb5).mono HBL.o.size));clear hb5;go_wp2_with fail;go_ret;exact⟨Kx (Zv HR.o.symm),by first | exact HB1.o.trans (HB5.o.mono HB1.o.size) | (rw[HSE.o];exact HB1.o.trans (HB5.o.mono HB1.o.size))⟩
       ·have hq:(l1 != l2)=true:=by simpa using kW
        have HR:=Lh (HNO.o (by intro e;injection e with e _;exact kW e));clear kW;go_wp2_with fail;refine Text.wp_grow [26] [1,5,7,11,15,19,21,25] [] (by kernel_rfl) (by kernel_rfl) ?_;refine Text.wpS_seg 26 _ _ _ _ (by decide) (fun Q' hQ'=>?_);simp only[Xta,Xtz];go_wp2_with fail
        try simp only[Yq,Xx,List.drop_zero]
        refine Text.wpS_one (fun Q' hQ'=>?_);go_wp2_with fail;refine⟨Xr _ _,?_⟩;refine Text.wpS_seg 2 _ _ _ _ (by decide) (fun Q' hQ'=>?_);simp only[Xta,Xtz];go_wp2_with fail;refine⟨by rfl,?_,?_⟩
        ·exact⟨fun _=>⟨_,_,rfl,a2⟩,fun _=>⟨_,_,rfl,x0⟩,fun _=>⟨_,_,rfl,b2⟩,fun _=>⟨_,_,rfl,y0⟩,Text.no_want rfl,Text.no_want rfl,Text.no_want rfl,Text.no_want rfl,trivial⟩
        go_wp2_with fail;go_ret;exact⟨Kx (Zv HR.o.symm),by first | exact HBW.o.drew | (rw[HSE.o];exact HBW.o.drew)⟩
      ·have HF7:=Lh (show g.2.2=h.2.2 by
        have:=HE.o
        rwa [Qd (by rw[<-HL.o.2.2.1];omega),Qd (by rw[<-HL.o.2.2.2.2.2];omega)] at this)
       have HR:=Lh (HEQ.o HF5.o HF6.o HF7.o);go_wp2_with fail;go_ret;exact⟨Kx (Zv HR.o.symm),by first | exact HB1.o.trans (HBL.o.mono HB1.o.size) | (rw[HSE.o];exact HB1.o.trans (HBL.o.mono HB1.o.size))⟩
   ·have hd:((n3:Int) != m3)=true:=by simpa using (show ¬ (n3:Int)=m3 by omega)
    have HR:=Lh (HNE.o (.inr (.inr fun e=>e3 (by rw[HL.o.2.2.1,HL.o.2.2.2.2.2,e]))));clear e3;subst e1 e2;go_enter Tryz.func21,Tryz.ntmps21;go_wp2_with fail;rw[<-hS];clear hS;generalize (w.alloc (.cells #[.slice A1 n1 c1,.slice A2 n2 c2,.slice A3 n3 c3] 25)).alloc (.cells #[.slice B1 n1 d1,.slice B2 n2 d2,.slice B3 m3 d3] 25)=w1 at *;go_ret;exact⟨Kx (Zv HR.o.symm),by first | exact HB1.o | (rw[HSE.o];exact HB1.o)⟩
  ·have hd:((n2:Int) != m2)=true:=by simpa using (show ¬ (n2:Int)=m2 by omega)
   have HR:=Lh (HNE.o (.inr (.inl fun e=>e2 (by rw[HL.o.2.1,HL.o.2.2.2.2.1,e]))));clear e2;subst e1;go_enter Tryz.func21,Tryz.ntmps21;go_wp2_with fail;rw[<-hS];clear hS;generalize (w.alloc (.cells #[.slice A1 n1 c1,.slice A2 n2 c2,.slice A3 n3 c3] 25)).alloc (.cells #[.slice B1 n1 d1,.slice B2 m2 d2,.slice B3 m3 d3] 25)=w1 at *;go_ret;exact⟨Kx (Zv HR.o.symm),by first | exact HB1.o | (rw[HSE.o];exact HB1.o)⟩
 ·have hd:((n1:Int) != m1)=true:=by simpa using (show ¬ (n1:Int)=m1 by omega)
  have HR:=Lh (HNE.o (.inl fun e=>e1 (by rw[HL.o.1,HL.o.2.2.2.1,e])));clear e1;go_enter Tryz.func21,Tryz.ntmps21;go_wp2_with fail;rw[<-hS];clear hS;generalize (w.alloc (.cells #[.slice A1 n1 c1,.slice A2 n2 c2,.slice A3 n3 c3] 25)).alloc (.cells #[.slice B1 m1 d1,.slice B2 m2 d2,.slice B3 m3 d3] 25)=w1 at *;go_ret;exact⟨Kx (Zv HR.o.symm),by first | exact HB1.o | (rw[HSE.o];exact HB1.o)⟩
end Go.Proofs.YtmaojnmnbpomeaaGreatDoor
