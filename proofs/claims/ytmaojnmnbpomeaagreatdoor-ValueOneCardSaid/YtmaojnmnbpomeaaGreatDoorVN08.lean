/- A part. -/
import Derived.Test.YtmaojnmnbpomeaaGreatDoorVN07
set_option maxRecDepth 100000
set_option maxHeartbeats 64000000
namespace Go.Proofs.YtmaojnmnbpomeaaGreatDoor
open Go.RowKit
variable{p:Fd}{r:Int×List Int}{fol s:Jb}{g:Kd}{P:List Bool}{Mu l:List Int}{u x:List Wd}{B C G M M' SB c1 c2 k m n q:Nat}{A1 A2 A3:Option Addr}{v:Value}{w w':World}
structure Bp(g SB n:Nat)(P:List Bool)(w:World):Prop where
 ex:∃Mu,w.heap[g]?=some (.cells (Ku Mu).toArray 3 (0,0))/\dV Mu P/\Mu.length=n
 box:w.heap[SB]?=some (.cells #[.slice (some ⟨g,0,none⟩) n n] 61 (0,0))
 ne:g≠SB
theorem Bp.below{g:Nat}(h:Bp g SB n P w)(hb:Below w.heap.size w w'):Bp g SB n P w':=by
 obtain⟨Mu,h1,h2⟩:=h.ex;have l1:=(gl h1);have l2:=(gl h.box);exact⟨⟨Mu,(hb.block g l1).trans h1,h2⟩,(hb.block SB l2).trans h.box,h.ne⟩
theorem Iz{g:Nat}(h:w.heap[g]?=some (.cells (Ku Mu).toArray 3 (0,0)))(hk:k<Mu.length):w.cell? ⟨g,k,none⟩=some (.int .i64 Mu[k]):=by
 rw[Zd w g k _ _ _ h];simp[Ku,hk]
theorem qH{g:Nat}(h:w.heap[g]?=some (.cells (Ku Mu).toArray 3 (0,0)))(x:Int):(w.setCell ⟨g,k,none⟩ (.int .i64 x)).heap[g]?=some (.cells (Ku (Mu.set k x)).toArray 3 (0,0)):=by
 simp only[World.setCell,Xz,if_true,h,Option.map_some];congr 2;simp[Ku,List.map_set]
theorem dV.set(h:dV Mu P){x:Int}(h0:0<=x)(h1:x<=1000000):dV (Mu.set k x) (P.set k true):=by
 refine⟨by rw[Qm,Qm];exact h.len,fun i y hy=>?_⟩;rw[Xw]at hy |-;split at hy
 .rename_i e;split at hy
  .rename_i hl;injection hy with hy;subst hy;rw[if_pos e,if_pos (by rw[<-h.len];exact hl)];exact⟨by omega,h1,by rw[Yw h0]⟩
  cases hy
 rename_i e;rw[if_neg e];exact h.val i y hy
theorem dV.same(h:dV Mu P){y:Int}(hy:Mu[k]?=some y)(h0:0<=y):P.set k true=P:=by
 have:=(h.val k y hy).2.2;rw[Yw h0]at this;apply List.ext_getElem?;intro i;rw[Xw];split
 .rename_i e;subst e;rw[this];rw[if_pos (Qj.1 this).1]
 rfl
theorem qA(P:List Bool)(r:Int×List Int):Wj P r=if Ol P r.2 then P.set r.1.toNat true else P:=rfl
theorem zE(g SB n N:Nat)(P:List Bool)(k:Nat)(r:List Int)(A:Option Addr)(q c:Nat)(w:World)(h:Bp g SB n P w)(hk:k<n)(hq:q=r.length)(hq2:q<=64)(hr:∀s∈r,s<(n:Int))(hs:Je Wg w N (.slice A q c) r)(hN:N<=w.heap.size) :
  Calls Tryz.prog 197 #[bs k A q c,.pointer (some ⟨SB,0,none⟩)] w fun e w'=>e=.returned (.tuple #[])/\Bp g SB n (Wj P ((k:Int),r)) w'/\w.grownBy w' (some g):=by
 obtain⟨Mu,h1,h2,h3⟩:=h.ex;have qM:k<Mu.length:=by omega
 have cS:=Vv h.box;have cY:=Iz h1 qM;have lS:=(gl h.box);have lG:=(gl h1);have fG:w.frozen? ⟨g,k,none⟩=false:=by simp[World.frozen?,h1]
 have HY:=Lt (Mu[k]?=some Mu[k]) (Qa qM);obtain⟨y,hy⟩:=Xe (Mu[k]);rw[<-hy]at cY HY;have H1:=Lh h1;have H2:=Lh h2;have H3:=Lh h3;have HH:=Lh h;have Nd:=(Xr w.heap.size w).alloc (Yb _) (.cells #[.int .i64 k,.slice A q c] 63);have zfX:=Lh (qvS A (some ⟨g,0,none⟩) c n r Mu P (w.alloc (.cells #[.int .i64 k,.slice A q c] 63)) (by rw[<-hq];exact hs.fut Nd hN (by rw[Xs];omega)) (by
  have:Rd (w.alloc (.cells #[.int .i64 k,.slice A q c] 63)) (w.alloc (.cells #[.int .i64 k,.slice A q c] 63)).heap.size (some ⟨g,0,none⟩) (Ku Mu).toArray.toList:=Rd.row ((Nd.block g lG).trans h1) (by rw[Xs];omega)
  exact this) h2 (fun s hs=>by rw[<-h2.len,h3];exact hr s hs) (by omega))
 rw[<-hq,h3]at zfX;have hby:=(h2.val k y HY.o).1;clear h1 h2 h3 hs h hq qM hy hr Nd;have HB:=Lh ((Xr w.heap.size w).alloc (Yb _) (.cells #[.int .i64 k,.slice A q c] 63));go_enter Tryz.func197,Tryz.ntmps197;go_wp2_with fail;refine zfX.o.mono ?_;rintro e w1 ⟨x,rfl,Lr,dB,hx3,rfl⟩;have HX3:=Lh hx3;clear hx3 zfX;by_cases ef:0<=x
 .have sj:=HX3.o;rw[Yw ef]at sj;have HP:=Lh (show Wj P ((k:Int),r)=P.set k true by rw[qA,<-sj];simp);clear sj;have jz:∀w2:World,w2=(w.setCell ⟨g,k,none⟩ (.int .i64 x)).alloc (.cells #[.int .i64 k,.slice A q c] 63)->Bp g SB n (Wj P ((k:Int),r)) w2/\w.grownBy w2 (some g):=by
   rintro w2 rfl;rw[HP.o];have hst:Bp g SB n (P.set k true) (w.setCell ⟨g,k,none⟩ (.int .i64 x)):=by
    refine⟨⟨Mu.set k x,qH H1.o x,H2.o.set ef dB,by rw[Qm];exact H3.o⟩,?_,HH.o.ne⟩;rw[Ze _ _ _ _ (fun e=>HH.o.ne e.symm)];exact HH.o.box
   refine⟨hst.below ((Xr _ _).alloc (Yb _) _),(eT w g k _).trans (World.grownBy_alloc _ _ _)⟩
  have Mc:=Lh jz;clear jz;by_cases hy0:y<0
  .go_wp2
   go_end0
   exact⟨rfl,Mc.o _ rfl⟩
  by_cases hxy:x<y
  .go_wp2
   go_end0
   exact⟨rfl,Mc.o _ rfl⟩
  go_wp2
  go_end0
  refine⟨rfl,?_,World.grownBy_alloc w _ _⟩;rw[HP.o,H2.o.same HY.o (by omega)];exact HH.o.below HB.o
 have sj:=HX3.o;rw[Yx ef]at sj;have HP:=Lh (show Wj P ((k:Int),r)=P by rw[qA,<-sj];simp);clear sj;go_wp2
 go_end0
 refine⟨rfl,?_,World.grownBy_alloc w _ _⟩;rw[HP.o];exact HH.o.below HB.o
abbrev Rw(A1 A2 A3:Option Addr)(n m q c1 c2 c3:Nat):Value:=.agg #[.slice A1 n c1,.slice A2 m c2,.slice A3 q c3]
structure Np(w:World)(B:Nat)(A1 A2 A3:Option Addr)(n m q c1 c2 c3:Nat)(g:Kd):Prop where
 names:Je Mi w B (.slice A1 n c1) g.1
 terms:Je Mi w B (.slice A2 m c2) g.2.1
 rules:Je Vw w B (.slice A3 q c3) g.2.2
 small:n<=1048576/\m<=1048576/\q<=1048576
theorem Np.ln{c3:Nat}(h:Np w B A1 A2 A3 n m q c1 c2 c3 g):n=g.1.length/\m=g.2.1.length/\q=g.2.2.length:=⟨h.names.n_eq,h.terms.n_eq,h.rules.n_eq⟩
theorem Np.fut{w w':World}{B B' N:Nat}{A1 A2 A3:Option Addr}{n m q c1 c2 c3:Nat}{g:Kd}(h:Np w B A1 A2 A3 n m q c1 c2 c3 g)(hb:Below N w w')(h1:B<=N)(h2:B<=B'):Np w' B' A1 A2 A3 n m q c1 c2 c3 g:=⟨h.names.fut hb h1 h2,h.terms.fut hb h1 h2,h.rules.fut hb h1 h2,h.small⟩
theorem Np.valid{c3:Nat}(h:Np w w.heap.size A1 A2 A3 n m q c1 c2 c3 g):Calls Tryz.prog 69 #[Rw A1 A2 A3 n m q c1 c2 c3] w fun e w'=>e=.returned (.bool (Ut g))/\Below w.heap.size w w':=by
 obtain⟨l1,l2,_⟩:=h.ln;have:=h.small;exact Tp _ _ _ g.1 g.2.1 g.2.2 w (by omega) h.names h.terms h.rules
theorem qaS(h:Cv n m r=true):0<=r.1/\r.1<n/\r.2.length<=64/\∀s∈r.2,s<n/\-(m:Int)<=s:=by
 unfold Cv at h;simp only[Ym,Yk,Bool.not_eq_true',List.any_eq_false]at h;obtain⟨⟨⟨h1,h2⟩,h3⟩,h4⟩:=h;refine⟨h1,h2,h3,fun s hs=>?_⟩;have:=h4 s hs;unfold dQ at this;simp only[Yu,Yk,not_or]at this;omega
structure yJ(g:Kd):Prop where
 n1:1<=g.1.length
 nm:g.1.length+g.2.1.length<=256
 q:g.2.2.length<=4096
 fit:∀r∈g.2.2,0<=r.1/\r.1<g.1.length/\r.2.length<=64/\∀s∈r.2,s<g.1.length/\-(g.2.1.length:Int)<=s
theorem Ud(h:Ut g=true):yJ g:=by
 simp only[Ut,Ym,Yk]at h;obtain⟨⟨⟨⟨⟨⟨⟨a1,a2⟩,a3⟩,_⟩,_⟩,a6⟩,_⟩,_⟩:=h;exact⟨by omega,a2,a3,fun r hr=>qaS (Xq.1 a6 r hr)⟩
theorem yJ.well(h:yJ g):Sb g.2.2 g.1.length:=fun a r hr=>by
 obtain⟨h1,h2,_,h4⟩:=h.fit (a,r) hr;exact⟨h1,h2,fun s hs=>(h4 s hs).1⟩
theorem kU(P:List Bool)(r:Int×List Int):(Wj P r).length=P.length:=by
 unfold Wj;split
 .rw[Qm]
 rfl
theorem Ay{f:List Bool->Int×List Int->List Bool}(hf:∀P r,(f P r).length=P.length)(rs:Zz):∀(n:Nat)(P:List Bool),(Wq f rs n P).length=P.length
 |0,P=>rfl
 |n+1,P=>by
  have h:∀(l:Zz)(P:List Bool),(l.foldl f P).length=P.length:=by
   intro l
   induction l with
   |nil=>intro P;rfl
   |cons r l ih=>intro P;rw[List.foldl_cons,ih,hf]
  show (Wq f rs n (rs.foldl f P)).length=_;rw[Ay hf rs n,h]
def qeN(w:World)(P:List Bool)(e:Ending)(w':World):Prop :=
 ∃(g:Nat)(Mu:List Int),e=.returned (.slice (some ⟨g,0,none⟩) Mu.length Mu.length)/\w'.heap[g]?=some (.cells (Ku Mu).toArray 3 (0,0))/\dV Mu P/\Below w.heap.size w w'
theorem iz{c3:Nat}(w:World)(h:Np w w.heap.size A1 A2 A3 n m q c1 c2 c3 g)(hv:Ut g=true) :
  Calls Tryz.prog 133 #[Rw A1 A2 A3 n m q c1 c2 c3] w (qeN w (Ky g.2.2 n)):=by
 have Nd:=(Xr w.heap.size w).alloc (Yb _) (.cells #[.slice A1 n c1,.slice A2 m c2,.slice A3 q c3] 25);have HV:=Lh ((h.fut (B':=w.heap.size+1) Nd (Yb _) (by omega)));have HK:=Lh (Xn w (.cells #[.slice A1 n c1,.slice A2 m c2,.slice A3 q c3] 25));have HZ:=Lh (Xs w (.cells #[.slice A1 n c1,.slice A2 m c2,.slice A3 q c3] 25));have HBX:=Lh Nd;have HG:=Lh (Ud hv);have HVV:=Lh hv;have HL:=Lh h.ln;have yO:=h.small;clear h hv Nd;go_enter Tryz.func133,Tryz.ntmps133;go_wp2_with fail;generalize w.alloc (.cells #[.slice A1 n c1,.slice A2 m c2,.slice A3 q c3] 25)=w1 at*;refine (Np.valid (w:=w1) (by rw[HZ.o];exact HV.o)).mono ?_;rintro e w2 ⟨rfl,Jd⟩;rw[HVV.o];have HB2:=Lh Jd;have k2:=(Jd.block w.heap.size (by rw[HZ.o];omega)).trans HK.o;have c0:w2.cell? ⟨w.heap.size,0,none⟩=some (.slice A1 n c1):=Xc k2 rfl;have HK2:=Lh k2;have Si:w.heap.size<w2.heap.size:=by have:=Jd.size;have:=HZ.o;omega
 clear Jd k2;go_wp2_with fail;have hb3:=(Xr w2.heap.size w2).alloc (Yb _) (.cells #[.int .i64 (-1)] 3);have HN1:=Lh (show 1<=n by have:=HG.o.n1;have:=HL.o.1;omega);have If:=Lh (show n<=256 by have:=HG.o.nm;have:=HL.o.1;omega);refine (zv w2.heap.size 1 (-1) n _ (Xc (Xn w2 _) rfl) HN1.o (by have:=If.o;omega)).mono ?_;rintro e w4 ⟨gr,rfl,Ox,hge,hb4⟩;have ng:Below w2.heap.size w2 w4:=hb3.trans (hb4.mono (by rw[Xs];omega));have k4:=(ng.block w.heap.size Si).trans HK2.o;have hz4:w.heap.size<w4.heap.size:=Ye Si ng.size;have c0:w4.cell? ⟨w.heap.size,0,none⟩=some (.slice A1 n c1):=Xc k4 rfl;have c1':w4.cell? ⟨w.heap.size,1,none⟩=some (.slice A2 m c2):=Xc k4 rfl;have c2':w4.cell? ⟨w.heap.size,2,none⟩=some (.slice A3 q c3):=Xc k4 rfl;have HGR:=Lh Ox;have yU:=Lh (show w.heap.size+1<=gr by rw[Xs]at hge;omega);have HB4:=Lt (Below w.heap.size w w4) ((HBX.o.trans (HB2.o.mono (by rw[HZ.o];omega))).trans (ng.mono (Yh Si)));have HW1:=Lt (Below (w.heap.size+1) w1 w4) ((HB2.o.mono (Yj HZ.o.symm)).trans (ng.mono Si));have HLG:=Lh (gl Ox);clear Ox hge hb4 hb3 ng k4 Si;go_wp2_with fail;have HB5:=Lh ((Xr w4.heap.size w4).alloc (Yb _) (.cells #[.slice (some ⟨gr,0,none⟩) n n] 61));have HK5:=Lh (Xn w4 (.cells #[.slice (some ⟨gr,0,none⟩) n n] 61));have HZ5:=Lh (Xs w4 (.cells #[.slice (some ⟨gr,0,none⟩) n n] 61));generalize w4.alloc (.cells #[.slice (some ⟨gr,0,none⟩) n n] 61)=w5 at*;have HST:=Lh (show Bp gr w4.heap.size n (List.replicate n false) w5 from ⟨⟨List.replicate n (-1),by rw[HB5.o.block gr HLG.o,HGR.o];simp[Ku],⟨by simp,fun i x hx=>by
  rw[Xh]at hx
  split at hx
  .rename_i hi
   injection hx with hx
   subst hx
   exact⟨by omega,by omega,by rw[Xh,if_pos hi];rfl⟩
  cases hx⟩,by simp⟩,HK5.o,by have:=HLG.o;omega⟩)
 have HR5:=Lt (Je Vw w5 (w.heap.size+1) (.slice A3 q c3) g.2.2) ((HV.o.rules.below HW1.o).below (HB5.o.mono hz4));have hrd:=uN 197 #[.pointer (some ⟨w4.heap.size,0,none⟩)] (fun _ _=>by kernel_rfl) Wj (Bp gr w4.heap.size n) (.slice A2 m c2) A1 A3 n c1 c3 (w.heap.size+1) gr g.2.2 (List.replicate n false) w5 If.o (by rw[<-HL.o.2.2];exact HR5.o) yU.o (by rw[HZ5.o];have:=HLG.o;omega) (fun s w1 w2 h hb=>h.below hb) HST.o (fun s wx r A qq cc hr hs hgl hq Mo=>by
  obtain⟨f1,f2,f3,f4⟩:=HG.o.fit r hr
  obtain⟨k,hk⟩:∃k:Nat,r.1=(k:Int):=⟨r.1.toNat,by omega⟩
  have:=zE gr w4.heap.size n (w.heap.size+1) s k r.2 A qq cc wx hs (by have:=HL.o.1;omega) hq (by omega) (fun x hx=>by have:=(f4 x hx).1;have:=HL.o.1;omega) Mo (by have:=yU.o;omega)
  rw[<-hk]at this
  exact this)
 rw[<-HL.o.2.2]at hrd;have ak:=Lh hrd;clear hrd;refine ak.o.mono ?_;rintro e w6 ⟨rfl,hst,hgw⟩;obtain⟨Mu,h1,h2,h3⟩:=hst.ex;have c6:=Vv hst.box;have Mc:=Lt (qeN w (Ky g.2.2 n) (.returned (.slice (some ⟨gr,0,none⟩) n n)) w6) (⟨gr,Mu,by rw[h3],h1,h2,(HB4.o.trans (HB5.o.mono (Yh hz4))).trans (Dd hgw (by have:=yU.o;omega) (by rw[HZ5.o];omega))⟩);clear h1 h2 h3 hst hgw ak;go_wp2;go_ret;exact Mc.o
theorem qkA:Dg Tryz.prog 70 4 1 1 (.bool false):=Gh Tryz.underlying70 (by kernel_rfl) rfl (by omega)
def mm(w:World)(P:List Bool)(e:Ending)(w':World):Prop:=∃A c,e=.returned (.slice A P.length c)/\Rd w' w'.heap.size A (Wu P)/\Below w.heap.size w w'
theorem lc(P:List Bool)(h:k<P.length):Wu (P.take (k+1))=Wu (P.take k)++[.bool P[k]]:=by
 unfold Wu;rw[Qc h,Qt];rfl
theorem vC{c3:Nat}(w:World)(h:Np w w.heap.size A1 A2 A3 n m q c1 c2 c3 g)(hv:Ut g=true) :
  Calls Tryz.prog 71 #[Rw A1 A2 A3 n m q c1 c2 c3] w (mm w (Ky g.2.2 n)):=by
 have Nd:=(Xr w.heap.size w).alloc (Yb _) (.cells #[.slice A1 n c1,.slice A2 m c2,.slice A3 q c3] 25);have HZ:=Lh (Xs w (.cells #[.slice A1 n c1,.slice A2 m c2,.slice A3 q c3] 25));have HS:=Lh (iz (w.alloc (.cells #[.slice A1 n c1,.slice A2 m c2,.slice A3 q c3] 25)) (h.fut Nd (Yb _) (by rw[Xs];omega)) hv);have HBX:=Lh Nd;have If:=Lh (show n<=256 by have:=(Ud hv).nm;have:=h.ln.1;omega);have HPL:=Lh (show (Ky g.2.2 n).length=n by unfold Ky;rw[Ay kU,Qr]);clear h hv Nd;obtain⟨P,hP⟩:=Xe (Ky g.2.2 n);rw[<-hP]at HS HPL |-;clear hP;go_enter Tryz.func71,Tryz.ntmps71;go_wp2_with fail;generalize w.alloc (.cells #[.slice A1 n c1,.slice A2 m c2,.slice A3 q c3] 25)=w1 at*;refine HS.o.mono ?_;rintro e w2 ⟨gr,Mu,rfl,hg,hr,Jd⟩;have HG:=Lh hg;have HR:=Lh hr;have HB2:=Lh (HBX.o.trans (Jd.mono (by rw[HZ.o];omega)));have HLN:=Lh (show Mu.length=n by rw[hr.len,HPL.o]);have HLG:=Lh (gl hg);clear hg hr Jd;rw[HLN.o];go_wp2_with fail;go_loopw [9,3] (fun v9 v3 wr=>∃i:Nat,i<=n/\v9=.int .i64 i/\Hid (wr.ownsRow w2.heap.size 4 1 v3 i (Wu (P.take i)))/\Hid (Below w2.heap.size w2 wr)) (fun v9 _ _=>n-(intOf v9).toNat);exact⟨0,by omega,rfl,Za _ _ _ _,Xr _ _⟩;obtain⟨i,hi,rfl,HO,HB⟩:=hrel;have jcF:=If.o;by_cases Jl:i<n
 .have Db:i<Mu.length:=by rw[HLN.o];exact Jl
  have Zn:=Iz ((HB.o.block gr HLG.o).trans HG.o) Db;obtain⟨y1,y2,y3⟩:=HR.o.val i _ (Qa Db);have zdY:i<P.length:=by rw[HPL.o];exact Jl
  rw[Qa zdY]at y3;have HSN:=Lh (lc P zdY);obtain⟨x,hx⟩:=Xe (Mu[i]);rw[<-hx]at Zn y1 y2 y3;injection y3 with y3;rw[y3]at HSN;clear hx y3 Db zdY;obtain⟨A5,c5,rfl,Ct,jW⟩:=Zp HO.o;go_wp2_with (at_builtin;refine Zy (m:=1) (n:=i) qkA rfl rfl rfl rfl (HO.o.alloc _) (Rd.row (B:=wr.heap.size+1) (Xn wr _) (by omega)) rfl (fun u hu=>by simp at hu;subst hu;rfl) (by have:=If.o;unfold maxLen;omega) (by have:=If.o;omega) (by rw[Xs];have:=HB.o.size;omega) ?_);intro v' w' ho hg _ _;have HO2:Hid (w'.ownsRow _ 4 1 v' (i+1) (Wu (P.take (i+1)))):=Lh (by rw[HSN.o];exact ho);have HB3:=Lh (Zr (HB.o.alloc HB.o.size _) hg (HO.o.alloc _) (Yb _) (by rw[Xs];have:=HB.o.size;omega));obtain⟨A6,c6,rfl,hl7,mz⟩:=Zp ho;clear ho hg;go_wp2;go_roundw;exact⟨i+1,by omega,by go_num,HO2.o,HB3.o⟩;simp[intOf];omega
 have sy:i=n:=by omega
 have HO9:Hid (wr.ownsRow w2.heap.size 4 1 u3 n (Wu P)):=Lh (by
  have:=HO.o
  rw[sy,Qd (by rw[HPL.o];omega)]at this
  exact this)
 clear HO sy;obtain⟨A5,c5,rfl,Ct,jW⟩:=Zp HO9.o;go_wp2;go_ret;exact⟨A5,c5,by rw[HPL.o];rfl,Rd.of_own HO9.o,HB2.o.trans (HB.o.mono HB2.o.size)⟩
structure Bq(g SB n:Nat)(R:List Bool)(w:World):Prop where
 row:w.heap[g]?=some (.cells (Wu R).toArray 4 (0,0))
 len:R.length=n
 box:w.heap[SB]?=some (.cells #[.slice (some ⟨g,0,none⟩) n n] 70 (0,0))
 ne:g≠SB
theorem Bq.below{g:Nat}{R:List Bool}(h:Bq g SB n R w)(hb:Below w.heap.size w w'):Bq g SB n R w' :=
 ⟨(hb.block g (gl h.row)).trans h.row,h.len,(hb.block SB (gl h.box)).trans h.box,h.ne⟩
theorem Hw{g:Nat}{l:List Bool}(h:w.heap[g]?=some (.cells (Wu l).toArray 4 (0,0)))(hk:k<l.length):w.cell? ⟨g,k,none⟩=some (.bool l[k]):=by
 rw[Zd w g k _ _ _ h];simp[Wu,hk]
theorem lW{g:Nat}{l:List Bool}(h:w.heap[g]?=some (.cells (Wu l).toArray 4 (0,0)))(x:Bool):(w.setCell ⟨g,k,none⟩ (.bool x)).heap[g]?=some (.cells (Wu (l.set k x)).toArray 4 (0,0)):=by
 simp only[World.setCell,Xz,if_true,h,Option.map_some];congr 2;simp[Wu,List.map_set]
theorem jk(R:List Bool)(l s:Int):(Jt R l s).length=R.length:=by
 unfold Jt;split
 .rw[Qm]
 rfl
theorem zK(g SB n N:Nat)(R:List Bool)(k:Nat)(r:List Int)(A:Option Addr)(q c:Nat)(w:World)(h:Bq g SB n R w)(hk:k<n)(hq:q=r.length)(hr:∀s∈r,s<(n:Int))(hs:Je Wg w N (.slice A q c) r)(hN:N<=g)(hN2:N<=w.heap.size) :
  Calls Tryz.prog 135 #[bs k A q c,.pointer (some ⟨SB,0,none⟩)] w fun e w'=>e=.returned (.tuple #[])/\Bq g SB n (Wr R ((k:Int),r)) w'/\w.grownBy w' (some g):=by
 have HH:=Lh h;have HS:=Lh hs;have HR:=Lh hr;have HQ:=Lh hq;have hq9:=hs.n_le;have HB:=Lh ((Xr w.heap.size w).alloc (Yb _) (.cells #[.int .i64 k,.slice A q c] 63));have HK:=Lh (Xn w (.cells #[.int .i64 k,.slice A q c] 63));have HZ:=Lh (Xs w (.cells #[.int .i64 k,.slice A q c] 63));have HGN:=Lh (World.grownBy_alloc w (.cells #[.int .i64 k,.slice A q c] 63) (some g));have HLG:=Lh (gl h.row);obtain⟨fin,jz⟩:=Xe (Wr R ((k:Int),r));rw[<-jz];have HF:=Lh jz;clear h hs hr hq jz;go_enter Tryz.func135,Tryz.ntmps135;go_wp2_with fail;have HST:=Lh (HH.o.below HB.o);have c1:(w.alloc (.cells #[.int .i64 k,.slice A q c] 63)).cell? ⟨w.heap.size,1,none⟩=some (.slice A q c):=Xc HK.o rfl;generalize w.alloc (.cells #[.int .i64 k,.slice A q c] 63)=w1 at*;go_loopw [8] (fun v8 wr=>∃(j:Nat)(S:List Bool),j<=q/\v8=.int .i64 j/\Hid (fin=(r.drop j).foldl (fun R s=>Jt R k s) S)/\Hid (Bq g SB n S wr)/\Hid (w1.grownBy wr (some g))) (fun v8 _=>q-(intOf v8).toNat);exact⟨0,R,by omega,rfl,HF.o,HST.o,World.grownBy.refl _ _⟩;clear HST c1;obtain⟨j,S,hj,rfl,HFD,HST,HGR⟩:=hrel;have HBN:=Lt (Below N w wr) ((HB.o.mono hN2).trans (Dd HGR.o hN (by rw[HZ.o];omega)));have k1:=(HGR.o.block w.heap.size (by rw[HZ.o];omega) (fun e=>by injection e with e;have:=HLG.o;omega)).trans HK.o;have c0:wr.cell? ⟨w.heap.size,0,none⟩=some (.int .i64 k):=Xc k1 rfl;by_cases Jl:j<q
 .have Db:j<r.length:=by rw[<-HQ.o];exact Jl
  obtain⟨b,off,cs,rfl,_,iY,Ja,Zn⟩:=(HS.o.below HBN.o).get (k:=j) Db (by decide);obtain⟨rfl,Lr,dB⟩:=Ja;have Vn:=Zn 0 _ rfl;simp only[show Wg.size=1 from rfl,Ys,Yq]at Vn;have HFD2:=Lh (show fin=(r.drop (j+1)).foldl (fun R s=>Jt R k s) (Jt S k r[j]) by rw[HFD.o,Ql Db,List.foldl_cons]);have yO:=HR.o _ (Qg Db);obtain⟨s,hse⟩:=Xe (r[j]);rw[<-hse]at Vn Lr dB HFD2 yO;have cS:=Vv HST.o.box;have hkS:k<S.length:=by rw[HST.o.len];exact hk
  have cK:=Hw HST.o.row hkS;have HKB:=Lh (show S.getD k false=S[k] by rw[Qb,Qa hkS];rfl);obtain⟨bk,mX⟩:=Xe (S[k]);rw[<-mX]at cK HKB;clear Zn hse Db mX hkS HFD;cases bk with
  |false =>
   have HSY:=Lh (show Jt S k s=S by unfold Jt;rw[Yz,HKB.o];simp);go_wp2;go_roundw;exact⟨j+1,S,by omega,by go_num,by have:=HFD2.o;rw[HSY.o]at this;exact this,HST.o,HGR.o⟩;simp[intOf];omega
  |true =>
   by_cases sm:s<0
   .have hd:decide (s<0)=true:=by simpa using sm
    have HSY:=Lh (show Jt S k s=S by unfold Jt;rw[Yz,HKB.o];simp;omega);go_wp2_with fail;refine (Ji s _).mono ?_;rintro e w5 ⟨rfl,rfl⟩;rw[hd];go_wp2;go_roundw;exact⟨j+1,S,by omega,by go_num,by have:=HFD2.o;rw[HSY.o]at this;exact this,HST.o,HGR.o⟩;simp[intOf];omega
   have hd:decide (s<0)=false:=by simpa using sm
   obtain⟨t,rfl⟩:∃t:Nat,s=(t:Int):=⟨s.toNat,by omega⟩;have HSY:=Lh (show Jt S k (t:Int)=S.set t true by unfold Jt;rw[Yz,HKB.o];simp);have htS:t<S.length:=by rw[HST.o.len];omega
   have cT:=Hw HST.o.row htS;have fT:wr.frozen? ⟨g,t,none⟩=false:=by simp[World.frozen?,HST.o.row]
   obtain⟨bt,hbt⟩:=Xe (S[t]);rw[<-hbt]at cT;clear hbt htS;have HST2:=Lt (Bq g SB n (S.set t true) (wr.setCell ⟨g,t,none⟩ (.bool true))) (⟨lW HST.o.row true,by rw[Qm];exact HST.o.len,by rw[Ze _ _ _ _ (fun e=>HST.o.ne e.symm)];exact HST.o.box,HST.o.ne⟩);go_wp2_with fail;refine (Ji _ _).mono ?_;rintro e w5 ⟨rfl,rfl⟩;rw[hd];go_wp2;go_roundw;exact⟨j+1,S.set t true,by omega,by go_num,by have:=HFD2.o;rw[HSY.o]at this;exact this,HST2.o,HGR.o.trans (eT _ g t _)⟩;simp[intOf];omega
 have Mc:=Lh (show fin=S by rw[HFD.o,show j=r.length by rw[<-HQ.o];omega,List.drop_length];rfl);go_wp2
 go_end0
 exact⟨rfl,by rw[Mc.o];exact HST.o,HGN.o.trans HGR.o⟩
def iH(n:Nat):List Bool:=(List.replicate n false).set 0 true
theorem px{c3:Nat}(w:World)(h:Np w w.heap.size A1 A2 A3 n m q c1 c2 c3 g)(hv:Ut g=true) :
  Calls Tryz.prog 72 #[Rw A1 A2 A3 n m q c1 c2 c3] w (mm w (Uu g.2.2 n)):=by
 have Nd:=(Xr w.heap.size w).alloc (Yb _) (.cells #[.slice A1 n c1,.slice A2 m c2,.slice A3 q c3] 25);have HV:=Lh ((h.fut (B':=w.heap.size+1) Nd (Yb _) (by omega)));have HK:=Lh (Xn w (.cells #[.slice A1 n c1,.slice A2 m c2,.slice A3 q c3] 25));have HZ:=Lh (Xs w (.cells #[.slice A1 n c1,.slice A2 m c2,.slice A3 q c3] 25));have HBX:=Lh Nd;have HG:=Lh (Ud hv);have HVV:=Lh hv;have HL:=Lh h.ln;have yO:=h.small;have HN1:=Lh (show 1<=n by have:=HG.o.n1;have:=HL.o.1;omega);have If:=Lh (show n<=256 by have:=HG.o.nm;have:=HL.o.1;omega);clear h hv Nd;go_enter Tryz.func72,Tryz.ntmps72;go_wp2_with fail;generalize w.alloc (.cells #[.slice A1 n c1,.slice A2 m c2,.slice A3 q c3] 25)=w1 at*;refine (Np.valid (w:=w1) (by rw[HZ.o];exact HV.o)).mono ?_;rintro e w2 ⟨rfl,Jd⟩;rw[HVV.o];have HB2:=Lh Jd;have Si:w.heap.size<w2.heap.size:=by have:=Jd.size;have:=HZ.o;omega
 have k2:=(Jd.block w.heap.size (by rw[HZ.o];omega)).trans HK.o;have c0:w2.cell? ⟨w.heap.size,0,none⟩=some (.slice A1 n c1):=Xc k2 rfl;have sK:=qjZ n (by have:=If.o;omega) w2;have hb3:=(Xr w2.heap.size w2).alloc (Yb _) (.cells (Wu (List.replicate n false)).toArray 4);rw[show List.replicate n (Value.bool false)=Wu (List.replicate n false) by simp[Wu]]at sK;have nA:=Lh (Xn w2 (.cells (Wu (List.replicate n false)).toArray 4));have Ob:=Lh (Xs w2 (.cells (Wu (List.replicate n false)).toArray 4));have HKG:=Lh ((hb3.block w.heap.size Si).trans k2);have HB3:=Lh hb3;obtain⟨w3,o_⟩:=Xe (w2.alloc (.cells (Wu (List.replicate n false)).toArray 4));rw[<-o_]at sK nA Ob HB3 HKG;have hz3:w2.heap.size<w3.heap.size:=by rw[Ob.o];omega
 have ztA:w.heap.size<w3.heap.size:=by omega
 have c9:w3.cell? ⟨w2.heap.size,0,none⟩=some (.bool false):=by
  rw[Hw nA.o (by rw[Qr];exact HN1.o)];simp
 have f9:w3.frozen? ⟨w2.heap.size,0,none⟩=false:=by simp[World.frozen?,nA.o]
 have d0:w3.cell? ⟨w.heap.size,0,none⟩=some (.slice A1 n c1):=Xc HKG.o rfl;have d1:w3.cell? ⟨w.heap.size,1,none⟩=some (.slice A2 m c2):=Xc HKG.o rfl;have d2:w3.cell? ⟨w.heap.size,2,none⟩=some (.slice A3 q c3):=Xc HKG.o rfl;have hne:w.heap.size≠w2.heap.size:=by omega
 have hn0:0<n:=HN1.o;have HW3:=Lt (Below (w.heap.size+1) w1 w3) ((HB2.o.mono (Yj HZ.o.symm)).trans (HB3.o.mono Si));clear o_ Jd k2 hb3;go_wp2_with fail;have HB4:=Lh ((Xr (w3.setCell ⟨w2.heap.size,0,none⟩ (.bool true)).heap.size (w3.setCell ⟨w2.heap.size,0,none⟩ (.bool true))).alloc (Yb _) (.cells #[.slice (some ⟨w2.heap.size,0,none⟩) n n] 70));have HK4:=Lh (Xn (w3.setCell ⟨w2.heap.size,0,none⟩ (.bool true)) (.cells #[.slice (some ⟨w2.heap.size,0,none⟩) n n] 70));have HZ4:=Lh (Xs (w3.setCell ⟨w2.heap.size,0,none⟩ (.bool true)) (.cells #[.slice (some ⟨w2.heap.size,0,none⟩) n n] 70));have Fb:(w3.setCell ⟨w2.heap.size,0,none⟩ (.bool true)).heap.size=w3.heap.size:=by simp[World.setCell]
 have HR4:=Lh (lW nA.o (k:=0) true);have Do:=Lt (Below w2.heap.size w3 (w3.setCell ⟨w2.heap.size,0,none⟩ (.bool true))) (Below.setCell (p:=⟨w2.heap.size,0,none⟩) (Xr _ _) (Yb _) _);rw[Fb]at HB4 HK4 HZ4;generalize (w3.setCell ⟨w2.heap.size,0,none⟩ (.bool true))=ws at*;generalize ws.alloc (.cells #[.slice (some ⟨w2.heap.size,0,none⟩) n n] 70)=w5 at*;have HST:=Lt (Bq w2.heap.size w3.heap.size n (iH n) w5) (⟨(HB4.o.block w2.heap.size hz3).trans HR4.o,by simp[iH],HK4.o,by omega⟩);have HBA:=Lt (Below (w.heap.size+1) w1 w5) ((HW3.o.trans (Do.o.mono Si)).trans (HB4.o.mono ztA));have hrd:=uN 135 #[.pointer (some ⟨w3.heap.size,0,none⟩)] (fun _ _=>by kernel_rfl) Wr (Bq w2.heap.size w3.heap.size n) (.slice A2 m c2) A1 A3 n c1 c3 (w.heap.size+1) w2.heap.size g.2.2 (iH n) w5 If.o (by rw[<-HL.o.2.2];exact HV.o.rules.below HBA.o) Si (by rw[HZ4.o];omega) (fun s w1 w2 h hb=>h.below hb) HST.o (fun s wx r A qq cc hr hs hgl hq Mo=>by
  obtain⟨f1,f2,f3,f4⟩:=HG.o.fit r hr
  obtain⟨k,hk⟩:∃k:Nat,r.1=(k:Int):=⟨r.1.toNat,by omega⟩
  have:=zK w2.heap.size w3.heap.size n (w.heap.size+1) s k r.2 A qq cc wx hs (by have:=HL.o.1;omega) hq (fun x hx=>by have:=(f4 x hx).1;have:=HL.o.1;omega) Mo Si (by omega)
  rw[<-hk]at this
  exact this)
 rw[<-HL.o.2.2]at hrd;have ak:=Lh hrd;clear hrd;refine ak.o.mono ?_;rintro e w6 ⟨rfl,hst,hgw⟩;have c6:=Vv hst.box;have Mc:=Lt (mm w (Uu g.2.2 n) (.returned (.slice (some ⟨w2.heap.size,0,none⟩) n n)) w6) (by
  have hlen:(Uu g.2.2 n).length=n:=hst.len
  have Nu:Rd w6 w6.heap.size (some ⟨w2.heap.size,0,none⟩) (Wu (Uu g.2.2 n)).toArray.toList:=Rd.row hst.row (gl hst.row)
  exact⟨some ⟨w2.heap.size,0,none⟩,n,by rw[hlen],Nu,(HBX.o.trans (HBA.o.mono (by omega))).trans (Dd hgw (Yh Si) (by rw[HZ4.o];omega))⟩)
 clear hst hgw ak;go_wp2;go_ret;exact Mc.o
def Ng(m:Nat)(l:List Int):List Int:=(List.range m).map fun t:Nat=>((l.count (-1-(t:Int)):Nat):Int)
theorem Tg(m:Nat)(l:List Int):(Ng m l).length=m:=by simp[Ng]
theorem jD{t:Nat}(h:t<m):(Ng m l)[t]?=some ((l.count (-1-(t:Int)):Nat):Int):=by simp[Ng,h]
theorem uw(h:k<m):(Ng m l).set k (((l.count (-1-(k:Int)):Nat):Int)+1)=Ng m (l++[-1-(k:Int)]):=by
 apply List.ext_getElem?;intro t;by_cases ht:t<m
 .rw[jD ht,Xw];by_cases e:k=t
  .subst e;rw[if_pos rfl,if_pos (by rw[Tg];exact h),List.count_append];simp
  rw[if_neg e,jD ht,List.count_append];have:((-1-(k:Int))==-1-(t:Int))=false:=by rw[Yp];omega
  rw[List.count_singleton,this];simp
 rw[Xg (by rw[Qm,Tg];omega),Xg (by rw[Tg];omega)]
theorem uz{s:Int}(h:0<=s):Ng m (l++[s])=Ng m l:=by
 unfold Ng;apply List.map_congr_left;intro t _;rw[List.count_append];rw[List.count_singleton];have:(s==-1-(t:Int))=false:=by rw[Yp];omega
 rw[this];simp
def Ry(rs:Zz):List Int:=rs.flatMap (·.2)
theorem qaR(rs:Zz){i:Nat}(h:i<rs.length):Ry (rs.take (i+1))=Ry (rs.take i)++rs[i].2:=by
 unfold Ry;rw[Qc h,List.flatMap_append];simp
theorem fe:∀(rs:Zz),(∀r∈rs,r.2.length<=64)->(Ry rs).length<=64*rs.length
 |[],_=>by simp[Ry]
 |r::rs,h=>by
  have ih:=fe rs (fun r hr=>h r (by simp[hr]));have:=h r (by simp);unfold Ry at*;rw[List.flatMap_cons,Qe,Qu];omega
theorem xD(m:Nat)(rs:Zz):(Ng m (Ry rs)).contains 0=!(List.range m).all (Oi rs):=by
 rw[Bool.eq_iff_iff,List.contains_iff_mem,Bool.not_eq_true',<-Bool.not_eq_true,Xq];unfold Ng;rw[Xa];constructor
 .rintro⟨t,ht,h⟩ Wc;have h1:=Wc t ht;unfold Oi at h1;rw[Xt]at h1;obtain⟨r,hr,h2⟩:=h1;rw[Xt]at h2;obtain⟨s,hs,h3⟩:=h2;have h3:=of_decide_eq_true h3;have h0:(Ry rs).count (-1-(t:Int))=0:=by omega
  rw[List.count_eq_zero]at h0;exact h0 (by rw[<-h3];unfold Ry;exact Xv.2 ⟨r,hr,hs⟩)
 intro h;refine Classical.byContradiction fun hno=>h fun t ht=>?_;unfold Oi;rw[Xt];have:(Ry rs).count (-1-(t:Int))≠0:=fun e=>hno ⟨t,ht,by omega⟩;have hm:=List.count_pos_iff.1 (Nat.pos_of_ne_zero this);obtain⟨r,hr,hs⟩:=Xv.1 hm;exact⟨r,hr,Xt.2 ⟨_,hs,by simp⟩⟩
theorem qfJ{c3:Nat}(w:World)(h:Np w w.heap.size A1 A2 A3 n m q c1 c2 c3 g)(hg:yJ g) :
  Calls Tryz.prog 73 #[Rw A1 A2 A3 n m q c1 c2 c3] w fun e w'=>e=.returned (.bool ((List.range m).all (Oi g.2.2)))/\Below w.heap.size w w':=by
 have Nd:=(Xr w.heap.size w).alloc (Yb _) (.cells #[.slice A1 n c1,.slice A2 m c2,.slice A3 q c3] 25);have HK:=Lh (Xn w (.cells #[.slice A1 n c1,.slice A2 m c2,.slice A3 q c3] 25));have HZ:=Lh (Xs w (.cells #[.slice A1 n c1,.slice A2 m c2,.slice A3 q c3] 25));have HBX:=Lh Nd;have HG:=Lh hg;have HL:=Lh h.ln;have Ej:=Lh h.rules;have yO:=h.small;have HM2:=Lh (show m<=256 by have:=hg.nm;have:=h.ln.2.1;omega);have Nj:(w.alloc (.cells #[.slice A1 n c1,.slice A2 m c2,.slice A3 q c3] 25)).cell? ⟨w.heap.size,1,none⟩=some (.slice A2 m c2):=Xc HK.o rfl;have sK:=sc m (by have:=HM2.o;omega) (w.alloc (.cells #[.slice A1 n c1,.slice A2 m c2,.slice A3 q c3] 25));rw[show List.replicate m (Value.int .i64 0)=Ku (Ng m []) by
  unfold Ku Ng
  rw[List.map_map]
  apply List.ext_getElem
  .simp
  intro i h1 h2;simp]at sK
 clear h hg Nd;go_enter Tryz.func73,Tryz.ntmps73;go_wp2_with fail;generalize w.alloc (.cells #[.slice A1 n c1,.slice A2 m c2,.slice A3 q c3] 25)=w1 at*;have Ik:w.heap.size<w1.heap.size:=by rw[HZ.o];omega
 obtain⟨gt,hgt⟩:=Xe (w.heap.size+1);have zvD:w1.heap.size=gt:=by rw[HZ.o,hgt]
 have HK2:=Lh (show (w1.alloc (.cells (Ku (Ng m [])).toArray 3)).heap[gt]?=some (.cells (Ku (Ng m [])).toArray 3 (0,0)) by rw[<-zvD];exact Xn w1 _);have HZ2:=Lh (Xs w1 (.cells (Ku (Ng m [])).toArray 3));have HB2:=Lh (HBX.o.trans (((Xr w1.heap.size w1).alloc (Yb _) (.cells (Ku (Ng m [])).toArray 3)).mono (by rw[HZ.o];omega)));clear Nj sK;generalize w1.alloc (.cells (Ku (Ng m [])).toArray 3)=w2 at*;rw[<-hgt];have HGT:=Lh hgt;clear hgt;go_loopw [15] (fun v15 wr=>∃i:Nat,i<=q/\v15=.int .i64 i/\Hid (wr.heap[gt]?=some (.cells (Ku (Ng m (Ry (g.2.2.take i)))).toArray 3 (0,0)))/\Hid (w2.grownBy wr (some gt))) (fun v15 _=>q-(intOf v15).toNat);exact⟨0,by omega,rfl,HK2.o,World.grownBy.refl _ _⟩;clear HK2;obtain⟨i,hi,rfl,HK2,HGR⟩:=hrel;have HBN:=Lt (Below w.heap.size w wr) (HB2.o.trans (Dd HGR.o (by have:=HGT.o;omega) (by rw[HZ2.o];omega)));by_cases Jl:i<q
 .have Wp:i<g.2.2.length:=by rw[<-HL.o.2.2];exact Jl
  obtain⟨b,off,cs,rfl,_,iY,Ja,Zn⟩:=(Ej.o.below HBN.o).get (k:=i) Wp (by decide);obtain⟨v,rfl,Mo,zQ,rE⟩:=Kn Ja;obtain⟨A5,c5,rfl,Ct,jW⟩:=Mo.form;have Vn:=Zn 0 _ rfl;have Nj:=Zn 1 _ rfl;simp only[show Vw.size=2 from rfl,Yq,<-Yy]at Vn Nj;have HFT:=Lh (qaR g.2.2 Wp);have jaB:=Lh (show (Ry (g.2.2.take (i+1))).length<=262144 by
   have:=fe (g.2.2.take (i+1)) (fun r hr=>(HG.o.fit r (List.mem_of_mem_take hr)).2.2.1)
   rw[Qq]at this
   have:=HG.o.q
   omega)
  have jQ:=Lh (HG.o.fit _ (Qg Wp)).2.2.2;have h64:=(HG.o.fit _ (Qg Wp)).2.2.1;obtain⟨r,hr⟩:=Xe (g.2.2[i]);rw[<-hr]at Vn Nj HFT Mo zQ rE Ct;rw[<-hr]at jQ h64;obtain⟨ql,sp⟩:=Xe r.2.length;rw[<-sp]at Nj Mo Ct h64;have HQL:=Lh sp;have HSL:=Lh Mo;clear Zn Ja hr sp Mo Wp;go_wp2_with fail;have HB5:=Lh (World.grownBy_alloc wr (.cells #[.int .i64 r.1,.slice A5 ql c5] 63) (some gt));have HK5:=Lh (((Xr wr.heap.size wr).alloc (Yb _) (.cells #[.int .i64 r.1,.slice A5 ql c5] 63)).block gt (gl HK2.o));have HGR5:=Lh (HGR.o.trans HB5.o);have HK6:=Lh (HK5.o.trans HK2.o);generalize wr.alloc (.cells #[.int .i64 r.1,.slice A5 ql c5] 63)=w5 at*;go_loopw [22] (fun v22 wt=>∃j:Nat,j<=ql/\v22=.int .i64 j/\Hid (wt.heap[gt]?=some (.cells (Ku (Ng m (Ry (g.2.2.take i)++r.2.take j))).toArray 3 (0,0)))/\Hid (w2.grownBy wt (some gt))) (fun v22 _=>ql-(intOf v22).toNat);exact⟨0,by omega,rfl,by rw[List.take_zero,List.append_nil];exact HK6.o,HGR5.o⟩;clear HK5 HK6 HGR5 HB5 HK2 HGR Vn Nj;obtain⟨j,hj,rfl,HK2,HGR⟩:=hrel;have HBT:=Lt (Below w.heap.size w wr) (HB2.o.trans (Dd HGR.o (by have:=HGT.o;omega) (by rw[HZ2.o];omega)));by_cases Mw:j<ql
  .have qxL:j<r.2.length:=by rw[<-HQL.o];exact Mw
   have qiB:Je Wg wr w.heap.size (.slice A5 ql c5) r.2:=by
    have:=HSL.o;exact this.keep fun p hp=>(HBT.o.cell hp).trans (HBN.o.cell hp).symm
   obtain⟨b2,o2,cs,rfl,_,hbl2,Ja,Zn⟩:=qiB.get (k:=j) qxL (by decide);obtain⟨rfl,Lr,dB⟩:=Ja;have Vn:=Zn 0 _ rfl;simp only[show Wg.size=1 from rfl,Ys,Yq]at Vn;have HT:=Lh (Qc qxL);have hft:=jQ.o _ (Qg qxL);have HLE:=Lh (show (Ry (g.2.2.take i)++r.2.take j).length<=262144 by
    have h1:=jaB.o
    rw[HFT.o,Qe]at h1
    rw[Qe,Qq]
    omega)
   obtain⟨s,hs⟩:=Xe (r.2[j]);rw[<-hs]at Vn Lr dB HT hft;obtain⟨pre,Cr⟩:=Xe (Ry (g.2.2.take i)++r.2.take j);rw[<-Cr]at HK2 HLE;have HPRE:=Lh (show Ry (g.2.2.take i)++r.2.take (j+1)=pre++[s] by rw[HT.o,Cr,Xd]);clear hs Zn Cr qxL qiB;by_cases sm:s<0
   .have hd:decide (s<0)=true:=by simpa using sm
    obtain⟨k,hk⟩:∃k:Nat,s=-1-(k:Int):=⟨(-1-s).toNat,by omega⟩;subst hk;have hkm:k<m:=by have:=HL.o.2.1;omega
    have Du:k<(Ng m pre).length:=by rw[Tg];exact hkm
    have hcv:=Iz HK2.o Du;have hcg:=jD (l:=pre) hkm;rw[Qa Du]at hcg;injection hcg with hcg;rw[hcg]at hcv;have HST:=Lh (uw (l:=pre) hkm);have HCB:=List.count_le_length (a:=-1-(k:Int)) (l:=pre);have HL2:=HLE.o;obtain⟨x,hx⟩:=Xe (pre.count (-1-(k:Int)));rw[<-hx]at hcv HST HCB;have hxb:(x:Int)<=262144:=by omega
    have fK:wr.frozen? ⟨gt,k,none⟩=false:=by simp[World.frozen?,HK2.o]
    have he:-1-(-1-(k:Int))=k:=by omega
    have HSET:=Lh (qH HK2.o (k:=k) ((x:Int)+1));clear hcg hx Du HL2 HCB;go_wp2_with fail;refine (Ji _ _).mono ?_;rintro e w5 ⟨rfl,rfl⟩;rw[hd];go_wp2;go_roundw;exact⟨j+1,by omega,by go_num,by rw[HPRE.o,<-HST.o];exact HSET.o,HGR.o.trans (eT _ gt k _)⟩;simp[intOf];omega
   have hd:decide (s<0)=false:=by simpa using sm
   have HCN:=Lh (uz (m:=m) (l:=pre) (s:=s) (by omega));go_wp2_with fail;refine (Ji _ _).mono ?_;rintro e w5 ⟨rfl,rfl⟩;rw[hd];go_wp2;go_roundw;exact⟨j+1,by omega,by go_num,by rw[HPRE.o,HCN.o];exact HK2.o,HGR.o⟩;simp[intOf];omega
  have HEND:=Lh (show Ry (g.2.2.take i)++r.2.take j=Ry (g.2.2.take (i+1)) by
   rw[HFT.o,Qd (l:=r.2) (by rw[<-HQL.o];omega)])
  rw[HEND.o]at HK2;go_wp2;go_roundw;exact⟨i+1,by omega,by go_num,HK2.o,HGR.o⟩;simp[intOf];omega
 have Io:=Lt (g.2.2.take i=g.2.2) (Qd (by rw[<-HL.o.2.2];omega));rw[Io.o]at HK2;have jaJ:=Lh (show Calls Tryz.prog 136 #[.slice (some ⟨gt,0,none⟩) m m,.int .i64 0] wr fun e w'=>e=.returned (.bool (!(List.range m).all (Oi g.2.2)))/\w'=wr by
  rcases Nat.eq_zero_or_pos m with h0|h0
  .subst h0
   refine (Tryz.slices_Contains_int_empty (some ⟨gt,0,none⟩) 0 0 wr).mono ?_
   rintro e w' ⟨rfl,rfl⟩
   exact⟨by simp,rfl⟩
  have:=Tryz.slices_Contains_int gt 0 m m (Ng m (Ry g.2.2)) 0 wr (by rw[Tg];exact Yb _) (by have:=HM2.o;omega) (fun j hj=>by
   rw[Yr,Iz HK2.o hj,Qb,Qa hj]
   rfl)
  rw[Qd (by rw[Tg];exact Yb _),xD]at this
  exact this)
 go_wp2_with fail;refine jaJ.o.mono ?_;rintro e w5 ⟨rfl,rfl⟩;go_wp2;go_ret;exact⟨Kw (Zw (by simp)),HBN.o⟩
def Kf(g:Kd):Int:=if Ut g then wellE g.1.length g.2.1.length g.2.2 else 1
theorem oV{c3:Nat}(w:World)(h:Np w w.heap.size A1 A2 A3 n m q c1 c2 c3 g) :
  Calls Tryz.prog 28 #[Rw A1 A2 A3 n m q c1 c2 c3] w fun e w'=>e=.returned (.int .i64 (Kf g))/\Below w.heap.size w w':=by
 have Nd:=(Xr w.heap.size w).alloc (Yb _) (.cells #[.slice A1 n c1,.slice A2 m c2,.slice A3 q c3] 25);have HV:=Lh ((h.fut (B':=w.heap.size+1) Nd (Yb _) (by omega)));have HK:=Lh (Xn w (.cells #[.slice A1 n c1,.slice A2 m c2,.slice A3 q c3] 25));have HZ:=Lh (Xs w (.cells #[.slice A1 n c1,.slice A2 m c2,.slice A3 q c3] 25));have HBX:=Lh Nd;have HL:=Lh h.ln;clear h Nd;have HSTEP:Hid (∀(w1 w2:World),Below (w.heap.size+1) w1 w2->Np w1 (w.heap.size+1) A1 A2 A3 n m q c1 c2 c3 g->w.heap.size+1<=w2.heap.size->Np w2 w2.heap.size A1 A2 A3 n m q c1 c2 c3 g):=fun w1 w2 hb hg hs=>hg.fut hb (Yb _) hs;have qZ:Hid (∀(w2:World),w2.heap[w.heap.size]?=some (.cells #[.slice A1 n c1,.slice A2 m c2,.slice A3 q c3] 25 (0,0))->w2.cell? ⟨w.heap.size,0,none⟩=some (.slice A1 n c1)/\w2.cell? ⟨w.heap.size,1,none⟩=some (.slice A2 m c2)/\w2.cell? ⟨w.heap.size,2,none⟩=some (.slice A3 q c3)):=fun w2 hk=>⟨Xc hk rfl,Xc hk rfl,Xc hk rfl⟩;go_enter Tryz.func28,Tryz.ntmps28;go_wp2_with fail;generalize w.alloc (.cells #[.slice A1 n c1,.slice A2 m c2,.slice A3 q c3] 25)=w1 at*;refine (Np.valid (w:=w1) (by rw[HZ.o];exact HV.o)).mono ?_;rintro e w2 ⟨rfl,Jd⟩;have HB2:=Lt (Below (w.heap.size+1) w1 w2) (Jd.mono (Yj HZ.o.symm));have HS2:=Lh (show w.heap.size+1<=w2.heap.size by have:=Jd.size;have:=HZ.o;omega);have HK2:=Lh ((HB2.o.block w.heap.size (by omega)).trans HK.o);clear Jd;cases hv:Ut g with
 |false =>
  have HC:=Lh (show Kf g=1 by unfold Kf;rw[hv];rfl);clear hv;go_wp2;go_ret;exact⟨Kw (Gn HC.o.symm),HBX.o.trans (HB2.o.mono (by omega))⟩
 |true =>
  have HVV:=Lh hv;have HC:=Lh (show Kf g=wellE n m g.2.2 by unfold Kf;rw[hv,HL.o.1,HL.o.2.1];rfl);obtain⟨a0,a1,a2⟩:=qZ.o w2 HK2.o;clear hv;go_wp2_with fail;refine (vC w2 (HSTEP.o w1 w2 HB2.o HV.o HS2.o) HVV.o).mono ?_;rintro e w3 ⟨AP,cP,rfl,hrp,hb3⟩;have HB3:=Lh (HB2.o.trans (hb3.mono HS2.o));have HS3:=Lh (Yd HS2.o hb3.size);have nA:=Lh ((HB3.o.block w.heap.size (by omega)).trans HK.o);have HPL:=Lh (show (Ky g.2.2 n).length=n by unfold Ky;rw[Ay kU,Qr]);have If:=Lh (show n<=256 by have:=(Ud HVV.o).nm;have:=HL.o.1;omega);have HCO:=Lh (gQ AP cP (Ky g.2.2 n) w3 hrp (by rw[HPL.o];have:=If.o;omega));rw[HPL.o]at HCO |-;clear a0 a1 a2 hrp hb3;go_wp2_with fail;refine HCO.o.mono ?_;rintro e w4 ⟨rfl,rfl⟩;cases hp:(Ky g.2.2 n).all id with
  |false =>
   have HE:=Lh (show Kf g=18 by rw[HC.o];unfold wellE;rw[hp];rfl);clear hp HCO;go_wp2;go_ret;exact⟨Kw (Gn HE.o.symm),HBX.o.trans (HB3.o.mono (by omega))⟩
  |true =>
   have HE:=Lh (show Kf g=if (Uu g.2.2 n).all id&&(List.range m).all (Oi g.2.2)then 0 else 17 by rw[HC.o];unfold wellE;rw[hp];rfl)
   obtain⟨a0,a1,a2⟩:=qZ.o w4 nA.o;clear hp HCO;go_wp2_with fail;refine (px w4 (HSTEP.o w1 w4 HB3.o HV.o HS3.o) HVV.o).mono ?_;rintro e w5 ⟨AR,cR,rfl,rF,hb5⟩;have HB5:=Lh (HB3.o.trans (hb5.mono HS3.o));have yF:=Lh (Yd HS3.o hb5.size);have HK5:=Lh ((HB5.o.block w.heap.size (by omega)).trans HK.o);have HRL:=Lh (show (Uu g.2.2 n).length=n by
    unfold Uu
    rw[Ay (f:=Wr) (fun P r=>by
     unfold Wr
     have:∀(l:List Int)(R:List Bool),(l.foldl (fun R s=>Jt R r.1 s) R).length=R.length:=by
      intro l
      induction l with
      |nil=>intro R;rfl
      |cons s l ih=>intro R;rw[List.foldl_cons,ih,jk]
     exact this _ _),Qm,Qr])
   have HCO:=Lh (gQ AR cR (Uu g.2.2 n) w5 rF (by rw[HRL.o];have:=If.o;omega));rw[HRL.o]at HCO |-;clear a0 a1 a2 rF hb5;go_wp2_with fail;refine HCO.o.mono ?_;rintro e w6 ⟨rfl,rfl⟩;cases hr:(Uu g.2.2 n).all id with
   |false =>
    have HE2:=Lh (show Kf g=17 by rw[HE.o,hr];rfl);clear hr HCO HE;go_wp2;go_ret;exact⟨Kw (Gn HE2.o.symm),HBX.o.trans (HB5.o.mono (by omega))⟩
   |true =>
    have HE2:=Lh (show Kf g=if (List.range m).all (Oi g.2.2)then 0 else 17 by rw[HE.o,hr];rfl)
    obtain⟨a0,a1,a2⟩:=qZ.o w6 HK5.o;clear hr HCO HE;go_wp2_with fail;refine (qfJ w6 (HSTEP.o w1 w6 HB5.o HV.o yF.o) (Ud HVV.o)).mono ?_;rintro e w7 ⟨rfl,oI⟩;have HB7:=Lh (HB5.o.trans (oI.mono yF.o));cases hu:(List.range m).all (Oi g.2.2)with
    |false =>
     have HE3:=Lh (show Kf g=17 by rw[HE2.o,hu];rfl);clear hu HE2 oI;go_wp2;go_ret;exact⟨Kw (Gn HE3.o.symm),HBX.o.trans (HB7.o.mono (by omega))⟩
    |true =>
     have HE3:=Lh (show Kf g=0 by rw[HE2.o,hu];rfl);clear hu HE2 oI;go_wp2;go_ret;exact⟨Kw (Gn HE3.o.symm),HBX.o.trans (HB7.o.mono (by omega))⟩
open Go.RowKit Go.Sort
structure Sh(w:World)(g S K G lo C n k:Nat)(sets:Jb)(gr:Bool):Prop where
 row:Ew 22 g lo lo w sets
 len:sets.length=n
 small:Eh sets
 asc:Mj sets
 bS:w.heap[S]?=some (.cells #[.slice (some ⟨g,0,none⟩) n n] 76 (0,0))
 bK:w.heap[K]?=some (.cells #[.int .i64 k] 3 (0,0))
 bG:w.heap[G]?=some (.cells #[.bool gr] 4 (0,0))
 le:C<=g/\C<=S/\C<=G/\K<C/\g<lo/\S<lo/\G<lo/\lo<=w.heap.size/\g≠S/\g≠G/\S≠G
theorem Sh.below{w w':World}{g S K G lo C n k:Nat}{sets:Jb}{gr:Bool}(h:Sh w g S K G lo C n k sets gr)(hb:Below w.heap.size w w'):Sh w' g S K G lo C n k sets gr:=by
 obtain⟨l1,l2,l3,l4,l5,l6,l7,l8,l9⟩:=h.le;exact⟨h.row.below hb,h.len,h.small,h.asc,(hb.block S (by omega)).trans h.bS,(hb.block K (by omega)).trans h.bK,(hb.block G (by omega)).trans h.bG,l1,l2,l3,l4,l5,l6,l7,Yd l8 hb.size,l9⟩
theorem ky{u:Value}{t:TypeId}(h:w.heap[G]?=some (.cells #[v] t (0,0))):(w.setCell ⟨G,0,none⟩ u).heap[G]?=some (.cells #[u] t (0,0)):=by
 simp only[World.setCell,Xz,if_true,h,Option.map_some];rfl
theorem Sh.setG{g S K lo:Nat}{sets:Jb}{gr:Bool}(h:Sh w g S K G lo C n k sets gr)(b:Bool):Sh (w.setCell ⟨G,0,none⟩ (.bool b)) g S K G lo C n k sets b:=by
 obtain⟨l1,l2,l3,l4,l5,l6,l7,l8,l9,l10,l11⟩:=h.le;exact⟨h.row.other _ l10 l7 (by show G≠lo;omega),h.len,h.small,h.asc,by rw[Ze _ _ _ _ (show S≠G from l11)];exact h.bS,by rw[Ze _ _ _ _ (show K≠G by omega)];exact h.bK,ky h.bG,l1,l2,l3,l4,l5,l6,l7,by simpa[World.setCell]using l8,l9,l10,l11⟩
def mg(w:World)(g S K G lo C n k:Nat)(gr:Bool)(o:Option (Jb×Bool))(e:Ending)(w':World):Prop :=
 Below C w w'/\match o with
 |none=>e=.returned (.bool false)
 |some (s',g')=>e=.returned (.bool true)/\Sh w' g S K G lo C n k s' (gr||g')
theorem Hp(h:Dw x):bI x:=fun y hy=>by have:=h y hy;unfold maxLen;omega
theorem qiZ(w:World)(g S K G lo C n k N:Nat)(sets:Jb)(gr:Bool)(a:Nat)(r:List Int)(A:Option Addr)(q c:Nat)(h:Sh w g S K G lo C n k sets gr)(gM:1<=k)(mU:k<=4)(ha:a<n)(hn:n<=256)(hq:q=r.length)(hr:Je Wg w N (.slice A q c) r)(hN:N<=w.heap.size) :
  Calls Tryz.prog 145 #[bs a A q c,.pointer (some ⟨S,0,none⟩),.pointer (some ⟨K,0,none⟩),.pointer (some ⟨G,0,none⟩)] w (mg w g S K G lo C n k gr (Fk k sets ((a:Int),r))):=by
 have Nd:=(Xr w.heap.size w).alloc (Yb _) (.cells #[.int .i64 a,.slice A q c] 63);have HH:=Lh h;have H1:=Lh (h.below Nd);have HZ:=Lh (Xs w (.cells #[.int .i64 a,.slice A q c] 63));have HK:=Lh (Xn w (.cells #[.int .i64 a,.slice A q c] 63));have HBX:=Lh Nd;have hOF:=qP (some ⟨g,0,none⟩) A n c k sets r (w.alloc (.cells #[.int .i64 a,.slice A q c] 63)) gM mU (by have:=(h.below Nd).row.sl (by rw[h.len];unfold maxLen;omega);rw[h.len]at this |-;exact this) (by rw[<-hq];exact hr.fut Nd hN (by rw[Xs];omega)) (fun i x hx=>by have:=h.small i x hx;exact⟨this.1,by omega⟩);rw[h.len,<-hq]at hOF;have sV:=Lh hOF;clear h Nd hq hr hOF;have cS:=Vv HH.o.bS;have cK:=Vv HH.o.bK;have lS:=(gl HH.o.bS);have lK:=(gl HH.o.bK);go_enter Tryz.func145,Tryz.ntmps145;go_wp2_with fail;clear cS cK lS lK;generalize w.alloc (.cells #[.int .i64 a,.slice A q c] 63)=w1 at*;refine sV.o.mono ?_;rintro e w2 ⟨Jd,he⟩;have HB2:=Lh (HBX.o.trans (Jd.mono (by rw[HZ.o];omega)));have HST2:=Lh (H1.o.below Jd);have HK2:=Lh ((Jd.block w.heap.size (by rw[HZ.o];omega)).trans HK.o);have hCw:C<=w.heap.size:=by have:=HH.o.le;omega
 cases ho:nS sets k r with
 |none =>
  rw[ho]at he;subst he;have HG:=Lh (show Fk k sets ((a:Int),r)=none by unfold Fk;simp only[ho];rfl);clear ho Jd;go_wp2;go_ret;refine⟨HB2.o.mono hCw,?_⟩;rw[HG.o];rfl
 |some x =>
  rw[ho]at he;obtain⟨Ax,cx,rfl,Be⟩:=he;have HX:=Lh (qdA mU ho);obtain⟨qx,sn⟩:=Xe x.length;rw[<-sn]at Be |-;have qX:=Lh Be;have has:a<sets.length:=by rw[HST2.o.len];exact ha
  obtain⟨Ao,co,hco,ju,ho2,hhi,hfz⟩:=HST2.o.row.get has;have yb:=Lh (show sets.getD a []=sets[a] by rw[Qb,Qa has];rfl);obtain⟨old,hold⟩:=Xe (sets[a]);rw[<-hold]at hco ju hhi yb;obtain⟨qo,hqo⟩:=Xe old.length;rw[<-hqo]at hco ju hhi;have HHI:=Lh hhi;have HQO:=Lh hqo;have HGW:=Lh (show Fk k sets ((a:Int),r)=if (Kv old x).length<=4096 then some (sets.set a (Kv old x),decide (old.length<(Kv old x).length))else none by
   unfold Fk
   simp only[ho,Option.bind_some,Yz,yb.o])
  have HOB:=Lh (show Dw old/\old.length<=4096 by rw[<-yb.o];exact HST2.o.small.getD a);have cS:=Vv HST2.o.bS;have c0:w2.cell? ⟨w.heap.size,0,none⟩=some (.int .i64 a):=Xc HK2.o rfl;have lS:=(gl HST2.o.bS);have lG:=(gl HST2.o.bG);have lg:=HST2.o.row.lt;have lb:=(gl HK2.o);clear ho Be sn hold has hqo hhi;go_wp2_with fail;have hb3:=(Xr w2.heap.size w2).alloc (Yb _) (.cells #[.slice Ao qo co,.slice Ax qx cx] 22);have qpL:=HST2.o.below hb3;have jw:=Xn w2 (.cells #[.slice Ao qo co,.slice Ax qx cx] 22);have HU:=Lh (aw (some ⟨w2.heap.size,0,none⟩) 2 old x (w2.alloc (.cells #[.slice Ao qo co,.slice Ax qx cx] 22)) (qcQ jw (HHI.o.sl.fut hb3 (Yb _) hb3.size) (qX.o.fut hb3 (Yb _) hb3.size)) (by have:=HOB.o.2;have:=HX.o.2;omega));have HB3:=Lh hb3;have yD:=Lh qpL;clear hb3 qpL jw cS c0 hco hfz lS lG lg lb;generalize w2.alloc (.cells #[.slice Ao qo co,.slice Ax qx cx] 22)=w3 at*;refine HU.o.mono ?_;rintro e w4 ⟨v4,rfl,hown,hb4⟩;have In:=Lh (yD.o.below hb4);have qzW:=Lh (HB3.o.trans (hb4.mono HB3.o.size));have HK4:=Lh ((qzW.o.block w.heap.size (gl HK2.o)).trans HK2.o);have HB4:=Lh (HB2.o.trans (qzW.o.mono HB2.o.size));have lz:=Lt (Dw (Kv old x)) (Iu HOB.o.1 HX.o.1);have gL:w4.ownsRow w3.heap.size 9 1 v4 (Kv old x).length (Zx (Kv old x)):=hown;have HHU:=Lh (Hi.own (lo:=lo) (e0:=lo) (Hp lz.o) gL (.inl (by have:=yD.o.le;omega)));obtain⟨A4,c4,rfl,tq,h42⟩:=Zp gL;have xy:=Lh (show (Kv old x).length<=8192 by
   have:=uD (old++x)
   rw[Qe]at this
   have h1:=HOB.o.2
   have h2:=HX.o.2
   unfold Kv
   omega)
  obtain⟨u,hu⟩:=Xe (Kv old x);rw[<-hu]at HGW lz HHU tq xy;rw[<-hu];have HUU:=Lh hu;clear hown gL hb4 HU hu;obtain⟨qu,hqu⟩:=Xe u.length;rw[<-hqu]at HGW HHU tq xy |-;have HQU:=Lh hqu;rw[<-HQO.o]at HGW;clear hqu;have ztR:=xy.o;have has:a<sets.length:=by rw[In.o.len];exact ha
  obtain⟨Ao',co',zeI,qiH,ztY,zeG,zvE⟩:=In.o.row.get has;have sq:sets[a].length=qo:=by
   have:=yb.o;rw[Qb,Qa has]at this;rw[HQO.o,<-this];rfl
  rw[sq]at zeI qiH;have cS:=Vv In.o.bS;have cG:=Vv In.o.bG;have fG:w4.frozen? ⟨G,0,none⟩=false:=by simp[World.frozen?,In.o.bG]
  have c0:w4.cell? ⟨w.heap.size,0,none⟩=some (.int .i64 a):=Xc HK4.o rfl;obtain⟨l1,l2,l3,l4,l5,l6,l7,l8,l9,l10,l11⟩:=In.o.le;have hgb:G≠w.heap.size:=by have:=HH.o.le;omega
  have hgb2:g≠w.heap.size:=by have:=HH.o.le;omega
  clear zeG sq has;have Mc:Hid (∀(b:Bool)(w5:World),w5=(w4.setCell ⟨G,0,none⟩ (.bool b)).setCell ⟨g,a,none⟩ (.slice A4 qu c4)->qu<=4096->b=(gr||decide (qo<qu))->mg w g S K G lo C n k gr (Fk k sets ((a:Int),r)) (.returned (.bool true)) w5):=by
   rintro b w5 rfl hle rfl;have hG:(w4.setCell ⟨G,0,none⟩ (.bool (gr||decide (qo<qu)))).heap[G]?=some (.cells #[.bool (gr||decide (qo<qu))] 4 (0,0)):=by
    simp only[World.setCell,Xz,if_true,In.o.bG,Option.map_some];rfl
   refine⟨((HB4.o.mono hCw).setCell l3 _).setCell l1 _,?_⟩;rw[HGW.o,if_pos hle];refine⟨rfl,⟨(In.o.row.other _ l10 l7 (by show G≠lo;omega)).set l5 (by omega) (HHU.o.keep (by simp[World.setCell]) fun p hp _=>World.cell?_of_block (Ze _ _ _ _ (by show p.block≠G;rcases hp with hp|hp <;> omega))),by rw[Qm];exact In.o.len,In.o.small.set _ ⟨lz.o,by rw[<-HQU.o];exact hle⟩,In.o.asc.set _ (by rw[HUU.o];exact Gq _ _),?_,?_,?_,l1,l2,l3,l4,l5,l6,l7,by simpa[World.setCell]using l8,l9,l10,l11⟩⟩
   .rw[Ze _ _ _ _ (fun e=>l9 e.symm),Ze _ _ _ _ (show S≠G from l11)];exact In.o.bS
   .rw[Ze _ _ _ _ (show K≠g by omega),Ze _ _ _ _ (show K≠G by omega)];exact In.o.bK
   rw[Ze _ _ _ _ (fun e=>l10 e.symm)];exact hG
  have zcJ:Hid (∀(b:Bool)(w5:World),w5=(w4.setCell ⟨G,0,none⟩ (.bool b)).setCell ⟨g,a,none⟩ (.slice A4 qu c4)->¬ qu<=4096->mg w g S K G lo C n k gr (Fk k sets ((a:Int),r)) (.returned (.bool false)) w5):=by
   rintro b w5 rfl hle;refine⟨((HB4.o.mono hCw).setCell l3 _).setCell l1 _,?_⟩;rw[HGW.o,if_neg hle]
  have hans:n<=256:=hn;cases gr with
  |true =>
   by_cases hle:qu<=4096
   .have my:decide ((qu:Int)<=4096)=true:=by rw[Yk];omega
    go_wp2;go_ret;exact Mc.o true _ rfl hle rfl
   have my:decide ((qu:Int)<=4096)=false:=by rw[Yl];omega
   go_wp2;go_ret;exact zcJ.o true _ rfl hle
  |false =>
   by_cases Jl:qo<qu
   .have zdX:decide (qo<qu)=true:=Yw Jl;by_cases hle:qu<=4096
    .have my:decide ((qu:Int)<=4096)=true:=by rw[Yk];omega
     go_wp2;go_ret;exact Mc.o true _ rfl hle (by rw[zdX];rfl)
    have my:decide ((qu:Int)<=4096)=false:=by rw[Yl];omega
    go_wp2;go_ret;exact zcJ.o true _ rfl hle
   have zdX:decide (qo<qu)=false:=Yx Jl;have hle:qu<=4096:=by have:=HOB.o.2;have:=HQO.o;omega
   have my:decide ((qu:Int)<=4096)=true:=by rw[Yk];omega
   go_wp2;go_ret;exact Mc.o false _ rfl hle (by rw[zdX];rfl)
def Ip(k:Int)(g:Kd):Prop:=k<1\/4<k\/Kf g≠0
def qeO(w':World)(o:Option Jb)(e:Ending):Prop :=
 match o with
 |none=>e=.returned (.tuple #[.slice none 0 0,.int .i64 21])
 |some s=>∃A c,e=.returned (.tuple #[.slice A s.length c,.int .i64 0])/\Je (Tw eW) w' w'.heap.size (.slice A s.length c) s/\Eh s
def qtP(k:Int)(g:Kd)(w:World)(e:Ending)(w':World):Prop :=
 Below w.heap.size w w'/\(Ip k g->e=.returned (.tuple #[.slice none 0 0,.int .i64 1]))/\(¬ Ip k g->∃o,Gl k g.2.2 g.1.length o/\qeO w' o e)
theorem Ld(h:Kf g=0):Ut g=true/\yJ g/\wellE g.1.length g.2.1.length g.2.2=0:=by
 unfold Kf at h;cases hv:Ut g with
 |false=>rw[hv]at h;cases h
 |true=>rw[hv]at h;exact⟨rfl,Ud hv,h⟩
theorem gO{c3:Nat}(k:Int)(w:World)(h:Np w w.heap.size A1 A2 A3 n m q c1 c2 c3 g) :
  Calls Tryz.prog 90 #[Rw A1 A2 A3 n m q c1 c2 c3,.int .i64 k] w (qtP k g w):=by
 have hb1:=(Xr w.heap.size w).alloc (Yb _) (.cells #[.slice A1 n c1,.slice A2 m c2,.slice A3 q c3] 25);have z1:=Xs w (.cells #[.slice A1 n c1,.slice A2 m c2,.slice A3 q c3] 25);have k1:=Xn w (.cells #[.slice A1 n c1,.slice A2 m c2,.slice A3 q c3] 25);have Jd:=(Xr _ (w.alloc (.cells #[.slice A1 n c1,.slice A2 m c2,.slice A3 q c3] 25))).alloc (Yb _) (.cells #[.int .i64 k] 3);have z2:=Xs (w.alloc (.cells #[.slice A1 n c1,.slice A2 m c2,.slice A3 q c3] 25)) (.cells #[.int .i64 k] 3);have k2:=Gg w (.cells #[.slice A1 n c1,.slice A2 m c2,.slice A3 q c3] 25) (.cells #[.int .i64 k] 3);have HB:=Lh (hb1.trans (Jd.mono (by rw[z1];omega)));have HZ:=Lh (z2.trans (by rw[z1]));have HKG:=Lh ((Jd.block w.heap.size (by rw[z1];omega)).trans k1);have HKK:=Lh k2;have HV:=Lh (h.fut HB.o (Yb _) (Yb _));have HL:=Lh h.ln;have yO:=h.small;have c1':((w.alloc (.cells #[.slice A1 n c1,.slice A2 m c2,.slice A3 q c3] 25)).alloc (.cells #[.int .i64 k] 3)).cell? ⟨w.heap.size+1,0,none⟩=some (.int .i64 k):=Xc HKK.o rfl;have g0:((w.alloc (.cells #[.slice A1 n c1,.slice A2 m c2,.slice A3 q c3] 25)).alloc (.cells #[.int .i64 k] 3)).cell? ⟨w.heap.size,0,none⟩=some (.slice A1 n c1):=Xc HKG.o rfl;have g1:((w.alloc (.cells #[.slice A1 n c1,.slice A2 m c2,.slice A3 q c3] 25)).alloc (.cells #[.int .i64 k] 3)).cell? ⟨w.heap.size,1,none⟩=some (.slice A2 m c2):=Xc HKG.o rfl;have g2:((w.alloc (.cells #[.slice A1 n c1,.slice A2 m c2,.slice A3 q c3] 25)).alloc (.cells #[.int .i64 k] 3)).cell? ⟨w.heap.size,2,none⟩=some (.slice A3 q c3):=Xc HKG.o rfl;clear h hb1 z1 k1 Jd z2 k2;by_cases gM:k<1
 .have Sl:=Lt (Ip k g) (.inl gM);go_enter Tryz.func90,Tryz.ntmps90;go_wp2_with fail
  go_step3
  go_wp2_with fail
  try rw[Exit.noGoto_ret]
  go_ret2
  exact⟨HB.o,fun _=>rfl,fun h=>absurd Sl.o h⟩
 by_cases y_:4<k
 .have Sl:=Lt (Ip k g) (.inr (.inl y_));go_enter Tryz.func90,Tryz.ntmps90;go_wp2_with fail
  go_step3
  go_wp2_with fail
  try rw[Exit.noGoto_ret]
  go_ret2
  exact⟨HB.o,fun _=>rfl,fun h=>absurd Sl.o h⟩
 obtain⟨kk,hkk⟩:∃kk:Nat,k=(kk:Int):=⟨k.toNat,by omega⟩;subst hkk;have hkd1:decide ((kk:Int)<1)=false:=by rw[Yl];omega
 have hkd4:decide (4<(kk:Int))=false:=by rw[Yl];omega
 go_enter Tryz.func90,Tryz.ntmps90;go_wp2_with fail
 go_step3
 go_wp2_with fail;generalize (w.alloc (.cells #[.slice A1 n c1,.slice A2 m c2,.slice A3 q c3] 25)).alloc (.cells #[.int .i64 kk] 3)=w1 at*;refine (oV w1 (HV.o.fut (N:=w1.heap.size) (B':=w1.heap.size) (Xr _ _) (by rw[HZ.o];omega) (by rw[HZ.o];omega))).mono ?_;rintro e w2 ⟨rfl,Jd⟩;have HB2:=Lh (HB.o.trans (Jd.mono (by rw[HZ.o];omega)));have HB12:=Lt (Below (w.heap.size+2) w1 w2) (Jd.mono (Yj HZ.o.symm));by_cases Vn:Kf g=0
 rotate_left
 .have Sl:=Lt (Ip kk g) (.inr (.inr Vn));have hcb:(Kf g==0)=false:=by rw[Yp];exact Vn
  clear Vn;go_wp2_with fail
  try rw[Exit.noGoto_ret]
  go_ret2
  exact⟨HB2.o,fun _=>rfl,fun h=>absurd Sl.o h⟩
 have znV:=Lt (¬ Ip kk g) (fun h=>by rcases h with h|h|h;omega;omega;exact h Vn);have me:=Lh (Ld Vn);rw[Vn];have zgR:=Lh ((HB12.o.block w.heap.size (by omega)).trans HKG.o);have zgQ:=Lh ((HB12.o.block (w.heap.size+1) (by omega)).trans HKK.o);have HZ2:=Lh (show w.heap.size+2<=w2.heap.size by have:=Jd.size;rw[HZ.o]at this;exact this);have HN:=Lh (show 1<=n/\n<=256 by have h1:=me.o.2.1.n1;have h2:=me.o.2.1.nm;have:=HL.o.1;omega);have g0:w2.cell? ⟨w.heap.size,0,none⟩=some (.slice A1 n c1):=Xc zgR.o rfl;have sK:=bi n (by have:=HN.o;omega) w2;have qY:=Lh (Xn w2 (.cells (List.replicate n (Value.slice none 0 0)).toArray 22));have Ob:=Lh (Xs w2 (.cells (List.replicate n (Value.slice none 0 0)).toArray 22));have HB3:=Lh ((Xr w2.heap.size w2).alloc (Yb _) (.cells (List.replicate n (Value.slice none 0 0)).toArray 22));obtain⟨w3,o_⟩:=Xe (w2.alloc (.cells (List.replicate n (Value.slice none 0 0)).toArray 22));rw[<-o_]at sK qY Ob HB3;obtain⟨gr,Ox⟩:=Xe w2.heap.size;rw[<-Ox]at sK qY Ob;have HGR:=Lh Ox;clear Vn Jd o_ Ox;go_wp2_with fail
 go_step3
 go_wp2_with fail;have qwW:(w3.alloc (.cells #[.slice (some ⟨gr,0,none⟩) n n] 76)).heap.size=w3.heap.size+1:=Xs _ _;have hb4:Below w3.heap.size w3 ((w3.alloc (.cells #[.slice (some ⟨gr,0,none⟩) n n] 76)).alloc (.cells #[.bool false] 4)):=((Xr _ _).alloc (Yb _) _).alloc (by rw[qwW];omega) _;have hZ4:((w3.alloc (.cells #[.slice (some ⟨gr,0,none⟩) n n] 76)).alloc (.cells #[.bool false] 4)).heap.size=w3.heap.size+2:=by rw[Xs,qwW]
 have hS4:((w3.alloc (.cells #[.slice (some ⟨gr,0,none⟩) n n] 76)).alloc (.cells #[.bool false] 4)).heap[w3.heap.size]?=some (.cells #[.slice (some ⟨gr,0,none⟩) n n] 76 (0,0)):=by
  rw[Zf _ _ _ (by rw[qwW];omega)];exact Xn w3 _
 have hG4:=Gg w3 (.cells #[.slice (some ⟨gr,0,none⟩) n n] 76) (.cells #[.bool false] 4);have HST:=Lt (Sh ((w3.alloc (.cells #[.slice (some ⟨gr,0,none⟩) n n] 76)).alloc (.cells #[.bool false] 4)) gr w3.heap.size (w.heap.size+1) (w3.heap.size+1) (w3.heap.size+2) (w.heap.size+2) n kk (List.replicate n []) false) (by
  have hgr2:=HGR.o
  have Si:=HZ2.o
  have hz3:=Ob.o
  refine⟨Ew.start ((hb4.block gr (by rw[hz3];omega)).trans qY.o),by simp,Eh.replicate n,Mj.replicate n,hS4,(hb4.block _ (by rw[hz3];omega)).trans ((HB3.o.block _ (by omega)).trans zgQ.o),hG4,by omega,by omega,by omega,by omega,by omega,by omega,by omega,by rw[hZ4];omega,by omega,by omega,by omega⟩)
 have HBW:=Lt (Below (w.heap.size+2) w1 ((w3.alloc (.cells #[.slice (some ⟨gr,0,none⟩) n n] 76)).alloc (.cells #[.bool false] 4))) ((HB12.o.trans (HB3.o.mono HZ2.o)).trans (hb4.mono (by have:=Ob.o;have:=HGR.o;have:=HZ2.o;omega)));have HS3:=Lh (show w.heap.size+2<=w3.heap.size by have:=Ob.o;have:=HGR.o;have:=HZ2.o;omega);clear qwW hb4 hZ4 hS4 hG4 sK;obtain⟨s3,hs3⟩:=Xe w3.heap.size;rw[<-hs3]at HST HS3 |-;generalize (w3.alloc (.cells #[.slice (some ⟨gr,0,none⟩) n n] 76)).alloc (.cells #[.bool false] 4)=w4 at*;clear hs3;go_loopg [] (4096*n) (fun gas wr=>∃(sets:Jb)(b:Bool),Hid (Sh wr gr s3 (w.heap.size+1) (s3+1) (s3+2) (w.heap.size+2) n kk sets b)/\Hid (∀o,RoundsTo (Mx kk g.2.2) sets o->Gl kk g.2.2 n o)/\Hid (4096*n<=gas+Pm sets)/\Hid (Below (w.heap.size+2) w1 wr));exact⟨List.replicate n [],false,HST.o,fun o h=>h,Nat.le_add_right _ _,HBW.o⟩;clear HST HBW g0;obtain⟨sets,b,HST,HRO,HGAS,HBW⟩:=hrel;obtain⟨gas,Gx⟩:=Xe gk;rw[<-Gx]at HGAS;have HGK:=Lh Gx;clear Gx;have cG:=Vv HST.o.bG;have fG:wr.frozen? ⟨s3+1,0,none⟩=false:=by simp[World.frozen?,HST.o.bG]
 have kg:=(HBW.o.block w.heap.size (by omega)).trans HKG.o;have g0:wr.cell? ⟨w.heap.size,0,none⟩=some (.slice A1 n c1):=Xc kg rfl;have g2':wr.cell? ⟨w.heap.size,2,none⟩=some (.slice A3 q c3):=Xc kg rfl;have hne:w.heap.size≠s3+1:=by have:=HS3.o;omega
 have HST0:=Lh (HST.o.setG false);have HB0:=Lt (Below (w.heap.size+2) w1 (wr.setCell ⟨s3+1,0,none⟩ (.bool false))) (Below.setCell (p:=⟨s3+1,0,none⟩) HBW.o (by show w.heap.size+2<=s3+1;have:=HS3.o;omega) _);clear kg;go_wp2_with fail;go_loopg [30] q (fun left v30 wt=>∃(j:Nat)(sets':Jb)(b':Bool),j<=q/\q-j<=left/\v30=.int .i64 j/\Hid (Sh wt gr s3 (w.heap.size+1) (s3+1) (s3+2) (w.heap.size+2) n kk sets' b')/\Hid (Mx kk g.2.2 sets=Gu kk (g.2.2.drop j) (sets',b'))/\Hid (Pm sets<=Pm sets'/\(b'=true->Pm sets<Pm sets'))/\Hid (Below (w.heap.size+2) w1 wt));exact⟨0,sets,false,by omega,by omega,rfl,HST0.o,rfl,⟨Yb _,fun h=>by cases h⟩,HB0.o⟩;clear HST0 HB0 cG fG g0 g2' HST HBW;obtain⟨j,sets',b',hj,Ef,rfl,HST,HRW,HTOT,HBW⟩:=hrel;by_cases hjq:j<q
 .have Mw:j<g.2.2.length:=by rw[<-HL.o.2.2];exact hjq
  have yG:=Lh (HV.o.rules.below (HBW.o.mono (by omega)));obtain⟨bb,off,cs,rfl,_,iY,Ja,Zn⟩:=yG.o.get (k:=j) Mw (by decide);obtain⟨v,rfl,Mo,zQ,rE⟩:=Kn Ja;obtain⟨A5,c5,rfl,Ct,jW⟩:=Mo.form;have Vn:=Zn 0 _ rfl;have Nj:=Zn 1 _ rfl;simp only[show Vw.size=2 from rfl,Yq,<-Yy]at Vn Nj;have Oc:=Lh (show Mx kk g.2.2 sets=(Fk kk sets' g.2.2[j]).bind fun t=>Gu kk (g.2.2.drop (j+1)) (t.1,b'||t.2) by rw[HRW.o,Ql Mw];rfl);have Fj:=me.o.2.1.fit _ (Qg Mw);obtain⟨r,hr⟩:=Xe (g.2.2[j]);rw[<-hr]at Vn Nj Oc Mo zQ rE Ct Fj;obtain⟨r1,r2⟩:=r;obtain⟨a,rfl⟩:∃a:Nat,r1=(a:Int):=⟨r1.toNat,by have:=Fj.1;simp only at this;omega⟩;simp only at Vn Nj Mo Ct Fj rE;obtain⟨ql,sp⟩:=Xe r2.length;rw[<-sp]at Nj Mo Ct;have HQL:=Lh sp;have HSL:=Lh Mo;have han:a<n:=by have:=Fj.2.1;have:=HL.o.1;omega
  clear Zn Ja hr sp Mo Mw HRW Fj zQ;go_wp2_with fail;have Nd:=(Xr wr.heap.size wr).alloc (Yb _) (.cells #[.int .i64 a,.slice A5 ql c5] 63);have HST1:=Lh (HST.o.below Nd);have HBX:=Lh Nd;have HWS:=Lh (show w.heap.size+2<=wr.heap.size by have:=HST.o.le;omega);refine (qiZ _ gr s3 (w.heap.size+1) (s3+1) (s3+2) (w.heap.size+2) n kk w.heap.size sets' b' a r2 A5 ql c5 HST1.o (by omega) (by omega) han HN.o.2 HQL.o (HSL.o.below (HBX.o.mono (by have:=HWS.o;omega))) (by rw[Xs];have:=HWS.o;omega)).mono ?_;rintro e w6 ⟨hb6,he⟩;have HB6:=Lh (HBW.o.trans ((HBX.o.mono HWS.o).trans hb6));clear Nd hb6;cases ho:Fk (kk:Int) sets' ((a:Int),r2)with
  |none =>
   rw[ho]at he;subst he;have zoF:=Lh (HRO.o none (.fail (by rw[Oc.o,ho];rfl)));clear ho;go_wp2_with fail
   try rw[Exit.noGoto_ret]
   go_ret2
   exact⟨HB.o.trans (HB6.o.mono (by omega)),fun h=>absurd h znV.o,fun _=>⟨none,by rw[<-HL.o.1];exact zoF.o,rfl⟩⟩
  |some t =>
   obtain⟨s',g'⟩:=t;rw[ho]at he;obtain⟨rfl,hst⟩:=he;have HST6:=Lh hst;have HRW6:=Lh (show Mx kk g.2.2 sets=Gu kk (g.2.2.drop (j+1)) (s',b'||g') by rw[Oc.o,ho];rfl);have HTOT6:=Lh (show Pm sets<=Pm s'/\((b'||g')=true->Pm sets<Pm s') by
    obtain⟨_,_,_,t4,t5⟩:=qxZ (by omega) HST.o.small HST.o.asc (by simp only[Yz];rw[HST.o.len];exact han) ho
    have h1:=HTOT.o
    refine⟨by omega,fun h=>?_⟩
    rw[Yu]at h
    rcases h with h|h
    .have:=h1.2 h;omega
    have:=t5 h;omega)
   clear ho hst;go_wp2;go_roundg (gk-1);exact⟨j+1,s',b'||g',by omega,by omega,by go_num,HST6.o,HRW6.o,HTOT6.o,HB6.o⟩;omega
 have znJ:=Lh (show Mx kk g.2.2 sets=some (sets',b') by
  rw[HRW.o,show j=g.2.2.length by rw[<-HL.o.2.2];omega,List.drop_length];rfl)
 have cG:=Vv HST.o.bG;have cS:=Vv HST.o.bS;clear HRW;cases b' with
 |false =>
  have HFT:=Lh (HRO.o (some sets') (.done znJ.o));have HSL:=Lh (HST.o.row.sl (by rw[HST.o.len];have:=HN.o;unfold maxLen;omega));go_wp2_with fail
  try rw[Exit.noGoto_ret]
  go_ret2
  refine⟨HB.o.trans (HBW.o.mono (by omega)),fun h=>absurd h znV.o,fun _=>⟨some sets',by rw[<-HL.o.1];exact HFT.o,some ⟨gr,0,none⟩,sets'.length,?_,HSL.o,HST.o.small⟩⟩;rw[HST.o.len];rfl
 |true =>
  have HMORE:=Lh (fun(o:Option Jb)(h:RoundsTo (Mx kk g.2.2) sets' o)=>HRO.o o (.more znJ.o h));have htl:=zf sets' HST.o.small;rw[HST.o.len]at htl;have HTL:=Lh htl;clear htl;go_wp2;go_roundg (gas-1);exact⟨sets',true,HST.o,HMORE.o,(show 4096*n<=gas-1+Pm sets' by have h2:=HTOT.o.2 trivial;have h4:=HGAS.o;omega),HBW.o⟩;have h1:=HGK.o;have h2:=HTOT.o.2 trivial;have h3:=HTL.o;have h4:=HGAS.o;omega
theorem Je.dropI{A:Option Addr}{c:Nat}{xs:List Int}(h:Je Wg w B (.slice A n c) xs)(p:Nat)(hp:p<=n):Je Wg w B (.slice (if c=p then A else A.map (·.add p)) (xs.drop p).length (c-p)) (xs.drop p):=by
 obtain⟨A',c',css,e,h1,h2,h3,h4,h5⟩:=h;injection e with e1 e2 e3;subst e1 e2 e3;have hfl:∀(cs:List (List Value)),(∀x∈cs,x.length=1)->∀q,(cs.drop q).flatten=cs.flatten.drop q:=by
  intro cs
  induction cs with
  |nil=>intro _ q;simp
  |cons x l ih =>
   intro hx q;cases q with
   |zero=>rfl
   |succ q =>
    rw[Xy,ih (fun y hy=>hx y (by simp[hy])) q,List.flatten_cons];have h1:=hx x (by simp);obtain⟨y,rfl⟩:=List.length_eq_one_iff.1 h1;rfl
 have zT:∀x∈css,x.length=1:=Je.lens (E:=Wg) h3 h5;have hlen:css.flatten.length=css.length:=by
  have:∀(cs:List (List Value)),(∀x∈cs,x.length=1)->cs.flatten.length=cs.length:=by
   intro cs
   induction cs with
   |nil=>intro _;rfl
   |cons x l ih=>intro hx;rw[List.flatten_cons,Qe,ih (fun y hy=>hx y (by simp[hy])),hx x (by simp),Qu];omega
  exact this css zT
 refine⟨_,_,css.drop p,rfl,by rw[Xl];omega,by omega,by rw[Xl,Xl,h3],?_,fun i cs x hc hx=>?_⟩
 .rw[hfl css zT p];exact h4.drop_ p (fun Jl=>by omega)
 rw[List.getElem?_drop]at hc hx;exact h5 _ cs x hc hx
def qlA(w:World)(o:Option (List Wd))(e:Ending)(w':World):Prop :=
 Below w.heap.size w w'/\match o with
 |none=>e=.returned (.tuple #[.slice none 0 0,.bool false])
 |some x=>∃v,e=.returned (.tuple #[v,.bool true])/\w'.ownsRow w.heap.size 9 1 v x.length (Zx x)
theorem xK(A1 A2 A:Option Addr)(c1 c2 c q n n2 k a p:Nat)(sets fol:Jb)(r:List Int)(w:World)(gM:1<=k)(mU:k<=4)(h1:Je (Tw eW) w w.heap.size (.slice A1 n c1) sets)(h2:Je (Tw eW) w w.heap.size (.slice A2 n2 c2) fol)(hr:Je Wg w w.heap.size (.slice A q c) r)(hq:q<=64)(hp:p<=q)(ha:a<n2)(hs:qeM sets)(hf:qeM fol) :
  Calls Tryz.prog 91 #[.slice A1 n c1,.slice A2 n2 c2,.int .i64 k,bs a A q c,.int .i64 ((p:Int)-1)] w (qlA w (Kk sets fol k ((a:Int),r) ((p:Int)-1))):=by
 have hqn:=hr.n_eq;have sJ:=h1.n_eq;have zkM:=h2.n_eq;have Nd:=(Xr w.heap.size w).alloc (Yb _) (.cells #[.int .i64 a,.slice A q c] 63);have HW:Hid (Kk sets fol k ((a:Int),r) ((p:Int)-1)=(nS sets k (r.drop p)).bind fun x=>Ep k x (fol.getD a [])):=by
  show _=_;unfold Kk;simp only;rw[if_neg (by omega),show (((p:Int)-1)+1).toNat=p by omega,Yz]
 have hof:=qP A1 (if c=p then A else A.map (·.add p)) c1 (c-p) k sets (r.drop p) (w.alloc (.cells #[.int .i64 a,.slice A q c] 63)) gM mU (by rw[<-sJ];exact h1.fut Nd (Yb _) Nd.size) ((hr.fut Nd (Yb _) Nd.size).dropI p hp) hs
 rw[<-sJ,Xl,<-hqn]at hof;have sV:=Lh hof;have zoE:=Lh h2;have HF:=Lh hf;have HBX:=Lh Nd;have HZ:=Lh (Xs w (.cells #[.int .i64 a,.slice A q c] 63));have HK:=Lh (Xn w (.cells #[.int .i64 a,.slice A q c] 63));have If:=Lh zkM;have hcq:=hr.n_le;have mW:decide (((p:Int)-1) < -1)=false:=by rw[Yl];omega
 have mV:decide ((q:Int)<=(p:Int)-1)=false:=by rw[Yl];omega
 have hd3:decide ((a:Int)<0)=false:=by rw[Yl];omega
 have hd4:decide ((n2:Int)<=(a:Int))=false:=by rw[Yl];omega
 have hpp:((p:Int)-1)+1=p:=by omega
 clear h1 h2 hr hs hf Nd hof hqn sJ zkM;by_cases hcp:c=p
 .rw[if_pos hcp]at sV;have Vn:c-p=0:=by omega
  have hq0:q-p=0:=by omega
  rw[Vn,hq0]at sV;clear Vn hq0;subst hcp;go_enter Tryz.func91,Tryz.ntmps91;go_wp2_with fail;generalize w.alloc (.cells #[.int .i64 a,.slice A q c] 63)=w1 at*;refine sV.o.mono ?_;rintro e w2 ⟨Jd,he⟩;have HB2:=Lh (HBX.o.trans (Jd.mono (by rw[HZ.o];omega)));have HK2:=Lh ((Jd.block w.heap.size (by rw[HZ.o];omega)).trans HK.o);clear Jd sV;cases ho:nS sets (k:Int) (r.drop c)with
  |none =>
   rw[ho]at he;subst he;have HN:=Lh (show Kk sets fol k ((a:Int),r) ((c:Int)-1)=none by rw[HW.o,ho];rfl);clear ho;go_wp2
   go_ret2
   refine⟨HB2.o,?_⟩;rw[HN.o];rfl
  |some x =>
   rw[ho]at he;obtain⟨Ax,cx,rfl,Be⟩:=he;have HX:=Lh (qdA mU ho);have HWX:=Lh (show Kk sets fol k ((a:Int),r) ((c:Int)-1)=Ep k x (fol.getD a []) by rw[HW.o,ho];rfl);have qX:=Lh Be;have Aj:a<fol.length:=by rw[<-If.o];exact ha
   obtain⟨b,off,A9,c9,rfl,_,iY,Zn,Mo,h5,h6⟩:=(zoE.o.fut HB2.o (Yb _) HB2.o.size).row1 Aj;have HFS:=Lh (HF.o a _ (Qa Aj));have gV:=Lh (show fol.getD a []=fol[a] by rw[Qb,Qa Aj];rfl);obtain⟨f,hf⟩:=Xe (fol[a]);rw[<-hf]at Zn Mo h5 HFS gV;have rK:=bW k Ax A9 cx c9 x f w2 gM mU qX.o Mo HX.o.1 HFS.o.1 (by
    have e1:=HX.o.2;have e2:=HFS.o.2
    exact Yd (Nat.mul_le_mul e1 e2) (by decide))
   obtain⟨qx,sn⟩:=Xe x.length;obtain⟨qf,hqf⟩:=Xe f.length;rw[<-sn,<-hqf]at rK;rw[<-sn];rw[<-hqf]at Zn h5;have zgZ:=Lh rK;have c0:w2.cell? ⟨w.heap.size,0,none⟩=some (.int .i64 a):=Xc HK2.o rfl;clear ho Be Aj Mo hf sn hqf rK;go_wp2_with fail;refine zgZ.o.mono ?_;rintro e w3 ⟨hb3,he⟩;have HB3:=Lh (HB2.o.trans (hb3.mono HB2.o.size));rw[gV.o]at HWX;clear hb3;cases h2:Ep (k:Int) x f with
   |none =>
    rw[h2]at he;subst he;have HN:=Lh (show Kk sets fol k ((a:Int),r) ((c:Int)-1)=none by rw[HWX.o,h2]);clear h2;go_wp2
    go_ret2
    refine⟨HB3.o,?_⟩;rw[HN.o];rfl
   |some z =>
    rw[h2]at he;obtain⟨v,rfl,hown⟩:=he;have HS:=Lh (show Kk sets fol k ((a:Int),r) ((c:Int)-1)=some z by rw[HWX.o,h2]);have HO:=Lh (Nn hown HB2.o.size);obtain⟨A8,c8,rfl,_,_⟩:=Zp hown;clear h2 hown;go_wp2
    go_ret2
    refine⟨HB3.o,?_⟩;rw[HS.o];exact⟨_,rfl,HO.o⟩
 rw[if_neg hcp]at sV;go_enter Tryz.func91,Tryz.ntmps91;go_wp2_with fail;generalize w.alloc (.cells #[.int .i64 a,.slice A q c] 63)=w1 at*;refine sV.o.mono ?_;rintro e w2 ⟨Jd,he⟩;have HB2:=Lh (HBX.o.trans (Jd.mono (by rw[HZ.o];omega)));have HK2:=Lh ((Jd.block w.heap.size (by rw[HZ.o];omega)).trans HK.o);clear Jd sV;cases ho:nS sets (k:Int) (r.drop p)with
 |none =>
  rw[ho]at he;subst he;have HN:=Lh (show Kk sets fol k ((a:Int),r) ((p:Int)-1)=none by rw[HW.o,ho];rfl);clear ho;go_wp2
  go_ret2
  refine⟨HB2.o,?_⟩;rw[HN.o];rfl
 |some x =>
  rw[ho]at he;obtain⟨Ax,cx,rfl,Be⟩:=he;have HX:=Lh (qdA mU ho);have HWX:=Lh (show Kk sets fol k ((a:Int),r) ((p:Int)-1)=Ep k x (fol.getD a []) by rw[HW.o,ho];rfl);have qX:=Lh Be;have Aj:a<fol.length:=by rw[<-If.o];exact ha
  obtain⟨b,off,A9,c9,rfl,_,iY,Zn,Mo,h5,h6⟩:=(zoE.o.fut HB2.o (Yb _) HB2.o.size).row1 Aj;have HFS:=Lh (HF.o a _ (Qa Aj));have gV:=Lh (show fol.getD a []=fol[a] by rw[Qb,Qa Aj];rfl);obtain⟨f,hf⟩:=Xe (fol[a]);rw[<-hf]at Zn Mo h5 HFS gV;have rK:=bW k Ax A9 cx c9 x f w2 gM mU qX.o Mo HX.o.1 HFS.o.1 (by
   have e1:=HX.o.2;have e2:=HFS.o.2
   exact Yd (Nat.mul_le_mul e1 e2) (by decide))
  obtain⟨qx,sn⟩:=Xe x.length;obtain⟨qf,hqf⟩:=Xe f.length;rw[<-sn,<-hqf]at rK;rw[<-sn];rw[<-hqf]at Zn h5;have zgZ:=Lh rK;have c0:w2.cell? ⟨w.heap.size,0,none⟩=some (.int .i64 a):=Xc HK2.o rfl;clear ho Be Aj Mo hf sn hqf rK;go_wp2_with fail;refine zgZ.o.mono ?_;rintro e w3 ⟨hb3,he⟩;have HB3:=Lh (HB2.o.trans (hb3.mono HB2.o.size));rw[gV.o]at HWX;clear hb3;cases h2:Ep (k:Int) x f with
  |none =>
   rw[h2]at he;subst he;have HN:=Lh (show Kk sets fol k ((a:Int),r) ((p:Int)-1)=none by rw[HWX.o,h2]);clear h2;go_wp2
   go_ret2
   refine⟨HB3.o,?_⟩;rw[HN.o];rfl
  |some z =>
   rw[h2]at he;obtain⟨v,rfl,hown⟩:=he;have HS:=Lh (show Kk sets fol k ((a:Int),r) ((p:Int)-1)=some z by rw[HWX.o,h2]);have HO:=Lh (Nn hown HB2.o.size);obtain⟨A8,c8,rfl,_,_⟩:=Zp hown;clear h2 hown;go_wp2
   go_ret2
   refine⟨HB3.o,?_⟩;rw[HS.o];exact⟨_,rfl,HO.o⟩
def qU(M:Nat)(s:Jb):Prop:=∀(i:Nat)(x:List Wd),s[i]?=some x->Dw x/\x.length<=M
theorem qU.mono(h:qU M s)(hM:M<=M'):qU M' s:=fun i x hx=>⟨(h i x hx).1,Yd (h i x hx).2 hM⟩
theorem qU.set(h:qU M s)(a:Nat)(hu:Dw u/\u.length<=M):qU M (s.set a u):=by
 intro b y hy;rw[Xw]at hy;split at hy
 .split at hy
  .injection hy with hy;subst hy;exact hu
  cases hy
 exact h b y hy
structure yK where
 g:Nat
 SB:Nat
 FB:Nat
 KB:Nat
 LB:Nat
 GB:Nat
 lo:Nat
 e0:Nat
 C:Nat
 N0:Nat
 A1:Option Addr
 n1:Nat
 c1:Nat
 n:Nat
structure Gb(a:yK)(k:Nat)(sets:Jb)(w:World)(p:Fd)(M:Nat):Prop where
 row:Ew 22 a.g a.lo a.e0 w p.fol
 len:p.fol.length=a.n
 small:qU M p.fol
 asc:Mj p.fol
 bS:w.heap[a.SB]?=some (.cells #[.slice a.A1 a.n1 a.c1] 76 (0,0))
 bF:w.heap[a.FB]?=some (.cells #[.slice (some ⟨a.g,0,none⟩) a.n a.n] 76 (0,0))
 bK:w.heap[a.KB]?=some (.cells #[.int .i64 k] 3 (0,0))
 bL:w.heap[a.LB]?=some (.cells #[.bool p.limit] 4 (0,0))
 bG:w.heap[a.GB]?=some (.cells #[.bool p.grown] 4 (0,0))
 sets:Je (Tw eW) w a.N0 (.slice a.A1 a.n1 a.c1) sets
 le:(a.C<=a.g/\a.C<=a.FB/\a.C<=a.LB/\a.C<=a.GB/\a.SB<a.C/\a.KB<a.C/\a.N0<=a.C)/\(a.g<a.lo/\a.FB<a.lo/\a.LB<a.lo/\a.GB<a.lo/\a.lo<=w.heap.size)/\(a.g≠a.e0/\a.FB≠a.e0/\a.LB≠a.e0/\a.GB≠a.e0)/\(a.g≠a.FB/\a.g≠a.LB/\a.g≠a.GB/\a.FB≠a.LB/\a.FB≠a.GB/\a.LB≠a.GB)
theorem Gb.below{a:yK}{k:Nat}{sets:Jb}{w w':World}{p:Fd}{M:Nat}(h:Gb a k sets w p M)(hb:Below w.heap.size w w'):Gb a k sets w' p M:=by
 obtain⟨⟨l1,l2,l3,l4,l5,l6,l7⟩,⟨m1,m2,m3,m4,m5⟩,l8,l9⟩:=h.le;exact⟨h.row.below hb,h.len,h.small,h.asc,(hb.block _ (by omega)).trans h.bS,(hb.block _ (by omega)).trans h.bF,(hb.block _ (by omega)).trans h.bK,(hb.block _ (by omega)).trans h.bL,(hb.block _ (by omega)).trans h.bG,h.sets.below (hb.mono (by omega)),⟨l1,l2,l3,l4,l5,l6,l7⟩,⟨m1,m2,m3,m4,Yd m5 hb.size⟩,l8,l9⟩
theorem Gb.setL{a:yK}{sets:Jb}(h:Gb a k sets w p M)(b:Bool):Gb a k sets (w.setCell ⟨a.LB,0,none⟩ (.bool b)) ⟨p.fol,p.grown,b⟩ M:=by
 obtain⟨⟨l1,l2,l3,l4,l5,l6,l7⟩,⟨m1,m2,m3,m4,m5⟩,⟨o1,o2,o3,o4⟩,⟨d1,d2,d3,d4,d5,d6⟩⟩:=h.le;have hk:∀j,j≠a.LB->(w.setCell ⟨a.LB,0,none⟩ (.bool b)).heap[j]?=w.heap[j]? := fun j hj=>Ze _ _ _ _ hj;have tg:Below a.N0 w (w.setCell ⟨a.LB,0,none⟩ (.bool b)):=Below.setCell (p:=⟨a.LB,0,none⟩) (Xr _ _) (by show a.N0<=a.LB;omega) _;exact⟨h.row.other _ d2 m3 o3,h.len,h.small,h.asc,(hk _ (by omega)).trans h.bS,(hk _ d4).trans h.bF,(hk _ (by omega)).trans h.bK,ky h.bL,(hk _ (fun e=>d6 e.symm)).trans h.bG,h.sets.below tg,⟨l1,l2,l3,l4,l5,l6,l7⟩,⟨m1,m2,m3,m4,by simpa[World.setCell]using m5⟩,⟨o1,o2,o3,o4⟩,⟨d1,d2,d3,d4,d5,d6⟩⟩
theorem Gb.setG{a:yK}{sets:Jb}(h:Gb a k sets w p M)(b:Bool):Gb a k sets (w.setCell ⟨a.GB,0,none⟩ (.bool b)) ⟨p.fol,b,p.limit⟩ M:=by
 obtain⟨⟨l1,l2,l3,l4,l5,l6,l7⟩,⟨m1,m2,m3,m4,m5⟩,⟨o1,o2,o3,o4⟩,⟨d1,d2,d3,d4,d5,d6⟩⟩:=h.le;have hk:∀j,j≠a.GB->(w.setCell ⟨a.GB,0,none⟩ (.bool b)).heap[j]?=w.heap[j]? := fun j hj=>Ze _ _ _ _ hj;have tg:Below a.N0 w (w.setCell ⟨a.GB,0,none⟩ (.bool b)):=Below.setCell (p:=⟨a.GB,0,none⟩) (Xr _ _) (by show a.N0<=a.GB;omega) _;exact⟨h.row.other _ d3 m4 o4,h.len,h.small,h.asc,(hk _ (by omega)).trans h.bS,(hk _ d5).trans h.bF,(hk _ (by omega)).trans h.bK,(hk _ d6).trans h.bL,ky h.bG,h.sets.below tg,⟨l1,l2,l3,l4,l5,l6,l7⟩,⟨m1,m2,m3,m4,by simpa[World.setCell]using m5⟩,⟨o1,o2,o3,o4⟩,⟨d1,d2,d3,d4,d5,d6⟩⟩
theorem Gb.setRow{a:yK}{sets:Jb}(h:Gb a k sets w p M){s:Nat}(hv:Hi a.lo a.e0 w v u)(hu:Dw u/\u.length<=M')(ha:sA u)(hM:M<=M'):Gb a k sets (w.setCell ⟨a.g,s,none⟩ v) ⟨p.fol.set s u,p.grown,p.limit⟩ M':=by
 obtain⟨⟨l1,l2,l3,l4,l5,l6,l7⟩,⟨m1,m2,m3,m4,m5⟩,⟨o1,o2,o3,o4⟩,⟨d1,d2,d3,d4,d5,d6⟩⟩:=h.le;have hk:∀j,j≠a.g->(w.setCell ⟨a.g,s,none⟩ v).heap[j]?=w.heap[j]? := fun j hj=>Ze _ _ _ _ hj;have tg:Below a.N0 w (w.setCell ⟨a.g,s,none⟩ v):=Below.setCell (p:=⟨a.g,s,none⟩) (Xr _ _) (by show a.N0<=a.g;omega) _;exact⟨h.row.set m1 o1 hv,by rw[Qm];exact h.len,(h.small.mono hM).set s hu,h.asc.set s ha,(hk _ (by omega)).trans h.bS,(hk _ (fun e=>d1 e.symm)).trans h.bF,(hk _ (by omega)).trans h.bK,(hk _ (fun e=>d2 e.symm)).trans h.bL,(hk _ (fun e=>d3 e.symm)).trans h.bG,h.sets.below tg,⟨l1,l2,l3,l4,l5,l6,l7⟩,⟨m1,m2,m3,m4,by simpa[World.setCell]using m5⟩,⟨o1,o2,o3,o4⟩,⟨d1,d2,d3,d4,d5,d6⟩⟩
structure aZ(a:yK)(w w':World):Prop where
 os:w'.os=w.os
 tape:w'.tape=w.tape
 output:w'.output=w.output
 size:w.heap.size<=w'.heap.size
 block:∀b,b<w.heap.size->b≠a.g->b≠a.LB->b≠a.GB->w'.heap[b]?=w.heap[b]?
theorem aZ.of_below{a:yK}(h:Below w.heap.size w w'):aZ a w w':=⟨h.os,h.tape,h.output,h.size,fun b hb _ _ _=>h.block b hb⟩
theorem aZ.set{a:yK}(h:aZ a w w'){p:Addr}(v:Value)(hp:p.block=a.g\/p.block=a.LB\/p.block=a.GB):aZ a w (w'.setCell p v) :=
 ⟨h.os,h.tape,h.output,by simpa[World.setCell]using h.size,fun b hb h1 h2 h3=>(Ze _ _ _ _ (by rcases hp with e|e|e <;> rw[e] <;> assumption)).trans (h.block b hb h1 h2 h3)⟩
theorem aZ.below{a:yK}(h:aZ a w w')(hc:C<=w.heap.size)(h1:C<=a.g)(h2:C<=a.LB)(h3:C<=a.GB):Below C w w':=⟨h.os,h.tape,h.output,h.size,fun b hb=>h.block b (by omega) (by omega) (by omega) (by omega)⟩
theorem zk(a:yK)(k M N la at_:Nat)(sets:Jb)(w:World)(p:Fd)(r:List Int)(A:Option Addr)(q c:Nat)(h:Gb a k sets w p M)(hB:Eh sets)(gM:1<=k)(mU:k<=4)(hla:la<a.n)(hn:a.n<=256)(hq:q=r.length)(hq2:q<=64)(zV:at_<q)(Fj:∀s∈r,s<(a.n:Int))(hr:Je Wg w N (.slice A q c) r)(hN:N<=w.heap.size)(hM:M<=549755813888) :
  Calls Tryz.prog 143 #[bs la A q c,.int .i64 at_,.pointer (some ⟨a.SB,0,none⟩),.pointer (some ⟨a.FB,0,none⟩),.pointer (some ⟨a.KB,0,none⟩),.pointer (some ⟨a.LB,0,none⟩),.pointer (some ⟨a.GB,0,none⟩)] w fun e w'=>e=.returned (.tuple #[])/\Gb a k sets w' (Vx sets k ((la:Int),r) at_ p) (M+4096)/\aZ a w w':=by
 have Nd:=(Xr w.heap.size w).alloc (Yb _) (.cells #[.int .i64 la,.slice A q c] 63);have oE:=h.below Nd;have HZ:=Lh (Xs w (.cells #[.int .i64 la,.slice A q c] 63));have HK:=Lh (Xn w (.cells #[.int .i64 la,.slice A q c] 63));have HH:=Lh h;have HBX:=Lh Nd;have hcw:a.C<=w.heap.size:=by have:=h.le;omega
 have qaL:=xK a.A1 (some ⟨a.g,0,none⟩) A a.c1 a.n c q a.n1 a.n k la (at_+1) sets p.fol r (w.alloc (.cells #[.int .i64 la,.slice A q c] 63)) gM mU (oE.sets.more (by rw[HZ.o];have:=h.le;omega)) (by have:=oE.row.sl (by rw[h.len];unfold maxLen;omega);rw[h.len]at this;exact this) (hr.fut Nd hN (by rw[HZ.o];omega)) hq2 (by omega) hla (fun i x hx=>by have:=hB i x hx;exact⟨this.1,by omega⟩) (fun i x hx=>by have:=h.small i x hx;exact⟨this.1,by omega⟩);rw[show (((at_+1:Nat):Int)-1)=(at_:Int) by omega]at qaL;have zoR:=Lh qaL;have H1:=Lh oE;have HR:=Lh (hr.fut Nd hN (Yb _));have HRL:=Lh hq;have jQ:=Lh Fj;have cS:=Vv oE.bS;have cF:=Vv oE.bF;have cK:=Vv oE.bK;have b0:(w.alloc (.cells #[.int .i64 la,.slice A q c] 63)).cell? ⟨w.heap.size,0,none⟩=some (.int .i64 la):=Xc HK.o rfl;have b1:(w.alloc (.cells #[.int .i64 la,.slice A q c] 63)).cell? ⟨w.heap.size,1,none⟩=some (.slice A q c):=Xc HK.o rfl;have ls1:a.SB<w.heap.size:=(gl h.bS);have ls2:a.FB<w.heap.size:=(gl h.bF);have ls3:a.KB<w.heap.size:=(gl h.bK);have dS:=Vv h.bS;have dF:=Vv h.bF;have dK:=Vv h.bK;clear h Nd oE qaL hr hq Fj cS cF cK b0 b1;go_enter Tryz.func143,Tryz.ntmps143;go_wp2_with fail;clear dS dF dK ls1 ls2 ls3;generalize w.alloc (.cells #[.int .i64 la,.slice A q c] 63)=w1 at*;refine zoR.o.mono ?_;rintro e w2 ⟨Jd,he⟩;have HB2:=Lh (HBX.o.trans (Jd.mono (by rw[HZ.o];omega)));have HST2:=Lh (H1.o.below Jd);have HK2:=Lh ((Jd.block w.heap.size (by rw[HZ.o];omega)).trans HK.o);obtain⟨o,ho⟩:=Xe (Kk sets p.fol k ((la:Int),r) at_);rw[<-ho]at he;have HO:=Lh ho;have HR2:=Lh (HR.o.below (Jd.mono (by rw[HZ.o];omega)));clear Jd zoR ho;have b0:w2.cell? ⟨w.heap.size,0,none⟩=some (.int .i64 la):=Xc HK2.o rfl;have b1:w2.cell? ⟨w.heap.size,1,none⟩=some (.slice A q c):=Xc HK2.o rfl;cases o with
 |none =>
  simp only at he;subst he;have cL:=Vv HST2.o.bL;have fL:w2.frozen? ⟨a.LB,0,none⟩=false:=by simp[World.frozen?,HST2.o.bL]
  have HS3:=Lh (HST2.o.setL true);have HSP:=Lh (show Vx sets k ((la:Int),r) at_ p=⟨p.fol,p.grown,true⟩ by unfold Vx;rw[<-HO.o]);go_wp2_with fail;refine Zh (results_none rfl _ _ _) rfl ?_;refine⟨rfl,?_,(aZ.of_below HB2.o).set (p:=⟨a.LB,0,none⟩) _ (.inr (.inl rfl))⟩;rw[HSP.o];obtain⟨f1,f2,f3,f4,f5,f6,f7,f8,f9,f10,f11⟩:=HS3.o;exact⟨f1,f2,f3.mono (by omega),f4,f5,f6,f7,f8,f9,f10,f11⟩
 |some x =>
  simp only at he;obtain⟨v,rfl,hown⟩:=he;have qxY:at_<r.length:=by rw[<-HRL.o];exact zV
  obtain⟨b,off,cs,rfl,_,iY,Ja,Zn⟩:=HR2.o.get (k:=at_) qxY (by decide);obtain⟨rfl,Lr,dB⟩:=Ja;have Vn:=Zn 0 _ rfl;simp only[show Wg.size=1 from rfl,Ys,Yq]at Vn;have gV:=Lh (show r.getD at_ 0=r[at_] by rw[Qb,Qa qxY];rfl);have hsn:=jQ.o _ (Qg qxY);obtain⟨s,hs⟩:=Xe (r[at_]);rw[<-hs]at Vn Lr dB gV hsn;clear Zn hs qxY;have HX:=Lh (show Dw x/\x.length<=4096 by
   have:=HO.o
   unfold Kk at this
   split at this
   .cases this
   cases h1:nS sets k (((la:Int),r).2.drop ((at_:Int)+1).toNat)with
   |none=>rw[h1]at this;cases this
   |some y=>rw[h1]at this;exact qbD mU this.symm)
  have HOW:=Lh hown;obtain⟨Ax,cx,rfl,hx5,hx6⟩:=Zp hown;obtain⟨qx,sn⟩:=Xe x.length;rw[<-sn]at HOW hx5 |-;have HQX:=Lh sn;clear hown sn;by_cases sm:s<0
  .have hd:decide (s<0)=true:=by simpa using sm
   have HSP:=Lh (show Vx sets k ((la:Int),r) at_ p=p by unfold Vx;rw[<-HO.o];simp only;rw[gV.o,if_pos sm]);go_wp2_with fail;refine (Ji s _).mono ?_;rintro e w5 ⟨rfl,rfl⟩;rw[hd];go_wp2
   go_end0
   refine⟨rfl,?_,aZ.of_below HB2.o⟩;rw[HSP.o];obtain⟨f1,f2,f3,f4,f5,f6,f7,f8,f9,f10,f11⟩:=HST2.o;exact⟨f1,f2,f3.mono (by omega),f4,f5,f6,f7,f8,f9,f10,f11⟩
  have hd:decide (s<0)=false:=by simpa using sm
  obtain⟨t,rfl⟩:∃t:Nat,s=(t:Int):=⟨s.toNat,by omega⟩;have htn:t<a.n:=by omega
  have htl:t<p.fol.length:=by rw[HH.o.len];exact htn
  obtain⟨Ao,co,hco,ju,ho2,hhi,hfz⟩:=HST2.o.row.get htl;have yb:=Lh (show p.fol.getD t []=p.fol[t] by rw[Qb,Qa htl];rfl);have HOB:=Lh (HH.o.small t _ (Qa htl));obtain⟨old,hold⟩:=Xe (p.fol[t]);rw[<-hold]at hco ju hhi yb HOB;obtain⟨qo,hqo⟩:=Xe old.length;rw[<-hqo]at hco ju hhi;have HHI:=Lh hhi;have HQO:=Lh hqo;have HSP:=Lh (show Vx sets k ((la:Int),r) at_ p=⟨p.fol.set t (Kv old x),p.grown||decide (qo<(Kv old x).length),p.limit||decide (4096<(Kv old x).length)⟩ by
   unfold Vx
   rw[<-HO.o]
   simp only
   rw[gV.o,if_neg sm]
   simp only[Yz,yb.o,HQO.o])
  have cF:=Vv HST2.o.bF;have lF:=(gl HST2.o.bF);have lL:=(gl HST2.o.bL);have lG:=(gl HST2.o.bG);have lg:=HST2.o.row.lt;have lb:=(gl HK2.o);clear hold hqo hhi htl;go_wp2_with fail;refine (Ji _ _).mono ?_;rintro e w5 ⟨rfl,rfl⟩;rw[hd];go_wp2_with fail;have hb3:=(Xr w2.heap.size w2).alloc (Yb _) (.cells #[.slice Ao qo co,.slice Ax qx cx] 22);have qpL:=HST2.o.below hb3;have jw:=Xn w2 (.cells #[.slice Ao qo co,.slice Ax qx cx] 22);have Be:Je eW w2 w2.heap.size (.slice Ax qx cx) x:=Av (Hp HX.o.1) (by have:=HOW.o;rw[HQX.o]at this |-;exact this);have HU:=Lh (aw (some ⟨w2.heap.size,0,none⟩) 2 old x (w2.alloc (.cells #[.slice Ao qo co,.slice Ax qx cx] 22)) (qcQ jw (HHI.o.sl.fut hb3 (Yb _) hb3.size) (Be.fut hb3 (Yb _) hb3.size)) (by have:=HOB.o.2;have:=HX.o.2;omega));have HB3:=Lh hb3;have yD:=Lh qpL;clear hb3 qpL jw Be cF hco hfz lF lL lG lg lb b0 b1 Vn;generalize w2.alloc (.cells #[.slice Ao qo co,.slice Ax qx cx] 22)=w3 at*;refine HU.o.mono ?_;rintro e w4 ⟨v4,rfl,hown,hb4⟩;have In:=Lh (yD.o.below hb4);have qzW:=Lh (HB3.o.trans (hb4.mono HB3.o.size));have HB4:=Lh ((HB2.o.trans (qzW.o.mono HB2.o.size)));have lz:=Lt (Dw (Kv old x)) (Iu HOB.o.1 HX.o.1);have gL:w4.ownsRow w3.heap.size 9 1 v4 (Kv old x).length (Zx (Kv old x)):=hown;have HHU:=Lh (Hi.own (lo:=a.lo) (e0:=a.e0) (Hp lz.o) gL (.inl (by have:=yD.o.le;omega)));obtain⟨A4,c4,rfl,tq,h42⟩:=Zp gL;have xy:=Lh (show (Kv old x).length<=M+4096 by
   have:=uD (old++x)
   rw[Qe]at this
   have h1:=HOB.o.2
   have h2:=HX.o.2
   unfold Kv
   omega)
  have HUA:=Lh (Gq old x);obtain⟨u,hu⟩:=Xe (Kv old x);rw[<-hu]at HSP lz HHU tq xy HUA;rw[<-hu];clear hown gL hb4 HU hu;obtain⟨qu,hqu⟩:=Xe u.length;rw[<-hqu]at HSP HHU tq xy |-;have HQU:=Lh hqu;clear hqu;have ztR:(qu:Int)<=549755818000:=by have:=xy.o;omega
  have htl:t<p.fol.length:=by rw[HH.o.len];exact htn
  obtain⟨Ao',co',zeI,qiH,ztY,zeG,zvE⟩:=In.o.row.get htl;have sq:p.fol[t].length=qo:=by
   have:=yb.o;rw[Qb,Qa htl]at this;rw[HQO.o,<-this];rfl
  rw[sq]at zeI qiH;have cF:=Vv In.o.bF;have cG:=Vv In.o.bG;have cL:=Vv In.o.bL;have fG:w4.frozen? ⟨a.GB,0,none⟩=false:=by simp[World.frozen?,In.o.bG]
  have fL:w4.frozen? ⟨a.LB,0,none⟩=false:=by simp[World.frozen?,In.o.bL]
  obtain⟨⟨l1,l2,l3,l4,l5,l6,l7⟩,⟨m1,m2,m3,m4,m5⟩,⟨o1,o2,o3,o4⟩,⟨d1,d2,d3,d4,d5,d6⟩⟩:=In.o.le;have Mc:Hid (∀(bg bl:Bool)(w6:World),w6=((w4.setCell ⟨a.GB,0,none⟩ (.bool bg)).setCell ⟨a.LB,0,none⟩ (.bool bl)).setCell ⟨a.g,t,none⟩ (.slice A4 qu c4)->bg=(p.grown||decide (qo<qu))->bl=(p.limit||decide (4096<qu))->Gb a k sets w6 (Vx sets k ((la:Int),r) at_ p) (M+4096)/\aZ a w w6):=by
   rintro bg bl w6 rfl rfl rfl;rw[HSP.o];have s1:=(In.o.setG (p.grown||decide (qo<qu))).setL (p.limit||decide (4096<qu));have qL:Hi a.lo a.e0 ((w4.setCell ⟨a.GB,0,none⟩ (.bool (p.grown||decide (qo<qu)))).setCell ⟨a.LB,0,none⟩ (.bool (p.limit||decide (4096<qu)))) (.slice A4 qu c4) u:=by
    refine HHU.o.keep (by simp[World.setCell]) fun z hz _=>?_;rw[World.cell?_of_block (Ze _ _ _ _ (by show z.block≠a.LB;rcases hz with hz|hz <;> omega)),World.cell?_of_block (Ze _ _ _ _ (by show z.block≠a.GB;rcases hz with hz|hz <;> omega))]
   refine⟨s1.setRow qL ⟨lz.o,by rw[<-HQU.o];exact xy.o⟩ HUA.o (by omega),?_⟩;exact (((aZ.of_below HB4.o).set (p:=⟨a.GB,0,none⟩) _ (.inr (.inr rfl))).set (p:=⟨a.LB,0,none⟩) _ (.inr (.inl rfl))).set (p:=⟨a.g,t,none⟩) _ (.inl rfl)
  obtain⟨fol,gb,lb⟩:=p;simp only at cG cL Mc;clear zeG sq htl l1 l2 l3 l4 l5 l6 l7 m1 m2 m3 m4 m5 o1 o2 o3 o4;have hG:(gb=true)\/(gb=false/\qo<qu)\/(gb=false/\¬ qo<qu):=by cases gb <;> simp <;> omega
  have hL:(lb=true)\/(lb=false/\4096<qu)\/(lb=false/\¬ 4096<qu):=by cases lb <;> simp <;> omega
  rcases hG with rfl|⟨rfl,hg⟩|⟨rfl,hg⟩
  .rcases hL with rfl|⟨rfl,hl⟩|⟨rfl,hl⟩
   .go_wp2
    go_end0
    exact⟨rfl,Mc.o true true _ rfl rfl rfl⟩
   .have my:decide ((4096:Int)<(qu:Int))=true:=by rw[Yk];omega
    go_wp2
    go_end0
    exact⟨rfl,Mc.o true true _ rfl rfl (by rw[Yw hl];rfl)⟩
   have my:decide ((4096:Int)<(qu:Int))=false:=by rw[Yl];omega
   go_wp2
   go_end0
   exact⟨rfl,Mc.o true false _ rfl rfl (by rw[Yx hl];rfl)⟩
  .rcases hL with rfl|⟨rfl,hl⟩|⟨rfl,hl⟩
   .go_wp2
    go_end0
    exact⟨rfl,Mc.o true true _ rfl (by rw[Yw hg];rfl) rfl⟩
   .have my:decide ((4096:Int)<(qu:Int))=true:=by rw[Yk];omega
    go_wp2
    go_end0
    exact⟨rfl,Mc.o true true _ rfl (by rw[Yw hg];rfl) (by rw[Yw hl];rfl)⟩
   have my:decide ((4096:Int)<(qu:Int))=false:=by rw[Yl];omega
   go_wp2
   go_end0
   exact⟨rfl,Mc.o true false _ rfl (by rw[Yw hg];rfl) (by rw[Yx hl];rfl)⟩
  rcases hL with rfl|⟨rfl,hl⟩|⟨rfl,hl⟩
  .go_wp2
   go_end0
   exact⟨rfl,Mc.o false true _ rfl (by rw[Yx hg];rfl) rfl⟩
  .have my:decide ((4096:Int)<(qu:Int))=true:=by rw[Yk];omega
   go_wp2
   go_end0
   exact⟨rfl,Mc.o false true _ rfl (by rw[Yx hg];rfl) (by rw[Yw hl];rfl)⟩
  have my:decide ((4096:Int)<(qu:Int))=false:=by rw[Yl];omega
  go_wp2
  go_end0
  exact⟨rfl,Mc.o false false _ rfl (by rw[Yx hg];rfl) (by rw[Yx hl];rfl)⟩
structure yg(t0 n:Nat)(p:Fd):Prop where
 asc:Mj p.fol
 len:p.fol.length=n
 small:p.limit=false->Eh p.fol
 more:t0<=Pm p.fol
 grew:p.grown=true->t0<Pm p.fol
theorem oZ(hk:k<=4){sets:Jb}{at_:Int}(h:Kk sets fol k r at_=some x):Dw x/\x.length<=4096:=by
 unfold Kk at h;split at h
 .cases h
 cases h1:nS sets k (r.2.drop (at_+1).toNat)with
 |none=>rw[h1]at h;cases h
 |some y=>rw[h1,Option.bind_some]at h;exact qbD hk h
theorem yg.step{t0 n k:Nat}(hk:k<=4){sets:Jb}{r:Int×List Int}{at_:Nat}{p:Fd}(h:yg t0 n p)(hs:0<=r.2.getD at_ 0->r.2.getD at_ 0<(n:Int)):yg t0 n (Vx sets k r at_ p):=by
 unfold Vx;cases h1:Kk sets p.fol k r at_ with
 |none=>exact⟨h.asc,h.len,fun e=>(by cases e),h.more,h.grew⟩
 |some x =>
  simp only;split
  .exact h
  rename_i Dt;have hx:=oZ hk h1;have hl:(r.2.getD at_ 0).toNat<p.fol.length:=by rw[h.len];have:=hs (by omega);omega
  have ht:=ip p.fol (r.2.getD at_ 0).toNat (Kv (p.fol.getD (r.2.getD at_ 0).toNat []) x) hl;have hu:=(eG (b:=x) (h.asc.getD (r.2.getD at_ 0).toNat)).1;change (p.fol.getD (r.2.getD at_ 0).toNat []).length<=(Kv (p.fol.getD (r.2.getD at_ 0).toNat []) x).length at hu;have hm:=h.more;refine⟨h.asc.set _ (Gq _ _),by simpa using h.len,fun e=>?_,by simp only;omega,fun e=>?_⟩
  .simp only[Yn,Yl]at e;have hb:=h.small e.1;exact hb.set _ ⟨Iu (hb.getD _).1 hx.1,by omega⟩
  simp only[Yu,Yk]at e;rcases e with e|e
  .have:=h.grew e;simp only;omega
  simp only;omega
theorem yZ{sets:Jb}{k:Int}{at_:Nat}:Wa sets k r (m+1) at_ p=Wa sets k r m (at_+1) (Vx sets k r at_ p):=rfl
theorem ud{sets:Jb}{k:Int}{rs:Zz}(h:Wi sets k rs ⟨fol,false,false⟩=p):Rx sets k rs fol=if p.limit then none else some (p.fol,p.grown):=by
 unfold Rx;rw[h]
end Go.Proofs.YtmaojnmnbpomeaaGreatDoor
