/- A part. -/
import Derived.Test.YtmaojnmnbpomeaaGreatDoorVO07
set_option maxRecDepth 100000
set_option maxHeartbeats 64000000
namespace Go.Proofs.YtmaojnmnbpomeaaGreatDoor
open Go.RowKit
structure Aw(g SB n:Nat)(P:List Bool)(w:World):Prop where
 ex:∃ Mk,w.heap[g]? = some (.cells (Ks Mk).toArray 3 (0,0))/\bU Mk P/\Mk.length=n
 box:w.heap[SB]? = some (.cells #[.slice (some ⟨g,0,none⟩) n n] 61 (0,0))
 ne:g≠SB
theorem Aw.below{g SB n:Nat}{P:List Bool}{w w':World}(h:Aw g SB n P w)(hb:Below w.heap.size w w'):Aw g SB n P w':=by
 obtain⟨Mk,h1,h2⟩:=h.ex;have l1:=(gl h1);have l2:=(gl h.box);exact⟨⟨Mk,(hb.block g l1).trans h1,h2⟩,(hb.block SB l2).trans h.box,h.ne⟩
theorem Ic{w:World}{g k:Nat}{Mk:List Int}(h:w.heap[g]? = some (.cells (Ks Mk).toArray 3 (0,0)))(hk:k<Mk.length):w.cell? ⟨g,k,none⟩=some (.int .i64 Mk[k]):=by
 rw[Za w g k _ _ _ h];simp[Ks,hk]
theorem oD{w:World}{g k:Nat}{Mk:List Int}(h:w.heap[g]? = some (.cells (Ks Mk).toArray 3 (0,0)))(x:Int):(w.setCell ⟨g,k,none⟩ (.int .i64 x)).heap[g]? = some (.cells (Ks (Mk.set k x)).toArray 3 (0,0)):=by
 simp only[World.setCell,Xx,if_true,h,Option.map_some];congr 2;simp[Ks,List.map_set]
theorem bU.set{Mk:List Int}{P:List Bool}(h:bU Mk P){k:Nat}{x:Int}(h0:0<=x)(h1:x<=1000000):bU (Mk.set k x) (P.set k true):=by
 refine⟨by rw[Qm,Qm];exact h.len,fun i y hy=>?_⟩;rw[Xu] at hy |-;split at hy
 ·rename_i e;split at hy
  ·rename_i hl;injection hy with hy;subst hy;rw[if_pos e,if_pos (by rw[<-h.len];exact hl)];exact⟨by omega,h1,by rw[Yt h0]⟩
  ·cases hy
 ·rename_i e;rw[if_neg e];exact h.val i y hy
theorem bU.same{Mk:List Int}{P:List Bool}(h:bU Mk P){k:Nat}{y:Int}(hy:Mk[k]? = some y)(h0:0<=y):P.set k true=P:=by
 have:=(h.val k y hy).2.2;rw[Yt h0] at this;apply List.ext_getElem?;intro i;rw[Xu];split
 ·rename_i e;subst e;rw[this];rw[if_pos (Qj.1 this).1]
 ·rfl
theorem nV(P:List Bool)(r:Int×List Int):Jm P r=if Li P r.2 then P.set r.1.toNat true else P:=rfl
theorem xC(g SB n N:Nat)(P:List Bool)(k:Nat)(r:List Int)(A:Option Addr)(q c:Nat)(w:World)(h:Aw g SB n P w)(hk:k<n)(hq:q=r.length)(tt:q<=64)(hr:∀ s∈r,s<(n:Int))(hs:Jb Vh w N (.slice A q c) r)(hN:N<=w.heap.size) :
  Calls Tryz.prog 197 #[zD k A q c,.pointer (some ⟨SB,0,none⟩)] w fun e w'=>e=.returned (.tuple #[])/\Aw g SB n (Jm P ((k:Int),r)) w'/\w.grownBy w' (some g):=by
 obtain⟨Mk,h1,h2,h3⟩:=h.ex;have oK:k<Mk.length:=by omega
 have cS:=Vo h.box;have cY:=Ic h1 oK;have lS:=(gl h.box);have lG:=(gl h1);have fG:w.frozen? ⟨g,k,none⟩=false:=by simp[World.frozen?,h1]
 have HY:Hid (Mk[k]? = some Mk[k]):=Qa oK;obtain⟨y,hy⟩:=Xe (Mk[k]);rw[<-hy] at cY HY;have H1:=Lh h1;have H2:=Lh h2;have H3:=Lh h3;have HH:=Lh h;have Wu:=(Xr w.heap.size w).alloc (Xz _) (.cells #[.int .i64 k,.slice A q c] 63);have zcR:=Lh (qsX A (some ⟨g,0,none⟩) c n r Mk P (w.alloc (.cells #[.int .i64 k,.slice A q c] 63)) (by rw[<-hq];exact hs.fut Wu hN (by rw[Xs];omega)) (by
  have:Rd (w.alloc (.cells #[.int .i64 k,.slice A q c] 63)) (w.alloc (.cells #[.int .i64 k,.slice A q c] 63)).heap.size (some ⟨g,0,none⟩) (Ks Mk).toArray.toList:=Rd.row ((Wu.block g lG).trans h1) (by rw[Xs];omega)
  exact this) h2 (fun s hs=>by rw[<-h2.len,h3];exact hr s hs) (by omega))
 rw[<-hq,h3] at zcR;have hby:=(h2.val k y HY.o).1;clear h1 h2 h3 hs h hq oK hy hr Wu;have HB:=Lh ((Xr w.heap.size w).alloc (Xz _) (.cells #[.int .i64 k,.slice A q c] 63));go_enter Tryz.func197,Tryz.ntmps197;go_wp2_with fail;refine zcR.o.mono ?_;rintro e w1 ⟨x,rfl,Ta,Hn,hx3,rfl⟩;have HX3:=Lh hx3;clear hx3 zcR;by_cases au:0<=x
 ·have pm:=HX3.o;rw[Yt au] at pm;have HP:=Lh (show Jm P ((k:Int),r)=P.set k true by rw[nV,<-pm];simp);clear pm;have fv:∀ w2:World,w2=(w.setCell ⟨g,k,none⟩ (.int .i64 x)).alloc (.cells #[.int .i64 k,.slice A q c] 63)->Aw g SB n (Jm P ((k:Int),r)) w2/\w.grownBy w2 (some g):=by
   rintro w2 rfl;rw[HP.o];have hst:Aw g SB n (P.set k true) (w.setCell ⟨g,k,none⟩ (.int .i64 x)):=by
    refine⟨⟨Mk.set k x,oD H1.o x,H2.o.set au Hn,by rw[Qm];exact H3.o⟩,?_,HH.o.ne⟩;rw[Zb _ _ _ _ (fun e=>HH.o.ne e.symm)];exact HH.o.box
   refine⟨hst.below ((Xr _ _).alloc (Xz _) _),(cZ w g k _).trans (World.grownBy_alloc _ _ _)⟩
  have Up:=Lh fv;clear fv;by_cases hy0:y<0
  ·go_wp2_with fail
   go_end0
   exact⟨rfl,Up.o _ rfl⟩
  ·by_cases hxy:x<y
   ·go_wp2_with fail
    go_end0
    exact⟨rfl,Up.o _ rfl⟩
   ·go_wp2_with fail
    go_end0
    refine⟨rfl,?_,World.grownBy_alloc w _ _⟩;rw[HP.o,H2.o.same HY.o (by omega)];exact HH.o.below HB.o
 ·have pm:=HX3.o;rw[Yu au] at pm;have HP:=Lh (show Jm P ((k:Int),r)=P by rw[nV,<-pm];simp);clear pm;go_wp2_with fail
  go_end0
  refine⟨rfl,?_,World.grownBy_alloc w _ _⟩;rw[HP.o];exact HH.o.below HB.o
abbrev Nr(A1 A2 A3:Option Addr)(n m q c1 c2 c3:Nat):Value:=.agg #[.slice A1 n c1,.slice A2 m c2,.slice A3 q c3]
structure Wz(w:World)(B:Nat)(A1 A2 A3:Option Addr)(n m q c1 c2 c3:Nat)(g:Jw):Prop where
 names:Jb Mc w B (.slice A1 n c1) g.1
 terms:Jb Mc w B (.slice A2 m c2) g.2.1
 rules:Jb Kx w B (.slice A3 q c3) g.2.2
 small:n<=1048576/\m<=1048576/\q<=1048576
theorem Wz.ln{w:World}{B:Nat}{A1 A2 A3:Option Addr}{n m q c1 c2 c3:Nat}{g:Jw}(h:Wz w B A1 A2 A3 n m q c1 c2 c3 g):n=g.1.length/\m=g.2.1.length/\q=g.2.2.length:=⟨h.names.n_eq,h.terms.n_eq,h.rules.n_eq⟩
theorem Wz.fut{w w':World}{B B' N:Nat}{A1 A2 A3:Option Addr}{n m q c1 c2 c3:Nat}{g:Jw}(h:Wz w B A1 A2 A3 n m q c1 c2 c3 g)(hb:Below N w w')(h1:B<=N)(h2:B<=B'):Wz w' B' A1 A2 A3 n m q c1 c2 c3 g:=⟨h.names.fut hb h1 h2,h.terms.fut hb h1 h2,h.rules.fut hb h1 h2,h.small⟩
theorem Wz.valid{w:World}{A1 A2 A3:Option Addr}{n m q c1 c2 c3:Nat}{g:Jw}(h:Wz w w.heap.size A1 A2 A3 n m q c1 c2 c3 g):Calls Tryz.prog 69 #[Nr A1 A2 A3 n m q c1 c2 c3] w fun e w'=>e=.returned (.bool (Vu g))/\Below w.heap.size w w':=by
 obtain⟨l1,l2,_⟩:=h.ln;have:=h.small;exact Sk _ _ _ g.1 g.2.1 g.2.2 w (by omega) h.names h.terms h.rules
theorem A_{n m:Nat}{r:Int×List Int}(h:Dq n m r=true):0<=r.1/\r.1<n/\r.2.length<=64/\∀ s∈r.2,s<n/\-(m:Int)<=s:=by
 unfold Dq at h;simp only[Yk,Yi,Bool.not_eq_true',List.any_eq_false] at h;obtain⟨⟨⟨h1,h2⟩,h3⟩,h4⟩:=h;refine⟨h1,h2,h3,fun s hs=>?_⟩;have:=h4 s hs;unfold Ec at this;simp only[Ys,Yi,not_or] at this;omega
structure wD(g:Jw):Prop where
 n1:1<=g.1.length
 nm:g.1.length+g.2.1.length<=256
 q:g.2.2.length<=4096
 fit:∀ r∈g.2.2,0<=r.1/\r.1<g.1.length/\r.2.length<=64/\∀ s∈r.2,s<g.1.length/\-(g.2.1.length:Int)<=s
theorem Ka{g:Jw}(h:Vu g=true):wD g:=by
 simp only[Vu,Yk,Yi] at h;obtain⟨⟨⟨⟨⟨⟨⟨a1,a2⟩,a3⟩,_⟩,_⟩,a6⟩,_⟩,_⟩:=h;exact⟨by omega,a2,a3,fun r hr=>A_ (Xp.1 a6 r hr)⟩
theorem wD.well{g:Jw}(h:wD g):Rg g.2.2 g.1.length:=fun a r hr=>by
 obtain⟨h1,h2,_,h4⟩:=h.fit (a,r) hr;exact⟨h1,h2,fun s hs=>(h4 s hs).1⟩
theorem Ov(P:List Bool)(r:Int×List Int):(Jm P r).length=P.length:=by
 unfold Jm;split
 ·rw[Qm]
 ·rfl
theorem Fa{f:List Bool->Int×List Int->List Bool}(hf:∀ P r,(f P r).length=P.length)(rs:Zq):∀(n:Nat)(P:List Bool),(Kq f rs n P).length=P.length
 |0,P=>rfl
 |n+1,P=>by
  have h:∀(l:Zq)(P:List Bool),(l.foldl f P).length=P.length:=by
   intro l
   induction l with
   |nil=>intro P;rfl
   |cons r l ih=>intro P;rw[List.foldl_cons,ih,hf]
  show (Kq f rs n (rs.foldl f P)).length=_;rw[Fa hf rs n,h]
def qcH(w:World)(P:List Bool)(e:Ending)(w':World):Prop :=
 ∃(g:Nat)(Mk:List Int),e=.returned (.slice (some ⟨g,0,none⟩) Mk.length Mk.length)/\w'.heap[g]? = some (.cells (Ks Mk).toArray 3 (0,0))/\bU Mk P/\Below w.heap.size w w'
theorem dx{A1 A2 A3:Option Addr}{n m q c1 c2 c3:Nat}{g:Jw}(w:World)(h:Wz w w.heap.size A1 A2 A3 n m q c1 c2 c3 g)(hv:Vu g=true) :
  Calls Tryz.prog 133 #[Nr A1 A2 A3 n m q c1 c2 c3] w (qcH w (Jz g.2.2 n)):=by
 have Wu:=(Xr w.heap.size w).alloc (Xz _) (.cells #[.slice A1 n c1,.slice A2 m c2,.slice A3 q c3] 25);have HV:=Lh ((h.fut (B':=w.heap.size+1) Wu (Xz _) (by omega)));have HK:=Lh (Xn w (.cells #[.slice A1 n c1,.slice A2 m c2,.slice A3 q c3] 25));have HZ:=Lh (Xs w (.cells #[.slice A1 n c1,.slice A2 m c2,.slice A3 q c3] 25));have HBX:=Lh Wu;have HG:=Lh (Ka hv);have HVV:=Lh hv;have HL:=Lh h.ln;have qE:=h.small;clear h hv Wu;go_enter Tryz.func133,Tryz.ntmps133;go_wp2_with fail;generalize w.alloc (.cells #[.slice A1 n c1,.slice A2 m c2,.slice A3 q c3] 25)=w1 at *;refine (Wz.valid (w:=w1) (by rw[HZ.o];exact HV.o)).mono ?_;rintro e w2 ⟨rfl,Zy⟩;rw[HVV.o];have HB2:=Lh Zy;have k2:=(Zy.block w.heap.size (by rw[HZ.o];omega)).trans HK.o;have c0:w2.cell? ⟨w.heap.size,0,none⟩=some (.slice A1 n c1):=Xc k2 rfl;have HK2:=Lh k2;have Fn:w.heap.size<w2.heap.size:=by have:=Zy.size;have:=HZ.o;omega
 clear Zy k2;go_wp2_with fail;have hb3:=(Xr w2.heap.size w2).alloc (Xz _) (.cells #[.int .i64 (-1)] 3);have HN1:=Lh (show 1<=n by have:=HG.o.n1;have:=HL.o.1;omega);have Ci:=Lh (show n<=256 by have:=HG.o.nm;have:=HL.o.1;omega);refine (xg w2.heap.size 1 (-1) n _ (Xc (Xn w2 _) rfl) HN1.o (by have:=Ci.o;omega)).mono ?_;rintro e w4 ⟨gr,rfl,Co,hge,hb4⟩;have kO:Below w2.heap.size w2 w4:=hb3.trans (hb4.mono (by rw[Xs];omega));have k4:=(kO.block w.heap.size Fn).trans HK2.o;have hz4:w.heap.size<w4.heap.size:=Yb Fn kO.size;have c0:w4.cell? ⟨w.heap.size,0,none⟩=some (.slice A1 n c1):=Xc k4 rfl;have c1':w4.cell? ⟨w.heap.size,1,none⟩=some (.slice A2 m c2):=Xc k4 rfl;have c2':w4.cell? ⟨w.heap.size,2,none⟩=some (.slice A3 q c3):=Xc k4 rfl;have HGR:=Lh Co;have HGE:=Lh (show w.heap.size+1<=gr by rw[Xs] at hge;omega);have HB4:Hid (Below w.heap.size w w4):=(HBX.o.trans (HB2.o.mono (by rw[HZ.o];omega))).trans (kO.mono (Yf Fn));have HW1:Hid (Below (w.heap.size+1) w1 w4):=(HB2.o.mono (Yh HZ.o.symm)).trans (kO.mono Fn);have qR:=Lh (gl Co);clear Co hge hb4 hb3 kO k4 Fn;go_wp2_with fail;have HB5:=Lh ((Xr w4.heap.size w4).alloc (Xz _) (.cells #[.slice (some ⟨gr,0,none⟩) n n] 61));have ul:=Lh (Xn w4 (.cells #[.slice (some ⟨gr,0,none⟩) n n] 61));have HZ5:=Lh (Xs w4 (.cells #[.slice (some ⟨gr,0,none⟩) n n] 61));generalize w4.alloc (.cells #[.slice (some ⟨gr,0,none⟩) n n] 61)=w5 at *;have HST:=Lh (show Aw gr w4.heap.size n (List.replicate n false) w5 from ⟨⟨List.replicate n (-1),by rw[HB5.o.block gr qR.o,HGR.o];simp[Ks],⟨by simp,fun i x hx=>by
  rw[Xg] at hx
  split at hx
  ·rename_i hi
   injection hx with hx
   subst hx
   exact⟨by omega,by omega,by rw[Xg,if_pos hi];rfl⟩
  ·cases hx⟩,by simp⟩,ul.o,by have:=qR.o;omega⟩)
 have HR5:Hid (Jb Kx w5 (w.heap.size+1) (.slice A3 q c3) g.2.2):=(HV.o.rules.below HW1.o).below (HB5.o.mono hz4);have hrd:=sC 197 #[.pointer (some ⟨w4.heap.size,0,none⟩)] (fun _ _=>by kernel_rfl) Jm (Aw gr w4.heap.size n) (.slice A2 m c2) A1 A3 n c1 c3 (w.heap.size+1) gr g.2.2 (List.replicate n false) w5 Ci.o (by rw[<-HL.o.2.2];exact HR5.o) HGE.o (by rw[HZ5.o];have:=qR.o;omega) (fun s w1 w2 h hb=>h.below hb) HST.o (fun s wx r A qq cc hr hs hgl hq Uv=>by
  obtain⟨f1,f2,f3,f4⟩:=HG.o.fit r hr
  obtain⟨k,hk⟩:∃ k:Nat,r.1=(k:Int):=⟨r.1.toNat,by omega⟩
  have:=xC gr w4.heap.size n (w.heap.size+1) s k r.2 A qq cc wx hs (by have:=HL.o.1;omega) hq (by omega) (fun x hx=>by have:=(f4 x hx).1;have:=HL.o.1;omega) Uv (by have:=HGE.o;omega)
  rw[<-hk] at this
  exact this)
 rw[<-HL.o.2.2] at hrd;have yM:=Lh hrd;clear hrd;refine yM.o.mono ?_;rintro e w6 ⟨rfl,hst,hgw⟩;obtain⟨Mk,h1,h2,h3⟩:=hst.ex;have c6:=Vo hst.box;have Up:Hid (qcH w (Jz g.2.2 n) (.returned (.slice (some ⟨gr,0,none⟩) n n)) w6):=⟨gr,Mk,by rw[h3],h1,h2,(HB4.o.trans (HB5.o.mono (Yf hz4))).trans (Ns hgw (by have:=HGE.o;omega) (by rw[HZ5.o];omega))⟩;clear h1 h2 h3 hst hgw yM;go_wp2_with fail;go_ret;exact Up.o
theorem qhV:Ev Tryz.prog 70 4 1 1 (.bool false):=Sv Tryz.underlying70 (by kernel_rfl) rfl (by omega)
def ju(w:World)(P:List Bool)(e:Ending)(w':World):Prop:=∃ A c,e=.returned (.slice A P.length c)/\Rd w' w'.heap.size A (Km P)/\Below w.heap.size w w'
theorem iu(P:List Bool){k:Nat}(h:k<P.length):Km (P.take (k+1))=Km (P.take k)++[.bool P[k]]:=by
 unfold Km;rw[Qc h,Qt];rfl
theorem sO{A1 A2 A3:Option Addr}{n m q c1 c2 c3:Nat}{g:Jw}(w:World)(h:Wz w w.heap.size A1 A2 A3 n m q c1 c2 c3 g)(hv:Vu g=true) :
  Calls Tryz.prog 71 #[Nr A1 A2 A3 n m q c1 c2 c3] w (ju w (Jz g.2.2 n)):=by
 have Wu:=(Xr w.heap.size w).alloc (Xz _) (.cells #[.slice A1 n c1,.slice A2 m c2,.slice A3 q c3] 25);have HZ:=Lh (Xs w (.cells #[.slice A1 n c1,.slice A2 m c2,.slice A3 q c3] 25));have HS:=Lh (dx (w.alloc (.cells #[.slice A1 n c1,.slice A2 m c2,.slice A3 q c3] 25)) (h.fut Wu (Xz _) (by rw[Xs];omega)) hv);have HBX:=Lh Wu;have Ci:=Lh (show n<=256 by have:=(Ka hv).nm;have:=h.ln.1;omega);have dc:=Lh (show (Jz g.2.2 n).length=n by unfold Jz;rw[Fa Ov,Qr]);clear h hv Wu;obtain⟨P,hP⟩:=Xe (Jz g.2.2 n);rw[<-hP] at HS dc |-;clear hP;go_enter Tryz.func71,Tryz.ntmps71;go_wp2_with fail;generalize w.alloc (.cells #[.slice A1 n c1,.slice A2 m c2,.slice A3 q c3] 25)=w1 at *;refine HS.o.mono ?_;rintro e w2 ⟨gr,Mk,rfl,hg,hr,Zy⟩;have HG:=Lh hg;have HR:=Lh hr;have HB2:=Lh (HBX.o.trans (Zy.mono (by rw[HZ.o];omega)));have HLN:=Lh (show Mk.length=n by rw[hr.len,dc.o]);have qR:=Lh (gl hg);clear hg hr Zy;rw[HLN.o];go_wp2_with fail;go_loopw [9,3] (fun v9 v3 wr=>∃ i:Nat,i<=n/\v9=.int .i64 i/\Hid (wr.ownsRow w2.heap.size 4 1 v3 i (Km (P.take i)))/\Hid (Below w2.heap.size w2 wr)) (fun v9 _ _=>n - (intOf v9).toNat);exact⟨0,by omega,rfl,Yx _ _ _ _,Xr _ _⟩;obtain⟨i,hi,rfl,HO,HB⟩:=hrel;have zzA:=Ci.o;by_cases Jo:i<n
 ·have Nq:i<Mk.length:=by rw[HLN.o];exact Jo
  have Zj:=Ic ((HB.o.block gr qR.o).trans HG.o) Nq;obtain⟨y1,y2,y3⟩:=HR.o.val i _ (Qa Nq);have zaS:i<P.length:=by rw[dc.o];exact Jo
  rw[Qa zaS] at y3;have HSN:=Lh (iu P zaS);obtain⟨x,hx⟩:=Xe (Mk[i]);rw[<-hx] at Zj y1 y2 y3;injection y3 with y3;rw[y3] at HSN;clear hx y3 Nq zaS;obtain⟨A5,c5,rfl,Tc,fY⟩:=Zk HO.o;go_wp2_with (at_builtin;refine Ja (m:=1) (n:=i) qhV rfl rfl rfl rfl (HO.o.alloc _) (Rd.row (B:=wr.heap.size+1) (Xn wr _) (by omega)) rfl (fun u hu=>by simp at hu;subst hu;rfl) (by have:=Ci.o;unfold maxLen;omega) (by have:=Ci.o;omega) (by rw[Xs];have:=HB.o.size;omega) ?_);intro v' w' ho hg _ _;have HO2:Hid (w'.ownsRow _ 4 1 v' (i+1) (Km (P.take (i+1)))):=Lh (by rw[HSN.o];exact ho);have HB3:=Lh (Zr (HB.o.alloc HB.o.size _) hg (HO.o.alloc _) (Xz _) (by rw[Xs];have:=HB.o.size;omega));obtain⟨A6,c6,rfl,hl7,hl8⟩:=Zk ho;clear ho hg;go_wp2_with fail;go_roundw;exact⟨i+1,by omega,by go_num,HO2.o,HB3.o⟩;simp[intOf];omega
 ·have pz:i=n:=by omega
  have HO9:Hid (wr.ownsRow w2.heap.size 4 1 u3 n (Km P)):=Lh (by
   have:=HO.o
   rw[pz,Qd (by rw[dc.o];omega)] at this
   exact this)
  clear HO pz;obtain⟨A5,c5,rfl,Tc,fY⟩:=Zk HO9.o;go_wp2_with fail;go_ret;exact⟨A5,c5,by rw[dc.o];rfl,Rd.of_own HO9.o,HB2.o.trans (HB.o.mono HB2.o.size)⟩
structure Ay(g SB n:Nat)(R:List Bool)(w:World):Prop where
 row:w.heap[g]? = some (.cells (Km R).toArray 4 (0,0))
 len:R.length=n
 box:w.heap[SB]? = some (.cells #[.slice (some ⟨g,0,none⟩) n n] 70 (0,0))
 ne:g≠SB
theorem Ay.below{g SB n:Nat}{R:List Bool}{w w':World}(h:Ay g SB n R w)(hb:Below w.heap.size w w'):Ay g SB n R w' :=
 ⟨(hb.block g (gl h.row)).trans h.row,h.len,(hb.block SB (gl h.box)).trans h.box,h.ne⟩
theorem Wl{w:World}{g k:Nat}{l:List Bool}(h:w.heap[g]? = some (.cells (Km l).toArray 4 (0,0)))(hk:k<l.length):w.cell? ⟨g,k,none⟩=some (.bool l[k]):=by
 rw[Za w g k _ _ _ h];simp[Km,hk]
theorem Rc{w:World}{g k:Nat}{l:List Bool}(h:w.heap[g]? = some (.cells (Km l).toArray 4 (0,0)))(x:Bool):(w.setCell ⟨g,k,none⟩ (.bool x)).heap[g]? = some (.cells (Km (l.set k x)).toArray 4 (0,0)):=by
 simp only[World.setCell,Xx,if_true,h,Option.map_some];congr 2;simp[Km,List.map_set]
theorem iS(R:List Bool)(l s:Int):(Zv R l s).length=R.length:=by
 unfold Zv;split
 ·rw[Qm]
 ·rfl
theorem xL(g SB n N:Nat)(R:List Bool)(k:Nat)(r:List Int)(A:Option Addr)(q c:Nat)(w:World)(h:Ay g SB n R w)(hk:k<n)(hq:q=r.length)(hr:∀ s∈r,s<(n:Int))(hs:Jb Vh w N (.slice A q c) r)(hN:N<=g)(hN2:N<=w.heap.size) :
  Calls Tryz.prog 135 #[zD k A q c,.pointer (some ⟨SB,0,none⟩)] w fun e w'=>e=.returned (.tuple #[])/\Ay g SB n (Kc R ((k:Int),r)) w'/\w.grownBy w' (some g):=by
 have HH:=Lh h;have HS:=Lh hs;have HR:=Lh hr;have HQ:=Lh hq;have hq9:=hs.n_le;have HB:=Lh ((Xr w.heap.size w).alloc (Xz _) (.cells #[.int .i64 k,.slice A q c] 63));have HK:=Lh (Xn w (.cells #[.int .i64 k,.slice A q c] 63));have HZ:=Lh (Xs w (.cells #[.int .i64 k,.slice A q c] 63));have HGN:=Lh (World.grownBy_alloc w (.cells #[.int .i64 k,.slice A q c] 63) (some g));have qR:=Lh (gl h.row);obtain⟨fin,fv⟩:=Xe (Kc R ((k:Int),r));rw[<-fv];have HF:=Lh fv;clear h hs hr hq fv;go_enter Tryz.func135,Tryz.ntmps135;go_wp2_with fail;have HST:=Lh (HH.o.below HB.o);have c1:(w.alloc (.cells #[.int .i64 k,.slice A q c] 63)).cell? ⟨w.heap.size,1,none⟩=some (.slice A q c):=Xc HK.o rfl;generalize w.alloc (.cells #[.int .i64 k,.slice A q c] 63)=w1 at *;go_loopw [8] (fun v8 wr=>∃(j:Nat)(S:List Bool),j<=q/\v8=.int .i64 j/\Hid (fin=(r.drop j).foldl (fun R s=>Zv R k s) S)/\Hid (Ay g SB n S wr)/\Hid (w1.grownBy wr (some g))) (fun v8 _=>q - (intOf v8).toNat);exact⟨0,R,by omega,rfl,HF.o,HST.o,World.grownBy.refl _ _⟩;clear HST c1;obtain⟨j,S,hj,rfl,HFD,HST,HGR⟩:=hrel;have HBN:Hid (Below N w wr):=(HB.o.mono hN2).trans (Ns HGR.o hN (by rw[HZ.o];omega));have k1:=(HGR.o.block w.heap.size (by rw[HZ.o];omega) (fun e=>by injection e with e;have:=qR.o;omega)).trans HK.o;have c0:wr.cell? ⟨w.heap.size,0,none⟩=some (.int .i64 k):=Xc k1 rfl;by_cases Jo:j<q
 ·have Nq:j<r.length:=by rw[<-HQ.o];exact Jo
  obtain⟨b,off,cs,rfl,_,cX,Zt,Zj⟩:=(HS.o.below HBN.o).get (k:=j) Nq (by decide);obtain⟨rfl,Ta,Hn⟩:=Zt;have Vi:=Zj 0 _ rfl;simp only[show Vh.size=1 from rfl,Yq,Yo] at Vi;have HFD2:=Lh (show fin=(r.drop (j+1)).foldl (fun R s=>Zv R k s) (Zv S k r[j]) by rw[HFD.o,Ql Nq,List.foldl_cons]);have qE:=HR.o _ (Qg Nq);obtain⟨s,hse⟩:=Xe (r[j]);rw[<-hse] at Vi Ta Hn HFD2 qE;have cS:=Vo HST.o.box;have hkS:k<S.length:=by rw[HST.o.len];exact hk
  have cK:=Wl HST.o.row hkS;have HKB:=Lh (show S.getD k false=S[k] by rw[Qb,Qa hkS];rfl);obtain⟨bk,gD⟩:=Xe (S[k]);rw[<-gD] at cK HKB;clear Zj hse Nq gD hkS HFD;cases bk with
  |false =>
   have HSY:=Lh (show Zv S k s=S by unfold Zv;rw[Yw,HKB.o];simp);go_wp2_with fail;go_roundw;exact⟨j+1,S,by omega,by go_num,by have:=HFD2.o;rw[HSY.o] at this;exact this,HST.o,HGR.o⟩;simp[intOf];omega
  |true =>
   by_cases wI:s<0
   ·have hd:decide (s<0)=true:=by simpa using wI
    have HSY:=Lh (show Zv S k s=S by unfold Zv;rw[Yw,HKB.o];simp;omega);go_wp2_with fail;refine (Zz s _).mono ?_;rintro e w5 ⟨rfl,rfl⟩;rw[hd];go_wp2_with fail;go_roundw;exact⟨j+1,S,by omega,by go_num,by have:=HFD2.o;rw[HSY.o] at this;exact this,HST.o,HGR.o⟩;simp[intOf];omega
   ·have hd:decide (s<0)=false:=by simpa using wI
    obtain⟨t,rfl⟩:∃ t:Nat,s=(t:Int):=⟨s.toNat,by omega⟩;have HSY:=Lh (show Zv S k (t:Int)=S.set t true by unfold Zv;rw[Yw,HKB.o];simp);have htS:t<S.length:=by rw[HST.o.len];omega
    have cT:=Wl HST.o.row htS;have fT:wr.frozen? ⟨g,t,none⟩=false:=by simp[World.frozen?,HST.o.row]
    obtain⟨bt,yB⟩:=Xe (S[t]);rw[<-yB] at cT;clear yB htS;have HST2:Hid (Ay g SB n (S.set t true) (wr.setCell ⟨g,t,none⟩ (.bool true))):=⟨Rc HST.o.row true,by rw[Qm];exact HST.o.len,by rw[Zb _ _ _ _ (fun e=>HST.o.ne e.symm)];exact HST.o.box,HST.o.ne⟩;go_wp2_with fail;refine (Zz _ _).mono ?_;rintro e w5 ⟨rfl,rfl⟩;rw[hd];go_wp2_with fail;go_roundw;exact⟨j+1,S.set t true,by omega,by go_num,by have:=HFD2.o;rw[HSY.o] at this;exact this,HST2.o,HGR.o.trans (cZ _ g t _)⟩;simp[intOf];omega
 ·have Up:=Lh (show fin=S by rw[HFD.o,show j=r.length by rw[<-HQ.o];omega,List.drop_length];rfl);go_wp2_with fail
  go_end0
  exact⟨rfl,by rw[Up.o];exact HST.o,HGN.o.trans HGR.o⟩
def fJ(n:Nat):List Bool:=(List.replicate n false).set 0 true
theorem mp{A1 A2 A3:Option Addr}{n m q c1 c2 c3:Nat}{g:Jw}(w:World)(h:Wz w w.heap.size A1 A2 A3 n m q c1 c2 c3 g)(hv:Vu g=true) :
  Calls Tryz.prog 72 #[Nr A1 A2 A3 n m q c1 c2 c3] w (ju w (Vk g.2.2 n)):=by
 have Wu:=(Xr w.heap.size w).alloc (Xz _) (.cells #[.slice A1 n c1,.slice A2 m c2,.slice A3 q c3] 25);have HV:=Lh ((h.fut (B':=w.heap.size+1) Wu (Xz _) (by omega)));have HK:=Lh (Xn w (.cells #[.slice A1 n c1,.slice A2 m c2,.slice A3 q c3] 25));have HZ:=Lh (Xs w (.cells #[.slice A1 n c1,.slice A2 m c2,.slice A3 q c3] 25));have HBX:=Lh Wu;have HG:=Lh (Ka hv);have HVV:=Lh hv;have HL:=Lh h.ln;have qE:=h.small;have HN1:=Lh (show 1<=n by have:=HG.o.n1;have:=HL.o.1;omega);have Ci:=Lh (show n<=256 by have:=HG.o.nm;have:=HL.o.1;omega);clear h hv Wu;go_enter Tryz.func72,Tryz.ntmps72;go_wp2_with fail;generalize w.alloc (.cells #[.slice A1 n c1,.slice A2 m c2,.slice A3 q c3] 25)=w1 at *;refine (Wz.valid (w:=w1) (by rw[HZ.o];exact HV.o)).mono ?_;rintro e w2 ⟨rfl,Zy⟩;rw[HVV.o];have HB2:=Lh Zy;have Fn:w.heap.size<w2.heap.size:=by have:=Zy.size;have:=HZ.o;omega
 have k2:=(Zy.block w.heap.size (by rw[HZ.o];omega)).trans HK.o;have c0:w2.cell? ⟨w.heap.size,0,none⟩=some (.slice A1 n c1):=Xc k2 rfl;have bA:=mP n (by have:=Ci.o;omega) w2;have hb3:=(Xr w2.heap.size w2).alloc (Xz _) (.cells (Km (List.replicate n false)).toArray 4);rw[show List.replicate n (Value.bool false)=Km (List.replicate n false) by simp[Km]] at bA;have iD:=Lh (Xn w2 (.cells (Km (List.replicate n false)).toArray 4));have La:=Lh (Xs w2 (.cells (Km (List.replicate n false)).toArray 4));have kh:=Lh ((hb3.block w.heap.size Fn).trans k2);have HB3:=Lh hb3;obtain⟨w3,ka⟩:=Xe (w2.alloc (.cells (Km (List.replicate n false)).toArray 4));rw[<-ka] at bA iD La HB3 kh;have hz3:w2.heap.size<w3.heap.size:=by rw[La.o];omega
 have zqK:w.heap.size<w3.heap.size:=by omega
 have c9:w3.cell? ⟨w2.heap.size,0,none⟩=some (.bool false):=by
  rw[Wl iD.o (by rw[Qr];exact HN1.o)];simp
 have f9:w3.frozen? ⟨w2.heap.size,0,none⟩=false:=by simp[World.frozen?,iD.o]
 have d0:w3.cell? ⟨w.heap.size,0,none⟩=some (.slice A1 n c1):=Xc kh.o rfl;have d1:w3.cell? ⟨w.heap.size,1,none⟩=some (.slice A2 m c2):=Xc kh.o rfl;have d2:w3.cell? ⟨w.heap.size,2,none⟩=some (.slice A3 q c3):=Xc kh.o rfl;have hne:w.heap.size≠w2.heap.size:=by omega
 have hn0:0<n:=HN1.o;have HW3:Hid (Below (w.heap.size+1) w1 w3):=(HB2.o.mono (Yh HZ.o.symm)).trans (HB3.o.mono Fn);clear ka Zy k2 hb3;go_wp2_with fail;have HB4:=Lh ((Xr (w3.setCell ⟨w2.heap.size,0,none⟩ (.bool true)).heap.size (w3.setCell ⟨w2.heap.size,0,none⟩ (.bool true))).alloc (Xz _) (.cells #[.slice (some ⟨w2.heap.size,0,none⟩) n n] 70));have HK4:=Lh (Xn (w3.setCell ⟨w2.heap.size,0,none⟩ (.bool true)) (.cells #[.slice (some ⟨w2.heap.size,0,none⟩) n n] 70));have HZ4:=Lh (Xs (w3.setCell ⟨w2.heap.size,0,none⟩ (.bool true)) (.cells #[.slice (some ⟨w2.heap.size,0,none⟩) n n] 70));have Fd:(w3.setCell ⟨w2.heap.size,0,none⟩ (.bool true)).heap.size=w3.heap.size:=by simp[World.setCell]
 have HR4:=Lh (Rc iD.o (k:=0) true);have Te:Hid (Below w2.heap.size w3 (w3.setCell ⟨w2.heap.size,0,none⟩ (.bool true))):=Below.setCell (p:=⟨w2.heap.size,0,none⟩) (Xr _ _) (Xz _) _;rw[Fd] at HB4 HK4 HZ4;generalize (w3.setCell ⟨w2.heap.size,0,none⟩ (.bool true))=ws at *;generalize ws.alloc (.cells #[.slice (some ⟨w2.heap.size,0,none⟩) n n] 70)=w5 at *;have HST:Hid (Ay w2.heap.size w3.heap.size n (fJ n) w5):=⟨(HB4.o.block w2.heap.size hz3).trans HR4.o,by simp[fJ],HK4.o,by omega⟩;have HBA:Hid (Below (w.heap.size+1) w1 w5):=(HW3.o.trans (Te.o.mono Fn)).trans (HB4.o.mono zqK);have hrd:=sC 135 #[.pointer (some ⟨w3.heap.size,0,none⟩)] (fun _ _=>by kernel_rfl) Kc (Ay w2.heap.size w3.heap.size n) (.slice A2 m c2) A1 A3 n c1 c3 (w.heap.size+1) w2.heap.size g.2.2 (fJ n) w5 Ci.o (by rw[<-HL.o.2.2];exact HV.o.rules.below HBA.o) Fn (by rw[HZ4.o];omega) (fun s w1 w2 h hb=>h.below hb) HST.o (fun s wx r A qq cc hr hs hgl hq Uv=>by
  obtain⟨f1,f2,f3,f4⟩:=HG.o.fit r hr
  obtain⟨k,hk⟩:∃ k:Nat,r.1=(k:Int):=⟨r.1.toNat,by omega⟩
  have:=xL w2.heap.size w3.heap.size n (w.heap.size+1) s k r.2 A qq cc wx hs (by have:=HL.o.1;omega) hq (fun x hx=>by have:=(f4 x hx).1;have:=HL.o.1;omega) Uv Fn (by omega)
  rw[<-hk] at this
  exact this)
 rw[<-HL.o.2.2] at hrd;have yM:=Lh hrd;clear hrd;refine yM.o.mono ?_;rintro e w6 ⟨rfl,hst,hgw⟩;have c6:=Vo hst.box;have Up:=Lt (ju w (Vk g.2.2 n) (.returned (.slice (some ⟨w2.heap.size,0,none⟩) n n)) w6) (by
  have hlen:(Vk g.2.2 n).length=n:=hst.len
  have Nk:Rd w6 w6.heap.size (some ⟨w2.heap.size,0,none⟩) (Km (Vk g.2.2 n)).toArray.toList:=Rd.row hst.row (gl hst.row)
  exact⟨some ⟨w2.heap.size,0,none⟩,n,by rw[hlen],Nk,(HBX.o.trans (HBA.o.mono (by omega))).trans (Ns hgw (Yf Fn) (by rw[HZ4.o];omega))⟩)
 clear hst hgw yM;go_wp2_with fail;go_ret;exact Up.o
def Mu(m:Nat)(l:List Int):List Int:=(List.range m).map fun t:Nat=>((l.count (-1 - (t:Int)):Nat):Int)
theorem Sd(m:Nat)(l:List Int):(Mu m l).length=m:=by simp[Mu]
theorem gK{m:Nat}{l:List Int}{t:Nat}(h:t<m):(Mu m l)[t]? = some ((l.count (-1 - (t:Int)):Nat):Int):=by simp[Mu,h]
theorem rj{m:Nat}{l:List Int}{k:Nat}(h:k<m):(Mu m l).set k (((l.count (-1 - (k:Int)):Nat):Int)+1)=Mu m (l++[-1 - (k:Int)]):=by
 apply List.ext_getElem?;intro t;by_cases ht:t<m
 ·rw[gK ht,Xu];by_cases e:k=t
  ·subst e;rw[if_pos rfl,if_pos (by rw[Sd];exact h),List.count_append];simp
  ·rw[if_neg e,gK ht,List.count_append];have:((-1 - (k:Int))==-1 - (t:Int))=false:=by rw[Yn];omega
   rw[List.count_singleton,this];simp
 ·rw[Xf (by rw[Qm,Sd];omega),Xf (by rw[Sd];omega)]
theorem rk{m:Nat}{l:List Int}{s:Int}(h:0<=s):Mu m (l++[s])=Mu m l:=by
 unfold Mu;apply List.map_congr_left;intro t _;rw[List.count_append];rw[List.count_singleton];have:(s==-1 - (t:Int))=false:=by rw[Yn];omega
 rw[this];simp
def Gz(rs:Zq):List Int:=rs.flatMap (·.2)
theorem T_(rs:Zq){i:Nat}(h:i<rs.length):Gz (rs.take (i+1))=Gz (rs.take i)++rs[i].2:=by
 unfold Gz;rw[Qc h,List.flatMap_append];simp
theorem br:∀(rs:Zq),(∀ r∈rs,r.2.length<=64)->(Gz rs).length<=64*rs.length
 |[],_=>by simp[Gz]
 |r::rs,h=>by
  have ih:=br rs (fun r hr=>h r (by simp[hr]));have:=h r (by simp);unfold Gz at *;rw[List.flatMap_cons,Qe,Qu];omega
theorem uQ(m:Nat)(rs:Zq):(Mu m (Gz rs)).contains 0=!(List.range m).all (Fh rs):=by
 rw[Bool.eq_iff_iff,List.contains_iff_mem,Bool.not_eq_true',<-Bool.not_eq_true,Xp];unfold Mu;rw[Xa];constructor
 ·rintro⟨t,ht,h⟩ Vj;have h1:=Vj t ht;unfold Fh at h1;rw[Xq] at h1;obtain⟨r,hr,h2⟩:=h1;rw[Xq] at h2;obtain⟨s,hs,h3⟩:=h2;have h3:=of_decide_eq_true h3;have h0:(Gz rs).count (-1 - (t:Int))=0:=by omega
  rw[List.count_eq_zero] at h0;exact h0 (by rw[<-h3];unfold Gz;exact Xt.2 ⟨r,hr,hs⟩)
 ·intro h;refine Classical.byContradiction fun hno=>h fun t ht=>?_;unfold Fh;rw[Xq];have:(Gz rs).count (-1 - (t:Int))≠0:=fun e=>hno ⟨t,ht,by omega⟩;have hm:=List.count_pos_iff.1 (Nat.pos_of_ne_zero this);obtain⟨r,hr,hs⟩:=Xt.1 hm;exact⟨r,hr,Xq.2 ⟨_,hs,by simp⟩⟩
theorem qdF{A1 A2 A3:Option Addr}{n m q c1 c2 c3:Nat}{g:Jw}(w:World)(h:Wz w w.heap.size A1 A2 A3 n m q c1 c2 c3 g)(hg:wD g) :
  Calls Tryz.prog 73 #[Nr A1 A2 A3 n m q c1 c2 c3] w fun e w'=>e=.returned (.bool ((List.range m).all (Fh g.2.2)))/\Below w.heap.size w w':=by
 have Wu:=(Xr w.heap.size w).alloc (Xz _) (.cells #[.slice A1 n c1,.slice A2 m c2,.slice A3 q c3] 25);have HK:=Lh (Xn w (.cells #[.slice A1 n c1,.slice A2 m c2,.slice A3 q c3] 25));have HZ:=Lh (Xs w (.cells #[.slice A1 n c1,.slice A2 m c2,.slice A3 q c3] 25));have HBX:=Lh Wu;have HG:=Lh hg;have HL:=Lh h.ln;have Ch:=Lh h.rules;have qE:=h.small;have HM2:=Lh (show m<=256 by have:=hg.nm;have:=h.ln.2.1;omega);have hc1:(w.alloc (.cells #[.slice A1 n c1,.slice A2 m c2,.slice A3 q c3] 25)).cell? ⟨w.heap.size,1,none⟩=some (.slice A2 m c2):=Xc HK.o rfl;have bA:=ph m (by have:=HM2.o;omega) (w.alloc (.cells #[.slice A1 n c1,.slice A2 m c2,.slice A3 q c3] 25));rw[show List.replicate m (Value.int .i64 0)=Ks (Mu m []) by
  unfold Ks Mu
  rw[List.map_map]
  apply List.ext_getElem
  ·simp
  ·intro i h1 h2;simp] at bA
 clear h hg Wu;go_enter Tryz.func73,Tryz.ntmps73;go_wp2_with fail;generalize w.alloc (.cells #[.slice A1 n c1,.slice A2 m c2,.slice A3 q c3] 25)=w1 at *;have Sr:w.heap.size<w1.heap.size:=by rw[HZ.o];omega
 obtain⟨gt,hgt⟩:=Xe (w.heap.size+1);have zsH:w1.heap.size=gt:=by rw[HZ.o,hgt]
 have HK2:=Lh (show (w1.alloc (.cells (Ks (Mu m [])).toArray 3)).heap[gt]? = some (.cells (Ks (Mu m [])).toArray 3 (0,0)) by rw[<-zsH];exact Xn w1 _);have HZ2:=Lh (Xs w1 (.cells (Ks (Mu m [])).toArray 3));have HB2:=Lh (HBX.o.trans (((Xr w1.heap.size w1).alloc (Xz _) (.cells (Ks (Mu m [])).toArray 3)).mono (by rw[HZ.o];omega)));clear hc1 bA;generalize w1.alloc (.cells (Ks (Mu m [])).toArray 3)=w2 at *;rw[<-hgt];have HGT:=Lh hgt;clear hgt;go_loopw [15] (fun v15 wr=>∃ i:Nat,i<=q/\v15=.int .i64 i/\Hid (wr.heap[gt]? = some (.cells (Ks (Mu m (Gz (g.2.2.take i)))).toArray 3 (0,0)))/\Hid (w2.grownBy wr (some gt))) (fun v15 _=>q - (intOf v15).toNat);exact⟨0,by omega,rfl,HK2.o,World.grownBy.refl _ _⟩;clear HK2;obtain⟨i,hi,rfl,HK2,HGR⟩:=hrel;have HBN:Hid (Below w.heap.size w wr):=HB2.o.trans (Ns HGR.o (by have:=HGT.o;omega) (by rw[HZ2.o];omega));by_cases Jo:i<q
 ·have Vq:i<g.2.2.length:=by rw[<-HL.o.2.2];exact Jo
  obtain⟨b,off,cs,rfl,_,cX,Zt,Zj⟩:=(Ch.o.below HBN.o).get (k:=i) Vq (by decide);obtain⟨v,rfl,Uv,xR,pH⟩:=Jv Zt;obtain⟨A5,c5,rfl,Tc,fY⟩:=Uv.form;have Vi:=Zj 0 _ rfl;have hc1:=Zj 1 _ rfl;simp only[show Kx.size=2 from rfl,Yo,<-Yv] at Vi hc1;have HFT:=Lh (T_ g.2.2 Vq);have zwX:=Lh (show (Gz (g.2.2.take (i+1))).length<=262144 by
   have:=br (g.2.2.take (i+1)) (fun r hr=>(HG.o.fit r (List.mem_of_mem_take hr)).2.2.1)
   rw[Qq] at this
   have:=HG.o.q
   omega)
  have Az:=Lh (HG.o.fit _ (Qg Vq)).2.2.2;have h64:=(HG.o.fit _ (Qg Vq)).2.2.1;obtain⟨r,hr⟩:=Xe (g.2.2[i]);rw[<-hr] at Vi hc1 HFT Uv xR pH Tc;rw[<-hr] at Az h64;obtain⟨ql,xV⟩:=Xe r.2.length;rw[<-xV] at hc1 Uv Tc h64;have HQL:=Lh xV;have HSL:=Lh Uv;clear Zj Zt hr xV Uv Vq;go_wp2_with fail;have HB5:=Lh (World.grownBy_alloc wr (.cells #[.int .i64 r.1,.slice A5 ql c5] 63) (some gt));have ul:=Lh (((Xr wr.heap.size wr).alloc (Xz _) (.cells #[.int .i64 r.1,.slice A5 ql c5] 63)).block gt (gl HK2.o));have HGR5:=Lh (HGR.o.trans HB5.o);have HK6:=Lh (ul.o.trans HK2.o);generalize wr.alloc (.cells #[.int .i64 r.1,.slice A5 ql c5] 63)=w5 at *;go_loopw [22] (fun v22 wt=>∃ j:Nat,j<=ql/\v22=.int .i64 j/\Hid (wt.heap[gt]? = some (.cells (Ks (Mu m (Gz (g.2.2.take i)++r.2.take j))).toArray 3 (0,0)))/\Hid (w2.grownBy wt (some gt))) (fun v22 _=>ql - (intOf v22).toNat);exact⟨0,by omega,rfl,by rw[List.take_zero,List.append_nil];exact HK6.o,HGR5.o⟩;clear ul HK6 HGR5 HB5 HK2 HGR Vi hc1;obtain⟨j,hj,rfl,HK2,HGR⟩:=hrel;have HBT:Hid (Below w.heap.size w wr):=HB2.o.trans (Ns HGR.o (by have:=HGT.o;omega) (by rw[HZ2.o];omega));by_cases Uh:j<ql
  ·have quS:j<r.2.length:=by rw[<-HQL.o];exact Uh
   have zgR:Jb Vh wr w.heap.size (.slice A5 ql c5) r.2:=by
    have:=HSL.o;exact this.keep fun p hp=>(HBT.o.cell hp).trans (HBN.o.cell hp).symm
   obtain⟨b2,o2,cs,rfl,_,hbl2,Zt,Zj⟩:=zgR.get (k:=j) quS (by decide);obtain⟨rfl,Ta,Hn⟩:=Zt;have Vi:=Zj 0 _ rfl;simp only[show Vh.size=1 from rfl,Yq,Yo] at Vi;have HT:=Lh (Qc quS);have hft:=Az.o _ (Qg quS);have HLE:=Lh (show (Gz (g.2.2.take i)++r.2.take j).length<=262144 by
    have h1:=zwX.o
    rw[HFT.o,Qe] at h1
    rw[Qe,Qq]
    omega)
   obtain⟨s,hs⟩:=Xe (r.2[j]);rw[<-hs] at Vi Ta Hn HT hft;obtain⟨pre,Bw⟩:=Xe (Gz (g.2.2.take i)++r.2.take j);rw[<-Bw] at HK2 HLE;have HPRE:=Lh (show Gz (g.2.2.take i)++r.2.take (j+1)=pre++[s] by rw[HT.o,Bw,Xd]);clear hs Zj Bw quS zgR;by_cases wI:s<0
   ·have hd:decide (s<0)=true:=by simpa using wI
    obtain⟨k,hk⟩:∃ k:Nat,s=-1 - (k:Int):=⟨(-1 - s).toNat,by omega⟩;subst hk;have hkm:k<m:=by have:=HL.o.2.1;omega
    have Dl:k<(Mu m pre).length:=by rw[Sd];exact hkm
    have hcv:=Ic HK2.o Dl;have hcg:=gK (l:=pre) hkm;rw[Qa Dl] at hcg;injection hcg with hcg;rw[hcg] at hcv;have HST:=Lh (rj (l:=pre) hkm);have HCB:=List.count_le_length (a:=-1 - (k:Int)) (l:=pre);have HL2:=HLE.o;obtain⟨x,hx⟩:=Xe (pre.count (-1 - (k:Int)));rw[<-hx] at hcv HST HCB;have hxb:(x:Int)<=262144:=by omega
    have fK:wr.frozen? ⟨gt,k,none⟩=false:=by simp[World.frozen?,HK2.o]
    have he:-1 - (-1 - (k:Int))=k:=by omega
    have HSET:=Lh (oD HK2.o (k:=k) ((x:Int)+1));clear hcg hx Dl HL2 HCB;go_wp2_with fail;refine (Zz _ _).mono ?_;rintro e w5 ⟨rfl,rfl⟩;rw[hd];go_wp2_with fail;go_roundw;exact⟨j+1,by omega,by go_num,by rw[HPRE.o,<-HST.o];exact HSET.o,HGR.o.trans (cZ _ gt k _)⟩;simp[intOf];omega
   ·have hd:decide (s<0)=false:=by simpa using wI
    have HCN:=Lh (rk (m:=m) (l:=pre) (s:=s) (by omega));go_wp2_with fail;refine (Zz _ _).mono ?_;rintro e w5 ⟨rfl,rfl⟩;rw[hd];go_wp2_with fail;go_roundw;exact⟨j+1,by omega,by go_num,by rw[HPRE.o,HCN.o];exact HK2.o,HGR.o⟩;simp[intOf];omega
  ·have HEND:=Lh (show Gz (g.2.2.take i)++r.2.take j=Gz (g.2.2.take (i+1)) by
    rw[HFT.o,Qd (l:=r.2) (by rw[<-HQL.o];omega)])
   rw[HEND.o] at HK2;go_wp2_with fail;go_roundw;exact⟨i+1,by omega,by go_num,HK2.o,HGR.o⟩;simp[intOf];omega
 ·have Hb:Hid (g.2.2.take i=g.2.2):=Qd (by rw[<-HL.o.2.2];omega);rw[Hb.o] at HK2;have zxF:=Lh (show Calls Tryz.prog 136 #[.slice (some ⟨gt,0,none⟩) m m,.int .i64 0] wr fun e w'=>e=.returned (.bool (!(List.range m).all (Fh g.2.2)))/\w'=wr by
   rcases Nat.eq_zero_or_pos m with h0 | h0
   ·subst h0
    refine (Tryz.slices_Contains_int_empty (some ⟨gt,0,none⟩) 0 0 wr).mono ?_
    rintro e w' ⟨rfl,rfl⟩
    exact⟨by simp,rfl⟩
   ·have:=Tryz.slices_Contains_int gt 0 m m (Mu m (Gz g.2.2)) 0 wr (by rw[Sd];exact Xz _) (by have:=HM2.o;omega) (fun j hj=>by
     rw[Yp,Ic HK2.o hj,Qb,Qa hj]
     rfl)
    rw[Qd (by rw[Sd];exact Xz _),uQ] at this
    exact this)
  go_wp2_with fail;refine zxF.o.mono ?_;rintro e w5 ⟨rfl,rfl⟩;go_wp2_with fail;go_ret;exact⟨Kd (Zm (by simp)),HBN.o⟩
def Jr(g:Jw):Int:=if Vu g then wellE g.1.length g.2.1.length g.2.2 else 1
theorem mM{A1 A2 A3:Option Addr}{n m q c1 c2 c3:Nat}{g:Jw}(w:World)(h:Wz w w.heap.size A1 A2 A3 n m q c1 c2 c3 g) :
  Calls Tryz.prog 28 #[Nr A1 A2 A3 n m q c1 c2 c3] w fun e w'=>e=.returned (.int .i64 (Jr g))/\Below w.heap.size w w':=by
 have Wu:=(Xr w.heap.size w).alloc (Xz _) (.cells #[.slice A1 n c1,.slice A2 m c2,.slice A3 q c3] 25);have HV:=Lh ((h.fut (B':=w.heap.size+1) Wu (Xz _) (by omega)));have HK:=Lh (Xn w (.cells #[.slice A1 n c1,.slice A2 m c2,.slice A3 q c3] 25));have HZ:=Lh (Xs w (.cells #[.slice A1 n c1,.slice A2 m c2,.slice A3 q c3] 25));have HBX:=Lh Wu;have HL:=Lh h.ln;clear h Wu;have vX:Hid (∀(w1 w2:World),Below (w.heap.size+1) w1 w2->Wz w1 (w.heap.size+1) A1 A2 A3 n m q c1 c2 c3 g->w.heap.size+1<=w2.heap.size->Wz w2 w2.heap.size A1 A2 A3 n m q c1 c2 c3 g):=fun w1 w2 hb hg hs=>hg.fut hb (Xz _) hs;have Nj:Hid (∀(w2:World),w2.heap[w.heap.size]? = some (.cells #[.slice A1 n c1,.slice A2 m c2,.slice A3 q c3] 25 (0,0))->w2.cell? ⟨w.heap.size,0,none⟩=some (.slice A1 n c1)/\w2.cell? ⟨w.heap.size,1,none⟩=some (.slice A2 m c2)/\w2.cell? ⟨w.heap.size,2,none⟩=some (.slice A3 q c3)):=fun w2 hk=>⟨Xc hk rfl,Xc hk rfl,Xc hk rfl⟩;go_enter Tryz.func28,Tryz.ntmps28;go_wp2_with fail;generalize w.alloc (.cells #[.slice A1 n c1,.slice A2 m c2,.slice A3 q c3] 25)=w1 at *;refine (Wz.valid (w:=w1) (by rw[HZ.o];exact HV.o)).mono ?_;rintro e w2 ⟨rfl,Zy⟩;have HB2:Hid (Below (w.heap.size+1) w1 w2):=Zy.mono (Yh HZ.o.symm);have HS2:=Lh (show w.heap.size+1<=w2.heap.size by have:=Zy.size;have:=HZ.o;omega);have HK2:=Lh ((HB2.o.block w.heap.size (by omega)).trans HK.o);clear Zy;cases hv:Vu g with
 |false =>
  have HC:=Lh (show Jr g=1 by unfold Jr;rw[hv];rfl);clear hv;go_wp2_with fail;go_ret;exact⟨Kd (Fs HC.o.symm),HBX.o.trans (HB2.o.mono (by omega))⟩
 |true =>
  have HVV:=Lh hv;have HC:=Lh (show Jr g=wellE n m g.2.2 by unfold Jr;rw[hv,HL.o.1,HL.o.2.1];rfl);obtain⟨a0,a1,a2⟩:=Nj.o w2 HK2.o;clear hv;go_wp2_with fail;refine (sO w2 (vX.o w1 w2 HB2.o HV.o HS2.o) HVV.o).mono ?_;rintro e w3 ⟨AP,cP,rfl,hrp,hb3⟩;have HB3:=Lh (HB2.o.trans (hb3.mono HS2.o));have HS3:=Lh (Ya HS2.o hb3.size);have iD:=Lh ((HB3.o.block w.heap.size (by omega)).trans HK.o);have dc:=Lh (show (Jz g.2.2 n).length=n by unfold Jz;rw[Fa Ov,Qr]);have Ci:=Lh (show n<=256 by have:=(Ka HVV.o).nm;have:=HL.o.1;omega);have HCO:=Lh (eR AP cP (Jz g.2.2 n) w3 hrp (by rw[dc.o];have:=Ci.o;omega));rw[dc.o] at HCO |-;clear a0 a1 a2 hrp hb3;go_wp2_with fail;refine HCO.o.mono ?_;rintro e w4 ⟨rfl,rfl⟩;cases hp:(Jz g.2.2 n).all id with
  |false =>
   have HE:=Lh (show Jr g=18 by rw[HC.o];unfold wellE;rw[hp];rfl);clear hp HCO;go_wp2_with fail;go_ret;exact⟨Kd (Fs HE.o.symm),HBX.o.trans (HB3.o.mono (by omega))⟩
  |true =>
   have HE:=Lh (show Jr g=if (Vk g.2.2 n).all id&&(List.range m).all (Fh g.2.2) then 0 else 17 by rw[HC.o];unfold wellE;rw[hp];rfl)
   obtain⟨a0,a1,a2⟩:=Nj.o w4 iD.o;clear hp HCO;go_wp2_with fail;refine (mp w4 (vX.o w1 w4 HB3.o HV.o HS3.o) HVV.o).mono ?_;rintro e w5 ⟨AR,cR,rfl,kL,hb5⟩;have HB5:=Lh (HB3.o.trans (hb5.mono HS3.o));have pV:=Lh (Ya HS3.o hb5.size);have ul:=Lh ((HB5.o.block w.heap.size (by omega)).trans HK.o);have HRL:=Lh (show (Vk g.2.2 n).length=n by
    unfold Vk
    rw[Fa (f:=Kc) (fun P r=>by
     unfold Kc
     have:∀(l:List Int)(R:List Bool),(l.foldl (fun R s=>Zv R r.1 s) R).length=R.length:=by
      intro l
      induction l with
      |nil=>intro R;rfl
      |cons s l ih=>intro R;rw[List.foldl_cons,ih,iS]
     exact this _ _),Qm,Qr])
   have HCO:=Lh (eR AR cR (Vk g.2.2 n) w5 kL (by rw[HRL.o];have:=Ci.o;omega));rw[HRL.o] at HCO |-;clear a0 a1 a2 kL hb5;go_wp2_with fail;refine HCO.o.mono ?_;rintro e w6 ⟨rfl,rfl⟩;cases hr:(Vk g.2.2 n).all id with
   |false =>
    have de:=Lh (show Jr g=17 by rw[HE.o,hr];rfl);clear hr HCO HE;go_wp2_with fail;go_ret;exact⟨Kd (Fs de.o.symm),HBX.o.trans (HB5.o.mono (by omega))⟩
   |true =>
    have de:=Lh (show Jr g=if (List.range m).all (Fh g.2.2) then 0 else 17 by rw[HE.o,hr];rfl)
    obtain⟨a0,a1,a2⟩:=Nj.o w6 ul.o;clear hr HCO HE;go_wp2_with fail;refine (qdF w6 (vX.o w1 w6 HB5.o HV.o pV.o) (Ka HVV.o)).mono ?_;rintro e w7 ⟨rfl,ub⟩;have HB7:=Lh (HB5.o.trans (ub.mono pV.o));cases hu:(List.range m).all (Fh g.2.2) with
    |false =>
     have HE3:=Lh (show Jr g=17 by rw[de.o,hu];rfl);clear hu de ub;go_wp2_with fail;go_ret;exact⟨Kd (Fs HE3.o.symm),HBX.o.trans (HB7.o.mono (by omega))⟩
    |true =>
     have HE3:=Lh (show Jr g=0 by rw[de.o,hu];rfl);clear hu de ub;go_wp2_with fail;go_ret;exact⟨Kd (Fs HE3.o.symm),HBX.o.trans (HB7.o.mono (by omega))⟩
open Go.RowKit Go.Sort
structure Rl(w:World)(g S K G lo C n k:Nat)(sets:Zu)(gr:Bool):Prop where
 row:Eh 22 g lo lo w sets
 len:sets.length=n
 small:Ds sets
 asc:Ux sets
 bS:w.heap[S]? = some (.cells #[.slice (some ⟨g,0,none⟩) n n] 76 (0,0))
 bK:w.heap[K]? = some (.cells #[.int .i64 k] 3 (0,0))
 bG:w.heap[G]? = some (.cells #[.bool gr] 4 (0,0))
 le:C<=g/\C<=S/\C<=G/\K<C/\g<lo/\S<lo/\G<lo/\lo<=w.heap.size/\g≠S/\g≠G/\S≠G
theorem Rl.below{w w':World}{g S K G lo C n k:Nat}{sets:Zu}{gr:Bool}(h:Rl w g S K G lo C n k sets gr)(hb:Below w.heap.size w w'):Rl w' g S K G lo C n k sets gr:=by
 obtain⟨l1,l2,l3,l4,l5,l6,l7,l8,l9⟩:=h.le;exact⟨h.row.below hb,h.len,h.small,h.asc,(hb.block S (by omega)).trans h.bS,(hb.block K (by omega)).trans h.bK,(hb.block G (by omega)).trans h.bG,l1,l2,l3,l4,l5,l6,l7,Ya l8 hb.size,l9⟩
theorem ir{w:World}{G:Nat}{v u:Value}{t:TypeId}(h:w.heap[G]? = some (.cells #[v] t (0,0))):(w.setCell ⟨G,0,none⟩ u).heap[G]? = some (.cells #[u] t (0,0)):=by
 simp only[World.setCell,Xx,if_true,h,Option.map_some];rfl
theorem Rl.setG{w:World}{g S K G lo C n k:Nat}{sets:Zu}{gr:Bool}(h:Rl w g S K G lo C n k sets gr)(b:Bool):Rl (w.setCell ⟨G,0,none⟩ (.bool b)) g S K G lo C n k sets b:=by
 obtain⟨l1,l2,l3,l4,l5,l6,l7,l8,l9,l10,l11⟩:=h.le;exact⟨h.row.other _ l10 l7 (by show G≠lo;omega),h.len,h.small,h.asc,by rw[Zb _ _ _ _ (show S≠G from l11)];exact h.bS,by rw[Zb _ _ _ _ (show K≠G by omega)];exact h.bK,ir h.bG,l1,l2,l3,l4,l5,l6,l7,by simpa[World.setCell] using l8,l9,l10,l11⟩
def jp(w:World)(g S K G lo C n k:Nat)(gr:Bool)(o:Option (Zu×Bool))(e:Ending)(w':World):Prop :=
 Below C w w'/\match o with
 |none=>e=.returned (.bool false)
 |some (s',g')=>e=.returned (.bool true)/\Rl w' g S K G lo C n k s' (gr||g')
theorem Pl{x:List Wd}(h:Dj x):aB x:=fun y hy=>by have:=h y hy;unfold maxLen;omega
theorem qgV(w:World)(g S K G lo C n k N:Nat)(sets:Zu)(gr:Bool)(a:Nat)(r:List Int)(A:Option Addr)(q c:Nat)(h:Rl w g S K G lo C n k sets gr)(jH:1<=k)(oJ:k<=4)(ha:a<n)(hn:n<=256)(hq:q=r.length)(hr:Jb Vh w N (.slice A q c) r)(hN:N<=w.heap.size) :
  Calls Tryz.prog 145 #[zD a A q c,.pointer (some ⟨S,0,none⟩),.pointer (some ⟨K,0,none⟩),.pointer (some ⟨G,0,none⟩)] w (jp w g S K G lo C n k gr (Et k sets ((a:Int),r))):=by
 have Wu:=(Xr w.heap.size w).alloc (Xz _) (.cells #[.int .i64 a,.slice A q c] 63);have HH:=Lh h;have H1:=Lh (h.below Wu);have HZ:=Lh (Xs w (.cells #[.int .i64 a,.slice A q c] 63));have HK:=Lh (Xn w (.cells #[.int .i64 a,.slice A q c] 63));have HBX:=Lh Wu;have hOF:=oP (some ⟨g,0,none⟩) A n c k sets r (w.alloc (.cells #[.int .i64 a,.slice A q c] 63)) jH oJ (by have:=(h.below Wu).row.sl (by rw[h.len];unfold maxLen;omega);rw[h.len] at this |-;exact this) (by rw[<-hq];exact hr.fut Wu hN (by rw[Xs];omega)) (fun i x hx=>by have:=h.small i x hx;exact⟨this.1,by omega⟩);rw[h.len,<-hq] at hOF;have mY:=Lh hOF;clear h Wu hq hr hOF;have cS:=Vo HH.o.bS;have cK:=Vo HH.o.bK;have lS:=(gl HH.o.bS);have lK:=(gl HH.o.bK);go_enter Tryz.func145,Tryz.ntmps145;go_wp2_with fail;clear cS cK lS lK;generalize w.alloc (.cells #[.int .i64 a,.slice A q c] 63)=w1 at *;refine mY.o.mono ?_;rintro e w2 ⟨Zy,he⟩;have HB2:=Lh (HBX.o.trans (Zy.mono (by rw[HZ.o];omega)));have HST2:=Lh (H1.o.below Zy);have HK2:=Lh ((Zy.block w.heap.size (by rw[HZ.o];omega)).trans HK.o);have hCw:C<=w.heap.size:=by have:=HH.o.le;omega
 cases ho:lM sets k r with
 |none =>
  rw[ho] at he;subst he;have HG:=Lh (show Et k sets ((a:Int),r)=none by unfold Et;simp only[ho];rfl);clear ho Zy;go_wp2_with fail;go_ret;refine⟨HB2.o.mono hCw,?_⟩;rw[HG.o];rfl
 |some x =>
  rw[ho] at he;obtain⟨Ax,cx,rfl,Ld⟩:=he;have HX:=Lh (qaY oJ ho);obtain⟨qx,pq⟩:=Xe x.length;rw[<-pq] at Ld |-;have qP:=Lh Ld;have has:a<sets.length:=by rw[HST2.o.len];exact ha
  obtain⟨Ao,co,hco,ft,ho2,hhi,hfz⟩:=HST2.o.row.get has;have tg:=Lh (show sets.getD a []=sets[a] by rw[Qb,Qa has];rfl);obtain⟨old,hold⟩:=Xe (sets[a]);rw[<-hold] at hco ft hhi tg;obtain⟨qo,hqo⟩:=Xe old.length;rw[<-hqo] at hco ft hhi;have HHI:=Lh hhi;have HQO:=Lh hqo;have HGW:=Lh (show Et k sets ((a:Int),r)=if (Kt old x).length<=4096 then some (sets.set a (Kt old x),decide (old.length<(Kt old x).length)) else none by
   unfold Et
   simp only[ho,Option.bind_some,Yw,tg.o])
  have HOB:=Lh (show Dj old/\old.length<=4096 by rw[<-tg.o];exact HST2.o.small.getD a);have cS:=Vo HST2.o.bS;have c0:w2.cell? ⟨w.heap.size,0,none⟩=some (.int .i64 a):=Xc HK2.o rfl;have lS:=(gl HST2.o.bS);have lG:=(gl HST2.o.bG);have lg:=HST2.o.row.lt;have lb:=(gl HK2.o);clear ho Ld pq hold has hqo hhi;go_wp2_with fail;have hb3:=(Xr w2.heap.size w2).alloc (Xz _) (.cells #[.slice Ao qo co,.slice Ax qx cx] 22);have qmZ:=HST2.o.below hb3;have hk3:=Xn w2 (.cells #[.slice Ao qo co,.slice Ax qx cx] 22);have HU:=Lh (yT (some ⟨w2.heap.size,0,none⟩) 2 old x (w2.alloc (.cells #[.slice Ao qo co,.slice Ax qx cx] 22)) (qaP hk3 (HHI.o.sl.fut hb3 (Xz _) hb3.size) (qP.o.fut hb3 (Xz _) hb3.size)) (by have:=HOB.o.2;have:=HX.o.2;omega));have HB3:=Lh hb3;have vZ:=Lh qmZ;clear hb3 qmZ hk3 cS c0 hco hfz lS lG lg lb;generalize w2.alloc (.cells #[.slice Ao qo co,.slice Ax qx cx] 22)=w3 at *;refine HU.o.mono ?_;rintro e w4 ⟨v4,rfl,hown,hb4⟩;have Cs:=Lh (vZ.o.below hb4);have qxB:=Lh (HB3.o.trans (hb4.mono HB3.o.size));have HK4:=Lh ((qxB.o.block w.heap.size (gl HK2.o)).trans HK2.o);have HB4:=Lh (HB2.o.trans (qxB.o.mono HB2.o.size));have jh:Hid (Dj (Kt old x)):=Cx HOB.o.1 HX.o.1;have eK:w4.ownsRow w3.heap.size 9 1 v4 (Kt old x).length (Zp (Kt old x)):=hown;have HHU:=Lh (Hi.own (lo:=lo) (e0:=lo) (Pl jh.o) eK (.inl (by have:=vZ.o.le;omega)));obtain⟨A4,c4,rfl,ud,h42⟩:=Zk eK;have tf:=Lh (show (Kt old x).length<=8192 by
   have:=rR (old++x)
   rw[Qe] at this
   have h1:=HOB.o.2
   have h2:=HX.o.2
   unfold Kt
   omega)
  obtain⟨u,hu⟩:=Xe (Kt old x);rw[<-hu] at HGW jh HHU ud tf;rw[<-hu];have HUU:=Lh hu;clear hown eK hb4 HU hu;obtain⟨qu,hqu⟩:=Xe u.length;rw[<-hqu] at HGW HHU ud tf |-;have HQU:=Lh hqu;rw[<-HQO.o] at HGW;clear hqu;have zrD:=tf.o;have has:a<sets.length:=by rw[Cs.o.len];exact ha
  obtain⟨Ao',co',zbB,qgD,zrK,zaZ,zsJ⟩:=Cs.o.row.get has;have pt:sets[a].length=qo:=by
   have:=tg.o;rw[Qb,Qa has] at this;rw[HQO.o,<-this];rfl
  rw[pt] at zbB qgD;have cS:=Vo Cs.o.bS;have cG:=Vo Cs.o.bG;have fG:w4.frozen? ⟨G,0,none⟩=false:=by simp[World.frozen?,Cs.o.bG]
  have c0:w4.cell? ⟨w.heap.size,0,none⟩=some (.int .i64 a):=Xc HK4.o rfl;obtain⟨l1,l2,l3,l4,l5,l6,l7,l8,l9,l10,l11⟩:=Cs.o.le;have hgb:G≠w.heap.size:=by have:=HH.o.le;omega
  have hgb2:g≠w.heap.size:=by have:=HH.o.le;omega
  clear zaZ pt has;have Up:Hid (∀(b:Bool)(w5:World),w5=(w4.setCell ⟨G,0,none⟩ (.bool b)).setCell ⟨g,a,none⟩ (.slice A4 qu c4)->qu<=4096->b=(gr||decide (qo<qu))->jp w g S K G lo C n k gr (Et k sets ((a:Int),r)) (.returned (.bool true)) w5):=by
   rintro b w5 rfl hle rfl;have hG:(w4.setCell ⟨G,0,none⟩ (.bool (gr||decide (qo<qu)))).heap[G]? = some (.cells #[.bool (gr||decide (qo<qu))] 4 (0,0)):=by
    simp only[World.setCell,Xx,if_true,Cs.o.bG,Option.map_some];rfl
   refine⟨((HB4.o.mono hCw).setCell l3 _).setCell l1 _,?_⟩;rw[HGW.o,if_pos hle];refine⟨rfl,⟨(Cs.o.row.other _ l10 l7 (by show G≠lo;omega)).set l5 (by omega) (HHU.o.keep (by simp[World.setCell]) fun p hp _=>World.cell?_of_block (Zb _ _ _ _ (by show p.block≠G;rcases hp with hp | hp <;> omega))),by rw[Qm];exact Cs.o.len,Cs.o.small.set _ ⟨jh.o,by rw[<-HQU.o];exact hle⟩,Cs.o.asc.set _ (by rw[HUU.o];exact Fu _ _),?_,?_,?_,l1,l2,l3,l4,l5,l6,l7,by simpa[World.setCell] using l8,l9,l10,l11⟩⟩
   ·rw[Zb _ _ _ _ (fun e=>l9 e.symm),Zb _ _ _ _ (show S≠G from l11)];exact Cs.o.bS
   ·rw[Zb _ _ _ _ (show K≠g by omega),Zb _ _ _ _ (show K≠G by omega)];exact Cs.o.bK
   ·rw[Zb _ _ _ _ (fun e=>l10 e.symm)];exact hG
  have qzG:Hid (∀(b:Bool)(w5:World),w5=(w4.setCell ⟨G,0,none⟩ (.bool b)).setCell ⟨g,a,none⟩ (.slice A4 qu c4)->¬ qu<=4096->jp w g S K G lo C n k gr (Et k sets ((a:Int),r)) (.returned (.bool false)) w5):=by
   rintro b w5 rfl hle;refine⟨((HB4.o.mono hCw).setCell l3 _).setCell l1 _,?_⟩;rw[HGW.o,if_neg hle]
  have hans:n<=256:=hn;cases gr with
  |true =>
   by_cases hle:qu<=4096
   ·have ke:decide ((qu:Int)<=4096)=true:=by rw[Yi];omega
    go_wp2_with fail;go_ret;exact Up.o true _ rfl hle rfl
   ·have ke:decide ((qu:Int)<=4096)=false:=by rw[Yj];omega
    go_wp2_with fail;go_ret;exact qzG.o true _ rfl hle
  |false =>
   by_cases Jo:qo<qu
   ·have zaR:decide (qo<qu)=true:=Yt Jo;by_cases hle:qu<=4096
    ·have ke:decide ((qu:Int)<=4096)=true:=by rw[Yi];omega
     go_wp2_with fail;go_ret;exact Up.o true _ rfl hle (by rw[zaR];rfl)
    ·have ke:decide ((qu:Int)<=4096)=false:=by rw[Yj];omega
     go_wp2_with fail;go_ret;exact qzG.o true _ rfl hle
   ·have zaR:decide (qo<qu)=false:=Yu Jo;have hle:qu<=4096:=by have:=HOB.o.2;have:=HQO.o;omega
    have ke:decide ((qu:Int)<=4096)=true:=by rw[Yi];omega
    go_wp2_with fail;go_ret;exact Up.o false _ rfl hle (by rw[zaR];rfl)
def Ct(k:Int)(g:Jw):Prop:=k<1\/4<k\/Jr g≠0
def qcI(w':World)(o:Option Zu)(e:Ending):Prop :=
 match o with
 |none=>e=.returned (.tuple #[.slice none 0 0,.int .i64 21])
 |some s=>∃ A c,e=.returned (.tuple #[.slice A s.length c,.int .i64 0])/\Jb (Ro eW) w' w'.heap.size (.slice A s.length c) s/\Ds s
def qrA(k:Int)(g:Jw)(w:World)(e:Ending)(w':World):Prop :=
 Below w.heap.size w w'/\(Ct k g->e=.returned (.tuple #[.slice none 0 0,.int .i64 1]))/\(¬ Ct k g->∃ o,Fq k g.2.2 g.1.length o/\qcI w' o e)
theorem Ig{g:Jw}(h:Jr g=0):Vu g=true/\wD g/\wellE g.1.length g.2.1.length g.2.2=0:=by
 unfold Jr at h;cases hv:Vu g with
 |false=>rw[hv] at h;cases h
 |true=>rw[hv] at h;exact⟨rfl,Ka hv,h⟩
theorem eP{A1 A2 A3:Option Addr}{n m q c1 c2 c3:Nat}{g:Jw}(k:Int)(w:World)(h:Wz w w.heap.size A1 A2 A3 n m q c1 c2 c3 g) :
  Calls Tryz.prog 90 #[Nr A1 A2 A3 n m q c1 c2 c3,.int .i64 k] w (qrA k g w):=by
 have hb1:=(Xr w.heap.size w).alloc (Xz _) (.cells #[.slice A1 n c1,.slice A2 m c2,.slice A3 q c3] 25);have z1:=Xs w (.cells #[.slice A1 n c1,.slice A2 m c2,.slice A3 q c3] 25);have k1:=Xn w (.cells #[.slice A1 n c1,.slice A2 m c2,.slice A3 q c3] 25);have Zy:=(Xr _ (w.alloc (.cells #[.slice A1 n c1,.slice A2 m c2,.slice A3 q c3] 25))).alloc (Xz _) (.cells #[.int .i64 k] 3);have z2:=Xs (w.alloc (.cells #[.slice A1 n c1,.slice A2 m c2,.slice A3 q c3] 25)) (.cells #[.int .i64 k] 3);have k2:=Fo w (.cells #[.slice A1 n c1,.slice A2 m c2,.slice A3 q c3] 25) (.cells #[.int .i64 k] 3);have HB:=Lh (hb1.trans (Zy.mono (by rw[z1];omega)));have HZ:=Lh (z2.trans (by rw[z1]));have kh:=Lh ((Zy.block w.heap.size (by rw[z1];omega)).trans k1);have HKK:=Lh k2;have HV:=Lh (h.fut HB.o (Xz _) (Xz _));have HL:=Lh h.ln;have qE:=h.small;have c1':((w.alloc (.cells #[.slice A1 n c1,.slice A2 m c2,.slice A3 q c3] 25)).alloc (.cells #[.int .i64 k] 3)).cell? ⟨w.heap.size+1,0,none⟩=some (.int .i64 k):=Xc HKK.o rfl;have g0:((w.alloc (.cells #[.slice A1 n c1,.slice A2 m c2,.slice A3 q c3] 25)).alloc (.cells #[.int .i64 k] 3)).cell? ⟨w.heap.size,0,none⟩=some (.slice A1 n c1):=Xc kh.o rfl;have g1:((w.alloc (.cells #[.slice A1 n c1,.slice A2 m c2,.slice A3 q c3] 25)).alloc (.cells #[.int .i64 k] 3)).cell? ⟨w.heap.size,1,none⟩=some (.slice A2 m c2):=Xc kh.o rfl;have g2:((w.alloc (.cells #[.slice A1 n c1,.slice A2 m c2,.slice A3 q c3] 25)).alloc (.cells #[.int .i64 k] 3)).cell? ⟨w.heap.size,2,none⟩=some (.slice A3 q c3):=Xc kh.o rfl;clear h hb1 z1 k1 Zy z2 k2;by_cases jH:k<1
 ·have Mv:Hid (Ct k g):=.inl jH;go_enter Tryz.func90,Tryz.ntmps90;go_wp2_with fail
  go_step3
  go_wp2_with fail
  try rw[Exit.noGoto_ret]
  go_ret2
  exact⟨HB.o,fun _=>rfl,fun h=>absurd Mv.o h⟩
 by_cases Y_:4<k
 ·have Mv:Hid (Ct k g):=.inr (.inl Y_);go_enter Tryz.func90,Tryz.ntmps90;go_wp2_with fail
  go_step3
  go_wp2_with fail
  try rw[Exit.noGoto_ret]
  go_ret2
  exact⟨HB.o,fun _=>rfl,fun h=>absurd Mv.o h⟩
 obtain⟨kk,tv⟩:∃ kk:Nat,k=(kk:Int):=⟨k.toNat,by omega⟩;subst tv;have hkd1:decide ((kk:Int)<1)=false:=by rw[Yj];omega
 have hkd4:decide (4<(kk:Int))=false:=by rw[Yj];omega
 go_enter Tryz.func90,Tryz.ntmps90;go_wp2_with fail
 go_step3
 go_wp2_with fail;generalize (w.alloc (.cells #[.slice A1 n c1,.slice A2 m c2,.slice A3 q c3] 25)).alloc (.cells #[.int .i64 kk] 3)=w1 at *;refine (mM w1 (HV.o.fut (N:=w1.heap.size) (B':=w1.heap.size) (Xr _ _) (by rw[HZ.o];omega) (by rw[HZ.o];omega))).mono ?_;rintro e w2 ⟨rfl,Zy⟩;have HB2:=Lh (HB.o.trans (Zy.mono (by rw[HZ.o];omega)));have HB12:Hid (Below (w.heap.size+2) w1 w2):=Zy.mono (Yh HZ.o.symm);by_cases Vi:Jr g=0
 rotate_left
 ·have Mv:Hid (Ct kk g):=.inr (.inr Vi);have hcb:(Jr g==0)=false:=by rw[Yn];exact Vi
  clear Vi;go_wp2_with fail
  try rw[Exit.noGoto_ret]
  go_ret2
  exact⟨HB2.o,fun _=>rfl,fun h=>absurd Mv.o h⟩
 ·have zkY:Hid (¬ Ct kk g):=fun h=>by rcases h with h | h | h;omega;omega;exact h Vi
  have jn:=Lh (Ig Vi);rw[Vi];have zdL:=Lh ((HB12.o.block w.heap.size (by omega)).trans kh.o);have zdK:=Lh ((HB12.o.block (w.heap.size+1) (by omega)).trans HKK.o);have HZ2:=Lh (show w.heap.size+2<=w2.heap.size by have:=Zy.size;rw[HZ.o] at this;exact this);have HN:=Lh (show 1<=n/\n<=256 by have h1:=jn.o.2.1.n1;have h2:=jn.o.2.1.nm;have:=HL.o.1;omega);have g0:w2.cell? ⟨w.heap.size,0,none⟩=some (.slice A1 n c1):=Xc zdL.o rfl;have bA:=yY n (by have:=HN.o;omega) w2;have kH:=Lh (Xn w2 (.cells (List.replicate n (Value.slice none 0 0)).toArray 22));have La:=Lh (Xs w2 (.cells (List.replicate n (Value.slice none 0 0)).toArray 22));have HB3:=Lh ((Xr w2.heap.size w2).alloc (Xz _) (.cells (List.replicate n (Value.slice none 0 0)).toArray 22));obtain⟨w3,ka⟩:=Xe (w2.alloc (.cells (List.replicate n (Value.slice none 0 0)).toArray 22));rw[<-ka] at bA kH La HB3;obtain⟨gr,Co⟩:=Xe w2.heap.size;rw[<-Co] at bA kH La;have HGR:=Lh Co;clear Vi Zy ka Co;go_wp2_with fail
  go_step3
  go_wp2_with fail;have quA:(w3.alloc (.cells #[.slice (some ⟨gr,0,none⟩) n n] 76)).heap.size=w3.heap.size+1:=Xs _ _;have hb4:Below w3.heap.size w3 ((w3.alloc (.cells #[.slice (some ⟨gr,0,none⟩) n n] 76)).alloc (.cells #[.bool false] 4)):=((Xr _ _).alloc (Xz _) _).alloc (by rw[quA];omega) _;have hZ4:((w3.alloc (.cells #[.slice (some ⟨gr,0,none⟩) n n] 76)).alloc (.cells #[.bool false] 4)).heap.size=w3.heap.size+2:=by rw[Xs,quA]
  have hS4:((w3.alloc (.cells #[.slice (some ⟨gr,0,none⟩) n n] 76)).alloc (.cells #[.bool false] 4)).heap[w3.heap.size]? = some (.cells #[.slice (some ⟨gr,0,none⟩) n n] 76 (0,0)):=by
   rw[Zc _ _ _ (by rw[quA];omega)];exact Xn w3 _
  have hG4:=Fo w3 (.cells #[.slice (some ⟨gr,0,none⟩) n n] 76) (.cells #[.bool false] 4);have HST:=Lt (Rl ((w3.alloc (.cells #[.slice (some ⟨gr,0,none⟩) n n] 76)).alloc (.cells #[.bool false] 4)) gr w3.heap.size (w.heap.size+1) (w3.heap.size+1) (w3.heap.size+2) (w.heap.size+2) n kk (List.replicate n []) false) (by
   have ziA:=HGR.o
   have Fn:=HZ2.o
   have hz3:=La.o
   refine⟨Eh.start ((hb4.block gr (by rw[hz3];omega)).trans kH.o),by simp,Ds.replicate n,Ux.replicate n,hS4,(hb4.block _ (by rw[hz3];omega)).trans ((HB3.o.block _ (by omega)).trans zdK.o),hG4,by omega,by omega,by omega,by omega,by omega,by omega,by omega,by rw[hZ4];omega,by omega,by omega,by omega⟩)
  have HBW:Hid (Below (w.heap.size+2) w1 ((w3.alloc (.cells #[.slice (some ⟨gr,0,none⟩) n n] 76)).alloc (.cells #[.bool false] 4))):=(HB12.o.trans (HB3.o.mono HZ2.o)).trans (hb4.mono (by have:=La.o;have:=HGR.o;have:=HZ2.o;omega));have HS3:=Lh (show w.heap.size+2<=w3.heap.size by have:=La.o;have:=HGR.o;have:=HZ2.o;omega);clear quA hb4 hZ4 hS4 hG4 bA;obtain⟨s3,hs3⟩:=Xe w3.heap.size;rw[<-hs3] at HST HS3 |-;generalize (w3.alloc (.cells #[.slice (some ⟨gr,0,none⟩) n n] 76)).alloc (.cells #[.bool false] 4)=w4 at *;clear hs3;go_loopg [] (4096*n) (fun gas wr=>∃(sets:Zu)(b:Bool),Hid (Rl wr gr s3 (w.heap.size+1) (s3+1) (s3+2) (w.heap.size+2) n kk sets b)/\Hid (∀ o,RoundsTo (Mn kk g.2.2) sets o->Fq kk g.2.2 n o)/\Hid (4096*n<=gas+Sz sets)/\Hid (Below (w.heap.size+2) w1 wr));exact⟨List.replicate n [],false,HST.o,fun o h=>h,Nat.le_add_right _ _,HBW.o⟩;clear HST HBW g0;obtain⟨sets,b,HST,HRO,HGAS,HBW⟩:=hrel;obtain⟨gas,Ue⟩:=Xe gk;rw[<-Ue] at HGAS;have HGK:=Lh Ue;clear Ue;have cG:=Vo HST.o.bG;have fG:wr.frozen? ⟨s3+1,0,none⟩=false:=by simp[World.frozen?,HST.o.bG]
  have kg:=(HBW.o.block w.heap.size (by omega)).trans kh.o;have g0:wr.cell? ⟨w.heap.size,0,none⟩=some (.slice A1 n c1):=Xc kg rfl;have g2':wr.cell? ⟨w.heap.size,2,none⟩=some (.slice A3 q c3):=Xc kg rfl;have hne:w.heap.size≠s3+1:=by have:=HS3.o;omega
  have HST0:=Lh (HST.o.setG false);have HB0:Hid (Below (w.heap.size+2) w1 (wr.setCell ⟨s3+1,0,none⟩ (.bool false))):=Below.setCell (p:=⟨s3+1,0,none⟩) HBW.o (by show w.heap.size+2<=s3+1;have:=HS3.o;omega) _;clear kg;go_wp2_with fail;go_loopg [30] q (fun left v30 wt=>∃(j:Nat)(sets':Zu)(b':Bool),j<=q/\q - j<=left/\v30=.int .i64 j/\Hid (Rl wt gr s3 (w.heap.size+1) (s3+1) (s3+2) (w.heap.size+2) n kk sets' b')/\Hid (Mn kk g.2.2 sets=Fy kk (g.2.2.drop j) (sets',b'))/\Hid (Sz sets<=Sz sets'/\(b'=true->Sz sets<Sz sets'))/\Hid (Below (w.heap.size+2) w1 wt));exact⟨0,sets,false,by omega,by omega,rfl,HST0.o,rfl,⟨Xz _,fun h=>by cases h⟩,HB0.o⟩;clear HST0 HB0 cG fG g0 g2' HST HBW;obtain⟨j,sets',b',hj,Vt,rfl,HST,HRW,HTOT,HBW⟩:=hrel;by_cases be:j<q
  ·have Uh:j<g.2.2.length:=by rw[<-HL.o.2.2];exact be
   have wA:=Lh (HV.o.rules.below (HBW.o.mono (by omega)));obtain⟨bb,off,cs,rfl,_,cX,Zt,Zj⟩:=wA.o.get (k:=j) Uh (by decide);obtain⟨v,rfl,Uv,xR,pH⟩:=Jv Zt;obtain⟨A5,c5,rfl,Tc,fY⟩:=Uv.form;have Vi:=Zj 0 _ rfl;have hc1:=Zj 1 _ rfl;simp only[show Kx.size=2 from rfl,Yo,<-Yv] at Vi hc1;have jj:=Lh (show Mn kk g.2.2 sets=(Et kk sets' g.2.2[j]).bind fun t=>Fy kk (g.2.2.drop (j+1)) (t.1,b'||t.2) by rw[HRW.o,Ql Uh];rfl);have Es:=jn.o.2.1.fit _ (Qg Uh);obtain⟨r,hr⟩:=Xe (g.2.2[j]);rw[<-hr] at Vi hc1 jj Uv xR pH Tc Es;obtain⟨r1,r2⟩:=r;obtain⟨a,rfl⟩:∃ a:Nat,r1=(a:Int):=⟨r1.toNat,by have:=Es.1;simp only at this;omega⟩;simp only at Vi hc1 Uv Tc Es pH;obtain⟨ql,xV⟩:=Xe r2.length;rw[<-xV] at hc1 Uv Tc;have HQL:=Lh xV;have HSL:=Lh Uv;have han:a<n:=by have:=Es.2.1;have:=HL.o.1;omega
   clear Zj Zt hr xV Uv Uh HRW Es xR;go_wp2_with fail;have Wu:=(Xr wr.heap.size wr).alloc (Xz _) (.cells #[.int .i64 a,.slice A5 ql c5] 63);have HST1:=Lh (HST.o.below Wu);have HBX:=Lh Wu;have HWS:=Lh (show w.heap.size+2<=wr.heap.size by have:=HST.o.le;omega);refine (qgV _ gr s3 (w.heap.size+1) (s3+1) (s3+2) (w.heap.size+2) n kk w.heap.size sets' b' a r2 A5 ql c5 HST1.o (by omega) (by omega) han HN.o.2 HQL.o (HSL.o.below (HBX.o.mono (by have:=HWS.o;omega))) (by rw[Xs];have:=HWS.o;omega)).mono ?_;rintro e w6 ⟨hb6,he⟩;have HB6:=Lh (HBW.o.trans ((HBX.o.mono HWS.o).trans hb6));clear Wu hb6;cases ho:Et (kk:Int) sets' ((a:Int),r2) with
   |none =>
    rw[ho] at he;subst he;have zlO:=Lh (HRO.o none (.fail (by rw[jj.o,ho];rfl)));clear ho;go_wp2_with fail
    try rw[Exit.noGoto_ret]
    go_ret2
    exact⟨HB.o.trans (HB6.o.mono (by omega)),fun h=>absurd h zkY.o,fun _=>⟨none,by rw[<-HL.o.1];exact zlO.o,rfl⟩⟩
   |some t =>
    obtain⟨s',g'⟩:=t;rw[ho] at he;obtain⟨rfl,hst⟩:=he;have HST6:=Lh hst;have HRW6:=Lh (show Mn kk g.2.2 sets=Fy kk (g.2.2.drop (j+1)) (s',b'||g') by rw[jj.o,ho];rfl);have HTOT6:=Lh (show Sz sets<=Sz s'/\((b'||g')=true->Sz sets<Sz s') by
     obtain⟨_,_,_,t4,t5⟩:=qvM (by omega) HST.o.small HST.o.asc (by simp only[Yw];rw[HST.o.len];exact han) ho
     have h1:=HTOT.o
     refine⟨by omega,fun h=>?_⟩
     rw[Ys] at h
     rcases h with h | h
     ·have:=h1.2 h;omega
     ·have:=t5 h;omega)
    clear ho hst;go_wp2_with fail;go_roundg (gk - 1);exact⟨j+1,s',b'||g',by omega,by omega,by go_num,HST6.o,HRW6.o,HTOT6.o,HB6.o⟩;omega
  ·have zkJ:=Lh (show Mn kk g.2.2 sets=some (sets',b') by
    rw[HRW.o,show j=g.2.2.length by rw[<-HL.o.2.2];omega,List.drop_length];rfl)
   have cG:=Vo HST.o.bG;have cS:=Vo HST.o.bS;clear HRW;cases b' with
   |false =>
    have HFT:=Lh (HRO.o (some sets') (.done zkJ.o));have HSL:=Lh (HST.o.row.sl (by rw[HST.o.len];have:=HN.o;unfold maxLen;omega));go_wp2_with fail
    try rw[Exit.noGoto_ret]
    go_ret2
    refine⟨HB.o.trans (HBW.o.mono (by omega)),fun h=>absurd h zkY.o,fun _=>⟨some sets',by rw[<-HL.o.1];exact HFT.o,some ⟨gr,0,none⟩,sets'.length,?_,HSL.o,HST.o.small⟩⟩;rw[HST.o.len];rfl
   |true =>
    have HMORE:=Lh (fun(o:Option Zu)(h:RoundsTo (Mn kk g.2.2) sets' o)=>HRO.o o (.more zkJ.o h));have htl:=vd sets' HST.o.small;rw[HST.o.len] at htl;have HTL:=Lh htl;clear htl;go_wp2_with fail;go_roundg (gas - 1);exact⟨sets',true,HST.o,HMORE.o,(show 4096*n<=gas - 1+Sz sets' by have h2:=HTOT.o.2 trivial;have h4:=HGAS.o;omega),HBW.o⟩;have h1:=HGK.o;have h2:=HTOT.o.2 trivial;have h3:=HTL.o;have h4:=HGAS.o;omega
theorem Jb.dropI{w:World}{B:Nat}{A:Option Addr}{n c:Nat}{xs:List Int}(h:Jb Vh w B (.slice A n c) xs)(p:Nat)(hp:p<=n):Jb Vh w B (.slice (if c=p then A else A.map (·.add p)) (xs.drop p).length (c - p)) (xs.drop p):=by
 obtain⟨A',c',css,e,h1,h2,h3,h4,h5⟩:=h;injection e with e1 e2 e3;subst e1 e2 e3;have hfl:∀(cs:List (List Value)),(∀ x∈cs,x.length=1)->∀ q,(cs.drop q).flatten=cs.flatten.drop q:=by
  intro cs
  induction cs with
  |nil=>intro _ q;simp
  |cons x l ih =>
   intro hx q;cases q with
   |zero=>rfl
   |succ q =>
    rw[Xw,ih (fun y hy=>hx y (by simp[hy])) q,List.flatten_cons];have h1:=hx x (by simp);obtain⟨y,rfl⟩:=List.length_eq_one_iff.1 h1;rfl
 have xW:∀ x∈css,x.length=1:=Jb.lens (E:=Vh) h3 h5;have hlen:css.flatten.length=css.length:=by
  have:∀(cs:List (List Value)),(∀ x∈cs,x.length=1)->cs.flatten.length=cs.length:=by
   intro cs
   induction cs with
   |nil=>intro _;rfl
   |cons x l ih=>intro hx;rw[List.flatten_cons,Qe,ih (fun y hy=>hx y (by simp[hy])),hx x (by simp),Qu];omega
  exact this css xW
 refine⟨_,_,css.drop p,rfl,by rw[Xj];omega,by omega,by rw[Xj,Xj,h3],?_,fun i cs x hc hx=>?_⟩
 ·rw[hfl css xW p];exact h4.drop_ p (fun Jo=>by omega)
 ·rw[List.getElem?_drop] at hc hx;exact h5 _ cs x hc hx
def qiU(w:World)(o:Option (List Wd))(e:Ending)(w':World):Prop :=
 Below w.heap.size w w'/\match o with
 |none=>e=.returned (.tuple #[.slice none 0 0,.bool false])
 |some x=>∃ v,e=.returned (.tuple #[v,.bool true])/\w'.ownsRow w.heap.size 9 1 v x.length (Zp x)
theorem uZ(A1 A2 A:Option Addr)(c1 c2 c q n n2 k a p:Nat)(sets fol:Zu)(r:List Int)(w:World)(jH:1<=k)(oJ:k<=4)(h1:Jb (Ro eW) w w.heap.size (.slice A1 n c1) sets)(h2:Jb (Ro eW) w w.heap.size (.slice A2 n2 c2) fol)(hr:Jb Vh w w.heap.size (.slice A q c) r)(hq:q<=64)(hp:p<=q)(ha:a<n2)(hs:qcG sets)(hf:qcG fol) :
  Calls Tryz.prog 91 #[.slice A1 n c1,.slice A2 n2 c2,.int .i64 k,zD a A q c,.int .i64 ((p:Int) - 1)] w (qiU w (Kg sets fol k ((a:Int),r) ((p:Int) - 1))):=by
 have hqn:=hr.n_eq;have xY:=h1.n_eq;have zhJ:=h2.n_eq;have Wu:=(Xr w.heap.size w).alloc (Xz _) (.cells #[.int .i64 a,.slice A q c] 63);have HW:Hid (Kg sets fol k ((a:Int),r) ((p:Int) - 1)=(lM sets k (r.drop p)).bind fun x=>Eb k x (fol.getD a [])):=by
  show _=_;unfold Kg;simp only;rw[if_neg (by omega),show (((p:Int) - 1)+1).toNat=p by omega,Yw]
 have hof:=oP A1 (if c=p then A else A.map (·.add p)) c1 (c - p) k sets (r.drop p) (w.alloc (.cells #[.int .i64 a,.slice A q c] 63)) jH oJ (by rw[<-xY];exact h1.fut Wu (Xz _) Wu.size) ((hr.fut Wu (Xz _) Wu.size).dropI p hp) hs
 rw[<-xY,Xj,<-hqn] at hof;have mY:=Lh hof;have zlN:=Lh h2;have HF:=Lh hf;have HBX:=Lh Wu;have HZ:=Lh (Xs w (.cells #[.int .i64 a,.slice A q c] 63));have HK:=Lh (Xn w (.cells #[.int .i64 a,.slice A q c] 63));have Ci:=Lh zhJ;have hcq:=hr.n_le;have iB:decide (((p:Int) - 1) < -1)=false:=by rw[Yj];omega
 have jJ:decide ((q:Int)<=(p:Int) - 1)=false:=by rw[Yj];omega
 have hd3:decide ((a:Int)<0)=false:=by rw[Yj];omega
 have hd4:decide ((n2:Int)<=(a:Int))=false:=by rw[Yj];omega
 have hpp:((p:Int) - 1)+1=p:=by omega
 clear h1 h2 hr hs hf Wu hof hqn xY zhJ;by_cases hcp:c=p
 ·rw[if_pos hcp] at mY;have Vi:c - p=0:=by omega
  have hq0:q - p=0:=by omega
  rw[Vi,hq0] at mY;clear Vi hq0;subst hcp;go_enter Tryz.func91,Tryz.ntmps91;go_wp2_with fail;generalize w.alloc (.cells #[.int .i64 a,.slice A q c] 63)=w1 at *;refine mY.o.mono ?_;rintro e w2 ⟨Zy,he⟩;have HB2:=Lh (HBX.o.trans (Zy.mono (by rw[HZ.o];omega)));have HK2:=Lh ((Zy.block w.heap.size (by rw[HZ.o];omega)).trans HK.o);clear Zy mY;cases ho:lM sets (k:Int) (r.drop c) with
  |none =>
   rw[ho] at he;subst he;have HN:=Lh (show Kg sets fol k ((a:Int),r) ((c:Int) - 1)=none by rw[HW.o,ho];rfl);clear ho;go_wp2_with fail
   go_ret2
   refine⟨HB2.o,?_⟩;rw[HN.o];rfl
  |some x =>
   rw[ho] at he;obtain⟨Ax,cx,rfl,Ld⟩:=he;have HX:=Lh (qaY oJ ho);have HWX:=Lh (show Kg sets fol k ((a:Int),r) ((c:Int) - 1)=Eb k x (fol.getD a []) by rw[HW.o,ho];rfl);have qP:=Lh Ld;have Tq:a<fol.length:=by rw[<-Ci.o];exact ha
   obtain⟨b,off,A9,c9,rfl,_,cX,Zj,Uv,h5,h6⟩:=(zlN.o.fut HB2.o (Xz _) HB2.o.size).row1 Tq;have HFS:=Lh (HF.o a _ (Qa Tq));have kG:=Lh (show fol.getD a []=fol[a] by rw[Qb,Qa Tq];rfl);obtain⟨f,hf⟩:=Xe (fol[a]);rw[<-hf] at Zj Uv h5 HFS kG;have pL:=aJ k Ax A9 cx c9 x f w2 jH oJ qP.o Uv HX.o.1 HFS.o.1 (by
    have e1:=HX.o.2;have e2:=HFS.o.2
    exact Ya (Nat.mul_le_mul e1 e2) (by decide))
   obtain⟨qx,pq⟩:=Xe x.length;obtain⟨qf,hqf⟩:=Xe f.length;rw[<-pq,<-hqf] at pL;rw[<-pq];rw[<-hqf] at Zj h5;have zdU:=Lh pL;have c0:w2.cell? ⟨w.heap.size,0,none⟩=some (.int .i64 a):=Xc HK2.o rfl;clear ho Ld Tq Uv hf pq hqf pL;go_wp2_with fail;refine zdU.o.mono ?_;rintro e w3 ⟨hb3,he⟩;have HB3:=Lh (HB2.o.trans (hb3.mono HB2.o.size));rw[kG.o] at HWX;clear hb3;cases h2:Eb (k:Int) x f with
   |none =>
    rw[h2] at he;subst he;have HN:=Lh (show Kg sets fol k ((a:Int),r) ((c:Int) - 1)=none by rw[HWX.o,h2]);clear h2;go_wp2_with fail
    go_ret2
    refine⟨HB3.o,?_⟩;rw[HN.o];rfl
   |some z =>
    rw[h2] at he;obtain⟨v,rfl,hown⟩:=he;have HS:=Lh (show Kg sets fol k ((a:Int),r) ((c:Int) - 1)=some z by rw[HWX.o,h2]);have HO:=Lh (Nc hown HB2.o.size);obtain⟨A8,c8,rfl,_,_⟩:=Zk hown;clear h2 hown;go_wp2_with fail
    go_ret2
    refine⟨HB3.o,?_⟩;rw[HS.o];exact⟨_,rfl,HO.o⟩
 ·rw[if_neg hcp] at mY;go_enter Tryz.func91,Tryz.ntmps91;go_wp2_with fail;generalize w.alloc (.cells #[.int .i64 a,.slice A q c] 63)=w1 at *;refine mY.o.mono ?_;rintro e w2 ⟨Zy,he⟩;have HB2:=Lh (HBX.o.trans (Zy.mono (by rw[HZ.o];omega)));have HK2:=Lh ((Zy.block w.heap.size (by rw[HZ.o];omega)).trans HK.o);clear Zy mY;cases ho:lM sets (k:Int) (r.drop p) with
  |none =>
   rw[ho] at he;subst he;have HN:=Lh (show Kg sets fol k ((a:Int),r) ((p:Int) - 1)=none by rw[HW.o,ho];rfl);clear ho;go_wp2_with fail
   go_ret2
   refine⟨HB2.o,?_⟩;rw[HN.o];rfl
  |some x =>
   rw[ho] at he;obtain⟨Ax,cx,rfl,Ld⟩:=he;have HX:=Lh (qaY oJ ho);have HWX:=Lh (show Kg sets fol k ((a:Int),r) ((p:Int) - 1)=Eb k x (fol.getD a []) by rw[HW.o,ho];rfl);have qP:=Lh Ld;have Tq:a<fol.length:=by rw[<-Ci.o];exact ha
   obtain⟨b,off,A9,c9,rfl,_,cX,Zj,Uv,h5,h6⟩:=(zlN.o.fut HB2.o (Xz _) HB2.o.size).row1 Tq;have HFS:=Lh (HF.o a _ (Qa Tq));have kG:=Lh (show fol.getD a []=fol[a] by rw[Qb,Qa Tq];rfl);obtain⟨f,hf⟩:=Xe (fol[a]);rw[<-hf] at Zj Uv h5 HFS kG;have pL:=aJ k Ax A9 cx c9 x f w2 jH oJ qP.o Uv HX.o.1 HFS.o.1 (by
    have e1:=HX.o.2;have e2:=HFS.o.2
    exact Ya (Nat.mul_le_mul e1 e2) (by decide))
   obtain⟨qx,pq⟩:=Xe x.length;obtain⟨qf,hqf⟩:=Xe f.length;rw[<-pq,<-hqf] at pL;rw[<-pq];rw[<-hqf] at Zj h5;have zdU:=Lh pL;have c0:w2.cell? ⟨w.heap.size,0,none⟩=some (.int .i64 a):=Xc HK2.o rfl;clear ho Ld Tq Uv hf pq hqf pL;go_wp2_with fail;refine zdU.o.mono ?_;rintro e w3 ⟨hb3,he⟩;have HB3:=Lh (HB2.o.trans (hb3.mono HB2.o.size));rw[kG.o] at HWX;clear hb3;cases h2:Eb (k:Int) x f with
   |none =>
    rw[h2] at he;subst he;have HN:=Lh (show Kg sets fol k ((a:Int),r) ((p:Int) - 1)=none by rw[HWX.o,h2]);clear h2;go_wp2_with fail
    go_ret2
    refine⟨HB3.o,?_⟩;rw[HN.o];rfl
   |some z =>
    rw[h2] at he;obtain⟨v,rfl,hown⟩:=he;have HS:=Lh (show Kg sets fol k ((a:Int),r) ((p:Int) - 1)=some z by rw[HWX.o,h2]);have HO:=Lh (Nc hown HB2.o.size);obtain⟨A8,c8,rfl,_,_⟩:=Zk hown;clear h2 hown;go_wp2_with fail
    go_ret2
    refine⟨HB3.o,?_⟩;rw[HS.o];exact⟨_,rfl,HO.o⟩
def oX(M:Nat)(s:Zu):Prop:=∀(i:Nat)(x:List Wd),s[i]? = some x->Dj x/\x.length<=M
theorem oX.mono{M M':Nat}{s:Zu}(h:oX M s)(hM:M<=M'):oX M' s:=fun i x hx=>⟨(h i x hx).1,Ya (h i x hx).2 hM⟩
theorem oX.set{M:Nat}{s:Zu}(h:oX M s)(a:Nat){u:List Wd}(hu:Dj u/\u.length<=M):oX M (s.set a u):=by
 intro b y hy;rw[Xu] at hy;split at hy
 ·split at hy
  ·injection hy with hy;subst hy;exact hu
  ·cases hy
 ·exact h b y hy
structure wE where
 g:Nat
 SB:Nat
 FB:Nat
 KB:Nat
 LB:Nat
 GB:Nat
 lo:Nat
 e0:Nat
 C:Nat
 N0:Nat
 A1:Option Addr
 n1:Nat
 c1:Nat
 n:Nat
structure Fj(a:wE)(k:Nat)(sets:Zu)(w:World)(p:El)(M:Nat):Prop where
 row:Eh 22 a.g a.lo a.e0 w p.fol
 len:p.fol.length=a.n
 small:oX M p.fol
 asc:Ux p.fol
 bS:w.heap[a.SB]? = some (.cells #[.slice a.A1 a.n1 a.c1] 76 (0,0))
 bF:w.heap[a.FB]? = some (.cells #[.slice (some ⟨a.g,0,none⟩) a.n a.n] 76 (0,0))
 bK:w.heap[a.KB]? = some (.cells #[.int .i64 k] 3 (0,0))
 bL:w.heap[a.LB]? = some (.cells #[.bool p.limit] 4 (0,0))
 bG:w.heap[a.GB]? = some (.cells #[.bool p.grown] 4 (0,0))
 sets:Jb (Ro eW) w a.N0 (.slice a.A1 a.n1 a.c1) sets
 le:(a.C<=a.g/\a.C<=a.FB/\a.C<=a.LB/\a.C<=a.GB/\a.SB<a.C/\a.KB<a.C/\a.N0<=a.C)/\(a.g<a.lo/\a.FB<a.lo/\a.LB<a.lo/\a.GB<a.lo/\a.lo<=w.heap.size)/\(a.g≠a.e0/\a.FB≠a.e0/\a.LB≠a.e0/\a.GB≠a.e0)/\(a.g≠a.FB/\a.g≠a.LB/\a.g≠a.GB/\a.FB≠a.LB/\a.FB≠a.GB/\a.LB≠a.GB)
theorem Fj.below{a:wE}{k:Nat}{sets:Zu}{w w':World}{p:El}{M:Nat}(h:Fj a k sets w p M)(hb:Below w.heap.size w w'):Fj a k sets w' p M:=by
 obtain⟨⟨l1,l2,l3,l4,l5,l6,l7⟩,⟨m1,m2,m3,m4,m5⟩,l8,l9⟩:=h.le;exact⟨h.row.below hb,h.len,h.small,h.asc,(hb.block _ (by omega)).trans h.bS,(hb.block _ (by omega)).trans h.bF,(hb.block _ (by omega)).trans h.bK,(hb.block _ (by omega)).trans h.bL,(hb.block _ (by omega)).trans h.bG,h.sets.below (hb.mono (by omega)),⟨l1,l2,l3,l4,l5,l6,l7⟩,⟨m1,m2,m3,m4,Ya m5 hb.size⟩,l8,l9⟩
theorem Fj.setL{a:wE}{k:Nat}{sets:Zu}{w:World}{p:El}{M:Nat}(h:Fj a k sets w p M)(b:Bool):Fj a k sets (w.setCell ⟨a.LB,0,none⟩ (.bool b)) ⟨p.fol,p.grown,b⟩ M:=by
 obtain⟨⟨l1,l2,l3,l4,l5,l6,l7⟩,⟨m1,m2,m3,m4,m5⟩,⟨o1,o2,o3,o4⟩,⟨d1,d2,d3,d4,d5,d6⟩⟩:=h.le;have hk:∀ j,j≠a.LB->(w.setCell ⟨a.LB,0,none⟩ (.bool b)).heap[j]? = w.heap[j]? := fun j hj=>Zb _ _ _ _ hj;have qg:Below a.N0 w (w.setCell ⟨a.LB,0,none⟩ (.bool b)):=Below.setCell (p:=⟨a.LB,0,none⟩) (Xr _ _) (by show a.N0<=a.LB;omega) _;exact⟨h.row.other _ d2 m3 o3,h.len,h.small,h.asc,(hk _ (by omega)).trans h.bS,(hk _ d4).trans h.bF,(hk _ (by omega)).trans h.bK,ir h.bL,(hk _ (fun e=>d6 e.symm)).trans h.bG,h.sets.below qg,⟨l1,l2,l3,l4,l5,l6,l7⟩,⟨m1,m2,m3,m4,by simpa[World.setCell] using m5⟩,⟨o1,o2,o3,o4⟩,⟨d1,d2,d3,d4,d5,d6⟩⟩
theorem Fj.setG{a:wE}{k:Nat}{sets:Zu}{w:World}{p:El}{M:Nat}(h:Fj a k sets w p M)(b:Bool):Fj a k sets (w.setCell ⟨a.GB,0,none⟩ (.bool b)) ⟨p.fol,b,p.limit⟩ M:=by
 obtain⟨⟨l1,l2,l3,l4,l5,l6,l7⟩,⟨m1,m2,m3,m4,m5⟩,⟨o1,o2,o3,o4⟩,⟨d1,d2,d3,d4,d5,d6⟩⟩:=h.le;have hk:∀ j,j≠a.GB->(w.setCell ⟨a.GB,0,none⟩ (.bool b)).heap[j]? = w.heap[j]? := fun j hj=>Zb _ _ _ _ hj;have qg:Below a.N0 w (w.setCell ⟨a.GB,0,none⟩ (.bool b)):=Below.setCell (p:=⟨a.GB,0,none⟩) (Xr _ _) (by show a.N0<=a.GB;omega) _;exact⟨h.row.other _ d3 m4 o4,h.len,h.small,h.asc,(hk _ (by omega)).trans h.bS,(hk _ d5).trans h.bF,(hk _ (by omega)).trans h.bK,(hk _ d6).trans h.bL,ir h.bG,h.sets.below qg,⟨l1,l2,l3,l4,l5,l6,l7⟩,⟨m1,m2,m3,m4,by simpa[World.setCell] using m5⟩,⟨o1,o2,o3,o4⟩,⟨d1,d2,d3,d4,d5,d6⟩⟩
theorem Fj.setRow{a:wE}{k:Nat}{sets:Zu}{w:World}{p:El}{M M':Nat}(h:Fj a k sets w p M){s:Nat}{v:Value}{u:List Wd}(hv:Hi a.lo a.e0 w v u)(hu:Dj u/\u.length<=M')(ha:pW u)(hM:M<=M'):Fj a k sets (w.setCell ⟨a.g,s,none⟩ v) ⟨p.fol.set s u,p.grown,p.limit⟩ M':=by
 obtain⟨⟨l1,l2,l3,l4,l5,l6,l7⟩,⟨m1,m2,m3,m4,m5⟩,⟨o1,o2,o3,o4⟩,⟨d1,d2,d3,d4,d5,d6⟩⟩:=h.le;have hk:∀ j,j≠a.g->(w.setCell ⟨a.g,s,none⟩ v).heap[j]? = w.heap[j]? := fun j hj=>Zb _ _ _ _ hj;have qg:Below a.N0 w (w.setCell ⟨a.g,s,none⟩ v):=Below.setCell (p:=⟨a.g,s,none⟩) (Xr _ _) (by show a.N0<=a.g;omega) _;exact⟨h.row.set m1 o1 hv,by rw[Qm];exact h.len,(h.small.mono hM).set s hu,h.asc.set s ha,(hk _ (by omega)).trans h.bS,(hk _ (fun e=>d1 e.symm)).trans h.bF,(hk _ (by omega)).trans h.bK,(hk _ (fun e=>d2 e.symm)).trans h.bL,(hk _ (fun e=>d3 e.symm)).trans h.bG,h.sets.below qg,⟨l1,l2,l3,l4,l5,l6,l7⟩,⟨m1,m2,m3,m4,by simpa[World.setCell] using m5⟩,⟨o1,o2,o3,o4⟩,⟨d1,d2,d3,d4,d5,d6⟩⟩
structure Ht(a:wE)(w w':World):Prop where
 os:w'.os=w.os
 tape:w'.tape=w.tape
 output:w'.output=w.output
 size:w.heap.size<=w'.heap.size
 block:∀ b,b<w.heap.size->b≠a.g->b≠a.LB->b≠a.GB->w'.heap[b]? = w.heap[b]?
theorem Ht.of_below{a:wE}{w w':World}(h:Below w.heap.size w w'):Ht a w w':=⟨h.os,h.tape,h.output,h.size,fun b hb _ _ _=>h.block b hb⟩
theorem Ht.set{a:wE}{w w':World}(h:Ht a w w'){p:Addr}(v:Value)(hp:p.block=a.g\/p.block=a.LB\/p.block=a.GB):Ht a w (w'.setCell p v) :=
 ⟨h.os,h.tape,h.output,by simpa[World.setCell] using h.size,fun b hb h1 h2 h3=>(Zb _ _ _ _ (by rcases hp with e | e | e <;> rw[e] <;> assumption)).trans (h.block b hb h1 h2 h3)⟩
theorem Ht.below{a:wE}{w w':World}{C:Nat}(h:Ht a w w')(hc:C<=w.heap.size)(h1:C<=a.g)(h2:C<=a.LB)(h3:C<=a.GB):Below C w w':=⟨h.os,h.tape,h.output,h.size,fun b hb=>h.block b (by omega) (by omega) (by omega) (by omega)⟩
theorem vu(a:wE)(k M N la at_:Nat)(sets:Zu)(w:World)(p:El)(r:List Int)(A:Option Addr)(q c:Nat)(h:Fj a k sets w p M)(hB:Ds sets)(jH:1<=k)(oJ:k<=4)(hla:la<a.n)(hn:a.n<=256)(hq:q=r.length)(tt:q<=64)(qi:at_<q)(Es:∀ s∈r,s<(a.n:Int))(hr:Jb Vh w N (.slice A q c) r)(hN:N<=w.heap.size)(hM:M<=549755813888) :
  Calls Tryz.prog 143 #[zD la A q c,.int .i64 at_,.pointer (some ⟨a.SB,0,none⟩),.pointer (some ⟨a.FB,0,none⟩),.pointer (some ⟨a.KB,0,none⟩),.pointer (some ⟨a.LB,0,none⟩),.pointer (some ⟨a.GB,0,none⟩)] w fun e w'=>e=.returned (.tuple #[])/\Fj a k sets w' (Vr sets k ((la:Int),r) at_ p) (M+4096)/\Ht a w w':=by
 have Wu:=(Xr w.heap.size w).alloc (Xz _) (.cells #[.int .i64 la,.slice A q c] 63);have lZ:=h.below Wu;have HZ:=Lh (Xs w (.cells #[.int .i64 la,.slice A q c] 63));have HK:=Lh (Xn w (.cells #[.int .i64 la,.slice A q c] 63));have HH:=Lh h;have HBX:=Lh Wu;have hcw:a.C<=w.heap.size:=by have:=h.le;omega
 have D_:=uZ a.A1 (some ⟨a.g,0,none⟩) A a.c1 a.n c q a.n1 a.n k la (at_+1) sets p.fol r (w.alloc (.cells #[.int .i64 la,.slice A q c] 63)) jH oJ (lZ.sets.more (by rw[HZ.o];have:=h.le;omega)) (by have:=lZ.row.sl (by rw[h.len];unfold maxLen;omega);rw[h.len] at this;exact this) (hr.fut Wu hN (by rw[HZ.o];omega)) tt (by omega) hla (fun i x hx=>by have:=hB i x hx;exact⟨this.1,by omega⟩) (fun i x hx=>by have:=h.small i x hx;exact⟨this.1,by omega⟩);rw[show (((at_+1:Nat):Int) - 1)=(at_:Int) by omega] at D_;have zlZ:=Lh D_;have H1:=Lh lZ;have HR:=Lh (hr.fut Wu hN (Xz _));have HRL:=Lh hq;have Az:=Lh Es;have cS:=Vo lZ.bS;have cF:=Vo lZ.bF;have cK:=Vo lZ.bK;have b0:(w.alloc (.cells #[.int .i64 la,.slice A q c] 63)).cell? ⟨w.heap.size,0,none⟩=some (.int .i64 la):=Xc HK.o rfl;have b1:(w.alloc (.cells #[.int .i64 la,.slice A q c] 63)).cell? ⟨w.heap.size,1,none⟩=some (.slice A q c):=Xc HK.o rfl;have ls1:a.SB<w.heap.size:=(gl h.bS);have ls2:a.FB<w.heap.size:=(gl h.bF);have ls3:a.KB<w.heap.size:=(gl h.bK);have dS:=Vo h.bS;have dF:=Vo h.bF;have dK:=Vo h.bK;clear h Wu lZ D_ hr hq Es cS cF cK b0 b1;go_enter Tryz.func143,Tryz.ntmps143;go_wp2_with fail;clear dS dF dK ls1 ls2 ls3;generalize w.alloc (.cells #[.int .i64 la,.slice A q c] 63)=w1 at *;refine zlZ.o.mono ?_;rintro e w2 ⟨Zy,he⟩;have HB2:=Lh (HBX.o.trans (Zy.mono (by rw[HZ.o];omega)));have HST2:=Lh (H1.o.below Zy);have HK2:=Lh ((Zy.block w.heap.size (by rw[HZ.o];omega)).trans HK.o);obtain⟨o,ho⟩:=Xe (Kg sets p.fol k ((la:Int),r) at_);rw[<-ho] at he;have HO:=Lh ho;have HR2:=Lh (HR.o.below (Zy.mono (by rw[HZ.o];omega)));clear Zy zlZ ho;have b0:w2.cell? ⟨w.heap.size,0,none⟩=some (.int .i64 la):=Xc HK2.o rfl;have b1:w2.cell? ⟨w.heap.size,1,none⟩=some (.slice A q c):=Xc HK2.o rfl;cases o with
 |none =>
  simp only at he;subst he;have cL:=Vo HST2.o.bL;have fL:w2.frozen? ⟨a.LB,0,none⟩=false:=by simp[World.frozen?,HST2.o.bL]
  have HS3:=Lh (HST2.o.setL true);have HSP:=Lh (show Vr sets k ((la:Int),r) at_ p=⟨p.fol,p.grown,true⟩ by unfold Vr;rw[<-HO.o]);go_wp2_with fail;refine Ze (results_none rfl _ _ _) rfl ?_;refine⟨rfl,?_,(Ht.of_below HB2.o).set (p:=⟨a.LB,0,none⟩) _ (.inr (.inl rfl))⟩;rw[HSP.o];obtain⟨f1,f2,f3,f4,f5,f6,f7,f8,f9,f10,f11⟩:=HS3.o;exact⟨f1,f2,f3.mono (by omega),f4,f5,f6,f7,f8,f9,f10,f11⟩
 |some x =>
  simp only at he;obtain⟨v,rfl,hown⟩:=he;have qvH:at_<r.length:=by rw[<-HRL.o];exact qi
  obtain⟨b,off,cs,rfl,_,cX,Zt,Zj⟩:=HR2.o.get (k:=at_) qvH (by decide);obtain⟨rfl,Ta,Hn⟩:=Zt;have Vi:=Zj 0 _ rfl;simp only[show Vh.size=1 from rfl,Yq,Yo] at Vi;have kG:=Lh (show r.getD at_ 0=r[at_] by rw[Qb,Qa qvH];rfl);have hsn:=Az.o _ (Qg qvH);obtain⟨s,hs⟩:=Xe (r[at_]);rw[<-hs] at Vi Ta Hn kG hsn;clear Zj hs qvH;have HX:=Lh (show Dj x/\x.length<=4096 by
   have:=HO.o
   unfold Kg at this
   split at this
   ·cases this
   ·cases h1:lM sets k (((la:Int),r).2.drop ((at_:Int)+1).toNat) with
    |none=>rw[h1] at this;cases this
    |some y=>rw[h1] at this;exact e_ oJ this.symm)
  have HOW:=Lh hown;obtain⟨Ax,cx,rfl,hx5,hx6⟩:=Zk hown;obtain⟨qx,pq⟩:=Xe x.length;rw[<-pq] at HOW hx5 |-;have HQX:=Lh pq;clear hown pq;by_cases wI:s<0
  ·have hd:decide (s<0)=true:=by simpa using wI
   have HSP:=Lh (show Vr sets k ((la:Int),r) at_ p=p by unfold Vr;rw[<-HO.o];simp only;rw[kG.o,if_pos wI]);go_wp2_with fail;refine (Zz s _).mono ?_;rintro e w5 ⟨rfl,rfl⟩;rw[hd];go_wp2_with fail
   go_end0
   refine⟨rfl,?_,Ht.of_below HB2.o⟩;rw[HSP.o];obtain⟨f1,f2,f3,f4,f5,f6,f7,f8,f9,f10,f11⟩:=HST2.o;exact⟨f1,f2,f3.mono (by omega),f4,f5,f6,f7,f8,f9,f10,f11⟩
  ·have hd:decide (s<0)=false:=by simpa using wI
   obtain⟨t,rfl⟩:∃ t:Nat,s=(t:Int):=⟨s.toNat,by omega⟩;have htn:t<a.n:=by omega
   have htl:t<p.fol.length:=by rw[HH.o.len];exact htn
   obtain⟨Ao,co,hco,ft,ho2,hhi,hfz⟩:=HST2.o.row.get htl;have tg:=Lh (show p.fol.getD t []=p.fol[t] by rw[Qb,Qa htl];rfl);have HOB:=Lh (HH.o.small t _ (Qa htl));obtain⟨old,hold⟩:=Xe (p.fol[t]);rw[<-hold] at hco ft hhi tg HOB;obtain⟨qo,hqo⟩:=Xe old.length;rw[<-hqo] at hco ft hhi;have HHI:=Lh hhi;have HQO:=Lh hqo;have HSP:=Lh (show Vr sets k ((la:Int),r) at_ p=⟨p.fol.set t (Kt old x),p.grown||decide (qo<(Kt old x).length),p.limit||decide (4096<(Kt old x).length)⟩ by
    unfold Vr
    rw[<-HO.o]
    simp only
    rw[kG.o,if_neg wI]
    simp only[Yw,tg.o,HQO.o])
   have cF:=Vo HST2.o.bF;have lF:=(gl HST2.o.bF);have lL:=(gl HST2.o.bL);have lG:=(gl HST2.o.bG);have lg:=HST2.o.row.lt;have lb:=(gl HK2.o);clear hold hqo hhi htl;go_wp2_with fail;refine (Zz _ _).mono ?_;rintro e w5 ⟨rfl,rfl⟩;rw[hd];go_wp2_with fail;have hb3:=(Xr w2.heap.size w2).alloc (Xz _) (.cells #[.slice Ao qo co,.slice Ax qx cx] 22);have qmZ:=HST2.o.below hb3;have hk3:=Xn w2 (.cells #[.slice Ao qo co,.slice Ax qx cx] 22);have Ld:Jb eW w2 w2.heap.size (.slice Ax qx cx) x:=Tz (Pl HX.o.1) (by have:=HOW.o;rw[HQX.o] at this |-;exact this);have HU:=Lh (yT (some ⟨w2.heap.size,0,none⟩) 2 old x (w2.alloc (.cells #[.slice Ao qo co,.slice Ax qx cx] 22)) (qaP hk3 (HHI.o.sl.fut hb3 (Xz _) hb3.size) (Ld.fut hb3 (Xz _) hb3.size)) (by have:=HOB.o.2;have:=HX.o.2;omega));have HB3:=Lh hb3;have vZ:=Lh qmZ;clear hb3 qmZ hk3 Ld cF hco hfz lF lL lG lg lb b0 b1 Vi;generalize w2.alloc (.cells #[.slice Ao qo co,.slice Ax qx cx] 22)=w3 at *;refine HU.o.mono ?_;rintro e w4 ⟨v4,rfl,hown,hb4⟩;have Cs:=Lh (vZ.o.below hb4);have qxB:=Lh (HB3.o.trans (hb4.mono HB3.o.size));have HB4:=Lh ((HB2.o.trans (qxB.o.mono HB2.o.size)));have jh:Hid (Dj (Kt old x)):=Cx HOB.o.1 HX.o.1;have eK:w4.ownsRow w3.heap.size 9 1 v4 (Kt old x).length (Zp (Kt old x)):=hown;have HHU:=Lh (Hi.own (lo:=a.lo) (e0:=a.e0) (Pl jh.o) eK (.inl (by have:=vZ.o.le;omega)));obtain⟨A4,c4,rfl,ud,h42⟩:=Zk eK;have tf:=Lh (show (Kt old x).length<=M+4096 by
    have:=rR (old++x)
    rw[Qe] at this
    have h1:=HOB.o.2
    have h2:=HX.o.2
    unfold Kt
    omega)
   have HUA:=Lh (Fu old x);obtain⟨u,hu⟩:=Xe (Kt old x);rw[<-hu] at HSP jh HHU ud tf HUA;rw[<-hu];clear hown eK hb4 HU hu;obtain⟨qu,hqu⟩:=Xe u.length;rw[<-hqu] at HSP HHU ud tf |-;have HQU:=Lh hqu;clear hqu;have zrD:(qu:Int)<=549755818000:=by have:=tf.o;omega
   have htl:t<p.fol.length:=by rw[HH.o.len];exact htn
   obtain⟨Ao',co',zbB,qgD,zrK,zaZ,zsJ⟩:=Cs.o.row.get htl;have pt:p.fol[t].length=qo:=by
    have:=tg.o;rw[Qb,Qa htl] at this;rw[HQO.o,<-this];rfl
   rw[pt] at zbB qgD;have cF:=Vo Cs.o.bF;have cG:=Vo Cs.o.bG;have cL:=Vo Cs.o.bL;have fG:w4.frozen? ⟨a.GB,0,none⟩=false:=by simp[World.frozen?,Cs.o.bG]
   have fL:w4.frozen? ⟨a.LB,0,none⟩=false:=by simp[World.frozen?,Cs.o.bL]
   obtain⟨⟨l1,l2,l3,l4,l5,l6,l7⟩,⟨m1,m2,m3,m4,m5⟩,⟨o1,o2,o3,o4⟩,⟨d1,d2,d3,d4,d5,d6⟩⟩:=Cs.o.le;have Up:Hid (∀(bg bl:Bool)(w6:World),w6=((w4.setCell ⟨a.GB,0,none⟩ (.bool bg)).setCell ⟨a.LB,0,none⟩ (.bool bl)).setCell ⟨a.g,t,none⟩ (.slice A4 qu c4)->bg=(p.grown||decide (qo<qu))->bl=(p.limit||decide (4096<qu))->Fj a k sets w6 (Vr sets k ((la:Int),r) at_ p) (M+4096)/\Ht a w w6):=by
    rintro bg bl w6 rfl rfl rfl;rw[HSP.o];have s1:=(Cs.o.setG (p.grown||decide (qo<qu))).setL (p.limit||decide (4096<qu));have oI:Hi a.lo a.e0 ((w4.setCell ⟨a.GB,0,none⟩ (.bool (p.grown||decide (qo<qu)))).setCell ⟨a.LB,0,none⟩ (.bool (p.limit||decide (4096<qu)))) (.slice A4 qu c4) u:=by
     refine HHU.o.keep (by simp[World.setCell]) fun z hz _=>?_;rw[World.cell?_of_block (Zb _ _ _ _ (by show z.block≠a.LB;rcases hz with hz | hz <;> omega)),World.cell?_of_block (Zb _ _ _ _ (by show z.block≠a.GB;rcases hz with hz | hz <;> omega))]
    refine⟨s1.setRow oI ⟨jh.o,by rw[<-HQU.o];exact tf.o⟩ HUA.o (by omega),?_⟩;exact (((Ht.of_below HB4.o).set (p:=⟨a.GB,0,none⟩) _ (.inr (.inr rfl))).set (p:=⟨a.LB,0,none⟩) _ (.inr (.inl rfl))).set (p:=⟨a.g,t,none⟩) _ (.inl rfl)
   obtain⟨fol,gb,lb⟩:=p;simp only at cG cL Up;clear zaZ pt htl l1 l2 l3 l4 l5 l6 l7 m1 m2 m3 m4 m5 o1 o2 o3 o4;have hG:(gb=true)\/(gb=false/\qo<qu)\/(gb=false/\¬ qo<qu):=by cases gb <;> simp <;> omega
   have hL:(lb=true)\/(lb=false/\4096<qu)\/(lb=false/\¬ 4096<qu):=by cases lb <;> simp <;> omega
   rcases hG with rfl | ⟨rfl,hg⟩ | ⟨rfl,hg⟩
   ·rcases hL with rfl | ⟨rfl,hl⟩ | ⟨rfl,hl⟩
    ·go_wp2_with fail
     go_end0
     exact⟨rfl,Up.o true true _ rfl rfl rfl⟩
    ·have ke:decide ((4096:Int)<(qu:Int))=true:=by rw[Yi];omega
     go_wp2_with fail
     go_end0
     exact⟨rfl,Up.o true true _ rfl rfl (by rw[Yt hl];rfl)⟩
    ·have ke:decide ((4096:Int)<(qu:Int))=false:=by rw[Yj];omega
     go_wp2_with fail
     go_end0
     exact⟨rfl,Up.o true false _ rfl rfl (by rw[Yu hl];rfl)⟩
   ·rcases hL with rfl | ⟨rfl,hl⟩ | ⟨rfl,hl⟩
    ·go_wp2_with fail
     go_end0
     exact⟨rfl,Up.o true true _ rfl (by rw[Yt hg];rfl) rfl⟩
    ·have ke:decide ((4096:Int)<(qu:Int))=true:=by rw[Yi];omega
     go_wp2_with fail
     go_end0
     exact⟨rfl,Up.o true true _ rfl (by rw[Yt hg];rfl) (by rw[Yt hl];rfl)⟩
    ·have ke:decide ((4096:Int)<(qu:Int))=false:=by rw[Yj];omega
     go_wp2_with fail
     go_end0
     exact⟨rfl,Up.o true false _ rfl (by rw[Yt hg];rfl) (by rw[Yu hl];rfl)⟩
   ·rcases hL with rfl | ⟨rfl,hl⟩ | ⟨rfl,hl⟩
    ·go_wp2_with fail
     go_end0
     exact⟨rfl,Up.o false true _ rfl (by rw[Yu hg];rfl) rfl⟩
    ·have ke:decide ((4096:Int)<(qu:Int))=true:=by rw[Yi];omega
     go_wp2_with fail
     go_end0
     exact⟨rfl,Up.o false true _ rfl (by rw[Yu hg];rfl) (by rw[Yt hl];rfl)⟩
    ·have ke:decide ((4096:Int)<(qu:Int))=false:=by rw[Yj];omega
     go_wp2_with fail
     go_end0
     exact⟨rfl,Up.o false false _ rfl (by rw[Yu hg];rfl) (by rw[Yu hl];rfl)⟩
structure tm(t0 n:Nat)(p:El):Prop where
 asc:Ux p.fol
 len:p.fol.length=n
 small:p.limit=false->Ds p.fol
 more:t0<=Sz p.fol
 grew:p.grown=true->t0<Sz p.fol
theorem mR{k:Nat}(hk:k<=4){sets fol:Zu}{r:Int×List Int}{at_:Int}{x:List Wd}(h:Kg sets fol k r at_=some x):Dj x/\x.length<=4096:=by
 unfold Kg at h;split at h
 ·cases h
 ·cases h1:lM sets k (r.2.drop (at_+1).toNat) with
  |none=>rw[h1] at h;cases h
  |some y=>rw[h1,Option.bind_some] at h;exact e_ hk h
theorem tm.step{t0 n k:Nat}(hk:k<=4){sets:Zu}{r:Int×List Int}{at_:Nat}{p:El}(h:tm t0 n p)(hs:0<=r.2.getD at_ 0->r.2.getD at_ 0<(n:Int)):tm t0 n (Vr sets k r at_ p):=by
 unfold Vr;cases h1:Kg sets p.fol k r at_ with
 |none=>exact⟨h.asc,h.len,fun e=>(by cases e),h.more,h.grew⟩
 |some x =>
  simp only;split
  ·exact h
  ·rename_i Dh;have hx:=mR hk h1;have hl:(r.2.getD at_ 0).toNat<p.fol.length:=by rw[h.len];have:=hs (by omega);omega
   have ht:=dm p.fol (r.2.getD at_ 0).toNat (Kt (p.fol.getD (r.2.getD at_ 0).toNat []) x) hl;have hu:=(cD (b:=x) (h.asc.getD (r.2.getD at_ 0).toNat)).1;change (p.fol.getD (r.2.getD at_ 0).toNat []).length<=(Kt (p.fol.getD (r.2.getD at_ 0).toNat []) x).length at hu;have hm:=h.more;refine⟨h.asc.set _ (Fu _ _),by simpa using h.len,fun e=>?_,by simp only;omega,fun e=>?_⟩
   ·simp only[Yl,Yj] at e;have hb:=h.small e.1;exact hb.set _ ⟨Cx (hb.getD _).1 hx.1,by omega⟩
   ·simp only[Ys,Yi] at e;rcases e with e | e
    ·have:=h.grew e;simp only;omega
    ·simp only;omega
theorem wX{sets:Zu}{k:Int}{r:Int×List Int}{m at_:Nat}{p:El}:Vs sets k r (m+1) at_ p=Vs sets k r m (at_+1) (Vr sets k r at_ p):=rfl
theorem qw{sets:Zu}{k:Int}{rs:Zq}{fol:Zu}{p:El}(h:Wb sets k rs ⟨fol,false,false⟩=p):Gy sets k rs fol=if p.limit then none else some (p.fol,p.grown):=by
 unfold Gy;rw[h]
end Go.Proofs.YtmaojnmnbpomeaaGreatDoor
