/- A part. -/
import Derived.Test.YtmaojnmnbpomeaaGreatDoorVM04
import Derived.Deep.OwnRows
import Derived.Test.YtmaojnmnbpomeaaGreatDoorVMSeat
set_option maxRecDepth 100000
set_option maxHeartbeats 64000000
namespace Go.Proofs.YtmaojnmnbpomeaaGreatDoor
noncomputable def Ka(m:Kf)(i:Nat):Bool:=@decide (bX m i) (Classical.propDecidable _)
noncomputable def Nt(m:Kf)(i j:Nat):Bool:=@decide (Gs m i j) (Classical.propDecidable _)
theorem Ep(m:Kf)(i:Nat):Ka m i=true↔bX m i:=by
 unfold Ka;exact @decide_eq_true_iff _ (Classical.propDecidable _)
theorem Ct(m:Kf):Og m (Ka m):=fun i _=>Ep m i
theorem gY(m:Kf)(i j:Nat):Nt m i j=true↔Gs m i j:=by
 unfold Nt;exact @decide_eq_true_iff _ (Classical.propDecidable _)
theorem Of(m:Kf):qW m (Nt m):=fun i j _ _=>gY m i j
noncomputable abbrev Uf(m:Kf)(n:Nat):List Nat×Kf:=aC m (Ka m) (Nt m) n
noncomputable def Ny(m:Kf):Kf:=if Un m 9223372036854775807=true then (if Ka m 0=true then (Uf m m.length).2 else [(-1,[])]) else []
theorem rf{m:Kf}{use:Nat->Bool}{a:Nat->Nat->Bool}{n:Nat}(h:(aC m use a n).1.length<=n):∀ k,aC m use a (n+k)=aC m use a n
 |0=>rfl
 |k+1=>by
  have ih:=rf h k;rw[<-Yx];rw[show aC m use a (n+k+1)=_ from rfl];simp only[aC];rw[ih,Xf (by omega)]
theorem qtV{m:Kf}(hg:Wm m)(h0:bX m 0){n:Nat}(h:(Uf m n).1.length=n):Uf m m.length=Uf m n:=by
 have h1:=dp hg (nA hg (Ct m) (Of m) h0 n).ok;have h2:=rf (m:=m) (use:=Ka m) (a:=Nt m) (n:=n) (by show (Uf m n).1.length<=n;omega) (m.length - n);have h3:(Uf m n).1.length<=m.length:=h1;rw[show n+(m.length - n)=m.length by omega] at h2;exact h2
structure To(m M:Kf):Prop where
 good:Wm M
 tell:∀ l,Uq M 0 l=Uq m 0 l
 apart:∀ i k,i<M.length->k<M.length->i≠k->∃ l,Uq M i l≠Uq M k l
 tells:∀ i,0<i->i<M.length->∃ l,Uq M i l≠-1
 zero:(∀ l,Uq M 0 l=-1)->Mb M 0=[]
 ord:∀ k<M.length,∃ i,Pg 1 ((M.take k).flatMap fun s=>s.2)=some i/\k<i
 ordl:∃ i,Pg 1 (M.flatMap fun s=>s.2)=some i
 new:∀ k,0<k->k<M.length->∃ p<k,∃ t,(t,(k:Int))∈Mb M p
 term:∀ k<M.length,∀ e∈Mb M k,∃ i<m.length,∃ d∈Mb m i,e.1=d.1
theorem qnX{m:Kf}(hg:Wm m)(h0:bX m 0):(Uf m m.length).2.length=(Uf m m.length).1.length:=by
 have h:=nA hg (Ct m) (Of m) h0 m.length;have h1:=dp hg h.ok;have h2:(Uf m m.length).2.length=min m.length (Uf m m.length).1.length:=h.len;have h3:(Uf m m.length).1.length<=m.length:=h1;omega
theorem qgL{m:Kf}(hg:Wm m)(h0:bX m 0):To m (Uf m m.length).2:=by
 have h:=nA hg (Ct m) (Of m) h0 m.length;have hl:=qnX hg h0;have hu:=Ct m;change qpP m (Ka m) m.length (Uf m m.length).1 (Uf m m.length).2 at h;generalize (Uf m m.length).1=q at h hl;generalize (Uf m m.length).2=M at h hl;have Dg:0<M.length:=by rw[hl];exact (Qj.1 h.ok.zero).1
 have hG:Wm M:=by
  refine⟨Qy.1 Dg,fun k hk=>?_,fun k hk e he=>?_,fun k hk=>?_⟩
  ·obtain⟨x,h1,h2,-⟩:=h.st k hk;rw[h2];exact hg.o x (Ra hg (h.ok.use x (Qp h1)).1)
  ·obtain⟨x,h1,h2,h3,-⟩:=h.st k hk;obtain⟨y,i,z,g1,g2,g3,g4,g5⟩:=h3 e.1 e.2 he;have:=(hg.tos x (Ra hg (h.ok.use x (Qp h1)).1) _ g1).1;have h6:=(Qj.1 g4).1;simp only at this;exact⟨this,by omega,by omega⟩
  ·obtain⟨x,h1,h2,h3,h4,h5⟩:=h.st k hk;exact h5
 have key:∀(l:List Int)(k x:Nat),k<M.length->q[k]? = some x->Uq M k l=Uq m x l:=by
  intro l
  induction l with
  |nil =>
   intro k x hk hx;obtain⟨x',h1,h2,-⟩:=h.st k hk;rw[hx] at h1;injection h1 with h1;subst h1;exact h2
  |cons b r ih =>
   intro k x hk hx;obtain⟨x',h1,h2,h3,h4,h5⟩:=h.st k hk;rw[hx] at h1;injection h1 with h1;subst h1;have hux:=h.ok.use x (Qp hx);have si:=Ra hg hux.1;by_cases hc:∃ y,Nw m x b=some y/\Ka m y=true
   ·obtain⟨y,hy,uy⟩:=hc;have he:=(Vx hg si b y).1 hy;obtain⟨n,hn⟩:=h4 _ he (by simpa using uy);simp only at hn;obtain⟨y',i,z,g1,g2,g3,g4,g5⟩:=h3 b n hn;have hy':=(Vx hg si b y').2 g1;rw[hy] at hy';injection hy' with hy';subst hy';subst g3;have hsM:=(Vx hG hk b i).2 hn;rw[Vt,Vt,hy,hsM];simp only;rw[<-g5 r];exact ih i z (De hsM) g4
   ·rw[lM hg hu hux.1 b r hc,Vt];cases hsM:Nw M k b with
    |none=>rfl
    |some i =>
     exfalso;obtain⟨y',j,z,g1,g2,g3,g4,g5⟩:=h3 b _ ((Vx hG hk b i).1 hsM);exact hc ⟨y',(Vx hg si b y').2 g1,(Ep m y').2 g2⟩
 have dV:∀ k<M.length,∃ x,q[k]? = some x:=fun k hk=>⟨_,Qa (by omega)⟩;refine⟨hG,fun l=>key l 0 0 Dg h.ok.zero,?_,?_,?_,?_,?_,?_,?_⟩
 ·intro i k hi hk hne;obtain⟨x,hx⟩:=dV i hi;obtain⟨y,hy⟩:=dV k hk;refine Classical.byContradiction fun hno=>?_;have Or:Gs m x y:=fun l=>by
   rw[<-key l i x hi hx,<-key l k y hk hy];exact Classical.byContradiction fun h2=>hno ⟨l,h2⟩
  have hp:=List.pairwise_iff_getElem.1 h.ok.apart;obtain⟨a1,a2⟩:=Qj.1 hx;obtain⟨b1,b2⟩:=Qj.1 hy;rcases Nat.lt_or_gt_of_ne hne with Ji | Ji
  ·have:=hp i k a1 b1 Ji;rw[a2,b2] at this;exact this Or
  ·have:=hp k i b1 a1 Ji;rw[a2,b2] at this;exact this (Sr Or)
 ·intro i _ hi;obtain⟨x,hx⟩:=dV i hi;obtain⟨l,dD⟩:=(h.ok.use x (Qp hx)).2;exact⟨l,by rw[key l i x hi hx];exact dD⟩
 ·intro Uc;obtain⟨l,dD⟩:=h0.2;exact absurd (by rw[<-key l 0 0 Dg h.ok.zero];exact Uc l) dD
 ·intro k hk;obtain⟨i,h1,h2,h3⟩:=h.ord k (by omega);exact⟨i,h1,h2 (by omega)⟩
 ·obtain⟨i,h1,h2,h3⟩:=h.ord M.length (Ya _);rw[Qd (Ya _)] at h1;exact⟨i,h1⟩
 ·intro k h1 h2;exact h.new k h1 (by omega)
 ·intro k hk e he;obtain⟨x,h1,h2,h3,-⟩:=h.st k hk;obtain⟨y,i,z,g1,-⟩:=h3 e.1 e.2 he;exact⟨x,Ra hg (h.ok.use x (Qp h1)).1,_,g1,rfl⟩
theorem qdC{m:Kf}(h0:¬ bX m 0):To m [(-1,[])]:=by
 have ht:∀ l,Uq m 0 l=-1:=fun l=>Classical.byContradiction fun h=>h0 ⟨Bl m,l,h⟩;have hto:∀ l,Uq [(-1,[])] 0 l=-1:=by
  intro l;cases l with
  |nil=>rfl
  |cons b r=>rfl
 refine⟨⟨by simp,?_,?_,?_⟩,fun l=>by rw[ht l,hto l],?_,?_,fun _=>rfl,?_,⟨1,rfl⟩,?_,?_⟩
 ·intro k hk;simp only[Qf] at hk;have:k=0:=by omega
  subst this;decide
 ·intro k hk e he;simp only[Qf] at hk;have:k=0:=by omega
  subst this;simp[Mb] at he
 ·intro k hk;simp only[Qf] at hk;have:k=0:=by omega
  subst this;exact List.Pairwise.nil
 ·intro i k hi hk hne;simp only[Qf] at hi hk;omega
 ·intro i h1 hi;simp only[Qf] at hi;omega
 ·intro k hk;simp only[Qf] at hk;have:k=0:=by omega
  subst this;exact⟨1,rfl,by omega⟩
 ·intro k h1 hk;simp only[Qf] at hk;omega
 ·intro k hk e he;simp only[Qf] at hk;have:k=0:=by omega
  subst this;simp[Mb] at he
theorem ve{m:Kf}(h:Un m 9223372036854775807=true):To m (Ny m):=by
 unfold Ny;rw[if_pos h];have hg:=Fy h;by_cases h0:Ka m 0=true
 ·rw[if_pos h0];exact qgL hg ((Ep m 0).1 h0)
 ·rw[if_neg h0];exact qdC fun h1=>h0 ((Ep m 0).2 h1)
theorem qkO{m:Kf}(h:Un m 9223372036854775807≠true):Ny m=[]:=by
 unfold Ny;rw[if_neg h]
def uI(M:List Bool):Nat:=M.count false
theorem qmW{M:List Bool}{d:Nat}(h:M[d]? = some false):uI (M.set d true)<uI M:=by
 unfold uI;obtain⟨h1,h2⟩:=Qj.1 h;have h3:=List.count_set (a:=true) (b:=false) (l:=M) (i:=d) h1;have h4:0<M.count false:=List.count_pos_iff.2 (Qp h);rw[h3,h2];simp only[beq_self_eq_true,if_true];rw[if_neg (by decide)];omega
def rV(dir:Bool)(i:Nat)(e:Int×Int):Nat:=if dir then i else e.2.toNat
def Od(dir:Bool)(i:Nat)(e:Int×Int):Nat:=if dir then e.2.toNat else i
abbrev Fl(M:List Bool)(k:Nat):Bool:=M.getD k false
def eP(dir:Bool)(M:List Bool)(i:Nat)(e:Int×Int):List Bool:=M.set (Od dir i e) (Fl M (Od dir i e)||Fl M (rV dir i e))
def oG(dir:Bool)(M:List Bool)(i:Nat)(e:Int×Int):Bool:=Fl M (rV dir i e)&&!Fl M (Od dir i e)
theorem qdJ(dir:Bool)(M:List Bool)(i:Nat)(e:Int×Int):(eP dir M i e).length=M.length:=by simp[eP]
theorem qaY{M:List Bool}{k:Nat}(h:k<M.length):M[k]? = some (Fl M k):=by
 simp[Fl,Qa h]
theorem vk{dir:Bool}{M:List Bool}{i:Nat}{e:Int×Int}(hd:Od dir i e<M.length)(h:oG dir M i e=false):eP dir M i e=M/\(Fl M (rV dir i e)=true->Fl M (Od dir i e)=true):=by
 unfold oG at h;have h1:(Fl M (Od dir i e)||Fl M (rV dir i e))=Fl M (Od dir i e):=by
  cases h2:Fl M (rV dir i e) <;> cases h3:Fl M (Od dir i e) <;> simp_all
 refine⟨?_,fun h2=>by rw[h2] at h;simpa using h⟩;unfold eP;rw[h1];apply List.ext_getElem?;intro k;rw[Xv];by_cases hk:Od dir i e=k
 ·rw[if_pos hk,<-hk,if_pos hd,qaY hd]
 ·rw[if_neg hk]
theorem vp{dir:Bool}{M:List Bool}{i:Nat}{e:Int×Int}(hd:Od dir i e<M.length)(h:oG dir M i e=true):uI (eP dir M i e)<uI M/\eP dir M i e=M.set (Od dir i e) true/\Fl M (rV dir i e)=true:=by
 unfold oG at h;simp only[Yl,Bool.not_eq_true'] at h;have h1:eP dir M i e=M.set (Od dir i e) true:=by unfold eP;rw[h.1];simp
 exact⟨by rw[h1];exact qmW (by rw[qaY hd,h.2]),h1,h.1⟩
def kI(dir:Bool)(M:List Bool)(i:Nat)(l:List (Int×Int)):Prop:=∀ e∈l,Fl M (rV dir i e)=true->Fl M (Od dir i e)=true
structure iB(dir:Bool)(m:Kf)(Inv:List Bool->Prop)(M0 M:List Bool)(again:Bool)(i k:Nat):Prop where
 len:M.length=m.length
 inv:Inv M
 le:uI M<=uI M0
 more:again=true->uI M<uI M0
 shut:again=false->M=M0/\(∀ j<i,kI dir M j (Mb m j))/\kI dir M i ((Mb m i).take k)
theorem iB.start{dir:Bool}{m:Kf}{Inv:List Bool->Prop}{M:List Bool}(hl:M.length=m.length)(h:Inv M):iB dir m Inv M M false 0 0 :=
 ⟨hl,h,Ya _,(fun h=>by cases h),fun _=>⟨rfl,fun j hj=>by omega,fun e he=>by simp at he⟩⟩
theorem iB.edge{dir:Bool}{m:Kf}{Inv:List Bool->Prop}{M0 M:List Bool}{again:Bool}{i k:Nat}(h:iB dir m Inv M0 M again i k){e:Int×Int}(he:(Mb m i)[k]? = some e)(hd:Od dir i e<m.length)
  (hi:∀ M,Inv M->M.length=m.length->Fl M (rV dir i e)=true->Inv (M.set (Od dir i e) true)):iB dir m Inv M0 (eP dir M i e) (oG dir M i e||again) i (k+1):=by
 have hd':Od dir i e<M.length:=by rw[h.len];exact hd
 obtain⟨hk,hke⟩:=Qj.1 he;cases hm:oG dir M i e with
 |true =>
  obtain⟨h1,h2,h3⟩:=vp hd' hm;exact⟨by rw[qdJ];exact h.len,by rw[h2];exact hi M h.inv h.len h3,Yb (Yg h1) h.le,fun _=>Yd h1 h.le,fun h=>by simp at h⟩
 |false =>
  obtain⟨h1,h2⟩:=vk hd' hm;rw[h1,Ys];refine⟨h.len,h.inv,h.le,h.more,fun ha=>?_⟩;obtain⟨a1,a2,a3⟩:=h.shut ha;refine⟨a1,a2,fun x hx=>?_⟩;rw[Qc hk,Qh,Qi,hke] at hx;rcases hx with hx | rfl
  ·exact a3 x hx
  ·exact h2
theorem iB.next{dir:Bool}{m:Kf}{Inv:List Bool->Prop}{M0 M:List Bool}{again:Bool}{i:Nat}(h:iB dir m Inv M0 M again i (Mb m i).length):iB dir m Inv M0 M again (i+1) 0 :=
 ⟨h.len,h.inv,h.le,h.more,fun ha=>by
  obtain⟨a1,a2,a3⟩:=h.shut ha
  rw[List.take_length] at a3
  refine⟨a1,fun j hj=>?_,fun e he=>by simp at he⟩
  by_cases Ad:j=i
  ·subst Ad
   exact a3
  ·exact a2 j (by omega)⟩
theorem iB.shutAll{dir:Bool}{m:Kf}{Inv:List Bool->Prop}{M0 M:List Bool}{k:Nat}(h:iB dir m Inv M0 M false m.length k):∀ j<m.length,kI dir M j (Mb m j):=(h.shut rfl).2.1
theorem lq{m:Kf}(hg:Wm m){M:List Bool}(h0:Fl M 0=true)(hi:∀ k,Fl M k=true->Oi m k)(hs:∀ j<m.length,kI true M j (Mb m j))(k:Nat):Fl M k=true↔Oi m k:=by
 refine⟨hi k,fun hr=>?_⟩;exact uf hg (P:=fun k=>Fl M k=true) h0 (fun j hj hmj e he=>hs j hj e he hmj) hr
theorem ka{m:Kf}(hg:Wm m){M:List Bool}(h0:∀ k<m.length,0<=My m k->Fl M k=true)(hi:∀ k,Fl M k=true->kH m k)(hs:∀ j<m.length,kI false M j (Mb m j)){k:Nat}(hk:k<m.length):Fl M k=true↔kH m k:=by
 refine⟨hi k,fun hr=>?_⟩;exact tg hg (P:=fun k=>Fl M k=true) h0 (fun j hj e he hm=>hs j hj e he hm) hk hr
theorem qaX{M:List Bool}{d k:Nat}(h:Fl (M.set d true) k=true):k=d\/Fl M k=true:=by
 unfold Fl at *;rw[Qb,Xv] at h;by_cases hk:d=k
 ·exact .inl hk.symm
 ·rw[if_neg hk] at h;exact .inr (by rw[Qb];exact h)
theorem kF{M:List Bool}{d k:Nat}(h:Fl M k=true):Fl (M.set d true) k=true:=by
 unfold Fl at *;rw[Qb] at h |-;rw[Xv];by_cases hk:d=k
 ·subst hk;have hl:d<M.length:=by
   rcases Nat.lt_or_ge d M.length with h2 | h2
   ·exact h2
   ·rw[Xf h2] at h;cases h
  rw[if_pos rfl,if_pos hl];rfl
 ·rw[if_neg hk];exact h
def Iz(n:Nat)(f:Nat->Bool):List Bool:=(List.range n).map f
theorem Ce(n:Nat)(f:Nat->Bool):(Iz n f).length=n:=by simp[Iz]
theorem Ap{n:Nat}{f:Nat->Bool}{k:Nat}:Fl (Iz n f) k=(decide (k<n)&&f k):=by
 unfold Fl Iz;rw[Qb,Qv];by_cases h:k<n
 ·rw[List.getElem?_range h];simp[h]
 ·rw[Xf (by simp;omega)];simp[h]
theorem kD{n:Nat}{f g:Nat->Bool}(h:∀ k<n,f k=g k):Iz n f=Iz n g:=List.map_congr_left fun k hk=>h k (Xz.1 hk)
theorem qgK{n:Nat}{M:List Bool}(h:M.length=n):Iz n (Fl M)=M:=by
 subst h;apply List.ext_getElem?;intro k;unfold Iz;rw[Qv];by_cases hk:k<M.length
 ·rw[List.getElem?_range hk,Qa hk];simp[Fl,hk]
 ·rw[Xf (by simp;omega),Xf (by omega)];rfl
theorem rd{n k:Nat}{f:Nat->Bool}(h:k<n):(Iz n f)[k]? = some (f k):=by
 unfold Iz;rw[Qv,List.getElem?_range h];rfl
theorem vE(n:Nat):Iz n (fun _=>false)=List.replicate n false:=by
 unfold Iz;rw[List.map_const',List.length_range]
theorem vD{n i:Nat}{f:Nat->Bool}{b:Bool}:(Iz n f).set i b=Iz n (fun k=>if k=i then b else f k):=by
 apply List.ext_getElem?;intro k;by_cases hn:k<n
 ·rw[rd hn,Xv,rd hn,Ce];by_cases hk:i=k
  ·subst hk;simp[hn]
  ·have:¬ k=i:=fun e=>hk e.symm;simp[hk,this]
 ·rw[Xf (by rw[Qm,Ce];omega),Xf (by rw[Ce];omega)]
open Go.RowKit
def Iw(l:List (Int×Int)):List Value:=(l.map fun e=>[Value.int .i64 e.1,.int .i64 e.2]).flatten
theorem bO(l:List (Int×Int))(e:Int×Int):Iw (l++[e])=Iw l++[.int .i64 e.1,.int .i64 e.2]:=by simp[Iw]
def Ug(rs:List (Int×Value)):List Value:=(rs.map fun r=>[Value.int .i64 r.1,r.2]).flatten
theorem tu(l:List (Int×Value)):(Ug l).length=l.length*2:=by
 induction l with
 |nil=>rfl
 |cons x l ih=>unfold Ug at *;rw[List.map_cons,List.flatten_cons,Qe,ih,Qu];simp;omega
theorem Cx(r:Int×Value)(rs:List (Int×Value)):Ug (r::rs)=.int .i64 r.1::r.2::Ug rs:=by simp[Ug]
theorem fV:∀{rs:List (Int×Value)}{i:Nat}{r:Int×Value},rs[i]? = some r->(Ug rs)[i*2]? = some (.int .i64 r.1)/\(Ug rs)[i*2+1]? = some r.2
 |[],i,r,h=>by simp at h
 |a::rs,0,r,h=>by
  simp only[List.getElem?_cons_zero,Option.some.injEq] at h;subst h;exact⟨rfl,rfl⟩
 |a::rs,i+1,r,h=>by
  have:=fV (rs:=rs) (i:=i) (r:=r) (by simpa using h);rw[Cx,show (i+1)*2=i*2+1+1 by omega];simpa using this
theorem fU:∀{rs:List (Int×Value)}{i:Nat}{r:Int×Value},rs[i]? = some r->∀(x:Int)(v:Value),(Ug rs).set (i*2) (.int .i64 x)=Ug (rs.set i (x,r.2))/\(Ug rs).set (i*2+1) v=Ug (rs.set i (r.1,v))
 |[],i,r,h,_,_=>by simp at h
 |a::rs,0,r,h,x,v=>by
  simp only[List.getElem?_cons_zero,Option.some.injEq] at h;subst h;simp[Cx]
 |a::rs,i+1,r,h,x,v=>by
  obtain⟨h1,h2⟩:=fU (rs:=rs) (i:=i) (r:=r) (by simpa using h) x v;rw[Cx,show (i+1)*2=i*2+1+1 by omega];simp only[List.set_cons_succ,Cx,h1,h2,and_self]
theorem Mu{w:World}{q o:Nat}{v:Value}{cs:Array Value}{t:TypeId}{fr:Nat×Nat}(h:w.heap[q]? = some (.cells cs t fr)):(w.setCell ⟨q,o,none⟩ v).heap[q]? = some (.cells (cs.setIfInBounds o v) t fr):=by
 simp[World.setCell,Xy,h]
structure Oj(ts te:TypeId)(W:World)(N b:Nat)(rs:List (Int×Value))(es:List (List (Int×Int))):Prop where
 len:rs.length=es.length
 box:W.heap[b]? = some (.cells (Ug rs).toArray ts (0,0))
 own:∀(i:Nat)(r:Int×Value)(l:List (Int×Int)),rs[i]? = some r->es[i]? = some l->W.ownsRow N te 2 r.2 l.length (Iw l)
 nd:∀(i j:Nat)(r s:Int×Value)(g:Nat),rs[i]? = some r->rs[j]? = some s->r.2.ownBlock=some g->s.2.ownBlock=some g->i=j
section
variable {ts te:TypeId} {W W':World} {N b:Nat} {rs:List (Int×Value)} {es:List (List (Int×Int))}
theorem Oj.cells(h:Oj ts te W N b rs es){i:Nat}{r:Int×Value}(hr:rs[i]? = some r):W.cell? ⟨b,i*2,none⟩=some (.int .i64 r.1)/\W.cell? ⟨b,i*2+1,none⟩=some r.2/\(∀ k,W.frozen? ⟨b,k,none⟩=false):=by
 obtain⟨h1,h2⟩:=fV hr;refine⟨?_,?_,fun k=>by simp[World.frozen?,h.box]⟩
 ·rw[Zc _ _ _ _ _ _ h.box];simpa using h1
 ·rw[Zc _ _ _ _ _ _ h.box];simpa using h2
theorem Oj.mk0{n:Nat}{x:Int}(hb:W.heap[b]? = some (.cells (Ug (List.replicate n (x,.slice none 0 0))).toArray ts (0,0))):Oj ts te W N b (List.replicate n (x,.slice none 0 0)) (List.replicate n []):=by
 refine⟨by simp,hb,fun i r l hr hl=>?_,fun i j r s g hr hs hg=>?_⟩
 ·rw[Xg] at hr hl;split at hr
  ·injection hr with hr;rw[if_pos (by assumption)] at hl;injection hl with hl;subst hr hl;exact Yz _ _ _ _
  ·cases hr
 ·rw[Xg] at hr;split at hr
  ·injection hr with hr;subst hr;simp[Value.ownBlock] at hg
  ·cases hr
theorem Oj.keepRow(hne:ts≠te)(h:Oj ts te W N b rs es){i:Nat}{r:Int×Value}(hr:rs[i]? = some r):r.2.ownBlock≠some b:=by
 have hl:i<es.length:=by rw[<-h.len];exact (Qj.1 hr).1
 intro e;rcases (h.own i r _ hr (Qa hl)).2 with ⟨h0,_⟩ | ⟨g,cap,cur,h0,hg,hh,_⟩
 ·rw[h0] at e;cases e
 ·rw[h0] at e;have:g=b:=by simpa[Value.ownBlock] using e
  subst this;rw[h.box] at hh;injection hh with hh;injection hh with _ hh;exact hne hh
theorem Vb{w w':World}{base:Nat}{e:TypeId}{size:Nat}{v:Value}{n:Nat}{xs:List Value}(h:w.ownsRow base e size v n xs)(hk:∀ g cur,v.ownBlock=some g->w.heap[g]? = some (.cells cur e (0,0))->w'.heap[g]? = some (.cells cur e (0,0))):w'.ownsRow base e size v n xs:=by
 refine⟨h.1,?_⟩;rcases h.2 with h' | ⟨g,cap,cur,rfl,hg,hh,r⟩
 ·exact .inl h'
 ·exact .inr ⟨g,cap,cur,rfl,hg,hk g cur rfl hh,r⟩
theorem Oj.keep(h:Oj ts te W N b rs es)(hk:∀(g:Nat)(cur:Array Value)(t:TypeId),t=ts\/t=te->W.heap[g]? = some (.cells cur t (0,0))->W'.heap[g]? = some (.cells cur t (0,0))):Oj ts te W' N b rs es :=
 ⟨h.len,hk b _ _ (.inl rfl) h.box,fun i r l hi hl=>Vb (h.own i r l hi hl) fun g cur _ hh=>hk g cur _ (.inr rfl) hh,h.nd⟩
theorem Oj.setOut(hne:ts≠te)(h:Oj ts te W N b rs es){i:Nat}{r:Int×Value}(hr:rs[i]? = some r)(x:Int):Oj ts te (W.setCell ⟨b,i*2,none⟩ (.int .i64 x)) N b (rs.set i (x,r.2)) es:=by
 have key:∀(k:Nat)(s:Int×Value),(rs.set i (x,r.2))[k]? = some s->∃ s',rs[k]? = some s'/\s'.2=s.2:=fun k s hk=>by
  rw[Xv] at hk;split at hk
  ·rename_i hik;subst hik;split at hk
   ·injection hk with hk;exact⟨r,hr,by rw[<-hk]⟩
   ·cases hk
  ·exact⟨s,hk,rfl⟩
 refine⟨by rw[Qm];exact h.len,?_,fun k s l hk hl=>?_,fun k j s t g hk hj h1 h2=>?_⟩
 ·rw[Mu h.box,List.setIfInBounds_toArray,(fU hr x r.2).1]
 ·obtain⟨s',h1,h2⟩:=key k s hk;rw[<-h2];refine Vb (h.own k s' l h1 hl) fun g cur he hh=>(Zb _ _ _ _ ?_).trans hh;rintro rfl;exact absurd he (h.keepRow hne h1)
 ·obtain⟨s',a1,a2⟩:=key k s hk;obtain⟨t',b1,b2⟩:=key j t hj;exact h.nd k j s' t' g a1 b1 (by rw[a2];exact h1) (by rw[b2];exact h2)
theorem Oj.app(hne:ts≠te){W1:World}(h:Oj ts te W N b rs es){i:Nat}{r:Int×Value}{l:List (Int×Int)}(hr:rs[i]? = some r)(hl:es[i]? = some l){v:Value}{e:Int×Int}
  (hown:W1.ownsRow N te 2 v (l.length+1) (Iw (l++[e]))) (hg:W.grownBy W1 r.2.ownBlock) (hv:v.ownBlock=r.2.ownBlock\/v.ownBlock=some W.heap.size) :
  Oj ts te (W1.setCell ⟨b,i*2+1,none⟩ v) N b (rs.set i (r.1,v)) (es.set i (l++[e])):=by
 have Wt:=(Qj.1 hr).1;have yu:=(Qj.1 hl).1;have El:=h.keepRow hne hr;have zpU:b<W.heap.size:=(gl h.box);have jT:W1.heap[b]? = some (.cells (Ug rs).toArray ts (0,0)):=(hg.block b zpU fun e=>El e.symm).trans h.box;have key:∀(k:Nat)(s:Int×Value),(rs.set i (r.1,v))[k]? = some s->(k=i/\s=(r.1,v))\/(k≠i/\rs[k]? = some s):=fun k s hk=>by
  rw[Xv] at hk;split at hk
  ·rename_i hik;injection hk with hk;exact .inl ⟨hik.symm,hk.symm⟩
  ·rename_i hik;exact .inr ⟨fun e=>hik e.symm,hk⟩
 have Ji:∀(k:Nat)(s:Int×Value)(g:Nat),rs[k]? = some s->s.2.ownBlock=some g->g<W.heap.size:=fun k s g hk pJ=>by
  have Eu:k<es.length:=by rw[<-h.len];exact (Qj.1 hk).1
  exact ((h.own k s _ hk (Qa Eu)).lt g pJ).2
 refine⟨by rw[Qm,Qm];exact h.len,?_,fun k s m hk hm=>?_,fun k j s t g hk hj h1 h2=>?_⟩
 ·rw[Mu jT,List.setIfInBounds_toArray,(fU hr r.1 v).2]
 ·rcases key k s hk with ⟨rfl,rfl⟩ | ⟨hki,hk⟩
  ·rw[Xv,if_pos rfl,if_pos yu] at hm;injection hm with hm;subst hm;refine Vb (w:=W1) (by rw[Qe];exact hown) fun g cur he hh=>(Zb _ _ _ _ ?_).trans hh;rintro rfl;rcases hv with e1 | e1
   ·rw[e1] at he;exact El he
   ·rw[e1] at he;injection he with he;omega
  ·rw[Xv,if_neg (fun e=>hki e.symm)] at hm;refine Vb (h.own k s m hk hm) fun g cur he hh=>(Zb _ _ _ _ ?_).trans ((hg.block g (gl hh) fun e=>?_).trans hh)
   ·rintro rfl;exact absurd he (h.keepRow hne hk)
   ·exact hki (h.nd k i s r g hk hr he e.symm)
 ·rcases key k s hk with ⟨rfl,rfl⟩ | ⟨hki,iH⟩
  ·rcases key j t hj with ⟨rfl,rfl⟩ | ⟨Ad,yq⟩
   ·rfl
   ·exfalso;rcases hv with e1 | e1
    ·exact Ad (h.nd j k t r g yq hr h2 (by rw[<-e1];exact h1))
    ·have:=Ji j t g yq h2;have h1:v.ownBlock=some g:=h1;rw[e1] at h1;injection h1 with h1;omega
  ·rcases key j t hj with ⟨rfl,rfl⟩ | ⟨Ad,yq⟩
   ·exfalso;rcases hv with e1 | e1
    ·exact hki (h.nd k j s r g iH hr h1 (by rw[<-e1];exact h2))
    ·have:=Ji k s g iH h1;have h2:v.ownBlock=some g:=h2;rw[e1] at h2;injection h2 with h2;omega
   ·exact h.nd k j s t g iH yq h1 h2
theorem Oj.sl{es:List (List (Int×Int))}(eS:fJ (Int×List (Int×Int)))(eE:fJ (Int×Int))(hS:eS=Ca Wo (Th eE))(hE:eE=Ca Wo Wo)(h:Oj ts te W N b rs es){c:Nat}(hc:rs.length<=c)(Uy:c<=maxLen)
  (hb1:∀ r∈rs,-9223372036854775808<=r.1/\r.1<=9223372036854775807) (Ja:∀ l∈es,∀ e∈l,(-9223372036854775808<=e.1/\e.1<=9223372036854775807)/\-9223372036854775808<=e.2/\e.2<=9223372036854775807) :
  Je eS W W.heap.size (.slice (some ⟨b,0,none⟩) rs.length c) ((rs.zip es).map fun p=>(p.1.1,p.2)):=by
 subst hS hE;have hz:((rs.zip es).map fun p=>(p.1.1,p.2)).length=rs.length:=by rw[Qk,List.length_zip,h.len,Nat.min_self]
 refine⟨_,c,rs.map fun r=>[Value.int .i64 r.1,r.2],by rw[hz],by rw[hz];exact hc,Uy,by rw[hz,Qk],?_,fun i cs x hi hx=>?_⟩
 ·exact Rd.row h.box (gl h.box)
 ·rw[Qv] at hi hx;have Wt:i<rs.length:=by
   rcases Nat.lt_or_ge i rs.length with h | h
   ·exact h
   ·rw[Xf h] at hi;cases hi
  have yu:i<es.length:=by rw[<-h.len];exact Wt
  rw[Qa Wt,Option.map_some] at hi;have hzl:i<(rs.zip es).length:=by rw[List.length_zip];omega
  rw[Qa hzl,List.getElem_zip,Option.map_some] at hx;injection hi with hi;injection hx with hx;subst hi hx;have hown:=h.own i _ _ (Qa Wt) (Qa yu);obtain⟨A,c',e,h1,h2⟩:=Zo hown;refine⟨[.int .i64 rs[i].1],[rs[i].2],rfl,⟨rfl,hb1 _ (Qg Wt)⟩,rs[i].2,rfl,?_⟩;rw[e] at hown |-;refine⟨A,c',es[i].map fun e=>[Value.int .i64 e.1,.int .i64 e.2],rfl,h1,h2,by simp,Rd.of_own hown,fun j cs y hj hy=>?_⟩;rw[Qv,hy] at hj;injection hj with hj;subst hj;obtain⟨⟨a1,a2⟩,a3,a4⟩:=Ja _ (Qg yu) _ (Qp hy);exact⟨_,_,rfl,⟨rfl,a1,a2⟩,rfl,a3,a4⟩
end
abbrev Kk(w:World)(x:Nat)(M:List Bool):Prop:=w.heap[x]? = some (.cells (M.map Value.bool).toArray 4 (0,0))
theorem Kk.at_{w:World}{x:Nat}{M:List Bool}(h:Kk w x M){k:Nat}(hk:k<M.length):w.cell? ⟨x,k,none⟩=some (.bool (Fl M k))/\w.frozen? ⟨x,k,none⟩=false:=by
 refine⟨?_,by simp[World.frozen?,h]⟩;rw[Zc w x k _ _ _ h];simp[Fl,hk]
theorem Kk.set{w:World}{x:Nat}{M:List Bool}(h:Kk w x M)(k:Nat)(b:Bool):Kk (w.setCell ⟨x,k,none⟩ (.bool b)) x (M.set k b):=by
 show _=_;rw[Mu h,List.map_set,List.setIfInBounds_toArray]
theorem Kk.grown{w w':World}{x:Nat}{M:List Bool}(h:Kk w x M){row:Option Nat}(hg:w.grownBy w' row)(hne:some x≠row):Kk w' x M:=(hg.block x (gl h) hne).trans h
theorem bJ(w:World)(x k:Nat)(v:Value):w.grownBy (w.setCell ⟨x,k,none⟩ v) (some x) :=
 ⟨rfl,rfl,rfl,by simp[World.setCell],fun i _ hne=>Zb _ _ _ _ (fun e=>hne (by rw[show i=x from e]))⟩
def ig(x:Nat)(more:Bool)(M':List Bool)(w:World)(e:Ending)(w':World):Prop:=e=.returned (.bool more)/\Kk w' x M'/\w.grownBy w' (some x)
theorem rD(x:Nat)(M:List Bool)(k:Nat)(b:Bool)(w:World)(hx:Kk w x M)(hk:k<M.length) :
  Calls Tryz.prog 160 #[.slice (some ⟨x,0,none⟩) M.length M.length,.int .i64 k,.bool b] w (ig x (b&&!Fl M k) (M.set k (Fl M k||b)) w):=by
 obtain⟨c1,c2⟩:=hx.at_ hk;have HG:=Lh (bJ w x k (.bool (Fl M k||b)));have HX:=Lh (hx.set k (Fl M k||b));obtain⟨n,hn⟩:=Xe M.length;rw[<-hn] at hk |-;generalize hm:Fl M k=a at *;obtain⟨r1,Cm⟩:=Xe ((b&&!a));obtain⟨r2,hr2⟩:=Xe ((a||b));rw[<-Cm,<-hr2];rw[<-hr2] at HG HX;cases a <;> cases b <;> cases Cm <;> cases hr2
 all_goals
  go_enter Tryz.func160,Tryz.ntmps160;go_wp2_with fail;go_ret;exact⟨rfl,HX.o,HG.o⟩
theorem ck(x b7 b3:Nat)(M:List Bool)(i j:Nat)(w:World)(hx:Kk w x M)(h7:w.cell? ⟨b7,0,none⟩=some (.func (.func 160) #[] #[]))(h3:w.cell? ⟨b3,0,none⟩=some (.slice (some ⟨x,0,none⟩) M.length M.length))(hi:i<M.length)(hj:j<M.length) :
  Calls Tryz.prog 162 #[.int .i64 i,.int .i64 j,.pointer (some ⟨b7,0,none⟩),.pointer (some ⟨b3,0,none⟩)] w (ig x (Fl M i&&!Fl M j) (M.set j (Fl M j||Fl M i)) w):=by
 obtain⟨c1,c2⟩:=hx.at_ hi;have HS:=Lh (rD x M j (Fl M i) w.drew hx hj);obtain⟨n,hn⟩:=Xe M.length;rw[<-hn] at hi hj h3 HS;clear hn;go_enter Tryz.func162,Tryz.ntmps162;go_wp2_with fail;refine Text.wt (by kernel_rfl) fun Q' hQ'=>?_;go_wp2_with fail;refine HS.o.mono ?_;rintro e w' ⟨rfl,h1,h2⟩;go_wp2_with fail;refine⟨by rfl,?_⟩;go_wp2;go_ret;exact⟨rfl,h1,h2.os,h2.tape,h2.output,h2.size,h2.block⟩
theorem ch(x b7 b3:Nat)(M:List Bool)(i j:Nat)(w:World)(hx:Kk w x M)(h7:w.cell? ⟨b7,0,none⟩=some (.func (.func 160) #[] #[]))(h3:w.cell? ⟨b3,0,none⟩=some (.slice (some ⟨x,0,none⟩) M.length M.length))(hi:i<M.length)(hj:j<M.length) :
  Calls Tryz.prog 163 #[.int .i64 i,.int .i64 j,.pointer (some ⟨b7,0,none⟩),.pointer (some ⟨b3,0,none⟩)] w (ig x (Fl M j&&!Fl M i) (M.set i (Fl M i||Fl M j)) w):=by
 obtain⟨c1,c2⟩:=hx.at_ hj;have HS:=Lh (rD x M i (Fl M j) w.drew hx hi);obtain⟨n,hn⟩:=Xe M.length;rw[<-hn] at hi hj h3 HS;clear hn;go_enter Tryz.func163,Tryz.ntmps163;go_wp2_with fail;refine Text.wt (by kernel_rfl) fun Q' hQ'=>?_;go_wp2_with fail;refine HS.o.mono ?_;rintro e w' ⟨rfl,h1,h2⟩;go_wp2_with fail;refine⟨by rfl,?_⟩;go_wp2;go_ret;exact⟨rfl,h1,h2.os,h2.tape,h2.output,h2.size,h2.block⟩
def qoR(F:FuncId)(cap:Array Value)(x:Nat)(dir:Bool)(m:Kf)(w:World):Prop :=
 ∀(M:List Bool)(i:Nat)(e:Int×Int)(W:World),w.grownBy W (some x)->Kk W x M->M.length=m.length->i<m.length->e∈Mb m i ->
  Calls Tryz.prog F (#[.int .i64 i,.int .i64 e.2]++cap) W (ig x (oG dir M i e) (eP dir M i e) W)
def zgZ(dir:Bool)(m:Kf)(Inv:List Bool->Prop)(x:Nat)(w:World)(n:Nat)(e:Ending)(w':World):Prop:=∃ M,e=.returned (.slice (some ⟨x,0,none⟩) n n)/\w.grownBy w' (some x)/\Kk w' x M/\M.length=m.length/\Inv M/\∀ i<m.length,kI dir M i (Mb m i)
theorem nR(F:FuncId)(cap:Array Value)(x:Nat)(dir:Bool)(Inv:List Bool->Prop)(v:Value)(m:Kf)(N:Nat)(M0:List Bool)(w:World)(hv:Je Js w N v m)(hN:N<=x)(hN2:N<=w.heap.size)(hg:Wm m)
  (hF:∀(args:Array Value)(w:World),(callFunc F args).run Tryz.prog w=.ok (.enter F args) w) (hx:Kk w x M0) (hl:M0.length=m.length) (h0:Inv M0)
  (hi:∀(M:List Bool)(i:Nat)(e:Int×Int),i<m.length->e∈Mb m i->Inv M->M.length=m.length->Fl M (rV dir i e)=true->Inv (M.set (Od dir i e) true)) (hm:qoR F cap x dir m w) :
  Calls Tryz.prog 161 #[v,.slice (some ⟨x,0,none⟩) m.length m.length,.func (.func F) #[] cap] w (zgZ dir m Inv x w m.length):=by
 obtain⟨A,c,rfl,Nj,Uy⟩:=hv.form;unfold maxLen at Uy;have HV:=Lh hv;have HG:=Lh hg;have HI:=Lh hi;have HM:=Lh hm;clear hv hg hi hm;obtain⟨n,hn⟩:=Xe m.length;have HN:=Lh hn;rw[<-hn] at Nj HV |-;clear hn;go_enter Tryz.func161,Tryz.ntmps161;go_wp2_with fail;have HW0:=Lt (w.grownBy w (some x)) (⟨rfl,rfl,rfl,Ya _,fun _ _ _=>rfl⟩);have HX0:=Lh hx;clear hx;go_loopg [7] (uI M0+2) (fun left v7 wr=>∃(b:Bool)(M:List Bool),v7=.bool b/\uI M+(if b=true then 1 else 0)<=left/\Hid (w.grownBy wr (some x))/\Hid (Kk wr x M)/\Hid (M.length=m.length)/\Hid (Inv M)/\Hid (b=false->∀ i<m.length,kI dir M i (Mb m i)))
 exact⟨true,M0,rfl,by simp,HW0.o,HX0.o,hl,h0,fun h=>by cases h⟩;clear HX0 hl h0;obtain⟨b,M1,rfl,Dp,HW,HX,HL,HI0,HS⟩:=hrel;obtain⟨gas,Gf⟩:=Xe gk;rw[<-Gf] at Dp;have HGK:=Lh Gf;clear Gf;generalize wr=wo at *;cases b
 ·go_wp2_with fail;go_ret;exact⟨M1,rfl,HW.o,HX.o,HL.o,HI0.o,HS.o trivial⟩
 ·have HLEFT:=Lh Dp;clear Dp;go_wp2_with fail;go_loopg [7,15] n (fun lf v7 v15 wt=>∃(b:Bool)(M:List Bool)(i:Nat),v7=.bool b/\v15=.int .i64 i/\i<=n/\n - i<=lf/\Hid (w.grownBy wt (some x))/\Hid (Kk wt x M)/\Hid (iB dir m Inv M1 M b i 0));exact⟨false,M1,0,rfl,rfl,by omega,by omega,HW.o,HX.o,iB.start HL.o HI0.o⟩;clear HW HX HI0 HS;obtain⟨b,M,i,rfl,rfl,hi,hlf,HW,HX,HSP⟩:=hrel;obtain⟨zqS,qmG⟩:=Xe gk;rw[<-qmG] at hlf;have HGK2:=Lh qmG;clear qmG;generalize wr=wp at *;by_cases Ji:i<n
  ·have Wt:i<m.length:=by rw[<-HN.o];exact Ji
   have hvp:Je Js wp N (.slice A n c) m:=HV.o.keep fun p hp=>World.cell?_of_block (HW.o.block p.block (by omega) (fun e=>by injection e with e;omega));obtain⟨b1,o1,cs,rfl,-,hb1,Zx,Zm⟩:=hvp.get Wt (by decide);obtain⟨u,rfl,hu,Ib,Sc⟩:=Me Zx;obtain⟨A4,e4,rfl,av,qN⟩:=hu.form;unfold maxLen at qN;have d0:=Zm 0 _ rfl;have d1:=Zm 1 _ rfl;clear Zm hvp;simp only[show Js.size=2 from rfl,Yp,<-Yx] at d0 d1;have wW:=Lh (Ai Wt);have HTO:=Lh (HG.o.tos i Wt);have HU:=Lt (Je Gm w N (.slice A4 (m[i]).2.length e4) (m[i]).2) (hu.keep fun p hp=>(World.cell?_of_block (HW.o.block p.block (by omega) (fun e=>by injection e with e;omega))).symm);have HMK:=Lh (fun(M:List Bool)(e:Int×Int)(W:World)(h1:w.grownBy W (some x))(h2:Kk W x M)(h3:M.length=m.length)(h4:e∈Mb m i)=>HM.o M i e W h1 h2 h3 Wt h4);have HIV:=Lh (fun(M:List Bool)(e:Int×Int)(h4:e∈Mb m i)=>HI.o M i e Wt h4);obtain⟨s,hs⟩:=Xe (m[i]);rw[<-hs] at d0 d1 wW HU av Ib Sc;clear hs hu Zx;obtain⟨so,se⟩:=s;simp only at d0 d1 av Ib Sc HU wW;obtain⟨q,hq⟩:=Xe se.length;have HQ:=Lh hq;rw[<-hq] at d1 av HU;clear hq;have HW1:=Lh (HW.o.trans (World.grownBy_alloc wp (.cells #[.int .i64 so,.slice A4 q e4] 118) _));have HX1:=Lh (HX.o.grown (World.grownBy_alloc wp (.cells #[.int .i64 so,.slice A4 q e4] 118) none) (by simp));go_wp2_with fail;generalize wp.alloc (.cells #[.int .i64 so,.slice A4 q e4] 118)=wq at *;generalize wp.heap.size=b9 at *;clear HW HX;go_loopg [7,23] q (fun lf v7 v23 wt=>∃(b:Bool)(M:List Bool)(k:Nat),v7=.bool b/\v23=.int .i64 k/\k<=q/\q - k<=lf/\Hid (w.grownBy wt (some x))/\Hid (Kk wt x M)/\Hid (iB dir m Inv M1 M b i k));exact⟨b,M,0,rfl,rfl,by omega,by omega,HW1.o,HX1.o,HSP.o⟩;clear HW1 HX1 HSP d0 d1;obtain⟨b,M,k,rfl,rfl,hk,zoS,HW,HX,HSP⟩:=hrel;obtain⟨gas3,qmF⟩:=Xe gk;rw[<-qmF] at zoS;have HGK3:=Lh qmF;clear qmF;generalize wr=wt at *;by_cases hlk:k<q
   ·have Eu:k<se.length:=by rw[<-HQ.o];exact hlk
    have hut:Je Gm wt N (.slice A4 q e4) se:=HU.o.keep fun p hp=>World.cell?_of_block (HW.o.block p.block (by omega) (fun e=>by injection e with e;omega));obtain⟨b2,o2,cs,rfl,-,Ja,Zx,Zm⟩:=hut.get Eu (by decide);obtain⟨rfl,tX,wM,og,hy4⟩:=Nf Zx;have d0:=Zm 0 _ rfl;have d1:=Zm 1 _ rfl;clear Zm hut Zx;simp only[show Gm.size=2 from rfl,Yp,<-Yx] at d0 d1;have Ux:se[k]∈Mb m i:=by rw[wW.o];exact Qg Eu
    have HAT:=Lh (show (Mb m i)[k]? = some se[k] by rw[wW.o];exact Qa Eu);obtain⟨e,he⟩:=Xe (se[k]);rw[<-he] at d0 d1 tX wM og hy4 HAT Ux;clear he;have zrX:=Lh (HTO.o e Ux);have ztK:=Lh (fun M W h1 h2 h3=>HMK.o M e W h1 h2 h3 Ux);have ztO:=Lh (fun M=>HIV.o M e Ux);have HE:=Lh (HSP.o.edge HAT.o (by have:=zrX.o;unfold Od;split <;> omega) ztO.o);have HL3:=Lh HSP.o.len;clear Ux HAT HSP;obtain⟨et,en⟩:=e;simp only at d0 d1;have HW1:=Lh (HW.o.trans (World.grownBy_alloc wt (.cells #[.int .i64 et,.int .i64 en] 145) _));have HX1:=Lh (HX.o.grown (World.grownBy_alloc wt (.cells #[.int .i64 et,.int .i64 en] 145) none) (by simp));go_wp2_with fail;refine (ztK.o M _ HW1.o HX1.o HL3.o).mono ?_;rintro e w5 ⟨rfl,h5,h6⟩;have HW5:=Lh (HW1.o.trans h6);have HX5:=Lh h5;obtain⟨a,ha⟩:=Xe (oG dir M i (et,en));rw[<-ha] at HE |-;clear ha h5 h6;obtain⟨r,hr⟩:=Xe ((a||b));rw[<-hr] at HE;cases a <;> cases b <;> cases hr
    all_goals
     go_wp2_with fail;go_roundg (gk - 1);exact⟨_,_,k+1,rfl,by go_num,by omega,by have:=HGK3.o;omega,HW5.o,HX5.o,HE.o⟩;have:=HGK3.o;omega
   ·have hkq:k=q:=by omega
    subst hkq;have HNX:=Lh (iB.next (by rw[wW.o,<-HQ.o];exact HSP.o));clear HSP;go_wp2_with fail;go_roundg (zqS - 1);exact⟨b,M,i+1,rfl,by go_num,by omega,by have:=HGK2.o;omega,HW.o,HX.o,HNX.o⟩;have:=HGK2.o;omega
  ·have Ua:i=n:=by omega
   have Mg:=Lh (fun(h:b=false)=>iB.shutAll (by rw[<-HN.o];rw[h,Ua] at HSP;exact HSP.o));have HLE:=Lh HSP.o.le;have HMO:=Lh HSP.o.more;have HL4:=Lh HSP.o.len;have HI4:=Lh HSP.o.inv;subst Ua;clear HSP;go_wp2_with fail;go_roundg (gas - 1)
   case measure=>have:=HGK.o;have:=HLEFT.o;simp at this;omega
   case rel =>
    refine⟨b,M,rfl,?_,HW.o,HX.o,HL4.o,HI4.o,Mg.o⟩;have h1:=HLEFT.o;have h2:=HGK.o;have h3:=HLE.o;have h4:=HMO.o;simp only[if_true] at h1;cases b
    ·simp only[Bool.false_eq_true,if_false];omega
    ·have:=h4 rfl;simp only[if_true];omega
theorem lh(v:Value)(terms Gy:Int)(es:List (Int×Int))(w:World)(hv:Je Gm w w.heap.size v es) :
  Calls Tryz.prog 104 #[v,.int .i64 terms,.int .i64 Gy] w fun e w'=>e=.returned (.bool (Mv terms Gy (-1) es))/\Below w.heap.size w w':=by
 obtain⟨A,c,rfl,Nj,Uy⟩:=hv.form;unfold maxLen at Uy;go_enter Tryz.func104,Tryz.ntmps104;go_wp2_with fail;go_loopw [7,12] (fun v7 v12 wr=>∃(k:Nat)(last:Int),k<=es.length/\v7=.int .i64 last/\v12=.int .i64 k/\Hid (Mv terms Gy (-1) es=Mv terms Gy last (es.drop k))/\Below w.heap.size w wr) (fun _ v12 _=>es.length - (intOf v12).toNat);exact⟨0,-1,by omega,rfl,rfl,rfl,Xr _ _⟩;obtain⟨k,last,hk,rfl,rfl,HI,hbr⟩:=hrel;have Ek:=hbr.size;by_cases Ji:k<es.length
 ·obtain⟨eb,eo,cs,rfl,_,heb,Mz,Zm⟩:=(hv.below hbr).get Ji (by decide);obtain⟨rfl,q1,q2,q3,q4⟩:=Nf Mz;have f0:=Zm 0 _ rfl;have f1:=Zm 1 _ rfl;clear Zm Mz;simp only[show Gm.size=2 from rfl,Yp,<-Yx] at f0 f1;have HS:Hid (Mv terms Gy last (es.drop k)=(decide (last<es[k].1)&&decide (es[k].1<terms)&&decide (0<=es[k].2)&&decide (es[k].2<Gy)&&Mv terms Gy es[k].1 (es.drop (k+1)))):=by
   show _=_;rw[Ql Ji];rfl
  obtain⟨x,hx⟩:=Xe (es[k]);rw[<-hx] at f0 f1 q1 q2 q3 q4 HS;clear hx;obtain⟨t,u⟩:=x;simp only at f0 f1 q1 q2 q3 q4;obtain⟨b1,hb1⟩:∃ b:Bool,decide (t<=last)=b:=⟨_,rfl⟩;obtain⟨b2,Ja⟩:∃ b:Bool,decide (terms<=t)=b:=⟨_,rfl⟩;obtain⟨b3,hb3⟩:∃ b:Bool,decide (u<0)=b:=⟨_,rfl⟩;obtain⟨b4,hb4⟩:∃ b:Bool,decide (Gy<=u)=b:=⟨_,rfl⟩;have HR:Hid (Mv terms Gy last (es.drop k)=(!b1&&!b2&&!b3&&!b4&&Mv terms Gy t (es.drop (k+1)))):=by
   show _=_;rw[HS.o,<-hb1,<-Ja,<-hb3,<-hb4];simp only[<-decide_not,Int.not_le,Int.not_lt]
  clear HS;have HB:=Lh (hbr.alloc Ek (.cells #[.int .i64 t,.int .i64 u] 145));cases b1 <;> cases b2 <;> cases b3 <;> cases b4
  case false.false.false.false =>
   go_wp2_with fail;go_roundw;exact⟨k+1,t,by omega,rfl,by go_num,by show _=_;rw[HI.o,HR.o];rfl,HB.o⟩;simp[intOf];omega
  all_goals
   go_wp2_with fail;go_ret;exact⟨Kx (Zv (by rw[HI.o,HR.o];rfl)),HB.o⟩
 ·have Eu:k=es.length:=by omega
  subst Eu;have HT:Hid (Mv terms Gy last (es.drop es.length)=true):=by
   show _=_;rw[List.drop_length];rfl
  go_wp2_with fail;go_ret;exact⟨Kx (Zv (by rw[HI.o,HT.o])),hbr⟩
def Sw(terms:Int)(n:Nat)(l:List Sta):Bool:=l.all fun s=>decide (-1<=s.1)&&Mv terms n (-1) s.2
theorem qbQ(m:Kf)(terms:Int):Un m terms=(Sw terms m.length m&&decide (m≠[])):=rfl
theorem rC(v:Value)(terms:Int)(m:Kf)(w:World)(hv:Je Js w w.heap.size v m) :
  Calls Tryz.prog 48 #[v,.int .i64 terms] w fun e w'=>e=.returned (.bool (Un m terms))/\Below w.heap.size w w':=by
 obtain⟨A,c,rfl,Nj,Uy⟩:=hv.form;unfold maxLen at Uy;have HE:=Lh (qbQ m terms);go_enter Tryz.func48,Tryz.ntmps48;go_wp2_with fail;go_loopw [9] (fun v9 wr=>∃ k:Nat,k<=m.length/\v9=.int .i64 k/\Hid (Sw terms m.length m=Sw terms m.length (m.drop k))/\Below w.heap.size w wr) (fun v9 _=>m.length - (intOf v9).toNat);exact⟨0,by omega,rfl,rfl,Xr _ _⟩;obtain⟨k,hk,rfl,HI,hbr⟩:=hrel;have Ek:=hbr.size;by_cases Ji:k<m.length
 ·obtain⟨ab,ao,cs,rfl,_,Lj,Zx,Zm⟩:=(hv.below hbr).get Ji (by decide);obtain⟨u,rfl,hu,Ib,Sc⟩:=Me Zx;have c0:=Zm 0 _ rfl;have c1:=Zm 1 _ rfl;clear Zm Zx;simp only[show Js.size=2 from rfl,Yp,<-Yx] at c0 c1;have HS:Hid (Sw terms m.length (m.drop k)=((decide (-1<=m[k].1)&&Mv terms m.length (-1) m[k].2)&&Sw terms m.length (m.drop (k+1)))):=by
   show _=_;rw[Ql Ji];rfl
  obtain⟨x,hx⟩:=Xe (m[k]);rw[<-hx] at c0 hu Ib Sc HS;clear hx;obtain⟨o,es⟩:=x;simp only at c0 c1 hu Ib Sc;have HB:=Lh (hbr.alloc Ek (.cells #[.int .i64 o,u] 118));have HU:=Lh (hu.fut (B':=(wr.alloc (.cells #[.int .i64 o,u] 118)).heap.size) ((Xr wr.heap.size wr).alloc (Ya _) (.cells #[.int .i64 o,u] 118)) (by omega) (by simp;omega));obtain⟨A4,e4,rfl,hq1,hq2⟩:=hu.form;obtain⟨b1,hb1⟩:∃ b:Bool,decide (o < -1)=b:=⟨_,rfl⟩;have qmR:decide (-1<=o)=!b1:=by simp only[<-hb1,<-decide_not,Int.not_lt]
  cases b1
  ·go_wp2_with fail;refine (lh _ terms m.length es _ HU.o).mono ?_;rintro e w2 ⟨rfl,Ja⟩;have HB2:=Lh (HB.o.trans (Ja.mono (by simp;omega)));clear Ja;cases hr:Mv terms m.length (-1) es with
   |false =>
    have HF:Hid (Sw terms m.length m=false):=by
     show _=_;rw[HI.o,HS.o];simp only[hr,Bool.and_false,Bool.false_and]
    clear hr;go_wp2_with fail;go_ret;exact⟨Kx (Zv (by rw[HE.o,HF.o];rfl)),HB2.o⟩
   |true =>
    have HF:Hid (Sw terms m.length m=Sw terms m.length (m.drop (k+1))):=by
     show _=_;rw[HI.o,HS.o];simp only[hr,qmR,Bool.not_false,Bool.true_and]
    clear hr;go_wp2_with fail;go_roundw;exact⟨k+1,by omega,by go_num,HF.o,HB2.o⟩;simp[intOf];omega
  ·have HF:Hid (Sw terms m.length m=false):=by
    show _=_;rw[HI.o,HS.o];simp only[qmR,Bool.not_true,Bool.false_and]
   go_wp2_with fail;go_ret;exact⟨Kx (Zv (by rw[HE.o,HF.o];rfl)),HB.o⟩
 ·have Eu:k=m.length:=by omega
  subst Eu;have HF:Hid (Sw terms m.length m=true):=by
   show _=_;rw[HI.o,List.drop_length];rfl
  by_cases h0:m.length=0
  ·have HN:Hid (decide (m≠[])=false):=by
    show _=_;rw[Xw h0];rfl
   have HG:=Lh (show decide (0<m.length)=false by rw[h0];rfl);have hg:decide ((0:Int)<(m.length:Int))=false:=by rw[h0];rfl
   clear h0;go_wp2_with fail;go_ret;exact⟨Kx (Zv (by rw[HE.o,HF.o,HN.o];exact HG.o)),hbr⟩
  ·have HN:Hid (decide (m≠[])=true):=by
    show _=_;rw[Yj];exact fun e=>h0 (by rw[e];rfl)
   have HG:=Lh (show decide (0<m.length)=true by rw[Yj];omega);have hg:decide ((0:Int)<(m.length:Int))=true:=by rw[Yj];omega
   go_wp2_with fail;go_ret;exact⟨Kx (Zv (by rw[HE.o,HF.o,HN.o];exact HG.o)),hbr⟩
abbrev Zu:=List (Int×List Int)
abbrev Zw:=List (List Wd)
def tb(s:Int):UInt8:=UInt8.ofNat (-1 - s).toNat
def Tq(k:Int)(a b:List Wd):List Wd:=a.flatMap fun x=>b.map fun y=>(x++y).take k.toNat
def Ea(k:Int)(a b:List Wd):Option (List Wd):=if (Uw (Tq k a b)).length<=4096 then some (Uw (Tq k a b)) else none
def Ru(sets:Zw)(s:Int):Option (List Wd):=if s<0 then (if -256<=s then some [[tb s]] else none) else sets[s.toNat]?
def Nd(sets:Zw)(k:Int):List Wd->List Int->Option (List Wd)
 |acc,[]=>some acc
 |acc,s::l=>(Ru sets s).bind fun x=>(Ea k acc x).bind fun o=>Nd sets k o l
def lZ(sets:Zw)(k:Int)(syms:List Int):Option (List Wd):=Nd sets k [[]] syms
def Km(a b:List Wd):List Wd:=Uw (a++b)
inductive RoundsTo{σ:Type}(f:σ->Option (σ×Bool)):σ->Option σ->Prop
 |fail {s}:f s=none->RoundsTo f s none
 |done {s s'}:f s=some (s',false)->RoundsTo f s (some s')
 |more {s s' o}:f s=some (s',true)->RoundsTo f s' o->RoundsTo f s o
theorem RoundsTo.det{σ:Type}{f:σ->Option (σ×Bool)}{s:σ}{o:Option σ}(h:RoundsTo f s o):∀{o'},RoundsTo f s o'->o=o':=by
 induction h with
 |fail e=>intro o' h';cases h' with
  |fail _=>rfl
  |done e'=>rw[e] at e';cases e'
  |more e' _=>rw[e] at e';cases e'
 |done e=>intro o' h';cases h' with
  |fail e'=>rw[e] at e';cases e'
  |done e'=>rw[e] at e';cases e';rfl
  |more e' _=>rw[e] at e';cases e'
 |more e _ ih=>intro o' h';cases h' with
  |fail e'=>rw[e] at e';cases e'
  |done e'=>rw[e] at e';cases e'
  |more e' h=>rw[e] at e';cases e';exact ih h
theorem RoundsTo.inv{σ:Type}{f:σ->Option (σ×Bool)}(P:σ->Prop)(hp:∀ s s' g,P s->f s=some (s',g)->P s'){s:σ}{o:Option σ}(h:RoundsTo f s o):P s->∀ s',o=some s'->P s'/\∃ t,P t/\f t=some (s',false):=by
 induction h with
 |fail e=>intro _ s' h;cases h
 |done e=>intro h s' e2;cases e2;exact⟨hp _ _ _ h e,_,h,e⟩
 |more e _ ih=>intro h s' e2;exact ih (hp _ _ _ h e) s' e2
def Ew(k:Int)(sets:Zw)(r:Int×List Int):Option (Zw×Bool) :=
 (lZ sets k r.2).bind fun x =>
  if (Km (sets.getD r.1.toNat []) x).length<=4096 then some (sets.set r.1.toNat (Km (sets.getD r.1.toNat []) x),decide ((sets.getD r.1.toNat []).length<(Km (sets.getD r.1.toNat []) x).length)) else none
def Gc(k:Int):Zu->Zw×Bool->Option (Zw×Bool)
 |[],p=>some p
 |r::rs,p=>(Ew k p.1 r).bind fun q=>Gc k rs (q.1,p.2||q.2)
def Mj(k:Int)(rs:Zu)(s:Zw):Option (Zw×Bool):=Gc k rs (s,false)
def Fx(k:Int)(rs:Zu)(n:Nat)(o:Option Zw):Prop:=RoundsTo (Mj k rs) (List.replicate n []) o
def Kg(sets fol:Zw)(k:Int)(r:Int×List Int)(at_:Int):Option (List Wd) :=
 if at_ < -1\/(r.2.length:Int)<=at_\/r.1<0\/(fol.length:Int)<=r.1 then none
 else (lZ sets k (r.2.drop (at_+1).toNat)).bind fun x=>Ea k x (fol.getD r.1.toNat [])
structure En where
 fol:Zw
 grown:Bool
 limit:Bool
def Vq(sets:Zw)(k:Int)(r:Int×List Int)(at_:Nat)(p:En):En :=
 match Kg sets p.fol k r at_ with
 |none=>⟨p.fol,p.grown,true⟩
 |some x=>if r.2.getD at_ 0<0 then p else
   let a:=(r.2.getD at_ 0).toNat
   ⟨p.fol.set a (Km (p.fol.getD a []) x),p.grown||decide ((p.fol.getD a []).length<(Km (p.fol.getD a []) x).length),p.limit||decide (4096<(Km (p.fol.getD a []) x).length)⟩
def Vs(sets:Zw)(k:Int)(r:Int×List Int):Nat->Nat->En->En
 |0,_,p=>p
 |n+1,at_,p=>Vs sets k r n (at_+1) (Vq sets k r at_ p)
def Vy(sets:Zw)(k:Int):Zu->En->En
 |[],p=>p
 |r::rs,p=>Vy sets k rs (Vs sets k r r.2.length 0 p)
def Rj(sets:Zw)(k:Int)(rs:Zu)(fol:Zw):Option (Zw×Bool) :=
 let p:=Vy sets k rs ⟨fol,false,false⟩
 if p.limit then none else some (p.fol,p.grown)
def Dt(sets:Zw)(k:Int)(rs:Zu)(n:Nat)(o:Option Zw):Prop:=RoundsTo (Rj sets k rs) ((List.replicate n []).set 0 [[]]) o
def Mk(sets fol:Zw)(k:Int):Zu->Option Zw
 |[]=>some []
 |r::rs=>(Kg sets fol k r (-1)).bind fun x=>(Mk sets fol k rs).map (x::·)
inductive Der(rs:Zu):List Int->Wd->Prop
 |nil:Der rs [] []
 |term {s l w} (hs:s<0) (h:Der rs l w):Der rs (s::l) (tb s::w)
 |nont {a l r u v} (ha:0<=a) (hr:(a,r)∈rs) (h1:Der rs r u) (h2:Der rs l v):Der rs (a::l) (u++v)
inductive Fol(rs:Zu):Int->Wd->Prop
 |start:Fol rs 0 []
 |step {a r l1 b l2 u v} (hr:(a,r)∈rs) (e:r=l1++b::l2) (hb:0<=b) (h1:Der rs l2 u) (h2:Fol rs a v):Fol rs b (u++v)
theorem Ll(k:Nat)(u v:Wd):(u.take k++v.take k).take k=(u++v).take k:=by
 rw[List.take_append,List.take_append,List.take_take,List.take_take,Qq];congr 1
 ·simp
 ·rcases Nat.le_total k u.length with h | h
  ·rw[Nat.min_eq_left h];simp[Nat.sub_eq_zero_of_le h]
  ·rw[Nat.min_eq_right h,Nat.min_eq_left (Nat.sub_le _ _)]
theorem Bh(k:Nat)(u v:Wd):(u.take k++v).take k=(u++v).take k:=by
 rw[<-Ll k (u.take k) v,List.take_take,Nat.min_self,Ll]
theorem rQ(k:Nat)(u v:Wd):(u++v.take k).take k=(u++v).take k:=by
 rw[<-Ll k u (v.take k),List.take_take,Nat.min_self,Ll]
theorem Dw{k:Int}{a b:List Wd}{z:Wd}:z∈Tq k a b↔∃ x∈a,∃ y∈b,z=(x++y).take k.toNat:=by
 unfold Tq;simp only[Xu,Xa];constructor
 ·rintro⟨x,hx,y,hy,rfl⟩;exact⟨x,hx,y,hy,rfl⟩
 ·rintro⟨x,hx,y,hy,rfl⟩;exact⟨x,hx,y,hy,rfl⟩
theorem Fs{k:Int}{a b o:List Wd}(h:Ea k a b=some o){z:Wd}:z∈o↔∃ x∈a,∃ y∈b,z=(x++y).take k.toNat:=by
 unfold Ea at h;split at h
 ·injection h with h;subst h;rw[Dv,Dw]
 ·cases h
theorem qnS{k:Int}{a b o:List Wd}(h:Ea k a b=some o):qC o:=by
 unfold Ea at h;split at h
 ·injection h with h;subst h;exact Bc _
 ·cases h
def bY(rs:Zu)(k:Nat)(sets:Zw):Prop:=∀(a:Nat)(s:List Wd),sets[a]? = some s->∀ x∈s,∃ r u,((a:Int),r)∈rs/\Der rs r u/\x=u.take k
theorem jG{rs:Zu}{k:Nat}{sets:Zw}(hs:bY rs k sets):∀(syms:List Int)(acc out:List Wd),(∀ x∈acc,x.take k=x)->Nd sets k acc syms=some out->∀ z∈out,∃ x∈acc,∃ u,Der rs syms u/\z=(x++u).take k
 |[],acc,out,hk,h,z,hz=>by
  injection h with h;subst h;exact⟨z,hz,[],.nil,by rw[List.append_nil,hk z hz]⟩
 |s::l,acc,out,hk,h,z,hz=>by
  simp only[Nd] at h;cases h1:Ru sets s with
  |none=>rw[h1] at h;cases h
  |some x1 =>
   rw[h1,Option.bind_some] at h;cases h2:Ea (k:Int) acc x1 with
   |none=>rw[h2] at h;cases h
   |some o =>
    rw[h2,Option.bind_some] at h;obtain⟨y,hy,u,hu,rfl⟩:=jG hs l o out (fun x hx=>by obtain⟨_,_,_,_,rfl⟩:=(Fs h2).1 hx;simp[List.take_take]) h z hz;obtain⟨p,hp,q,hq,rfl⟩:=(Fs h2).1 hy;simp only[Yy];rw[Bh];unfold Ru at h1;split at h1
    ·rename_i hneg;split at h1
     ·injection h1 with h1;subst h1;rw[Qi] at hq;subst hq;exact⟨p,hp,tb s::u,.term hneg hu,by simp⟩
     ·cases h1
    ·rename_i Dg;obtain⟨r,v,hr,hv,rfl⟩:=hs _ _ h1 q hq;rw[Int.toNat_of_nonneg (by omega)] at hr;refine⟨p,hp,v++u,.nont (by omega) hr hv hu,?_⟩;rw[<-Bh k (p++v.take k),rQ,Bh,Xd]
theorem zL{rs:Zu}{k:Nat}{sets:Zw}(hs:bY rs k sets){syms:List Int}{out:List Wd}(h:lZ sets k syms=some out){z:Wd}(hz:z∈out):∃ u,Der rs syms u/\z=u.take k:=by
 obtain⟨x,hx,u,hu,e⟩:=jG hs syms [[]] out (fun x hx=>by rw[Qi] at hx;subst hx;simp) h z hz;rw[Qi] at hx;subst hx;exact⟨u,hu,by simpa using e⟩
def kU(rs:Zu)(k:Nat)(sets:Zw):Prop:=∀ a r,(a,r)∈rs->0<=a->∃ x s,lZ sets k r=some x/\sets[a.toNat]? = some s/\∀ y∈x,y∈s
theorem mp{rs:Zu}{k:Nat}{sets:Zw}(hc:kU rs k sets){syms:List Int}{u:Wd}(h:Der rs syms u):∀(acc out:List Wd),Nd sets k acc syms=some out->(∀ x∈acc,x.take k=x)->∀ x∈acc,(x++u).take k∈out:=by
 induction h with
 |nil =>
  intro acc out h hk x hx;injection h with h;subst h;rw[List.append_nil,hk x hx];exact hx
 |@term s l w hs hd ih =>
  intro acc out h hk x hx;simp only[Nd] at h;cases h1:Ru sets s with
  |none=>rw[h1] at h;cases h
  |some x1 =>
   rw[h1,Option.bind_some] at h;cases h2:Ea (k:Int) acc x1 with
   |none=>rw[h2] at h;cases h
   |some o =>
    rw[h2,Option.bind_some] at h;unfold Ru at h1;rw[if_pos hs] at h1;split at h1
    ·injection h1 with h1;subst h1;have hm:(x++[tb s]).take k∈o:=(Fs h2).2 ⟨x,hx,[tb s],by simp,by simp⟩;have:=ih o out h (fun x hx=>by obtain⟨_,_,_,_,rfl⟩:=(Fs h2).1 hx;simp[List.take_take]) _ hm;rw[Bh,Xd] at this;exact this
    ·cases h1
 |@nont a l r u v ha hr h1' h2' ih1 ih2 =>
  intro acc out h hk x hx;simp only[Nd] at h;cases h1:Ru sets a with
  |none=>rw[h1] at h;cases h
  |some x1 =>
   rw[h1,Option.bind_some] at h;cases h2:Ea (k:Int) acc x1 with
   |none=>rw[h2] at h;cases h
   |some o =>
    rw[h2,Option.bind_some] at h;unfold Ru at h1;rw[if_neg (by omega)] at h1;obtain⟨xr,s,e1,e2,e3⟩:=hc a r hr ha;rw[e2] at h1;injection h1 with h1;subst h1;have hu:=ih1 [[]] xr e1 (fun x hx=>by rw[Qi] at hx;subst hx;simp) [] (by simp);rw[List.nil_append] at hu;have hm:(x++u.take k).take k∈o:=(Fs h2).2 ⟨x,hx,u.take k,e3 _ hu,by simp⟩;have:=ih2 o out h (fun x hx=>by obtain⟨_,_,_,_,rfl⟩:=(Fs h2).1 hx;simp[List.take_take]) _ hm;rw[rQ,Bh,Xd] at this;exact this
theorem qkC{rs:Zu}{k:Nat}{sets:Zw}(hc:kU rs k sets){syms:List Int}{u:Wd}(h:Der rs syms u){out:List Wd}(ho:lZ sets k syms=some out):u.take k∈out:=by
 have:=mp hc h [[]] out ho (fun x hx=>by rw[Qi] at hx;subst hx;simp) [] (by simp);simpa using this
def Rn(rs:Zu)(n:Nat):Prop:=∀ a r,(a,r)∈rs->0<=a/\a<n/\∀ s∈r,s<n
def Uv(s:Zw):Prop:=∀(a:Nat)(x:List Wd),s[a]? = some x->qC x
theorem Uv.getD{s:Zw}(h:Uv s)(a:Nat):qC (s.getD a []):=by
 rw[Qb];cases e:s[a]? with
 |none=>exact List.Pairwise.nil
 |some x=>exact h a x e
theorem Uv.set{s:Zw}(h:Uv s)(a:Nat){x:List Wd}(hx:qC x):Uv (s.set a x):=by
 intro b y hy;rw[Xv] at hy;split at hy
 ·split at hy
  ·injection hy with hy;subst hy;exact hx
  ·cases hy
 ·exact h b y hy
theorem Uv.replicate(n:Nat):Uv (List.replicate n []):=by
 intro b y hy;rw[Xg] at hy;split at hy
 ·injection hy with hy;subst hy;exact List.Pairwise.nil
 ·cases hy
theorem Fz(a b:List Wd):qC (Km a b):=Bc _
theorem Br{a b:List Wd}{x:Wd}:x∈Km a b↔x∈a\/x∈b:=by unfold Km;rw[Dv,Qh]
theorem eH(s:Zw)(a:Nat):s.set a (s.getD a [])=s:=by
 apply List.ext_getElem?;intro i;rw[Xv];split
 ·rename_i h;subst h;split
  ·rename_i hl;rw[Qb,Qa hl];rfl
  ·rename_i hl;rw[Xf (by omega)]
 ·rfl
structure Ck(rs:Zu)(n k:Nat)(s:Zw):Prop where
 len:s.length=n
 asc:Uv s
 sound:bY rs k s
theorem uQ(rs:Zu)(n k:Nat):Ck rs n k (List.replicate n []):=⟨by simp,Uv.replicate n,fun a s h x hx=>by
 rw[Xg] at h
 split at h
 ·injection h with h;subst h;cases hx
 ·cases h⟩
theorem qfG{rs:Zu}{n k:Nat}{s s':Zw}{g:Bool}{r:Int×List Int}(hr:r∈rs)(hw:Rn rs n)(h:Ck rs n k s)(e:Ew k s r=some (s',g)):Ck rs n k s':=by
 unfold Ew at e;cases h1:lZ s k r.2 with
 |none=>rw[h1] at e;cases e
 |some x =>
  rw[h1,Option.bind_some] at e;split at e
  ·injection e with e;injection e with e e2;subst e;refine⟨by rw[Qm];exact h.len,h.asc.set _ (Fz _ _),fun a s1 Ft y hy=>?_⟩;rw[Xv] at Ft;split at Ft
   ·rename_i ha;split at Ft
    ·injection Ft with Ft;subst Ft ha;rcases Br.1 hy with hy | hy
     ·rw[Qb] at hy;cases e3:s[r.1.toNat]? with
      |none=>rw[e3] at hy;cases hy
      |some z=>rw[e3] at hy;exact h.sound _ _ e3 y hy
     ·obtain⟨u,hu,rfl⟩:=zL h.sound h1 hy;refine⟨r.2,u,?_,hu,rfl⟩;rw[Int.toNat_of_nonneg (hw r.1 r.2 hr).1];exact hr
    ·cases Ft
   ·exact h.sound _ _ Ft y hy
  ·cases e
theorem sM{rs:Zu}{n k:Nat}(hw:Rn rs n):∀(l:Zu)(p q:Zw×Bool),(∀ r∈l,r∈rs)->Ck rs n k p.1->Gc k l p=some q->Ck rs n k q.1
 |[],p,q,_,h,e=>by injection e with e;subst e;exact h
 |r::l,p,q,hl,h,e=>by
  simp only[Gc] at e;cases h1:Ew k p.1 r with
  |none=>rw[h1] at e;cases e
  |some t =>
   rw[h1,Option.bind_some] at e;exact sM hw l (t.1,p.2||t.2) q (fun r hr=>hl r (by simp[hr])) (qfG (g:=t.2) (hl r (by simp)) hw h h1) e
theorem pl{k:Int}{s s':Zw}{r:Int×List Int}(ha:Uv s)(e:Ew k s r=some (s',false)):s'=s/\∃ x,lZ s k r.2=some x/\∀ y∈x,y∈s.getD r.1.toNat []:=by
 unfold Ew at e;cases h1:lZ s k r.2 with
 |none=>rw[h1] at e;cases e
 |some x =>
  rw[h1,Option.bind_some] at e;split at e
  ·injection e with e;injection e with e e2;have hle:=of_decide_eq_false e2;obtain⟨g1,g2⟩:=(cM (a:=s.getD r.1.toNat []) (b:=x) (ha.getD _)).2 (Nat.le_of_not_lt hle);refine⟨?_,x,rfl,g2⟩;rw[<-e];show s.set _ (Uw _)=s;rw[g1,eH]
  ·cases e
theorem jA{k:Int}:∀(l:Zu)(s s':Zw)(g:Bool),Uv s->Gc k l (s,g)=some (s',false)->g=false/\s'=s/\∀ r∈l,∃ x,lZ s k r.2=some x/\∀ y∈x,y∈s.getD r.1.toNat []
 |[],s,s',g,_,e=>by
  injection e with e;injection e with e1 e2;exact⟨e2,e1.symm,fun r hr=>by cases hr⟩
 |r::l,s,s',g,ha,e=>by
  simp only[Gc] at e;cases h1:Ew k s r with
  |none=>rw[h1] at e;cases e
  |some t =>
   rw[h1,Option.bind_some] at e;obtain⟨t1,t2⟩:=t;cases t2 with
   |true =>
    exfalso;rw[Bool.or_true] at e;have:∀(l:Zu)(p:Zw)(q:Zw×Bool),Gc k l (p,true)=some q->q.2=true:=by
     intro l
     induction l with
     |nil=>intro p q e;injection e with e;subst e;rfl
     |cons r l ih =>
      intro p q e;simp only[Gc] at e;cases h:Ew k p r with
      |none=>rw[h] at e;cases e
      |some t=>rw[h,Option.bind_some,Bool.true_or] at e;exact ih _ _ e
    have:=this _ _ _ e;cases this
   |false =>
    rw[Bool.or_false] at e;obtain⟨rfl,x,hx,hs⟩:=pl ha h1;obtain⟨hg,rfl,h2⟩:=jA l _ s' g ha e;refine⟨hg,rfl,fun r' xQ=>?_⟩;rcases List.mem_cons.1 xQ with rfl | xQ
    ·exact⟨x,hx,hs⟩
    ·exact h2 r' xQ
theorem Fx.full{rs:Zu}{n k:Nat}(hw:Rn rs n){s:Zw}(h:Fx k rs n (some s)):Ck rs n k s/\kU rs k s:=by
 obtain⟨h1,t,h2,h3⟩:=RoundsTo.inv (Ck rs n k) (fun s s' g hs e=>sM hw rs (s,false) (s',g) (fun _ h=>h) hs e) h (uQ rs n k) s rfl;refine⟨h1,?_⟩;obtain⟨_,rfl,h4⟩:=jA rs t s false h2.asc h3;intro a r hr ha;obtain⟨x,hx,hs⟩:=h4 (a,r) hr;have hl:a.toNat<s.length:=by rw[h1.len];have:=(hw a r hr).2.1;omega
 refine⟨x,s[a.toNat],hx,Qa hl,fun y hy=>?_⟩;have:=hs y hy
 rwa [Qb,Qa hl] at this
def ib(rs:Zu)(k:Nat)(fol:Zw):Prop:=∀(a:Nat)(s:List Wd),fol[a]? = some s->∀ x∈s,∃ v,Fol rs a v/\x=v.take k
theorem ib.getD{rs:Zu}{k:Nat}{fol:Zw}(h:ib rs k fol){a:Nat}{x:Wd}(hx:x∈fol.getD a []):∃ v,Fol rs a v/\x=v.take k:=by
 rw[Qb] at hx;cases e:fol[a]? with
 |none=>rw[e] at hx;cases hx
 |some s=>rw[e] at hx;exact h _ _ e x hx
theorem fE{rs:Zu}{k:Nat}{sets fol:Zw}(hs:bY rs k sets)(ho:ib rs k fol){r:Int×List Int}{at_:Int}{out:List Wd}(h:Kg sets fol k r at_=some out){z:Wd}(hz:z∈out) :
  ∃ u v,Der rs (r.2.drop (at_+1).toNat) u/\Fol rs r.1 v/\z=(u++v).take k:=by
 unfold Kg at h;split at h
 ·cases h
 ·rename_i hg;cases h1:lZ sets k (r.2.drop (at_+1).toNat) with
  |none=>rw[h1] at h;cases h
  |some x =>
   rw[h1,Option.bind_some] at h;obtain⟨p,hp,q,hq,rfl⟩:=(Fs h).1 hz;obtain⟨u,hu,rfl⟩:=zL hs h1 hp;obtain⟨v,hv,rfl⟩:=ho.getD hq;rw[Int.toNat_of_nonneg (by omega)] at hv;exact⟨u,v,hu,hv,by simp only[Yy];rw[Ll]⟩
theorem kE{rs:Zu}{k:Nat}{sets fol:Zw}(hc:kU rs k sets){r:Int×List Int}{at_:Int}{out:List Wd}(h:Kg sets fol k r at_=some out){u v:Wd}(hu:Der rs (r.2.drop (at_+1).toNat) u)(hv:v.take k∈fol.getD r.1.toNat []) :
  (u++v).take k∈out:=by
 unfold Kg at h;split at h
 ·cases h
 ·cases h1:lZ sets k (r.2.drop (at_+1).toNat) with
  |none=>rw[h1] at h;cases h
  |some x =>
   rw[h1,Option.bind_some] at h;exact (Fs h).2 ⟨u.take k,qkC hc hu h1,v.take k,hv,by simp only[Yy];rw[Ll]⟩
structure Hg(rs:Zu)(n k:Nat)(s:Zw):Prop where
 len:s.length=n
 asc:Uv s
 sound:ib rs k s
 start:[]∈s.getD 0 []
theorem ez{rs:Zu}{n k:Nat}(hn:0<n):Hg rs n k ((List.replicate n []).set 0 [[]]):=by
 refine⟨by simp,(Uv.replicate n).set 0 (by simp),fun a s h x hx=>?_,?_⟩
 ·rw[Xv] at h;split at h
  ·rename_i ha;split at h
   ·injection h with h;subst h ha;rw[Qi] at hx;subst hx;exact⟨[],.start,by simp⟩
   ·cases h
  ·rw[Xg] at h;split at h
   ·injection h with h;subst h;cases hx
   ·cases h
 ·rw[Qb,Xv];simp[hn]
theorem zq{r:List Int}{at_:Nat}(h:at_<r.length):r=r.take at_++r.getD at_ 0::r.drop (at_+1):=by
 rw[Qb,Qa h];simp
theorem kf{rs:Zu}{n k:Nat}(hn:0<n){sets:Zw}(hs:bY rs k sets){r:Int×List Int}(hr:r∈rs){at_:Nat}(xS:at_<r.2.length){p:En}(h:Hg rs n k p.fol):Hg rs n k (Vq sets k r at_ p).fol:=by
 unfold Vq;cases h1:Kg sets p.fol k r at_ with
 |none=>exact h
 |some x =>
  simp only;split
  ·exact h
  ·rename_i Dg;refine⟨by simp only[Qm];exact h.len,h.asc.set _ (Fz _ _),fun a s Ft y hy=>?_,?_⟩
   ·simp only[Xv] at Ft;split at Ft
    ·rename_i ha;split at Ft
     ·injection Ft with Ft;subst Ft ha;rcases Br.1 hy with hy | hy
      ·exact h.sound.getD hy
      ·obtain⟨u,v,hu,hv,rfl⟩:=fE hs h.sound h1 hy;refine⟨u++v,?_,rfl⟩;rw[Int.toNat_of_nonneg (by omega)];rw[show ((at_:Int)+1).toNat=at_+1 by omega] at hu;exact .step (a:=r.1) (r:=r.2) hr (zq xS) (by omega) hu hv
     ·cases Ft
    ·exact h.sound _ _ Ft y hy
   ·simp only[Qb,Xv];split
    ·rename_i ha;rw[if_pos (by rw[h.len];omega)];simp only[Option.getD_some];refine Br.2 (.inl ?_);rw[ha];simpa[Qb] using h.start
    ·simpa[Qb] using h.start
theorem iU{rs:Zu}{n k:Nat}(hn:0<n){sets:Zw}(hs:bY rs k sets){r:Int×List Int}(hr:r∈rs):∀(m at_:Nat)(p:En),at_+m<=r.2.length->Hg rs n k p.fol->Hg rs n k (Vs sets k r m at_ p).fol
 |0,_,p,_,h=>h
 |m+1,at_,p,hm,h=>iU hn hs hr m (at_+1) _ (by omega) (kf hn hs hr (by omega) h)
theorem eF{rs:Zu}{n k:Nat}(hn:0<n){sets:Zw}(hs:bY rs k sets):∀(l:Zu)(p:En),(∀ r∈l,r∈rs)->Hg rs n k p.fol->Hg rs n k (Vy sets k l p).fol
 |[],p,_,h=>h
 |r::l,p,hl,h=>eF hn hs l _ (fun r hr=>hl r (by simp[hr])) (iU hn hs (hl r (by simp)) _ _ _ (by omega) h)
def kJ(p:En):Prop:=p.grown=false/\p.limit=false
theorem eD{sets:Zw}{k:Int}{r:Int×List Int}{at_:Nat}{p:En}(h:kJ (Vq sets k r at_ p)):kJ p:=by
 unfold Vq at h;cases h1:Kg sets p.fol k r at_ with
 |none=>rw[h1] at h;cases h.2
 |some x =>
  rw[h1] at h;simp only at h;split at h
  ·exact h
  ·obtain⟨h2,h3⟩:=h;simp only[Ym] at h2 h3;exact⟨h2.1,h3.1⟩
theorem Bi{sets:Zw}{k:Int}{r:Int×List Int}:∀(m at_:Nat)(p:En),kJ (Vs sets k r m at_ p)->kJ p
 |0,_,_,h=>h
 |m+1,at_,_,h=>eD (Bi m (at_+1) _ h)
theorem Hl{sets:Zw}{k:Int}:∀(l:Zu)(p:En),kJ (Vy sets k l p)->kJ p
 |[],_,h=>h
 |_::l,_,h=>Bi _ _ _ (Hl l _ h)
def fz(sets fol:Zw)(k:Int)(r:Int×List Int)(at_:Nat):Prop:=∃ x,Kg sets fol k r at_=some x/\(0<=r.2.getD at_ 0->∀ y∈x,y∈fol.getD (r.2.getD at_ 0).toNat [])
theorem xB{sets:Zw}{k:Int}{r:Int×List Int}{at_:Nat}{p:En}(ha:Uv p.fol)(h:kJ (Vq sets k r at_ p)):Vq sets k r at_ p=p/\fz sets p.fol k r at_:=by
 have hq:=eD h;unfold Vq at h |-;cases h1:Kg sets p.fol k r at_ with
 |none=>rw[h1] at h;cases h.2
 |some x =>
  rw[h1] at h;simp only at h |-;split at h
  ·rename_i hneg;exact⟨if_pos hneg,x,h1,fun h0=>absurd hneg (by omega)⟩
  ·rename_i Dg;rw[if_neg Dg];obtain⟨h2,h3⟩:=h;simp only[Ym,Yk] at h2 h3;obtain⟨g1,g2⟩:=(cM (a:=p.fol.getD (r.2.getD at_ 0).toNat []) (b:=x) (ha.getD _)).2 (Nat.le_of_not_lt h2.2);refine⟨?_,x,h1,fun _=>g2⟩;obtain⟨f,g,l⟩:=p;obtain⟨e1,e2⟩:=hq;simp only at e1 e2 g1 h2 h3 |-;subst e1 e2;show En.mk (f.set _ (Uw _)) _ _=_;unfold Km;rw[g1,eH];unfold Km at h2 h3;rw[g1] at h3;simp only[Ys,En.mk.injEq,true_and,Yk,Nat.lt_irrefl,not_false_eq_true];exact h3.2
theorem aP{sets:Zw}{k:Int}{r:Int×List Int}:∀(m at_:Nat)(p:En),Uv p.fol->kJ (Vs sets k r m at_ p)->Vs sets k r m at_ p=p/\∀ i,at_<=i->i<at_+m->fz sets p.fol k r i
 |0,_,_,_,h=>⟨rfl,fun i h1 h2=>by omega⟩
 |m+1,at_,p,ha,h=>by
  simp only[Vs] at h |-;obtain⟨e1,e2⟩:=xB ha (Bi m (at_+1) _ h);rw[e1] at h |-;obtain⟨e3,e4⟩:=aP m (at_+1) p ha h;refine⟨e3,fun i h1 h2=>?_⟩;rcases Nat.eq_or_lt_of_le h1 with rfl | h1
  ·exact e2
  ·exact e4 i h1 (by omega)
theorem Hk{sets:Zw}{k:Int}:∀(l:Zu)(p:En),Uv p.fol->kJ (Vy sets k l p)->Vy sets k l p=p/\∀ r∈l,∀ i,i<r.2.length->fz sets p.fol k r i
 |[],_,_,h=>⟨rfl,fun r hr=>by cases hr⟩
 |r::l,p,ha,h=>by
  simp only[Vy] at h |-;obtain⟨e1,e2⟩:=aP _ _ _ ha (Hl l _ h);rw[e1] at h |-;obtain⟨e3,e4⟩:=Hk l p ha h;refine⟨e3,fun r' xQ i hi=>?_⟩;rcases List.mem_cons.1 xQ with rfl | xQ
  ·exact e2 i (by omega) (by omega)
  ·exact e4 r' xQ i hi
theorem Dt.full{rs:Zu}{n k:Nat}(hn:0<n){sets:Zw}(hs:bY rs k sets)(hc:kU rs k sets){fol:Zw}(h:Dt sets k rs n (some fol)) :
  Hg rs n k fol/\∀(b:Int)(v:Wd),0<=b->b<n->Fol rs b v->v.take k∈fol.getD b.toNat []:=by
 obtain⟨h1,t,h2,h3⟩:=RoundsTo.inv (Hg rs n k) (fun s s' g hi e=>by
  unfold Rj at e
  simp only at e
  split at e
  ·cases e
  ·injection e with e
   injection e with e1 e2
   rw[<-e1]
   exact eF hn hs rs ⟨s,false,false⟩ (fun _ h=>h) hi) h (ez hn) fol rfl
 refine⟨h1,?_⟩;unfold Rj at h3;simp only at h3;split at h3
 ·cases h3
 ·rename_i hlim;injection h3 with h3;injection h3 with h3 h4;obtain⟨e1,e2⟩:=Hk rs ⟨t,false,false⟩ h2.asc ⟨h4,by simpa using hlim⟩;rw[e1] at h3;simp only at h3;subst h3;have key:∀ b v,Fol rs b v->v.take k∈t.getD b.toNat []:=by
   intro b v hf
   induction hf with
   |start=>simpa using h2.start
   |@step a r l1 b l2 u v hr e hb hd hf ih =>
    subst e;obtain⟨x,hx,Ua⟩:=e2 (a,l1++b::l2) hr l1.length (by simp);have xS:(l1++b::l2).getD l1.length 0=b:=by simp
    simp only[xS] at Ua;refine Ua hb _ (kE hc hx ?_ ih);simp only[show ((l1.length:Int)+1).toNat=l1.length+1 by omega];simpa using hd
  exact fun b v _ _ hf=>key b v hf
theorem iA{sets fol:Zw}{k:Int}:∀(l:Zu)(out:Zw),Mk sets fol k l=some out->out.length=l.length/\∀(i:Nat)(r:Int×List Int),l[i]? = some r->∃ x,out[i]? = some x/\Kg sets fol k r (-1)=some x
 |[],out,h=>by injection h with h;subst h;exact⟨rfl,fun i r h=>by simp at h⟩
 |r::l,out,h=>by
  simp only[Mk] at h;cases h1:Kg sets fol k r (-1) with
  |none=>rw[h1] at h;cases h
  |some x =>
   rw[h1,Option.bind_some] at h;cases h2:Mk sets fol k l with
   |none=>rw[h2] at h;cases h
   |some o =>
    rw[h2] at h;injection h with h;subst h;obtain⟨e1,e2⟩:=iA l o h2;refine⟨by simp[e1],fun i r' xQ=>?_⟩;cases i with
    |zero=>simp only[List.getElem?_cons_zero,Option.some.injEq] at xQ;subst xQ;exact⟨x,by simp,h1⟩
    |succ i=>simpa using e2 i r' (by simpa using xQ)
def je(rs:Zu)(k:Nat)(r:Int×List Int)(z:Wd):Prop:=∃ u v,Der rs r.2 u/\Fol rs r.1 v/\z=(u++v).take k
structure vY(rs:Zu)(n k:Nat)(out:Zw):Prop where
 len:out.length=rs.length
 mean:∀(i:Nat)(r:Int×List Int)(x:List Wd),rs[i]? = some r->out[i]? = some x->qC x/\∀ z,z∈x↔je rs k r z
theorem rg{sets fol:Zw}{k:Int}{r:Int×List Int}{at_:Int}{x:List Wd}(h:Kg sets fol k r at_=some x):qC x:=by
 unfold Kg at h;split at h
 ·cases h
 ·cases h1:lZ sets k (r.2.drop (at_+1).toNat) with
  |none=>rw[h1] at h;cases h
  |some y=>rw[h1,Option.bind_some] at h;exact qnS h
theorem zdT{rs:Zu}{n k:Nat}(hn:0<n)(hw:Rn rs n){sets fol out:Zw}(h1:Fx k rs n (some sets))(h2:Dt sets k rs n (some fol))(h3:Mk sets fol k rs=some out):vY rs n k out:=by
 obtain⟨a1,a2⟩:=h1.full hw;obtain⟨b1,b2⟩:=h2.full hn a1.sound a2;obtain⟨c1,c2⟩:=iA rs out h3;refine⟨c1,fun i r x hr hx=>?_⟩;obtain⟨y,hy,hb⟩:=c2 i r hr;rw[hx] at hy;injection hy with hy;subst hy;refine⟨rg hb,fun z=>⟨fun hz=>?_,fun hz=>?_⟩⟩
 ·obtain⟨u,v,hu,hv,e⟩:=fE a1.sound b1.sound hb hz;exact⟨u,v,by simpa using hu,hv,e⟩
 ·obtain⟨u,v,hu,hv,rfl⟩:=hz;have hm:(r.1,r.2)∈rs:=Qp hr;have:=hw r.1 r.2 hm;exact kE a2 hb (by simpa using hu) (b2 r.1 v this.1 this.2.1 hv)
def qgQ:Nat->List Wd
 |0=>[[]]
 |n+1=>[]::(qgQ n).flatMap fun w=>[0::w,1::w,2::w]
def aE(w:Wd):Prop:=w.length<=4/\∀ c∈w,c.toNat<3
theorem my:∀(n:Nat)(w:Wd),w.length<=n->(∀ c∈w,c.toNat<3)->w∈qgQ n
 |0,[],_,_=>by simp[qgQ]
 |0,c::w,h,_=>by simp at h
 |n+1,[],_,_=>by simp[qgQ]
 |n+1,c::w,h,hc=>by
  have ih:=my n w (by simpa using h) (fun c hc'=>hc c (by simp[hc']));have h3:=hc c (by simp);simp only[qgQ,List.mem_cons,Xu];right;refine⟨w,ih,?_⟩;have:c=0\/c=1\/c=2:=by
   have e:c=UInt8.ofNat c.toNat:=by simp
   have:c.toNat=0\/c.toNat=1\/c.toNat=2:=by omega
   rcases this with h | h | h <;> rw[h] at e <;> simp[e]
  rcases this with rfl | rfl | rfl <;> simp
theorem zaA:(qgQ 4).length=121:=rfl
theorem qaU{l:List Wd}(hn:l.Nodup)(h:∀ w∈l,aE w):l.length<=121:=by
 rw[<-zaA];exact hn.length_le_of_subset fun w hw=>my 4 w (h w hw).1 (h w hw).2
def Fp(s:Zw):Prop:=∀(a:Nat)(x:List Wd),s[a]? = some x->∀ w∈x,aE w
theorem qt{k:Int}(hk:k<=4){a b:List Wd}(ha:∀ w∈a,aE w)(hb:∀ w∈b,aE w):∃ o,Ea k a b=some o/\∀ w∈o,aE w:=by
 have hf:∀ w∈Tq k a b,aE w:=by
  intro w hw;obtain⟨x,hx,y,hy,rfl⟩:=Dw.1 hw;refine⟨by rw[Qq];omega,fun c hc=>?_⟩;rcases Qh.1 (List.mem_of_mem_take hc) with h | h
  ·exact (ha x hx).2 c h
  ·exact (hb y hy).2 c h
 have h:=qaU (Bc (Tq k a b)).nodup fun w hw=>hf w (Dv.1 hw);refine⟨Uw (Tq k a b),?_,fun w hw=>hf w (Dv.1 hw)⟩;unfold Ea;rw[if_pos (by omega)]
def zbV(rs:Zu):Prop:=∀ a r,(a,r)∈rs->∀ s∈r,-3<=s
theorem qxO{s:Int}(h1:s<0)(h2:-3<=s):(tb s).toNat<3:=by
 unfold tb;rw[UInt8.toNat_ofNat'];omega
theorem tG{k:Int}(hk:k<=4){sets:Zw}(hs:Fp sets):∀(syms:List Int)(acc:List Wd),(∀ s∈syms,-3<=s/\s<sets.length)->(∀ w∈acc,aE w)->∃ o,Nd sets k acc syms=some o/\∀ w∈o,aE w
 |[],acc,_,ha=>⟨acc,rfl,ha⟩
 |s::l,acc,hl,ha=>by
  obtain⟨h1,h2⟩:=hl s (by simp);have ho:∃ x,Ru sets s=some x/\∀ w∈x,aE w:=by
   unfold Ru;split
   ·rename_i hneg;rw[if_pos (by omega)];refine⟨_,rfl,fun w hw=>?_⟩;rw[Qi] at hw;subst hw;exact⟨by simp,fun c hc=>by rw[Qi] at hc;subst hc;exact qxO hneg h1⟩
   ·have hl:s.toNat<sets.length:=by omega
    exact⟨sets[s.toNat],Qa hl,hs _ _ (Qa hl)⟩
  obtain⟨x,hx,hxf⟩:=ho;obtain⟨o,ho,hof⟩:=qt hk ha hxf;obtain⟨z,hz,hzf⟩:=tG hk hs l o (fun s h=>hl s (by simp[h])) hof;exact⟨z,by simp only[Nd,hx,Option.bind_some,ho,hz],hzf⟩
theorem qaT:∀ w∈([[]]:List Wd),aE w:=fun w hw=>by rw[Qi] at hw;subst hw;exact⟨by simp,fun c hc=>by cases hc⟩
theorem v_{k:Int}(hk:k<=4){sets:Zw}(hs:Fp sets){syms:List Int}(h:∀ s∈syms,-3<=s/\s<sets.length):∃ o,lZ sets k syms=some o/\∀ w∈o,aE w:=tG hk hs syms [[]] h qaT
theorem Fp.getD{s:Zw}(h:Fp s)(a:Nat):∀ w∈s.getD a [],aE w:=by
 rw[Qb];cases e:s[a]? with
 |none=>intro w hw;cases hw
 |some x=>exact h a x e
theorem Fp.set{s:Zw}(h:Fp s)(a:Nat){x:List Wd}(hx:∀ w∈x,aE w):Fp (s.set a x):=by
 intro b y hy;rw[Xv] at hy;split at hy
 ·split at hy
  ·injection hy with hy;subst hy;exact hx
  ·cases hy
 ·exact h b y hy
theorem Fp.replicate(n:Nat):Fp (List.replicate n []):=by
 intro b y hy;rw[Xg] at hy;split at hy
 ·injection hy with hy;subst hy;intro w hw;cases hw
 ·cases hy
theorem yG{a b:List Wd}(ha:∀ w∈a,aE w)(hb:∀ w∈b,aE w):(∀ w∈Km a b,aE w)/\(Km a b).length<=121:=by
 have h:∀ w∈Km a b,aE w:=fun w hw=>(Br.1 hw).elim (ha w) (hb w);exact⟨h,qaU (Fz a b).nodup h⟩
theorem qfH{k:Int}(hk:k<=4){s:Zw}(hs:Fp s){r:Int×List Int}(hr:∀ x∈r.2,-3<=x/\x<s.length):∃ q,Ew k s r=some q/\Fp q.1/\q.1.length=s.length:=by
 obtain⟨o,ho,hof⟩:=v_ hk hs hr;obtain⟨u1,u2⟩:=yG (hs.getD r.1.toNat) hof;unfold Ew;rw[ho,Option.bind_some,if_pos (by omega)];exact⟨_,rfl,hs.set _ u1,by simp⟩
theorem sN{k:Int}(hk:k<=4){n:Nat}:∀(l:Zu)(p:Zw×Bool),(∀ r∈l,∀ x∈r.2,-3<=x/\x<n)->Fp p.1->p.1.length=n->∃ q,Gc k l p=some q/\Fp q.1/\q.1.length=n
 |[],p,_,hs,hl=>⟨p,rfl,hs,hl⟩
 |r::l,p,hr,hs,hl=>by
  obtain⟨q,hq,h1,h2⟩:=qfH hk hs (r:=r) (fun x hx=>by rw[hl];exact hr r (by simp) x hx);obtain⟨z,hz,h3,h4⟩:=sN hk l (q.1,p.2||q.2) (fun r h=>hr r (by simp[h])) h1 (by rw[h2,hl]);exact⟨z,by simp only[Gc,hq,Option.bind_some,hz],h3,h4⟩
theorem RoundsTo.never{σ:Type}{f:σ->Option (σ×Bool)}(P:σ->Prop)(hp:∀ s,P s->∃ q,f s=some q/\P q.1){s:σ}{o:Option σ}(h:RoundsTo f s o):P s->∃ s',o=some s'/\P s':=by
 induction h with
 |fail e=>intro h;obtain⟨q,hq,_⟩:=hp _ h;rw[e] at hq;cases hq
 |done e=>intro h;obtain⟨q,hq,h1⟩:=hp _ h;rw[e] at hq;injection hq with hq;subst hq;exact⟨_,rfl,h1⟩
 |more e _ ih=>intro h;obtain⟨q,hq,h1⟩:=hp _ h;rw[e] at hq;injection hq with hq;subst hq;exact ih h1
theorem Fx.few{rs:Zu}{n:Nat}{k:Int}(hk:k<=4)(hw:Rn rs n)(hr:zbV rs){o:Option Zw}(h:Fx k rs n o):∃ s,o=some s/\Fp s/\s.length=n :=
 RoundsTo.never (fun s=>Fp s/\s.length=n) (fun s ⟨h1,h2⟩=>sN hk rs (s,false) (fun r hm x hx=>⟨hr r.1 r.2 hm x hx,(hw r.1 r.2 hm).2.2 x hx⟩) h1 h2) h ⟨Fp.replicate n,by simp⟩
theorem oW{k:Int}(hk:k<=4){sets fol:Zw}(hs:Fp sets)(hf:Fp fol){r:Int×List Int}{at_:Int}(h1:-1<=at_)(h2:at_<r.2.length)(h3:0<=r.1/\r.1<fol.length)(h4:∀ x∈r.2,-3<=x/\x<sets.length):∃ o,Kg sets fol k r at_=some o/\∀ w∈o,aE w:=by
 unfold Kg;rw[if_neg (by omega)];obtain⟨x,hx,hxf⟩:=v_ hk hs (syms:=r.2.drop (at_+1).toNat) (fun s h=>h4 s (List.mem_of_mem_drop h));rw[hx,Option.bind_some];exact qt hk hxf (hf.getD _)
theorem kh{k:Int}(hk:k<=4){sets:Zw}(hs:Fp sets){r:Int×List Int}{n at_:Nat}{p:En}(hf:Fp p.fol)(hl:p.fol.length=n)(h2:at_<r.2.length)(h3:0<=r.1/\r.1<n)(h4:∀ x∈r.2,-3<=x/\x<sets.length) :
  Fp (Vq sets k r at_ p).fol/\(Vq sets k r at_ p).fol.length=n/\(Vq sets k r at_ p).limit=p.limit:=by
 obtain⟨x,hx,hxf⟩:=oW hk hs hf (r:=r) (at_:=at_) (by omega) (by omega) (by rw[hl];exact h3) h4;unfold Vq;rw[hx];simp only;split
 ·exact⟨hf,hl,rfl⟩
 ·obtain⟨u1,u2⟩:=yG (hf.getD (r.2.getD at_ 0).toNat) hxf;exact⟨hf.set _ u1,by simpa using hl,by rw[show decide (4096<(Km (p.fol.getD (r.2.getD at_ 0).toNat []) x).length)=false from Yw (by omega),Bool.or_false]⟩
theorem iV{k:Int}(hk:k<=4){sets:Zw}(hs:Fp sets){r:Int×List Int}{n:Nat}(h3:0<=r.1/\r.1<n)(h4:∀ x∈r.2,-3<=x/\x<sets.length):∀(m at_:Nat)(p:En),Fp p.fol->p.fol.length=n->at_+m<=r.2.length ->
  Fp (Vs sets k r m at_ p).fol/\(Vs sets k r m at_ p).fol.length=n/\(Vs sets k r m at_ p).limit=p.limit
 |0,_,p,hf,hl,_=>⟨hf,hl,rfl⟩
 |m+1,at_,p,hf,hl,hm=>by
  obtain⟨a1,a2,a3⟩:=kh hk hs hf hl (r:=r) (at_:=at_) (by omega) h3 h4;obtain⟨b1,b2,b3⟩:=iV hk hs h3 h4 m (at_+1) _ a1 a2 (by omega);exact⟨b1,b2,b3.trans a3⟩
theorem eG{k:Int}(hk:k<=4){sets:Zw}(hs:Fp sets){n:Nat}:∀(l:Zu)(p:En),(∀ r∈l,(0<=r.1/\r.1<n)/\∀ x∈r.2,-3<=x/\x<sets.length)->Fp p.fol->p.fol.length=n ->
  Fp (Vy sets k l p).fol/\(Vy sets k l p).fol.length=n/\(Vy sets k l p).limit=p.limit
 |[],p,_,hf,hl=>⟨hf,hl,rfl⟩
 |r::l,p,h,hf,hl=>by
  obtain⟨a1,a2,a3⟩:=iV hk hs (h r (by simp)).1 (h r (by simp)).2 r.2.length 0 p hf hl (by omega);obtain⟨b1,b2,b3⟩:=eG hk hs l _ (fun r hr=>h r (by simp[hr])) a1 a2;exact⟨b1,b2,b3.trans a3⟩
theorem Dt.few{rs:Zu}{n:Nat}{k:Int}(hk:k<=4)(hw:Rn rs n)(hr:zbV rs){sets:Zw}(hs:Fp sets)(Mi:sets.length=n){o:Option Zw}(h:Dt sets k rs n o):∃ s,o=some s/\Fp s/\s.length=n :=
 RoundsTo.never (fun s=>Fp s/\s.length=n) (fun s ⟨h1,h2⟩=>by
  obtain⟨a1,a2,a3⟩:=eG hk hs rs ⟨s,false,false⟩ (fun r hm=>⟨⟨(hw r.1 r.2 hm).1,(hw r.1 r.2 hm).2.1⟩,fun x hx=>⟨hr r.1 r.2 hm x hx,by rw[Mi];exact (hw r.1 r.2 hm).2.2 x hx⟩⟩) h1 h2
  exact⟨_,by unfold Rj;simp only[a3];rfl,a1,a2⟩) h ⟨(Fp.replicate n).set 0 qaT,by simp⟩
theorem vP{k:Int}(hk:k<=4){sets fol:Zw}(hs:Fp sets)(hf:Fp fol):∀(l:Zu),(∀ r∈l,(0<=r.1/\r.1<fol.length)/\∀ x∈r.2,-3<=x/\x<sets.length)->∃ o,Mk sets fol k l=some o
 |[],_=>⟨[],rfl⟩
 |r::l,h=>by
  obtain⟨x,hx,_⟩:=oW hk hs hf (r:=r) (at_:=-1) (by omega) (by omega) (h r (by simp)).1 (h r (by simp)).2;obtain⟨o,ho⟩:=vP hk hs hf l (fun r hr=>h r (by simp[hr]));exact⟨x::o,by simp only[Mk,hx,Option.bind_some,ho,Option.map_some]⟩
def Wb(P:List Bool)(r:Int×List Int):List Bool:=if r.2.all (fun s=>decide (s<0)||P.getD s.toNat false) then P.set r.1.toNat true else P
def Wg{σ:Type}(f:σ->Int×List Int->σ)(rs:Zu):Nat->σ->σ
 |0,s=>s
 |n+1,s=>Wg f rs n (rs.foldl f s)
def Ko(rs:Zu)(n:Nat):List Bool:=Wg Wb rs (n+1) (List.replicate n false)
def Jq(R:List Bool)(left:Int)(s:Int):List Bool:=if R.getD left.toNat false&&decide (0<=s) then R.set s.toNat true else R
def Wh(R:List Bool)(r:Int×List Int):List Bool:=r.2.foldl (fun R s=>Jq R r.1 s) R
def Uk(rs:Zu)(n:Nat):List Bool:=Wg Wh rs (n+1) ((List.replicate n false).set 0 true)
def Lk(rs:Zu)(t:Nat):Bool:=rs.any fun r=>r.2.any fun s=>decide (s=-1 - (t:Int))
def wellE(n m:Nat)(rs:Zu):Int:=if (Ko rs n).all id then (if (Uk rs n).all id&&(List.range m).all (Lk rs) then 0 else 17) else 18
theorem Df{σ:Type}{f:σ->Int×List Int->σ}{rs:Zu}(I:σ->Prop)(h:∀ s r,r∈rs->I s->I (f s r)):∀(n:Nat)(s:σ),I s->I (Wg f rs n s)
 |0,_,hs=>hs
 |n+1,s,hs=>Df I h n _ (by
  have:∀(l:Zu)(s:σ),(∀ r∈l,r∈rs)->I s->I (l.foldl f s):=by
   intro l
   induction l with
   |nil=>intro s _ hs;exact hs
   |cons r l ih=>intro s hl hs;exact ih _ (fun r hr=>hl r (by simp[hr])) (h _ _ (hl r (by simp)) hs)
  exact this rs s (fun _ h=>h) hs)
theorem Fc{P:List Bool}{i j:Nat}(h:(P.set i true)[j]? = some true):(j=i)\/P[j]? = some true:=by
 rw[Xv] at h;split at h
 ·rename_i e;exact .inl e.symm
 ·exact .inr h
def vX(rs:Zu)(a:Int):Prop:=∃ r u,(a,r)∈rs/\Der rs r u
theorem Pw{rs:Zu}:∀(l:List Int),(∀ s∈l,s<0\/vX rs s)->(∀ a r,(a,r)∈rs->0<=a)->∃ u,Der rs l u
 |[],_,_=>⟨[],.nil⟩
 |s::l,h,hw=>by
  obtain⟨v,hv⟩:=Pw l (fun s hs=>h s (by simp[hs])) hw;rcases h s (by simp) with hs | ⟨r,u,hr,hu⟩
  ·exact⟨_,.term hs hv⟩
  ·exact⟨_,.nont (hw s r hr) hr hu hv⟩
structure qU(rs:Zu)(n:Nat)(P:List Bool):Prop where
 len:P.length=n
 sound:∀ a:Nat,P[a]? = some true->vX rs a
theorem dr{rs:Zu}{n:Nat}(hw:Rn rs n){P:List Bool}{r:Int×List Int}(hr:r∈rs)(h:qU rs n P):qU rs n (Wb P r):=by
 unfold Wb;split
 ·rename_i Uc;refine⟨by rw[Qm];exact h.len,fun a ha=>?_⟩;rcases Fc ha with rfl | ha
  ·rw[Int.toNat_of_nonneg (hw r.1 r.2 hr).1];obtain⟨u,hu⟩:=Pw (rs:=rs) r.2 (fun s hs=>by
    have:=Xp.1 Uc s hs
    simp only[Yt,Yj] at this
    rcases this with h1 | h1
    ·exact .inl h1
    ·rcases Int.lt_or_le s 0 with h0 | h0
     ·exact .inl h0
     ·right
      rw[Qb] at h1
      cases e:P[s.toNat]? with
      |none=>rw[e] at h1;cases h1
      |some b =>
       rw[e] at h1
       simp only[Option.getD_some] at h1
       subst h1
       have:=h.sound _ e
       rwa [Int.toNat_of_nonneg h0] at this) (fun a r h=>(hw a r h).1)
   exact⟨r.2,u,hr,hu⟩
  ·exact h.sound a ha
 ·exact h
theorem Bn{rs:Zu}{n:Nat}(hw:Rn rs n):qU rs n (Ko rs n) :=
 Df (qU rs n) (fun _ _ hr h=>dr hw hr h) _ _ ⟨by simp,fun a ha=>by
  rw[Xg] at ha
  split at ha
  ·cases ha
  ·cases ha⟩
def E_(rs:Zu)(a:Int):Prop:=∃ v,Fol rs a v
structure Ch(rs:Zu)(n:Nat)(R:List Bool):Prop where
 len:R.length=n
 sound:∀ a:Nat,R[a]? = some true->E_ rs a
theorem xI{rs:Zu}{n:Nat}(hw:Rn rs n)(hp:∀ a,0<=a->a<(n:Int)->vX rs a){R:List Bool}{r:Int×List Int}(hr:r∈rs)(h:Ch rs n R):Ch rs n (Wh R r):=by
 unfold Wh;have:∀(l2 l1:List Int)(R:List Bool),r.2=l1++l2->Ch rs n R->Ch rs n (l2.foldl (fun R s=>Jq R r.1 s) R):=by
  intro l2
  induction l2 with
  |nil=>intro l1 R _ h;exact h
  |cons s l2 ih =>
   intro l1 R e h;refine ih (l1++[s]) _ (by simp[e]) ?_;show Ch rs n (Jq R r.1 s);unfold Jq;split
   ·rename_i hc;simp only[Yl,Yj] at hc;refine⟨by rw[Qm];exact h.len,fun a ha=>?_⟩;rcases Fc ha with rfl | ha
    ·obtain⟨u,hu⟩:=Pw (rs:=rs) l2 (fun x hx=>by
      rcases Int.lt_or_le x 0 with h0 | h0
      ·exact .inl h0
      ·exact .inr (hp x h0 ((hw r.1 r.2 hr).2.2 x (by rw[e];simp[hx])))) (fun a r h=>(hw a r h).1)
     have h1:=hc.1;rw[Qb] at h1;cases e2:R[r.1.toNat]? with
     |none=>rw[e2] at h1;cases h1
     |some b =>
      rw[e2] at h1;simp only[Option.getD_some] at h1;subst h1;obtain⟨v,hv⟩:=h.sound _ e2;rw[Int.toNat_of_nonneg (hw r.1 r.2 hr).1] at hv;rw[Int.toNat_of_nonneg hc.2];exact⟨_,.step (a:=r.1) (r:=r.2) hr e hc.2 hu hv⟩
    ·exact h.sound a ha
   ·exact h
 exact this r.2 [] R rfl h
theorem nZ{rs:Zu}{n:Nat}(hw:Rn rs n)(hp:∀ a,0<=a->a<(n:Int)->vX rs a):Ch rs n (Uk rs n) :=
 Df (Ch rs n) (fun _ _ hr h=>xI hw hp hr h) _ _ ⟨by simp,fun a ha=>by
  rcases Fc ha with rfl | ha
  ·exact⟨[],.start⟩
  ·rw[Xg] at ha
   split at ha <;> cases ha⟩
theorem qT{P:List Bool}(h:P.all id=true){a:Nat}(ha:a<P.length):P[a]? = some true:=by
 rw[Qa ha];exact congrArg some (Xp.1 h _ (Qg ha))
theorem qiN{n m:Nat}{rs:Zu}(hw:Rn rs n)(h:wellE n m rs=0):∀ a,0<=a->a<(n:Int)->vX rs a/\E_ rs a:=by
 unfold wellE at h;split at h
 ·rename_i h1;split at h
  ·rename_i h2;have hp:∀ a,0<=a->a<(n:Int)->vX rs a:=by
    intro a h0 hn;have:=(Bn hw).sound a.toNat (qT h1 (by rw[(Bn hw).len];omega))
    rwa [Int.toNat_of_nonneg h0] at this
   intro a h0 hn;refine⟨hp a h0 hn,?_⟩;have h3:=(Yl _ _ ▸ h2).1;have:=(nZ hw hp).sound a.toNat (qT h3 (by rw[(nZ hw hp).len];omega))
   rwa [Int.toNat_of_nonneg h0] at this
  ·cases h
 ·cases h
def eW:fJ Wd:=zqZ Nk fun l=>⟨l.toArray⟩
abbrev wv(x:Wd):Value:=.string ⟨x.toArray⟩
theorem qQ{w:World}{B:Nat}{cs:List Value}{x:Wd}(h:eW.rep w B cs x):cs=[wv x]/\x.length<=maxLen:=by
 obtain⟨h1,h2⟩:=h;exact⟨h1,by simpa[ByteArray.size] using h2⟩
theorem qwK{w:World}{B:Nat}{x:Wd}(h:x.length<=maxLen):eW.rep w B [wv x] x:=⟨rfl,by simpa[ByteArray.size] using h⟩
def nM(xs:List Wd):Prop:=∀ x∈xs,x.length<=maxLen
def Jf(xs:List Wd):List Value:=xs.map wv
theorem fa:∀(xs:List Wd),(xs.map fun x=>[wv x]).flatten=Jf xs
 |[]=>rfl
 |x::l=>by rw[List.map_cons,List.flatten_cons,fa l];rfl
theorem rA(xs:List Wd):(Jf xs).length=xs.length:=by simp[Jf]
theorem sz(xs:List Wd):∀ u∈Jf xs,u.oneCell'=true:=by
 intro u hu;obtain⟨x,_,rfl⟩:=Xa.1 hu;rfl
section
variable {w w':World} {B:Nat} {v:Value} {xs:List Wd}
theorem Je.fits(h:Je eW w B v xs):nM xs:=by
 obtain⟨A,c,css,e,h1,h2,h3,h4,h5⟩:=h;intro x hx;obtain⟨i,hi,rfl⟩:=Qz hx;exact (qQ (h5 i _ _ (Qa (by omega)) (Qa hi))).2
theorem Io{A:Option Addr}{c:Nat}(hf:nM xs)(hr:Rd w B A (Jf xs))(h1:xs.length<=c)(h2:c<=maxLen):Je eW w B (.slice A xs.length c) xs:=by
 refine⟨A,c,xs.map fun x=>[wv x],rfl,h1,h2,by simp,?_,fun i cs x hc hx=>?_⟩
 ·rw[fa];exact hr
 ·rw[Qv,hx] at hc;injection hc with hc;subst hc;exact qwK (hf x (Qp hx))
theorem Je.rdW{A:Option Addr}{n c:Nat}(h:Je eW w B (.slice A n c) xs):Rd w B A (Jf xs):=by
 obtain⟨A,c,css,e,h1,h2,h3,h4,h5⟩:=h;injection e with e1 e2 e3;subst e1;have:css.flatten=Jf xs:=by
  have e:css=xs.map fun x=>[wv x]:=by
   apply List.ext_getElem?;intro i;rw[Qv];by_cases hi:i<xs.length
   ·rw[Qa (by omega),Qa hi,Option.map_some];rw[(qQ (h5 i _ _ (Qa (by omega)) (Qa hi))).1]
   ·rw[Xf (by omega),Xf (by omega)];rfl
  rw[e,fa]
 rw[<-this];exact h4
theorem Je.wd{A:Option Addr}{n c:Nat}(h:Je eW w B (.slice A n c) xs){k:Nat}(hk:k<xs.length):∃ b off,A=some ⟨b,off,none⟩/\n<=c/\b<B/\w.cell? ⟨b,off+k,none⟩=some (wv xs[k]):=by
 obtain⟨b,off,cs,e,h1,h2,h3,h4⟩:=h.get hk (by decide);obtain⟨rfl,_⟩:=qQ h3;have:=h4 0 _ rfl;simp only[show eW.size=1 from rfl,Yr,Yp] at this;exact⟨b,off,e,h1,h2,this⟩
theorem cX{base:Nat}{t:TypeId}(hf:nM xs)(h:w.ownsRow base t 1 v xs.length (Jf xs)):Je eW w w.heap.size v xs:=by
 obtain⟨A,c,rfl,h1,h2⟩:=Zo h;exact Io hf (Rd.of_own h) h1 h2
end
theorem qnF{a b:List Wd}(ha:nM a)(hb:nM b):nM (a++b):=fun x hx=>(Qh.1 hx).elim (ha x) (hb x)
theorem aL(x y:Wd):(⟨x.toArray⟩:ByteArray)++⟨y.toArray⟩=⟨(x++y).toArray⟩:=by
 apply ByteArray.ext;simp
theorem St(x:Wd):(⟨x.toArray⟩:ByteArray).size=x.length:=by simp[ByteArray.size]
theorem qD(x:Wd)(n:Nat):(⟨x.toArray⟩:ByteArray).extract 0 n=⟨(x.take n).toArray⟩:=by
 apply ByteArray.ext;simp
theorem qvD(x y:Wd):((⟨x.toArray⟩:ByteArray)==⟨y.toArray⟩)=decide (x=y):=by
 rw[Gp];rw[decide_eq_decide];constructor
 ·intro h;injection h with h;simpa using h.symm
 ·rintro rfl;rfl
theorem Vo{w:World}{S:Nat}{v:Value}{t:TypeId}(h:w.heap[S]? = some (.cells #[v] t (0,0))):w.cell? ⟨S,0,none⟩=some v:=by rw[Zc w S 0 _ _ _ h];rfl
theorem tO(z:Value)(n:Nat):madeCells #[z] n=(List.replicate n z).toArray:=by
 apply Array.ext
 ·simp[madeCells]
 ·intro i h1 h2;simp[madeCells,Nat.mod_one]
theorem oc(n:Nat)(hn:n<=1048576)(w:World):(Instr.makeSlice 61 (.int .i64 (n:Int)) (.int .i64 (n:Int))).run Tryz.prog w=.ok (.slice (some ⟨w.heap.size,0,none⟩) n n) (w.alloc (.cells (List.replicate n (Value.int .i64 0)).toArray 3)):=by
 rw[<-tO];exact run_make_row' 61 3 (.int .i64 0) 8 Tryz.underlying61 (by kernel_rfl) rfl .i64 .i64 n (by omega) (by omega) w
theorem qgI(n:Nat)(hn:n<=1048576)(w:World):(Instr.makeSlice 70 (.int .i64 (n:Int)) (.int .i64 (n:Int))).run Tryz.prog w=.ok (.slice (some ⟨w.heap.size,0,none⟩) n n) (w.alloc (.cells (List.replicate n (Value.bool false)).toArray 4)):=by
 rw[<-tO];exact run_make_row' 70 4 (.bool false) 1 Tryz.underlying70 (by kernel_rfl) rfl .i64 .i64 n (by omega) (by omega) w
theorem yQ(n:Nat)(hn:n<=1048576)(w:World):(Instr.makeSlice 76 (.int .i64 (n:Int)) (.int .i64 (n:Int))).run Tryz.prog w=.ok (.slice (some ⟨w.heap.size,0,none⟩) n n) (w.alloc (.cells (List.replicate n (Value.slice none 0 0)).toArray 22)):=by
 rw[<-tO];exact run_make_row' 76 22 (.slice none 0 0) 24 Tryz.underlying76 (by kernel_rfl) rfl .i64 .i64 n (by omega) (by omega) w
def Ut(x:Int)(n m:Nat):List Value:=List.replicate m (Value.int .i64 x)++List.replicate (n - m) (Value.int .i64 0)
theorem pi{x:Int}{n m:Nat}(h:m<=n):(Ut x n m).length=n:=by simp[Ut];omega
theorem pj{x:Int}{n m j:Nat}(h:j<m):(Ut x n m)[j]? = some (Value.int .i64 x):=by
 unfold Ut;rw[Qo (by simpa using h)];simp[h]
theorem bI{x:Int}{n m q:Nat}:(Ut x n m).take m++List.replicate q (Value.int .i64 x)++(Ut x n m).drop (m+q)=Ut x n (m+q):=by
 unfold Ut;have e1:(List.replicate m (Value.int .i64 x)++List.replicate (n - m) (Value.int .i64 0)).take m=List.replicate m (Value.int .i64 x):=List.take_left' (by simp);have e2:(List.replicate m (Value.int .i64 x)++List.replicate (n - m) (Value.int .i64 0)).drop (m+q)=List.replicate (n - (m+q)) (Value.int .i64 0):=by
  rw[List.drop_append];simp;omega
 rw[e1,e2,List.replicate_append_replicate]
theorem qgA{w:World}{g m n q:Nat}{x:Int}(hg:w.heap[g]? = some (.cells (Ut x n m).toArray 3 (0,0)))(hmn:m<=n)(hq:q=min m (n - m))(cd cs:Nat) :
  (Builtin.copy_ #[61,61] 3 #[.slice (some ⟨g,m,none⟩) (n - m) cd,.slice (some ⟨g,0,none⟩) m cs]).run Tryz.prog w=.ok (.int .i64 q) (w.setRow g (Ut x n (m+q)).toArray):=by
 show _=Result.ok (goInt (q:Int)) _;have:=run_copy_row (P:=Tryz.prog) w 61 61 3 3 g m (n - m) cd ⟨g,0,none⟩ m cs (Ut x n m).toArray 3 (List.replicate q (Value.int .i64 x)) Tryz.underlying61 (by kernel_rfl) hg (by rw[Qr,hq]) (fun j v hv=>by
  rw[Xg] at hv
  split at hv
  ·injection hv with hv
   subst hv
   rw[Addr.add_lit,Yq,Zc w g j _ _ _ hg,<-Array.getElem?_toList]
   exact pj (by omega)
  ·cases hv) (by rw[Qr,List.size_toArray,pi hmn];omega) (fun v hv=>by obtain⟨_,rfl⟩:=List.mem_replicate.1 hv;rfl)
 rw[Qr] at this;rw[<-bI];exact this
def zhA(w:World)(x:Int)(n:Nat)(e:Ending)(w':World):Prop:=∃ g,e=.returned (.slice (some ⟨g,0,none⟩) n n)/\w'.heap[g]? = some (.cells (List.replicate n (Value.int .i64 x)).toArray 3 (0,0))/\w.heap.size<=g/\Below w.heap.size w w'
theorem ue(b c:Nat)(x:Int)(n:Nat)(w:World)(hc:w.cell? ⟨b,0,none⟩=some (.int .i64 x))(h1:1<=n)(h2:n<=1048576) :
  Calls Tryz.prog 196 #[.slice (some ⟨b,0,none⟩) 1 c,.int .i64 n] w (zhA w x n):=by
 have hb:=Zl w _ hc;simp only at hb;have ziC:=Lh (Tryz.bits_Mul 1 n (by omega) (by omega) w);have e1:((1*n/18446744073709551616:Nat):Int)=0:=by omega
 have e2:((1*n%18446744073709551616:Nat):Int)=n:=by omega
 rw[e1,e2] at ziC;have qL:=oc n h2 w;have hcp:(Builtin.copy_ #[61,61] 3 #[.slice (some ⟨w.heap.size,0,none⟩) n n,.slice (some ⟨b,0,none⟩) 1 c]).run Tryz.prog (w.alloc (.cells (List.replicate n (Value.int .i64 0)).toArray 3))=.ok (.int .i64 1) (w.alloc (.cells (Ut x n 1).toArray 3)):=by
  have:=run_copy_row (P:=Tryz.prog) (w.alloc (.cells (List.replicate n (Value.int .i64 0)).toArray 3)) 61 61 3 3 w.heap.size 0 n n ⟨b,0,none⟩ 1 c (List.replicate n (Value.int .i64 0)).toArray 3 [.int .i64 x] Tryz.underlying61 (by kernel_rfl) (Xn w _) (by rw[Qf];exact (Nat.min_eq_left h1).symm) (fun j v hv=>by
   match j,hv with
   |0,hv =>
    injection hv with hv
    subst hv
    rw[Addr.add_lit,Yq]
    exact ((Xr w.heap.size w).alloc (Ya _) _).cell hb |>.trans hc
   |j+1,hv=>simp at hv) (by simp;omega) (fun v hv=>by rw[Qi] at hv;subst hv;rfl)
  rw[this,di];have:=bI (x:=x) (n:=n) (m:=0) (q:=1);simp only[Ut,List.replicate_zero,List.nil_append,Nat.sub_zero,Yq] at this;simp only[Ut,Yq];rw[show ([Value.int .i64 x]:List Value).length=1 from rfl,show ([Value.int .i64 x]:List Value)=List.replicate 1 (Value.int .i64 x) from rfl,this];rfl
 clear e1 e2;obtain⟨src,zeK⟩:=Xe (List.replicate n (Value.int .i64 0));rw[<-zeK] at qL hcp;clear zeK;obtain⟨w2,xv⟩:=Xe (w.alloc (.cells (Ut x n 1).toArray 3));rw[<-xv] at hcp;have HG2:=Lh (show w2.heap[w.heap.size]? = some (.cells (Ut x n 1).toArray 3 (0,0)) by rw[xv];exact Xn w _);have HB2:=Lh (show Below w.heap.size w w2 by rw[xv];exact (Xr w.heap.size w).alloc (Ya _) _);clear xv;go_enter Tryz.func196,Tryz.ntmps196;go_wp2_with fail;refine ziC.o.mono ?_;rintro e w1 ⟨rfl,rfl⟩;go_wp2_with fail;go_loopw [8] (fun v8 wr=>∃ m:Nat,1<=m/\m<=n/\v8=.int .i64 m/\Hid (wr.heap[w1.heap.size]? = some (.cells (Ut x n m).toArray 3 (0,0)))/\Hid (Below w1.heap.size w1 wr)) (fun v8 _=>n - (intOf v8).toNat);exact⟨1,by omega,h1,rfl,HG2.o,HB2.o⟩;clear HG2 HB2;obtain⟨m,jO,hm2,rfl,HG,HB⟩:=hrel;by_cases Ji:m<n
 ·have zpN:=qgA (w:=wr.drew) HG.o hm2 rfl (n - m) n;obtain⟨q,hq⟩:=Xe (min m (n - m));rw[<-hq] at zpN;have HQ:=Lh hq;have hmq:(m:Int)+(q:Int)<=1048576:=by omega
  clear hq hcp;go_wp2_with fail;refine Text.wt (by kernel_rfl) fun Q' hQ'=>?_;go_wp2;refine⟨by rfl,?_⟩;have iD:=Lh (Zi wr.drew w1.heap.size _ (Ut x n (m+q)).toArray _ (0,0) HG.o);have HB3:=Lh (Zj HB.o.drew (Ya _) (Ut x n (m+q)).toArray);go_wp2;exact⟨⟨m+q,by omega,by have:=HQ.o;omega,by go_num,iD.o,HB3.o⟩,by have:=HQ.o;simp[intOf];omega⟩
 ·have hmn:m=n:=by omega
  subst hmn;go_wp2_with fail;go_ret;refine⟨w1.heap.size,rfl,?_,Ya _,HB.o⟩;have:=HG.o;unfold Ut at this;simpa using this
end Go.Proofs.YtmaojnmnbpomeaaGreatDoor
