/- A part. -/
import Derived.Test.YtmaojnmnbpomeaaGreatDoorVM13
set_option maxRecDepth 100000
set_option maxHeartbeats 64000000
namespace Go.Proofs.YtmaojnmnbpomeaaGreatDoor
section
variable {g:Kc} {k:Nat} {s:Zw} (h:ii g k) (hM:vY g.2.2 g.1.length k s)
include h hM
theorem aS{rows:List Ud}(hp:rows.Perm (Ve 0 g.2.2 s)):∀ x∈rows,Hq g k x=true/\0<=x.1/\x.1<4096/\x.2.1.length<=4/\0<=x.2.2/\x.2.2<4096:=by
 intro x hx;obtain⟨i,hi,hw,hm⟩:=(qG (by have:=h.few;omega) h.wellT hM (fun w _=>fy g.2.2 k w)).1 (hp.mem_iff.1 hx);obtain⟨r,hr,Cm,_⟩:=gJ.1 hm;have Wt:i<g.2.2.length:=(Qj.1 hr).1;obtain⟨w1,w2⟩:=(Pk (by have:=h.few;omega) k x.2.1).1 hw;have hq:=(Wu h.b).q;have hnm:=(Wu h.b).nm;have hb:=pm h.b r (Qp hr);have yo:=h.k4;refine⟨?_,by omega,by omega,by omega,by omega,by omega⟩;unfold Hq;have e1:decide (x.2.2<0)=false:=by rw[Yk];omega
 have e2:decide ((g.2.2.length:Int)<=x.2.2)=false:=by rw[Yk];omega
 have e3:Sm g x.2.2=x.1:=by
  unfold Sm;rw[hi,Yy,Qb,hr];exact Cm
 have e4:Ou g.2.1.length k x.2.1=true:=by
  unfold Ou eN;rw[Yl,Xp];exact⟨fun c hc=>by rw[Yj];have:=w2 c hc;omega,by rw[Yj];omega⟩
 have e5:decide (Sm g x.2.2≠x.1)=false:=by simp[e3]
 rw[e1,e2,e4,e5];rfl
theorem qsO{rows:List Ud}(hc:Mr g.2.2 g.1.length s=[])(hp:rows.Perm (Ve 0 g.2.2 s))(hs:rows.Pairwise fun a b=>¬ Md b a):xe g k rows=true:=by
 have wO:rows.Pairwise Md:=nU hp (eQ h.well hM hc) hs;have hr:=aS h hM hp;have hf:∀(l:List Ud)(p:Option Ud),(∀ x∈l,Hq g k x=true)->l.Pairwise Md->(∀ y,p=some y->∀ x∈l,Md y x)->Is g k p l=true:=by
  intro l
  induction l with
  |nil=>intro p _ _ _;cases p <;> rfl
  |cons x l ih =>
   intro p h1 h2 h3;rw[Qx] at h2;have ha:nF p x=false:=by
    cases p with
    |none=>rfl
    |some y =>
     have:=(t_ y x).2 (h3 y rfl x (by simp));show decide (0<=gF y x)=false;rw[Yk];omega
   have e:Is g k p (x::l)=(!nF p x&&Hq g k x&&Is g k (some x) l):=by cases p <;> rfl
   rw[e,ha,h1 x (by simp),ih (some x) (fun y hy=>h1 y (by simp[hy])) h2.2 (fun y hy z hz=>by injection hy with hy;subst hy;exact h2.1 z hz)];rfl
 unfold xe;rw[h.b,hf rows none (fun x hx=>(hr x hx).1) wO (fun y hy=>by cases hy)];rfl
theorem qjP{rows:List Ud}(hp:rows.Perm (Ve 0 g.2.2 s)):qpK rows:=fun x hx=>by
 obtain⟨_,h1,h2,h3,h4,h5⟩:=aS h hM hp x hx;exact⟨by omega,by unfold maxLen;omega,by omega⟩
theorem ng{rows:List Ud}(hs:Dr s)(hq:g.2.2.length<=40)(hp:rows.Perm (Ve 0 g.2.2 s)):Hc rows:=by
 refine⟨?_,fun r hr=>by have:=(aS h hM hp r hr).2.2.2.1;omega⟩;rw[hp.length_eq,<-sK hM.len];have:=Pc (rs:=g.2.2) hs g.2.2.length;omega
theorem kz{rows:List Ud}(hp:rows.Perm (Ve 0 g.2.2 s)):∀ r∈rows,0<=r.2.2:=fun r hr=>(aS h hM hp r hr).2.2.2.2.1
theorem qcK{rows:List Ud}(hp:rows.Perm (Ve 0 g.2.2 s)):∀ r∈rows,∀ c∈r.2.1,c.toNat<g.2.1.length:=fun x hx=>by
 obtain⟨i,hi,hw,hm⟩:=(qG (by have:=h.few;omega) h.wellT hM (fun w _=>fy g.2.2 k w)).1 (hp.mem_iff.1 hx);exact ((Pk (by have:=h.few;omega) k x.2.1).1 hw).2
theorem qaF{rows:List Ud}(hc:Mr g.2.2 g.1.length s=[])(hp:rows.Perm (Ve 0 g.2.2 s))(hs:rows.Pairwise fun a b=>¬ Md b a):rows.Pairwise Md :=
 nU hp (eQ h.well hM hc) hs
end
theorem qdM{g:Kc}{k:Nat}{s s':Zw}{rows yY:List Ud}(h:ii g k)(hM:vY g.2.2 g.1.length k s)(hM':vY g.2.2 g.1.length k s')(hp:rows.Perm (Ve 0 g.2.2 s))(hp':yY.Perm (Ve 0 g.2.2 s'))
  (hl:rows.Pairwise Md) (kY:yY.Pairwise Md):rows=yY:=by
 have Ux:∀ x,x∈rows↔x∈yY:=fun x=>by
  rw[hp.mem_iff,hp'.mem_iff,qG (by have:=h.few;omega) h.wellT hM (fun w _=>fy g.2.2 k w),qG (by have:=h.few;omega) h.wellT hM' (fun w _=>fy g.2.2 k w)]
 have So:∀{l:List Ud},l.Pairwise Md->l.Nodup:=fun hl=>hl.imp fun{a b} Lj e=>by subst e;exact nX Lj Lj
 have oN:rows.Perm yY:=(List.perm_ext_iff_of_nodup (So hl) (So kY)).2 Ux;exact oN.eq_of_pairwise (fun a b _ _ h1 h2=>(nX h1 h2).elim) hl kY
theorem vz{m M:Kf}(h:To m M){terms:Int}(ht:∀ k<m.length,∀ e∈Mb m k,e.1<terms):∀ k<M.length,∀ e∈Mb M k,e.1<terms:=by
 intro k hk e he;obtain⟨i,hi,d,hd,e2⟩:=h.term k hk e he;rw[e2];exact ht i hi d hd
open Go.RowKit
theorem uJ(rows:List Ud):∃ F,Nu rows F/\F.length<=(Tr rows).length+1:=by
 have hd:∀ a b,Decidable (Bj a b):=fun a b=>Classical.propDecidable _;refine⟨(Vn (Tr rows)).mergeSort (fun a b=>@decide (¬ Bj b a) (@instDecidableNot _ (hd b a))),?_,?_⟩
 ·refine eZ (List.mergeSort_perm _ _) ?_;refine (List.pairwise_mergeSort (le:=fun a b=>@decide (¬ Bj b a) (@instDecidableNot _ (hd b a))) ?_ ?_ _).imp ?_
  ·intro a b c h1 h2;simp only[Yj] at h1 h2 |-;intro h3;rcases rX a b with h | h | h
   ·exact h2 (fS h3 h)
   ·subst h;exact h2 h3
   ·exact h1 h
  ·intro a b;simp only[Yt,Yj];by_cases h:Bj b a
   ·exact .inr (rY h)
   ·exact .inl h
  ·intro a b h;simpa only[Yj] using h
 ·rw[(List.mergeSort_perm _ _).length_eq];exact (Id (Tr rows)).2.2
theorem qgM(rows:List Ud)(n:Nat)(h:∀ r∈rows,r.2.1.length<=n):(Tr rows).length<=rows.length*(n+1):=by
 unfold Tr Aq;rw[Qk]
 induction rows with
 |nil=>simp
 |cons r l ih =>
  have:=ih fun x hx=>h x (Xi _ hx);have h1:=h r (Xh ..);rw[List.flatMap_cons,Qe,Qu,Nat.succ_mul];have:(Ts r).length=r.2.1.length+1:=by simp[Ts]
  omega
theorem Cu(rows:List Ud):Nu rows (Ay rows):=by
 obtain⟨F,hF,_⟩:=uJ rows;rw[Ow hF];exact hF
theorem qiW(rows:List Ud)(n:Nat)(h:∀ r∈rows,r.2.1.length<=n):(Hh rows).length<=rows.length*(n+1)+1:=by
 obtain⟨F,hF,hl⟩:=uJ rows;unfold Hh;rw[Dm,Ow hF];have:=qgM rows n h;omega
theorem qkM{m:Kf}(h:Un m 9223372036854775807=true):(Ny m).length<=m.length:=by
 have hg:=Fy h;have hp:=Qy.2 hg.some;unfold Ny;rw[if_pos h];by_cases h0:Ka m 0=true
 ·rw[if_pos h0];have hb:=nA hg (Ct m) (Of m) ((Ep m 0).1 h0) m.length;have h2:(Uf m m.length).2.length=min m.length (Uf m m.length).1.length:=hb.len;omega
 ·rw[if_neg h0];exact hp
section
variable {rows:List Ud} (hr:∀ r∈rows,0<=r.2.2)
include hr
theorem rH:Un (Hh rows) 9223372036854775807=true:=td (Cu rows) hr
theorem Pp:To (Hh rows) (Te rows):=ve (rH hr)
theorem qdO(l:Wd):Uq (Te rows) 0 (byI l)=Dn rows l:=by
 rw[(Pp hr).tell,show Hh rows=Nv rows (Ay rows) from rfl,qbT (Cu rows) hr]
theorem qdN{n:Nat}(hb:∀ r∈rows,∀ c∈r.2.1,c.toNat<n):∀ k<(Te rows).length,∀ e∈Mb (Te rows) k,e.1<(n:Int) :=
 vz (Pp hr) (cQ (Cu rows) hb)
theorem qkT(n:Nat)(h:∀ r∈rows,r.2.1.length<=n):(Te rows).length<=rows.length*(n+1)+1 :=
 Yb (qkM (rH hr)) (qiW rows n h)
end
theorem zU(rows:List Ud)(n:Nat):(Gd rows n).length=n:=by simp[Gd]
theorem zV(rows:List Ud){n k:Nat}(hk:k<n):(Gd rows n)[k]? = some (Te (Wr (k:Int) rows)):=by
 unfold Gd;rw[Qv,List.getElem?_range hk];rfl
theorem tF{rows:List Ud}(hr:∀ r∈rows,0<=r.2.2)(left:Int):∀ r∈Wr left rows,0<=r.2.2:=fun r h=>hr r (Qw.1 h).1
theorem qoF{r:List Ud}(h:r=[(0,[],0),(0,[0],1)]):(Te r).length=2/\My (Te r) 0=0/\My (Te r) 1=1:=by
 have hr:∀ x∈r,0<=x.2.2:=by
  subst h;intro x hx;simp only[List.mem_cons,List.not_mem_nil,or_false] at hx;rcases hx with rfl | rfl <;> decide
 have hb:∀ x∈r,∀ c∈x.2.1,c.toNat<1:=by
  subst h;intro x hx c hc;simp only[List.mem_cons,List.not_mem_nil,or_false] at hx;rcases hx with rfl | rfl
  ·simp at hc
  ·simp only[List.mem_cons,List.not_mem_nil,or_false] at hc;subst hc;decide
 have hL:=Pp hr;have hT:=qdN hr hb;have qlM:=qdO hr;have o0:Dn r []=0:=by subst h;decide
 have o1:Dn r [0]=1:=by subst h;decide
 have o2:∀ l:Wd,Dn r (0::0::l)=-1:=by subst h;intro l;rw[lX hr];simp
 have hg:=hL.good;have hp:=Qy.2 hg.some;generalize Te r=M at *;have t0:My M 0=0:=by rw[<-lJ,<-o0];exact qlM []
 have t1:Uq M 0 [0]=1:=by rw[<-o1];exact qlM [0]
 have h0:∀ k<M.length,∀ e∈Mb M k,e.1=0:=fun k hk e he=>by
  have h1:=(hg.tos k hk e he).1;have h2:=hT k hk e he;omega
 obtain⟨j,hj⟩:∃ j,Nw M 0 0=some j:=by
  rw[Vt] at t1;cases h:Nw M 0 0 with
  |none=>rw[h] at t1;cases t1
  |some j=>exact⟨j,rfl⟩
 have Mn:=De hj;have tj:My M j=1:=by
  have:=t1;rw[Vt,hj] at this;exact this
 have hj0:j≠0:=fun e=>by rw[e,t0] at tj;cases tj
 have tjj:∀ i,Nw M j 0=some i->∀ l:List Int,(∀ b∈l,b=0)->Uq M i l=-1:=fun i hi l hl=>by
  obtain⟨w,rfl⟩:∃ w:Wd,l=byI w:=⟨List.replicate l.length 0,by
   unfold byI
   rw[List.map_replicate]
   exact List.eq_replicate_iff.2 ⟨rfl,hl⟩⟩
  have h1:=qlM (0::0::w);rw[o2] at h1;have h2:byI (0::0::w)=(0:Int)::(0:Int)::byI w:=rfl;rw[h2,Vt,hj] at h1;simp only at h1;rw[Vt,hi] at h1;exact h1
 have hz:∀(l:List Int)(k:Nat),k<M.length->Uq M k l≠-1->∀ b∈l,b=0:=by
  intro l
  induction l with
  |nil=>intro k _ _ b hb;cases hb
  |cons c l ih =>
   intro k hk ht b hb;rw[Vt] at ht;cases hs:Nw M k c with
   |none=>rw[hs] at ht;exact absurd rfl ht
   |some i =>
    rw[hs] at ht;have he:=(Vx hg hk c i).1 hs;rcases List.mem_cons.1 hb with rfl | hb
    ·exact h0 k hk _ he
    ·exact ih i (De hs) ht b hb
 have hj1:j=1:=by
  have h1l:1<M.length:=by omega
  obtain⟨p,hp1,t,ht⟩:=hL.new 1 (by omega) h1l;have hp0:p=0:=by omega
  subst hp0;have h3:=h0 0 hp _ ht;simp only at h3;subst h3;have h4:=(Vx hg hp 0 1).2 ht;rw[hj] at h4;injection h4
 subst hj1;refine⟨?_,t0,tj⟩;rcases Nat.lt_or_ge 2 M.length with h2l | h2l
 ·exfalso;obtain⟨p,hp1,t,ht⟩:=hL.new 2 (by omega) h2l;have h3:=h0 p (by omega) _ ht;simp only at h3;subst h3;have h4:=(Vx hg (by omega) 0 2).2 ht;have hp2:p=1:=by
   rcases Nat.lt_or_ge p 1 with h5 | h5
   ·have:p=0:=by omega
    subst this;rw[hj] at h4;injection h4 with h4;cases h4
   ·omega
  subst hp2;obtain⟨l,hl⟩:=hL.tells 2 (by omega) h2l;exact hl (tjj 2 h4 l (hz l 2 h2l hl))
 ·omega
theorem zo{p:Nat->Bool}{x n:Nat}(h:∀ k<n,p k=true↔k=x):(List.range n).findIdx? p=if x<n then some x else none:=by
 by_cases hx:x<n
 ·rw[if_pos hx,List.findIdx?_eq_some_iff_getElem];refine⟨by rw[List.length_range];exact hx,by rw[List.getElem_range];exact (h x hx).2 rfl,fun j hj=>?_⟩;rw[List.getElem_range];intro e;have:=(h j (by omega)).1 e;omega
 ·rw[if_neg hx,List.findIdx?_eq_none_iff];intro k hk;rw[Xz] at hk;cases e:p k with
  |false=>rfl
  |true =>
   have:=(h k hk).1 e;omega
theorem mR{M:Kf}(hu:∀ i<M.length,Ka M i=true)(ha:∀ i<M.length,∀ k<M.length,Nt M i k=true↔k=i):∀(es:List (Int×Int))(i j:Nat)(l:List (Int×Int)),(∀ e∈es,0<=e.2/\e.2<M.length)->i<=M.length->Pg i es=some j ->
  es.foldl (Ec (Ka M) (Nt M)) (List.range i,l)=(List.range j,l++es)/\j<=M.length
 |[],i,j,l,_,hi,h=>by
  rw[Pg] at h;injection h with h;subst h;exact⟨by rw[List.append_nil];rfl,hi⟩
 |e::r,i,j,l,he,hi,h=>by
  obtain⟨e1,e2⟩:=he e (by simp);rw[Pg] at h;rw[List.foldl_cons];unfold Ec;rw[if_pos (hu _ (by omega))];have hf:(List.range i).findIdx? (Nt M e.2.toNat)=if e.2.toNat<i then some e.2.toNat else none:=zo fun k hk=>ha _ (by omega) k (by omega)
  simp only[hf];split at h
  ·cases h
  ·rename_i h1;split at h
   ·rename_i h2;rw[if_neg (by omega)];simp only[List.length_range];obtain⟨k1,k2⟩:=mR hu ha r (i+1) j (l++[e]) (fun x hx=>he x (by simp[hx])) (by omega) h;refine⟨?_,k2⟩;rw[show e.2.toNat=i from by omega,<-List.range_succ,show (e.1,(i:Int))=e from by rw[<-h2]];refine Eq.trans k1 ?_;rw[Xd];rfl
   ·rename_i h2;rw[if_pos (by omega)];obtain⟨k1,k2⟩:=mR hu ha r i j (l++[e]) (fun x hx=>he x (by simp[hx])) hi h;refine⟨?_,k2⟩;simp only;rw[show (e.1,((e.2.toNat:Nat):Int))=e from by rw[Int.toNat_of_nonneg e1]];refine Eq.trans k1 ?_;rw[Xd];rfl
theorem Hj{M:Kf}{n:Nat}(h:n<M.length):M.take n++[(My M n,Mb M n)]=M.take (n+1):=by
 rw[List.take_add_one,Qa h,Bq h,Ai h];rfl
theorem qkN{m M:Kf}(h:To m M)(hv:Un M 9223372036854775807=true):Ny M=M:=by
 unfold Ny;rw[if_pos hv];have hg:=h.good;have Dg:0<M.length:=Qy.2 hg.some;by_cases h0:Ka M 0=true
 ·rw[if_pos h0];have hr:∀ i,i<M.length->Oi M i:=by
   intro i
   induction i using Nat.strongRecOn with
   |_ i ih =>
    intro hi;rcases Nat.eq_zero_or_pos i with e | e
    ·subst e;exact Bl M
    ·obtain⟨p,hp,t,ht⟩:=h.new i e hi;have:=Bm hg (ih p hp (by omega)) ht
     rwa [Yy] at this
  have hu:∀ i<M.length,Ka M i=true:=fun i hi=>by
   rcases Nat.eq_zero_or_pos i with e | e
   ·subst e;exact h0
   ·exact (Ep M i).2 ⟨hr i hi,h.tells i e hi⟩
  have ha:∀ i<M.length,∀ k<M.length,Nt M i k=true↔k=i:=fun i hi k hk=>by
   rw[gY];constructor
   ·intro Or;refine Classical.byContradiction fun hne=>?_;obtain⟨l,hl⟩:=h.apart i k hi hk (fun e=>hne e.symm);exact hl (Or l)
   ·rintro rfl l;rfl
  have hb:∀ n,n<=M.length->∃ i,Pg 1 ((M.take n).flatMap fun s=>s.2)=some i/\i<=M.length/\Uf M n=(List.range i,M.take n):=by
   intro n
   induction n with
   |zero=>intro _;exact⟨1,rfl,Dg,rfl⟩
   |succ n ih =>
    intro hn;obtain⟨i,o1,o2,o3⟩:=ih (by omega);obtain⟨i',p1,p2⟩:=h.ord n (by omega);have:i'=i:=by rw[p1] at o1;exact Option.some.inj o1
    subst this;have hj:∃ j,Pg 1 ((M.take (n+1)).flatMap fun s=>s.2)=some j:=by
     by_cases hl:n+1<M.length
     ·obtain⟨j,q1,_⟩:=h.ord (n+1) hl;exact⟨j,q1⟩
     ·rw[Qd (by omega)];exact h.ordl
    obtain⟨j,hj⟩:=hj;have yq:Pg i' (Mb M n)=some j:=by
     rw[<-Hj (by omega:n<M.length),List.flatMap_append,Gk,p1] at hj;simpa using hj
    obtain⟨f1,f2⟩:=mR hu ha (Mb M n) i' j [] (fun e he=>(hg.tos n (by omega) e he).2) o2 yq;refine⟨j,hj,f2,?_⟩;have e3:aC M (Ka M) (Nt M) n=(List.range i',M.take n):=o3;show aC M (Ka M) (Nt M) (n+1)=_;rw[aC,e3];simp only[List.getElem?_range p2,f1,List.nil_append];rw[Hj (by omega)]
  obtain⟨i,_,_,e⟩:=hb M.length (Ya _);rw[e];exact List.take_length
 ·rw[if_neg h0];have hn:∀ l,Uq M 0 l=-1:=zO fun ht=>h0 ((Ep M 0).2 ⟨Bl M,ht⟩);have hz:=h.zero hn;have h1:M.length=1:=by
   refine Classical.byContradiction fun hne=>?_;obtain⟨p,hp,t,ht⟩:=h.new 1 (by omega) (by omega);have:p=0:=by omega
   subst this;rw[hz] at ht;cases ht
  obtain⟨s,rfl⟩:=List.length_eq_one_iff.1 h1;have ho:My [s] 0=-1:=hn [];obtain⟨a,b⟩:=s;have ho:a=-1:=ho;have hz:b=[]:=hz;rw[ho,hz]
theorem ny{m M:Kf}(h:To m M):∀ i,i<M.length->Oi M i:=by
 intro i
 induction i using Nat.strongRecOn with
 |_ i ih =>
  intro hi;rcases Nat.eq_zero_or_pos i with e | e
  ·subst e;exact Bl M
  ·obtain⟨p,hp,t,ht⟩:=h.new i e hi;have:=Bm h.good (ih p hp (by omega)) ht
   rwa [Yy] at this
theorem qdQ{m M:Kf}(hm:m≠[])(h:To m M){k:Nat}(hk:k<M.length):My M k=-1\/∃ j<m.length,My m j=My M k:=by
 obtain⟨l,hl⟩:=ny h k hk;have h1:Uq M 0 l=My M k:=by
  unfold Uq;rw[hl]
 rw[<-h1,h.tell];unfold Uq;cases e:dR m 0 l with
 |none=>exact .inl rfl
 |some j=>exact .inr ⟨j,tw (Qy.2 hm) e,rfl⟩
theorem qcY(rows:List Ds)(w:Wd):Dn rows w=-1\/∃ r∈rows,Dn rows w=r.2.2:=by
 unfold Dn;have:∀(l:List Ds)(o:Int),(∀ r∈l,r∈rows)->(o=-1\/∃ r∈rows,o=r.2.2)->(l.foldl (fun o r=>if r.2.1=w/\o<0 then r.2.2 else o) o=-1\/∃ r∈rows,l.foldl (fun o r=>if r.2.1=w/\o<0 then r.2.2 else o) o=r.2.2):=by
  intro l
  induction l with
  |nil=>intro o _ h;exact h
  |cons r l ih =>
   intro o hl h;rw[List.foldl_cons];refine ih _ (fun x hx=>hl x (by simp[hx])) ?_;split
   ·exact .inr ⟨r,hl r (by simp),rfl⟩
   ·exact h
 exact this rows (-1) (fun _ h=>h) (.inl rfl)
theorem rF{rows:List Ds}{F:List Wd}(hF:Nu rows F){M:Kf}(h:To (Nv rows F) M){k:Nat}(hk:k<M.length):My M k=-1\/∃ r∈rows,My M k=r.2.2:=by
 have h0:=(Qj.1 (bN hF)).1;rcases qdQ (by intro e;have:=Dm rows F;rw[e] at this;simp at this;omega) h hk with e | ⟨j,hj,e⟩
 ·exact .inl e
 ·rw[Dm] at hj;rw[<-e,(Gw (rows:=rows) (Qa hj)).1];exact qcY rows _
theorem lH{rows:List Ds}{F:List Wd}(hF:Nu rows F){M:Kf}(h:To (Nv rows F) M){n:Nat}(hb:∀ r∈rows,∀ c∈r.2.1,c.toNat<n):Un M (n:Int)=true:=by
 refine gQ h.good fun k hk e he=>?_;obtain⟨i,hi,d,hd,e2⟩:=h.term k hk e he;rw[e2];exact cQ hF hb i hi d hd
theorem rG{rows:List Ds}{F:List Wd}(hF:Nu rows F){M:Kf}(h:To (Nv rows F) M):Ny M=M :=
 qkN h (gQ h.good fun k hk e he=>by
  obtain⟨i,hi,d,hd,e2⟩:=h.term k hk e he
  have:=cQ (rows:=rows) hF (n:=256) (fun r _ c _=>c.toNat_lt) i hi d hd
  omega)
theorem aQ(l:List Wd):Ky (Ky l)=Ky l:=(Oy (List.Perm.refl _) (kl l)).symm
theorem bn(l:List Wd):Di (Di l)=Di l:=by
 cases l with
 |nil=>simp[Di,Ky]
 |cons x r =>
  show [x]++Ky (Ky r)=[x]++Ky r;rw[aQ]
theorem oe{l:List Wd}(hn:l.Nodup){i:Nat}(hi:i<l.length):l.idxOf (l.getD i [])=i:=by
 rw[Qb,Qa hi];exact List.Nodup.idxOf_getElem hn i hi
theorem yP{ns ts:List Wd}(hn:ns.Nodup)(hm:ts.Nodup){s:Int}(h:Vp ns.length ts.length s):Rt ns ts ns ts s=s:=by
 unfold Rt Vp at *;split
 ·rw[oe hm (by omega)];omega
 ·rw[oe hn (by omega)];omega
theorem tx{ns ts:List Wd}(hn:ns.Nodup)(hm:ts.Nodup){r:Jo}(h1:Vp ns.length ts.length r.1)(h2:∀ s∈r.2,Vp ns.length ts.length s):Rz ns ts ns ts r=r:=by
 unfold Rz;rw[yP hn hm h1,(List.map_congr_left fun s hs=>yP hn hm (h2 s hs)).trans (List.map_id' r.2)]
theorem oI(l:List Wd):(l.map Jp).map Wp=l:=by
 rw[List.map_map];exact (List.map_congr_left fun w _=>Rc w).trans (List.map_id l)
theorem gP{g:Kc}(h:Ik g):Jk (Jk g)=Jk g:=by
 have hc:=Ps h;have e1:(Jk g).1.map Wp=Di (g.1.map Wp):=oI _;have e2:(Jk g).2.1.map Wp=Ky (g.2.1.map Wp):=oI _;have hn:((Jk g).1.map Wp).Nodup:=Fg (fun _ _=>dA) hc.nn;have hm:((Jk g).2.1.map Wp).Nodup:=Fg (fun _ _=>dA) hc.tn;have hN:((Jk g).1.map Wp).length=(Jk g).1.length:=Qk ..;have hM:((Jk g).2.1.map Wp).length=(Jk g).2.1.length:=Qk ..;have Ua:∀ r∈(Jk g).2.2,Vp ((Jk g).1.map Wp).length ((Jk g).2.1.map Wp).length r.1/\∀ s∈r.2,Vp ((Jk g).1.map Wp).length ((Jk g).2.1.map Wp).length s:=fun r hr=>by
  rw[hN,hM];obtain⟨f1,_,f3⟩:=hc.fit r hr;exact⟨⟨by omega,f1.2⟩,f3⟩
 have hs:∀ r∈(Jk g).2.2,vU r:=fun r hr s hs=>by
  have:=((Ua r hr).2 s hs).1;rw[hM] at this;have:=hc.nm;omega
 have e3:pT ((Jk g).1.map Wp) ((Jk g).2.1.map Wp) (Jk g).2.2=(Jk g).2.2:=by
  have c1:Di ((Jk g).1.map Wp)=(Jk g).1.map Wp:=by rw[e1,bn]
  have c2:Ky ((Jk g).2.1.map Wp)=(Jk g).2.1.map Wp:=by rw[e2,aQ]
  unfold pT;rw[c1,c2,(List.map_congr_left fun r hr=>tx hn hm (Ua r hr).1 (Ua r hr).2).trans (List.map_id' _)];exact (Oz hs (List.Perm.refl _) (km _)).symm
 show ((Di ((Jk g).1.map Wp)).map Jp,(Ky ((Jk g).2.1.map Wp)).map Jp,pT ((Jk g).1.map Wp) ((Jk g).2.1.map Wp) (Jk g).2.2)=_;rw[e3,e1,e2,bn,aQ];rfl
theorem zk{σ:Type}{f:σ->Int×List Int->σ}(I:σ->Prop)(μ:σ->Nat)(hI:∀ s r,I s->I (f s r))(h1:∀ s r,I s->μ s<=μ (f s r))(h2:∀ s r,I s->μ (f s r)<=μ s->f s r=s) :
  ∀(l:Zu)(s:σ),I s->I (l.foldl f s)/\μ s<=μ (l.foldl f s)/\(μ (l.foldl f s)<=μ s->l.foldl f s=s/\∀ r∈l,f s r=s):=by
 intro l
 induction l with
 |nil=>intro s hs;exact⟨hs,Ya _,fun _=>⟨rfl,by simp⟩⟩
 |cons r l ih =>
  intro s hs;obtain⟨a1,a2,a3⟩:=ih (f s r) (hI s r hs);refine⟨a1,Yb (h1 s r hs) a2,fun hle=>?_⟩;have hle:μ (l.foldl f (f s r))<=μ s:=hle;have e:=h2 s r hs (Yb a2 hle);have:=a3 (by rw[e] at hle |-;exact hle);rw[e] at this;refine⟨by show l.foldl f (f s r)=s;rw[e];exact this.1,fun x hx=>?_⟩;rcases List.mem_cons.1 hx with rfl | hx
  ·exact e
  ·exact this.2 x hx
theorem Hm{σ:Type}{f:σ->Int×List Int->σ}{rs:Zu}(I:σ->Prop)(μ:σ->Nat)(n:Nat)(hI:∀ s r,I s->I (f s r))(h1:∀ s r,I s->μ s<=μ (f s r))(h2:∀ s r,I s->μ (f s r)<=μ s->f s r=s)(h3:∀ s,I s->μ s<=n){s:σ}(hs:I s) :
  ∀ r∈rs,f (Wg f rs (n+1) s) r=Wg f rs (n+1) s:=by
 have qaJ:∀(k:Nat)(s:σ),rs.foldl f s=s->Wg f rs k s=s:=by
  intro k
  induction k with
  |zero=>intro s _;rfl
  |succ k ih=>intro s e;show Wg f rs k (rs.foldl f s)=s;rw[e];exact ih s e
 have key:∀(k:Nat)(s:σ),I s->(∀ r∈rs,f (Wg f rs k s) r=Wg f rs k s)\/(I (Wg f rs k s)/\μ s+k<=μ (Wg f rs k s)):=by
  intro k
  induction k with
  |zero=>intro s hs;exact .inr ⟨hs,Ya _⟩
  |succ k ih =>
   intro s hs;obtain⟨a1,a2,a3⟩:=zk I μ hI h1 h2 rs s hs;by_cases hle:μ (rs.foldl f s)<=μ s
   ·left;obtain⟨e1,e2⟩:=a3 hle;rw[qaJ (k+1) s e1];exact e2
   ·rcases ih _ a1 with h | ⟨h,h'⟩
    ·exact .inl h
    ·refine .inr ⟨h,?_⟩;show μ s+(k+1)<=μ (Wg f rs k (rs.foldl f s));omega
 rcases key (n+1) s hs with h | ⟨h,h'⟩
 ·exact h
 ·have:=h3 _ h;omega
theorem count_set:∀(P:List Bool)(i:Nat),P.count true<=(P.set i true).count true/\((P.set i true).count true<=P.count true->P.set i true=P)
 |[],i=>⟨Ya _,fun _=>rfl⟩
 |b::P,0=>by
  cases b <;> simp
 |b::P,i+1=>by
  obtain⟨h1,h2⟩:=count_set P i;simp only[List.set_cons_succ,List.count_cons];exact⟨by omega,fun h=>by rw[h2 (by omega)]⟩
theorem kq{P:List Bool}{i:Nat}(hi:i<P.length)(h:P.set i true=P):P[i]? = some true:=by
 rw[<-h,List.getElem?_set_self hi]
theorem eM(P:List Bool)(r:Int×List Int):P.count true<=(Wb P r).count true/\((Wb P r).count true<=P.count true->Wb P r=P):=by
 unfold Wb;split
 ·exact count_set P _
 ·exact⟨Ya _,fun _=>rfl⟩
theorem xK(P:List Bool)(r:Int×List Int):(Wb P r).length=P.length:=by
 unfold Wb;split
 ·exact Qm ..
 ·rfl
theorem xH(P:List Bool)(a s:Int):P.count true<=(Jq P a s).count true/\((Jq P a s).count true<=P.count true->Jq P a s=P):=by
 unfold Jq;split
 ·exact count_set P _
 ·exact⟨Ya _,fun _=>rfl⟩
theorem Rb(a:Int):∀(l:List Int)(P:List Bool),P.count true<=(l.foldl (fun R s=>Jq R a s) P).count true/\((l.foldl (fun R s=>Jq R a s) P).count true<=P.count true->l.foldl (fun R s=>Jq R a s) P=P/\∀ s∈l,Jq P a s=P)
 |[],P=>⟨Ya _,fun _=>⟨rfl,by simp⟩⟩
 |s::l,P=>by
  obtain⟨h1,h2⟩:=Rb a l (Jq P a s);obtain⟨h3,h4⟩:=xH P a s;refine⟨Yb h3 h1,fun hle=>?_⟩;have hle:(l.foldl (fun R s=>Jq R a s) (Jq P a s)).count true<=P.count true:=hle;have e:=h4 (by omega);have:=h2 (by rw[e] at hle |-;exact hle);rw[e] at this;refine⟨by show l.foldl (fun R s=>Jq R a s) (Jq P a s)=P;rw[e];exact this.1,fun x hx=>?_⟩;rcases List.mem_cons.1 hx with rfl | hx
  ·exact e
  ·exact this.2 x hx
theorem eK(P:List Bool)(r:Int×List Int):(Wh P r).length=P.length:=by
 unfold Wh;have:∀(l:List Int)(P:List Bool),(l.foldl (fun R s=>Jq R r.1 s) P).length=P.length:=by
  intro l
  induction l with
  |nil=>intro P;rfl
  |cons s l ih =>
   intro P;refine (ih (Jq P r.1 s)).trans ?_;unfold Jq;split
   ·exact Qm ..
   ·rfl
 exact this r.2 P
inductive ProdP(rs:Zu):Int->Prop
 |mk {a:Int} {r:List Int}:(a,r)∈rs->(∀ s∈r,0<=s->ProdP rs s)->ProdP rs a
inductive ReachP(rs:Zu):Int->Prop
 |start:ReachP rs 0
 |step {a s:Int} {r:List Int}:ReachP rs a->(a,r)∈rs->s∈r->0<=s->ReachP rs s
theorem dG{P:List Bool}{i:Nat}:P.getD i false=true↔P[i]? = some true:=by
 rw[Qb];cases P[i]? with
 |none=>simp
 |some b=>simp
theorem aX{rs:Zu}{n:Nat}(hw:Rn rs n):(Ko rs n).all id=true↔∀ a:Nat,a<n->ProdP rs a:=by
 have hl:(Ko rs n).length=n:=(Bn hw).len;constructor
 ·intro h a ha;have hs:∀ a:Nat,(Ko rs n)[a]? = some true->ProdP rs a:=by
   refine (Df (f:=Wb) (rs:=rs) (fun P=>∀ a:Nat,P[a]? = some true->ProdP rs a) (fun P r hr hP a ha=>?_) (n+1) (List.replicate n false) ?_)
   ·unfold Wb at ha;split at ha
    ·rename_i Uc;rcases Fc ha with rfl | ha
     ·rw[Int.toNat_of_nonneg (hw r.1 r.2 hr).1];refine .mk (r:=r.2) hr fun s hs h0=>?_;have:=Xp.1 Uc s hs;simp only[Yt,Yj] at this;rcases this with h1 | h1
      ·omega
      ·have:=hP _ (dG.1 h1)
       rwa [Int.toNat_of_nonneg h0] at this
     ·exact hP a ha
    ·exact hP a ha
   ·intro a ha;rw[Xg] at ha;split at ha <;> cases ha
  exact hs a (qT h (by rw[hl];exact ha))
 ·intro h;have hc:∀ r∈rs,Wb (Ko rs n) r=Ko rs n :=
   Hm (fun P=>P.length=n) (fun P=>P.count true) n (fun P r hP=>(xK P r).trans hP) (fun P r _=>(eM P r).1) (fun P r _=>(eM P r).2) (fun P hP=>hP ▸ List.count_le_length) (by simp)
  have Uc:∀ a:Int,ProdP rs a->(Ko rs n)[a.toNat]? = some true:=by
   intro a ha
   induction ha with
   |@mk a r hr _ ih =>
    have e:=hc _ hr;unfold Wb at e;rw[if_pos (Xp.2 fun s hs=>by
     simp only[Yt,Yj]
     rcases Int.lt_or_le s 0 with h0 | h0
     ·exact .inl h0
     ·exact .inr (dG.2 (ih s hs h0)))] at e
    obtain⟨w1,w2,_⟩:=hw a r hr;exact kq (by rw[hl];show a.toNat<n;omega) e
  refine Xp.2 fun b hb=>?_;obtain⟨i,hi,rfl⟩:=Qz hb;have:=Uc i (h i (by rw[<-hl];exact hi));rw[Yy,Qa hi] at this;exact Option.some.inj this
theorem oA{rs:Zu}{n:Nat}(hn:0<n)(hw:Rn rs n):(Uk rs n).all id=true↔∀ a:Nat,a<n->ReachP rs a:=by
 have hl:(Uk rs n).length=n :=
  Df (f:=Wh) (rs:=rs) (fun P=>P.length=n) (fun P r _ hP=>(eK P r).trans hP) (n+1) ((List.replicate n false).set 0 true) (by simp)
 constructor
 ·intro h a ha;have hs:∀ a:Nat,(Uk rs n)[a]? = some true->ReachP rs a:=by
   refine (Df (f:=Wh) (rs:=rs) (fun P=>∀ a:Nat,P[a]? = some true->ReachP rs a) (fun P r hr hP=>?_) (n+1) ((List.replicate n false).set 0 true) ?_)
   ·unfold Wh;have:∀(l:List Int)(P:List Bool),(∀ s∈l,s∈r.2)->(∀ a:Nat,P[a]? = some true->ReachP rs a)->∀ a:Nat,(l.foldl (fun R s=>Jq R r.1 s) P)[a]? = some true->ReachP rs a:=by
     intro l
     induction l with
     |nil=>intro P _ hP;exact hP
     |cons s l ih =>
      intro P hl hP;refine ih (Jq P r.1 s) (fun s hs=>hl s (by simp[hs])) (fun a ha=>?_);unfold Jq at ha;split at ha
      ·rename_i hc;simp only[Yl,Yj] at hc;rcases Fc ha with rfl | ha
       ·rw[Int.toNat_of_nonneg hc.2];have:=hP _ (dG.1 hc.1);rw[Int.toNat_of_nonneg (hw r.1 r.2 hr).1] at this;exact .step this (r:=r.2) hr (hl s (by simp)) hc.2
       ·exact hP a ha
      ·exact hP a ha
    exact this r.2 P (fun _ h=>h) hP
   ·intro a ha;rcases Fc ha with rfl | ha
    ·exact .start
    ·rw[Xg] at ha;split at ha <;> cases ha
  exact hs a (qT h (by rw[hl];exact ha))
 ·intro h;have hc:∀ r∈rs,Wh (Uk rs n) r=Uk rs n :=
   Hm (fun P=>P.length=n) (fun P=>P.count true) n (fun P r hP=>(eK P r).trans hP) (fun P r _=>(Rb r.1 r.2 P).1) (fun P r _ hle=>((Rb r.1 r.2 P).2 hle).1) (fun P hP=>hP ▸ List.count_le_length) (by simp)
  have h0:(Uk rs n)[0]? = some true :=
   Df (f:=Wh) (rs:=rs) (fun P=>P[0]? = some true) (fun P r _ hP=>by
    unfold Wh
    have:∀(l:List Int)(P:List Bool),P[0]? = some true->(l.foldl (fun R s=>Jq R r.1 s) P)[0]? = some true:=by
     intro l
     induction l with
     |nil=>intro P hP;exact hP
     |cons s l ih =>
      intro P hP
      refine ih (Jq P r.1 s) ?_
      unfold Jq
      split
      ·rw[Xv]
       split
       ·rename_i e
        rw[e,if_pos]
        exact (Qj.1 hP).1
       ·exact hP
      ·exact hP
    exact this r.2 P hP) (n+1) ((List.replicate n false).set 0 true) (by
     rw[List.getElem?_set_self (by simp;exact hn)])
  have Uc:∀ a:Int,ReachP rs a->(Uk rs n)[a.toNat]? = some true:=by
   intro a ha
   induction ha with
   |start=>exact h0
   |@step a s r _ hr hs oq ih =>
    have e:=((Rb a r (Uk rs n)).2 (by
     have:=hc _ hr
     unfold Wh at this
     rw[this]
     exact Ya _)).2 s hs
    unfold Jq at e;rw[if_pos (by simp only[Yl,Yj];exact⟨dG.2 ih,oq⟩)] at e;have:=(hw a r hr).2.2 s hs;exact kq (by rw[hl];omega) e
  refine Xp.2 fun b hb=>?_;obtain⟨i,hi,rfl⟩:=Qz hb;have:=Uc i (h i (by rw[<-hl];exact hi));rw[Yy,Qa hi] at this;exact Option.some.inj this
theorem qiS{rs:Zu}{t:Nat}:Lk rs t=true↔∃ a r,(a,r)∈rs/\-1 - (t:Int)∈r:=by
 unfold Lk;simp only[Xq,Yj];constructor
 ·rintro⟨r,hr,s,hs,e⟩;exact⟨r.1,r.2,hr,by rw[<-e];exact hs⟩
 ·rintro⟨a,r,hr,hs⟩;exact⟨(a,r),hr,_,hs,rfl⟩
theorem Ik.wellG{g:Kc}(h:Ik g):Rn g.2.2 g.1.length:=fun a r hr=>by
 obtain⟨⟨h1,h2⟩,_,h3⟩:=h.fit (a,r) hr;exact⟨h1,h2,fun s hs=>(h3 s hs).2⟩
structure Ren(rs Bk:Zu)(n m:Nat)(S:Int->Int):Prop where
 sign:∀ s,S s<0↔s<0
 mem:∀ a r,(a,r)∈rs->(S a,r.map S)∈Bk
 back:∀ b r',(b,r')∈Bk->∃ a r,(a,r)∈rs/\b=S a/\r'=r.map S
 inj:∀ s t,Vp n m s->Vp n m t->S s=S t->s=t
 fit:∀ a r,(a,r)∈rs->Vp n m a/\∀ s∈r,Vp n m s
 onto:∀ j:Nat,j<n->∃ i<n,S ((i:Nat):Int)=(j:Int)
 ontoT:∀ j:Nat,j<m->∃ i<m,S (-1 - ((i:Nat):Int))=-1 - (j:Int)
 into:∀ j:Nat,j<n->∃ i<n,S (j:Int)=((i:Nat):Int)
 intoT:∀ j:Nat,j<m->∃ i<m,S (-1 - (j:Int))=-1 - ((i:Nat):Int)
 zero:S 0=0
section
variable {rs Bk:Zu} {n m:Nat} {S:Int->Int} (h:Ren rs Bk n m S)
include h
theorem Ren.prod{a:Int}(ha:ProdP rs a):ProdP Bk (S a):=by
 induction ha with
 |@mk a r hr _ ih =>
  refine .mk (h.mem a r hr) fun s hs h0=>?_;obtain⟨t,ht,rfl⟩:=Xa.1 hs;refine ih t ht ?_;have:=h.sign t;omega
theorem Ren.prod_back{b:Int}(hb:ProdP Bk b):∀ a,Vp n m a->S a=b->ProdP rs a:=by
 induction hb with
 |@mk b r' hr _ ih =>
  intro a ha e;obtain⟨a',r,h1,h2,h3⟩:=h.back b r' hr;obtain⟨f1,f2⟩:=h.fit a' r h1;have:=h.inj a a' ha f1 (e.trans h2);subst this;refine .mk h1 fun s hs h0=>ih (S s) (by rw[h3];exact List.mem_map_of_mem hs) ?_ s (f2 s hs) rfl;have:=h.sign s;omega
theorem Ren.reach{a:Int}(ha:ReachP rs a):ReachP Bk (S a):=by
 induction ha with
 |start=>rw[h.zero];exact .start
 |@step a s r _ hr hs oq ih =>
  refine .step ih (h.mem a r hr) (List.mem_map_of_mem hs) ?_;have:=h.sign s;omega
theorem Ren.reach_back(hn:0<n){b:Int}(hb:ReachP Bk b):∀ a,Vp n m a->S a=b->ReachP rs a:=by
 induction hb with
 |start =>
  intro a ha e;have:=h.inj a 0 ha ⟨by omega,by omega⟩ (e.trans h.zero.symm);subst this;exact .start
 |@step b s' r' _ hr hs oq ih =>
  intro a ha e;obtain⟨a',r,h1,h2,h3⟩:=h.back b r' hr;obtain⟨f1,f2⟩:=h.fit a' r h1;rw[h3] at hs;obtain⟨s,Ft,eX⟩:=Xa.1 hs;have:=h.inj s a (f2 s Ft) ha (eX.trans e.symm);subst this;refine .step (ih a' f1 h2.symm) h1 Ft ?_;have:=h.sign s;omega
theorem Ren.wellE(hn:0<n)(hw:Rn rs n)(aj:Rn Bk n):wellE n m Bk=wellE n m rs:=by
 have hsn:∀ i:Nat,i<n->Vp n m (i:Int):=fun i hi=>⟨by omega,by omega⟩;have e1:(Ko Bk n).all id=(Ko rs n).all id:=by
  rw[Bool.eq_iff_iff,aX hw,aX aj];constructor
  ·intro hp a ha;obtain⟨i,hi,e⟩:=h.into a ha;exact h.prod_back (hp i hi) a (hsn a ha) e
  ·intro hp a ha;obtain⟨i,hi,e⟩:=h.onto a ha;rw[<-e];exact h.prod (hp i hi)
 have e2:(Uk Bk n).all id=(Uk rs n).all id:=by
  rw[Bool.eq_iff_iff,oA hn hw,oA hn aj];constructor
  ·intro hp a ha;obtain⟨i,hi,e⟩:=h.into a ha;exact h.reach_back hn (hp i hi) a (hsn a ha) e
  ·intro hp a ha;obtain⟨i,hi,e⟩:=h.onto a ha;rw[<-e];exact h.reach (hp i hi)
 have e3:(List.range m).all (Lk Bk)=(List.range m).all (Lk rs):=by
  rw[Bool.eq_iff_iff,Xp,Xp];simp only[Xz,qiS];constructor
  ·intro hp t ht;obtain⟨i,hi,e⟩:=h.intoT t ht;obtain⟨b,r',h1,h2⟩:=hp i hi;obtain⟨a,r,h3,h4,h5⟩:=h.back b r' h1;rw[h5] at h2;obtain⟨s,h6,h7⟩:=Xa.1 h2;have:=h.inj s _ ((h.fit a r h3).2 s h6) ⟨by omega,by omega⟩ (h7.trans e.symm);subst this;exact⟨a,r,h3,h6⟩
  ·intro hp t ht;obtain⟨i,hi,e⟩:=h.ontoT t ht;obtain⟨a,r,h1,h2⟩:=hp i hi;exact⟨_,_,h.mem a r h1,e ▸ List.mem_map_of_mem h2⟩
 unfold Go.Proofs.YtmaojnmnbpomeaaGreatDoor.wellE;rw[e1,e2,e3]
end
theorem qfL{g:Kc}(h:Ik g):Ren g.2.2 (Jk g).2.2 g.1.length g.2.1.length (Rt (g.1.map Wp) (g.2.1.map Wp) (Di (g.1.map Wp)) (Ky (g.2.1.map Wp))):=by
 have hp:=Gn (g.1.map Wp);have hq:=Nc (g.2.1.map Wp);have hn:(g.1.map Wp).Nodup:=Fg (fun _ _=>dA) h.nn;have hm:(g.2.1.map Wp).Nodup:=Fg (fun _ _=>dA) h.tn;have hN:(g.1.map Wp).length=g.1.length:=Qk ..;have hM:(g.2.1.map Wp).length=g.2.1.length:=Qk ..;refine⟨yO _ _ _ _,fun a r hr=>(Ga _).mem_iff.2 (List.mem_map_of_mem (f:=Rz _ _ _ _) hr),fun b r' hr=>?_,fun s t hs ht e=>?_,fun a r hr=>?_,fun j hj=>?_,fun j hj=>?_,fun j hj=>?_,fun j hj=>?_,?_⟩
 ·obtain⟨x,hx,e⟩:=qy hr;exact⟨x.1,x.2,hx,congrArg Prod.fst e,congrArg Prod.snd e⟩
 ·rw[<-hN,<-hM] at hs ht;exact rS hp hq hn hm hs ht e
 ·obtain⟨f1,_,f3⟩:=h.fit (a,r) hr;exact⟨⟨by have:=f1.1;simp only at this;omega,f1.2⟩,f3⟩
 ·obtain⟨i,hi,e⟩:=tW hp hn (j:=j) (by rw[hN];exact hj);refine⟨i,by rw[<-hN];exact hi,?_⟩;unfold Rt;rw[if_neg (by omega),Yy,e]
 ·obtain⟨i,hi,e⟩:=tW hq hm (j:=j) (by rw[hM];exact hj);refine⟨i,by rw[<-hM];exact hi,?_⟩;unfold Rt;rw[if_pos (by omega),show (-1 - (-1 - (i:Int))).toNat=i from by omega,e]
 ·have:=Lv hp (i:=j) (by rw[hN];exact hj);refine⟨_,by rw[<-hN,<-hp.length_eq];exact this,?_⟩;unfold Rt;rw[if_neg (by omega),Yy]
 ·have:=Lv hq (i:=j) (by rw[hM];exact hj);refine⟨_,by rw[<-hM,<-hq.length_eq];exact this,?_⟩;unfold Rt;rw[if_pos (by omega),show (-1 - (-1 - (j:Int))).toNat=j from by omega]
 ·unfold Rt;rw[if_neg (by omega)];have:=h.n1;cases e:g.1.map Wp with
  |nil=>rw[e] at hN;simp at hN;omega
  |cons x l =>
   show ((([x]++Ky l).idxOf x:Nat):Int)=0;simp
theorem nO{g:Kc}(h:Ik g):wellE (Jk g).1.length (Jk g).2.1.length (Jk g).2.2=wellE g.1.length g.2.1.length g.2.2:=by
 obtain⟨l1,l2,_⟩:=Vz g;have hc:=(Ps h).wellG;rw[l1] at hc;rw[l1,l2];exact (qfL h).wellE h.n1 h.wellG hc
abbrev Ng:=Kc×Int×List Ud×List Kf
def Wa:Ng:=(([],[],[]),0,[],[])
theorem An{g:Kc}(h:Kb g=0):Ik g/\Kb (Jk g)=0:=by
 unfold Kb at h;split at h
 ·rename_i hb;have hg:=(Fj g).1 hb;refine⟨hg,?_⟩;unfold Kb;rw[if_pos ((Fj _).2 (Ps hg)),nO hg];exact h
 ·cases h
def me(g:Kc)(left:Nat)(m:Kf):Bool:=m.all fun s=>!(decide ((g.2.2.length:Int)<=s.1)||decide (0<=s.1)&&decide (Sm g s.1≠(left:Int)))
structure zaD(v:Ng):Prop where
 k1:1<=v.2.1
 k4:v.2.1<=4
 chk:Kb v.1=0
 len:v.2.2.2.length=v.1.1.length
 mach:∀ i m,v.2.2.2[i]? = some m->Un m (v.1.2.1.length:Int)=true/\me v.1 i m=true/\Ny m=m
 canon:Jk v.1=v.1
 rows:xe v.1 v.2.1 v.2.2.1=true
def OfS(g:Kc)(k:Int)(s:Zw)(v:Ng)(c:List Wf)(e:Int):Prop :=
 (Mr g.2.2 g.1.length s≠[]/\v=Wa/\c=Mr g.2.2 g.1.length s/\e=20) \/
 (Mr g.2.2 g.1.length s=[]/\∃ rows,rows.Perm (Ve 0 g.2.2 s)/\rows.Pairwise (fun a b=>¬ Md b a)/\v=(g,k,rows,Gd rows g.1.length)/\c=[]/\e=0)
def vV(g:Kc)(k:Int)(v:Ng)(c:List Wf)(e:Int):Prop :=
 (¬ (1<=k/\k<=4)->v=Wa/\c=[]/\e=1) /\
 ((1<=k/\k<=4)->Kb g≠0->v=Wa/\c=[]/\e=Kb g) /\
 ((1<=k/\k<=4)->Kb g=0->∃ s,Lf k (Jk g) (some s)/\OfS (Jk g) k s v c e)
theorem qS{g:Kc}{k:Int}(hk:1<=k/\k<=4)(hc:Kb g=0):¬ Cr k (Jk g):=by
 unfold Cr;rintro (h | h | h)
 ·omega
 ·omega
 ·exact h (An hc).2
theorem y_{g:Kc}{k:Int}{v v':Ng}{c c':List Wf}{e e':Int}(hm:g.2.1.length<=3)(h:vV g k v c e)(h':vV g k v' c' e'):v=v'/\c=c'/\e=e':=by
 obtain⟨a1,a2,a3⟩:=h;obtain⟨b1,b2,b3⟩:=h';by_cases hk:1<=k/\k<=4
 ·by_cases hc:Kb g=0
  ·obtain⟨s,ho,hs⟩:=a3 hk hc;obtain⟨s',wQ,hs'⟩:=b3 hk hc;have e0:=Option.some.inj (ho.det wQ);subst e0;rcases hs with ⟨n1,n2,n3,n4⟩ | ⟨n1,rows,p1,p2,n2,n3,n4⟩ <;> rcases hs' with ⟨m1,m2,m3,m4⟩ | ⟨m1,yY,q1,q2,m2,m3,m4⟩
   ·exact⟨n2.trans m2.symm,n3.trans m3.symm,n4.trans m4.symm⟩
   ·exact absurd m1 n1
   ·exact absurd n1 m1
   ·obtain⟨kk,rfl,hL⟩:=qI (qS hk hc) (by rw[(Vz g).2.1];exact hm);obtain⟨s1,Ft,hM⟩:=hL.sets ho;have e1:=Option.some.inj Ft;subst e1;have er:=qdM hL hM hM p1 q1 (qaF hL hM n1 p1 p2) (qaF hL hM n1 q1 q2);subst er;exact⟨n2.trans m2.symm,n3.trans m3.symm,n4.trans m4.symm⟩
  ·obtain⟨n2,n3,n4⟩:=a2 hk hc;obtain⟨m2,m3,m4⟩:=b2 hk hc;exact⟨n2.trans m2.symm,n3.trans m3.symm,n4.trans m4.symm⟩
 ·obtain⟨n2,n3,n4⟩:=a1 hk;obtain⟨m2,m3,m4⟩:=b1 hk;exact⟨n2.trans m2.symm,n3.trans m3.symm,n4.trans m4.symm⟩
theorem zM{g:Kc}{k:Int}{v:Ng}{c:List Wf}(hm:g.2.1.length<=3)(h:vV g k v c 0):zaD v/\c=[]:=by
 obtain⟨a1,a2,a3⟩:=h;by_cases hk:1<=k/\k<=4
 ·by_cases hc:Kb g=0
  ·obtain⟨s,ho,hs⟩:=a3 hk hc;rcases hs with ⟨_,_,_,n4⟩ | ⟨n1,rows,p1,p2,n2,n3,_⟩
   ·cases n4
   ·obtain⟨kk,rfl,hL⟩:=qI (qS hk hc) (by rw[(Vz g).2.1];exact hm);obtain⟨s1,Ft,hM⟩:=hL.sets ho;have e1:=Option.some.inj Ft;subst e1;obtain⟨hgood,eu⟩:=An hc;have qyU:=kz hL hM p1;have zeG:=qcK hL hM p1;have hrg:=aS hL hM p1;refine⟨?_,n3⟩;rw[n2];refine⟨hk.1,hk.2,eu,zU _ _,fun i m hi=>?_,gP hgood,qsO hL hM n1 p1 p2⟩;have Ua:i<(Jk g).1.length:=by
     have:=(Qj.1 hi).1
     rwa [zU] at this
    change (Gd rows (Jk g).1.length)[i]? = some m at hi;rw[zV rows Ua] at hi;injection hi with hi;have hlo:=tF qyU (i:Int);have hL2:To (Nv (Wr (i:Int) rows) (Ay (Wr (i:Int) rows))) m:=hi ▸ Pp hlo;have hF:=Cu (Wr (i:Int) rows);refine⟨lH hF hL2 fun r hr=>zeG r (Qw.1 hr).1,?_,rG hF hL2⟩;unfold me;rw[Xp];intro st hst;obtain⟨j,hj,rfl⟩:=Qz hst;have ho2:=rF hF hL2 hj;rw[Bq hj] at ho2;simp only[Bool.not_eq_true',Ym,Yk,Bool.and_eq_false_iff,ne_eq,Decidable.not_not];rcases ho2 with e | ⟨r,hr,e⟩
    ·exact⟨by omega,.inl (by omega)⟩
    ·have Ux:=Qw.1 hr;have h1:=(hrg r Ux.1).1;unfold Hq at h1;simp only[Bool.not_eq_true',Ym,Yk,ne_eq,Decidable.not_not] at h1;have hl:=of_decide_eq_true Ux.2;rw[e];exact⟨h1.1.1.2,.inr (h1.1.2.trans hl)⟩
  ·have:=(a2 hk hc).2.2;exact absurd this.symm hc
 ·have:=(a1 hk).2.2;cases this
theorem zN{g:Kc}{k:Int}{v:Ng}{c:List Wf}{e:Int}(hg:Ik g):vV (Jk g) k v c e↔vV g k v c e:=by
 have eu:Kb (Jk g)=Kb g:=by
  unfold Kb;rw[if_pos ((Fj _).2 (Ps hg)),if_pos ((Fj _).2 hg),nO hg]
 unfold vV;rw[eu,gP hg]
theorem qdD{g:Kc}{k:Int}{v:Ng}{c:List Wf}(hm:g.2.1.length<=3)(h:vV g k v c 0):v.1=Jk g/\v.2.1=k/\vV v.1 v.2.1 v [] 0:=by
 have Vh:=(zM hm h).2;subst Vh;obtain⟨a1,a2,a3⟩:=h;by_cases hk:1<=k/\k<=4
 ·by_cases hc:Kb g=0
  ·obtain⟨s,ho,hs⟩:=a3 hk hc;have hgood:=(An hc).1;rcases hs with ⟨_,_,_,n4⟩ | ⟨n1,rows,p1,p2,n2,n3,_⟩
   ·cases n4
   ·have e1:v.1=Jk g:=by rw[n2]
    have e2:v.2.1=k:=by rw[n2]
    refine⟨e1,e2,?_⟩;rw[e1,e2,zN hgood];exact⟨fun h=>absurd hk h,fun _ h=>absurd hc h,fun _ _=>⟨s,ho,.inr ⟨n1,rows,p1,p2,n2,rfl,rfl⟩⟩⟩
  ·exact absurd (a2 hk hc).2.2.symm hc
 ·cases (a1 hk).2.2
theorem zp(A B:Option Addr)(ca cb:Nat)(xs ys:List (Int×Int))(w:World)(ha:Je Gm w w.heap.size (.slice A xs.length ca) xs)(hb:Je Gm w w.heap.size (.slice B ys.length cb) ys) :
  Calls Tryz.prog 171 #[.slice A xs.length ca,.slice B ys.length cb] w fun e w'=>e=.returned (.bool (decide (xs=ys)))/\Below w.heap.size w w':=by
 have HA:=Lh ha;have HB:=Lh hb;have h1:=ha.n_le;have h2:=hb.n_le;by_cases hl:xs.length=ys.length
 ·rw[<-hl] at HB h2 |-;obtain⟨n,hn⟩:=Xe xs.length;rw[<-hn] at HA HB h1 h2 |-;have HN:=Lh hn;have Ci:=Lh (hn.trans hl);clear ha hb hl hn;go_enter Tryz.func171,Tryz.ntmps171;go_wp2_with fail;go_loopg [13] n (fun left v13 wr=>∃ i:Nat,i<=n/\n - i<=left/\v13=.int .i64 i/\Hid (xs.take i=ys.take i)/\Hid (Below w.heap.size w wr));exact⟨0,by omega,by omega,rfl,by simp[Hid],Xr _ _⟩;obtain⟨i,hi,Dp,rfl,HE,HBR⟩:=hrel;by_cases Li:i<n
  ·have Fv:i<xs.length:=by rw[<-HN.o];exact Li
   have Gt:i<ys.length:=by rw[<-Ci.o];exact Li
   obtain⟨b1,o1,cs1,rfl,-,hb1,Fm,Kt⟩:=(HA.o.below HBR.o).get Fv (by decide);obtain⟨b2,o2,cs2,rfl,-,Ja,Mz,Jr⟩:=(HB.o.below HBR.o).get Gt (by decide);obtain⟨rfl,Ib,Sc,hz3,hz4⟩:=Nf Fm;obtain⟨rfl,tX,wM,og,hy4⟩:=Nf Mz;have a0:=Kt 0 _ rfl;have a1:=Kt 1 _ rfl;have c0:=Jr 0 _ rfl;have c1:=Jr 1 _ rfl;clear Kt Jr Fm Mz;simp only[show Gm.size=2 from rfl,Yp,<-Yx] at a0 a1 c0 c1;have HT:=Lh (Qc Fv);have HT2:=Lh (Qc Gt);have Ot:=Lh (Qa Fv);have cC:=Lh (Qa Gt);obtain⟨x,hx⟩:=Xe (xs[i]);obtain⟨y,hy⟩:=Xe (ys[i]);rw[<-hx] at a0 a1 HT Ot Ib Sc hz3 hz4;rw[<-hy] at c0 c1 HT2 cC tX wM og hy4;clear hx hy Fv Gt;obtain⟨xa,xi⟩:=x;obtain⟨ya,yi⟩:=y;simp only at a0 a1 c0 c1;go_wp2_with fail;refine Text.wp_text [8] (by kernel_rfl) (by kernel_rfl) (fun Q' hQ'=>?_);go_wp2_with fail
   all_goals refine⟨by rfl,?_⟩
   case isTrue.isTrue =>
    rename_i g1 g2;subst g1 g2;go_wp2_with fail;go_roundg (gk - 1);exact⟨i+1,by omega,by omega,by go_num,by show _=_;rw[HT.o,HT2.o,HE.o],HBR.o.drew⟩;omega
   all_goals
    have HNE:=Lh (show ¬ xs=ys by
     intro e
     have e2:=Ot.o.symm.trans ((congrArg (fun l:List (Int×Int)=>l[i]?) e).trans cC.o)
     injection e2 with e2
     injection e2 with e2 e3
     contradiction)
    go_wp2_with fail;go_ret;exact⟨Kx (Zv (by rw[Yw HNE.o])),HBR.o.drew⟩
  ·have Ua:i=n:=by omega
   have HEQ:=Lh (show xs=ys by
    have h:=HE.o
    rwa [Ua,Qd (by rw[<-HN.o];exact Ya _),Qd (by rw[<-Ci.o];exact Ya _)] at h)
   go_wp2_with fail;go_ret;exact⟨Kx (Zv (by rw[Yv HEQ.o])),HBR.o⟩
 ·have HNE:=Lt (¬ xs=ys) (fun e=>hl (by rw[e]));have hlb:((xs.length:Int)==(ys.length:Int))=false:=by
   rw[Yo];omega
  have kY:¬ ((xs.length:Int)=(ys.length:Int)):=by omega
  generalize xs.length=n1 at *;generalize ys.length=n2 at *;clear ha hb;go_enter Tryz.func171,Tryz.ntmps171;go_wp2_with fail
  all_goals first
   |(exfalso;omega)
   |(go_ret;exact⟨Kx (Zv (by rw[Yw HNE.o])),Xr _ _⟩)
theorem qcI(o1 o2:Int)(v1 v2:Value)(l1 l2:List (Int×Int))(w:World)(h1:Je Gm w w.heap.size v1 l1)(h2:Je Gm w w.heap.size v2 l2) :
  Calls Tryz.prog 170 #[.agg #[.int .i64 o1,v1],.agg #[.int .i64 o2,v2]] w fun e w'=>e=.returned (.bool (decide (o1=o2)&&decide (l1=l2)))/\Below w.heap.size w w':=by
 obtain⟨A1,c1,rfl,-,-⟩:=h1.form;obtain⟨A2,c2,rfl,-,-⟩:=h2.form;have HBW:=Lt (Below w.heap.size w ((w.alloc (.cells #[.int .i64 o1,.slice A1 l1.length c1] 118)).alloc (.cells #[.int .i64 o2,.slice A2 l2.length c2] 118))) (((Xr _ _).alloc (Ya _) _).alloc (by rw[Xs];omega) _);have HE:=Lh (zp A1 A2 c1 c2 l1 l2 _ (h1.fut HBW.o (Ya _) HBW.o.size) (h2.fut HBW.o (Ya _) HBW.o.size));clear h1 h2;generalize l1.length=n1 at *;generalize l2.length=n2 at *;by_cases ho:o1=o2
 ·subst ho;go_enter Tryz.func170,Tryz.ntmps170;go_wp2_with fail;refine HE.o.mono ?_;rintro e w1 ⟨rfl,hb1⟩;have HB1:=Lh (HBW.o.trans (hb1.mono HBW.o.size));clear hb1;obtain⟨d,hd⟩:=Xe (decide (l1=l2));rw[<-hd];have HD:=Lh hd;clear hd;cases d
  all_goals
   go_wp2_with fail;go_ret;exact⟨Kx (Zv (by rw[<-HD.o];simp)),HB1.o⟩
 ·have hd:(o1==o2)=false:=by simpa using ho
  have HD:=Lh ho;clear ho;go_enter Tryz.func170,Tryz.ntmps170;go_wp2_with fail;go_ret;exact⟨Kx (Zv (by rw[Yw HD.o];rfl)),HBW.o⟩
theorem fe(v1 v2:Value)(m1 m2:A_)(w:World)(h1:Je Js w w.heap.size v1 m1)(h2:Je Js w w.heap.size v2 m2) :
  Calls Tryz.prog 169 #[v1,v2,.func (.func 170) #[] #[]] w fun e w'=>e=.returned (.bool (decide (m1=m2)))/\Below w.heap.size w w':=by
 obtain⟨A1,c1,rfl,uD,wT⟩:=h1.form;obtain⟨A2,c2,rfl,hb1,Ja⟩:=h2.form;unfold maxLen at wT Ja;have H1:=Lh h1;have H2:=Lh h2;clear h1 h2;by_cases hl:m1.length=m2.length
 ·rw[<-hl] at H2 hb1 |-;obtain⟨n,hn⟩:=Xe m1.length;rw[<-hn] at H1 H2 uD hb1 |-;have HN:=Lh hn;have Ci:=Lh (hn.trans hl);clear hl hn;go_enter Tryz.func169,Tryz.ntmps169;go_wp2_with fail;go_loopw [17] (fun v17 wr=>∃ i:Nat,i<=n/\v17=.int .i64 i/\Hid (m1.take i=m2.take i)/\Hid (Below w.heap.size w wr)) (fun v17 _=>n - (intOf v17).toNat);exact⟨0,by omega,rfl,by simp[Hid],Xr _ _⟩;obtain⟨i,hi,rfl,HE,HBR⟩:=hrel;by_cases Li:i<n
  ·have Fv:i<m1.length:=by rw[<-HN.o];exact Li
   have Gt:i<m2.length:=by rw[<-Ci.o];exact Li
   obtain⟨b1,o1,cs1,rfl,-,qmR,Fm,Kt⟩:=(H1.o.below HBR.o).get Fv (by decide);obtain⟨b2,o2,cs2,rfl,-,zpW,Mz,Jr⟩:=(H2.o.below HBR.o).get Gt (by decide);obtain⟨u1,rfl,hu1,Ib,Sc⟩:=Me Fm;obtain⟨u2,rfl,qJ,tX,wM⟩:=Me Mz;obtain⟨B1,k1,rfl,-,-⟩:=hu1.form;obtain⟨B2,k2,rfl,-,-⟩:=qJ.form;have a0:=Kt 0 _ rfl;have a1:=Kt 1 _ rfl;have d0:=Jr 0 _ rfl;have d1:=Jr 1 _ rfl;clear Kt Jr Fm Mz;simp only[show Js.size=2 from rfl,Yp,<-Yx] at a0 a1 d0 d1;have iJ:=Lh hu1;have dP:=Lh qJ;have HT:=Lh (Qc Fv);have HT2:=Lh (Qc Gt);have Ot:=Lh (Qa Fv);have cC:=Lh (Qa Gt);obtain⟨x,hx⟩:=Xe (m1[i]);obtain⟨y,hy⟩:=Xe (m2[i]);rw[<-hx] at a0 a1 HT Ot iJ;rw[<-hy] at d0 d1 HT2 cC dP;clear hx hy Fv Gt hu1 qJ Ib Sc tX wM;obtain⟨xa,xl⟩:=x;obtain⟨ya,yl⟩:=y;simp only at a0 a1 d0 d1 iJ dP;have HS:=Lh (fun W (hW:Below w.heap.size wr W) (hs:w.heap.size<=W.heap.size)=>qcI xa ya (.slice B1 xl.length k1) (.slice B2 yl.length k2) xl yl W (iJ.o.fut hW (Ya _) hs) (dP.o.fut hW (Ya _) hs));generalize xl.length=n1 at *;generalize yl.length=n2 at *;have HBX:=Lt (Below w.heap.size wr ((wr.alloc (.cells #[.int .i64 xa,.slice B1 n1 k1] 118)).alloc (.cells #[.int .i64 ya,.slice B2 n2 k2] 118))) (((Xr _ _).alloc HBR.o.size _).alloc (by rw[Xs];have:=HBR.o.size;omega) _);have hbr:=HBR.o.size;have d0':(wr.alloc (.cells #[.int .i64 xa,.slice B1 n1 k1] 118)).cell? ⟨b2,o2+i*2,none⟩=some (.int .i64 ya):=(World.cell?_of_block (w:=wr) (Ze wr _ b2 (by omega))).trans d0;have d1':(wr.alloc (.cells #[.int .i64 xa,.slice B1 n1 k1] 118)).cell? ⟨b2,o2+i*2+1,none⟩=some (.slice B2 n2 k2):=(World.cell?_of_block (w:=wr) (Ze wr _ b2 (by omega))).trans d1;go_wp2_with fail;refine (HS.o _ HBX.o (Yb HBR.o.size (by simp only[Xs];omega))).mono ?_;rintro e w1 ⟨rfl,hb1⟩;have HB1:=Lh (HBR.o.trans (HBX.o.trans (hb1.mono (by simp only[Xs];have:=HBR.o.size;omega))));clear hb1;obtain⟨d,hd⟩:=Xe ((decide (xa=ya)&&decide (xl=yl)));rw[<-hd];have HD:=Lh hd;clear hd;cases d
   ·have HNE:=Lh (show ¬ m1=m2 by
     intro e
     have e2:=Ot.o.symm.trans ((congrArg (fun l:A_=>l[i]?) e).trans cC.o)
     injection e2 with e2
     injection e2 with e2 e3
     have:=HD.o
     rw[Yv e2,Yv e3] at this
     cases this)
    go_wp2_with fail;go_ret;exact⟨Kx (Zv (by rw[Yw HNE.o])),HB1.o⟩
   ·have HQ:=Lh (show xa=ya/\xl=yl by
     have h:=HD.o.symm
     rw[Yl,decide_eq_true_iff,decide_eq_true_iff] at h
     exact h)
    go_wp2_with fail;go_roundw;exact⟨i+1,by omega,by go_num,by show _=_;rw[HT.o,HT2.o,HE.o,HQ.o.1,HQ.o.2],HB1.o⟩;simp[intOf];omega
  ·have Ua:i=n:=by omega
   have HEQ:=Lh (show m1=m2 by
    have h:=HE.o
    rwa [Ua,Qd (by rw[<-HN.o];exact Ya _),Qd (by rw[<-Ci.o];exact Ya _)] at h)
   go_wp2_with fail;go_ret;exact⟨Kx (Zv (by rw[Yv HEQ.o])),HBR.o⟩
 ·have HNE:=Lt (¬ m1=m2) (fun e=>hl (by rw[e]));have kY:((m1.length:Int) != (m2.length:Int))=true:=by simpa using (show ¬ (m1.length:Int)=m2.length by omega)
  clear hl;go_enter Tryz.func169,Tryz.ntmps169;go_wp2_with fail;go_ret;exact⟨Kx (Zv (by rw[Yw HNE.o])),Xr _ _⟩
theorem jI(v1 v2:Value)(m1 m2:A_)(w:World)(h1:Je Js w w.heap.size v1 m1)(h2:Je Js w w.heap.size v2 m2) :
  Calls Tryz.prog 107 #[v1,v2] w fun e w'=>e=.returned (.bool (decide (m1=m2)))/\Below w.heap.size w w':=by
 have HE:=Lh (fe v1 v2 m1 m2 w h1 h2);obtain⟨A1,c1,rfl,-,-⟩:=h1.form;obtain⟨A2,c2,rfl,-,-⟩:=h2.form;clear h1 h2;go_enter Tryz.func107,Tryz.ntmps107;go_wp2_with fail;refine HE.o.mono ?_;rintro e w1 ⟨rfl,hb1⟩;go_wp2_with fail;go_ret;exact⟨rfl,hb1⟩
theorem py(v1 v2:Value)(m1 m2:List Kf)(w:World)(h1:Je (Th Js) w w.heap.size v1 m1)(h2:Je (Th Js) w w.heap.size v2 m2) :
  Calls Tryz.prog 122 #[v1,v2,.func (.func 107) #[] #[]] w fun e w'=>e=.returned (.bool (decide (m1=m2)))/\Below w.heap.size w w':=by
 obtain⟨A1,c1,rfl,uD,wT⟩:=h1.form;obtain⟨A2,c2,rfl,hb1,Ja⟩:=h2.form;unfold maxLen at wT Ja;have H1:=Lh h1;have H2:=Lh h2;clear h1 h2;by_cases hl:m1.length=m2.length
 ·rw[<-hl] at H2 hb1 |-;obtain⟨n,hn⟩:=Xe m1.length;rw[<-hn] at H1 H2 uD hb1 |-;have HN:=Lh hn;have Ci:=Lh (hn.trans hl);clear hl hn;go_enter Tryz.func122,Tryz.ntmps122;go_wp2_with fail;go_loopw [17] (fun v17 wr=>∃ i:Nat,i<=n/\v17=.int .i64 i/\Hid (m1.take i=m2.take i)/\Hid (Below w.heap.size w wr)) (fun v17 _=>n - (intOf v17).toNat);exact⟨0,by omega,rfl,by simp[Hid],Xr _ _⟩;obtain⟨i,hi,rfl,HE,HBR⟩:=hrel;by_cases Li:i<n
  ·have Fv:i<m1.length:=by rw[<-HN.o];exact Li
   have Gt:i<m2.length:=by rw[<-Ci.o];exact Li
   obtain⟨b1,o1,cs1,rfl,-,qmR,Fm,Kt⟩:=(H1.o.below HBR.o).get Fv (by decide);obtain⟨b2,o2,cs2,rfl,-,zpW,Mz,Jr⟩:=(H2.o.below HBR.o).get Gt (by decide);obtain⟨u1,rfl,hu1⟩:=Fm;obtain⟨u2,rfl,qJ⟩:=Mz;have a0:=Kt 0 _ rfl;have d0:=Jr 0 _ rfl;clear Kt Jr;simp only[show (Th Js).size=1 from rfl,Yp,Yr] at a0 d0;have hs:=HBR.o.size;have HS:=Lh (jI u1 u2 m1[i] m2[i] wr (hu1.more hs) (qJ.more hs));obtain⟨B1,k1,rfl,-,-⟩:=hu1.form;obtain⟨B2,k2,rfl,-,-⟩:=qJ.form;have HT:=Lh (Qc Fv);have HT2:=Lh (Qc Gt);have Ot:=Lh (Qa Fv);have cC:=Lh (Qa Gt);obtain⟨x,hx⟩:=Xe (m1[i]);obtain⟨y,hy⟩:=Xe (m2[i]);rw[<-hx] at a0 HT Ot HS;rw[<-hy] at d0 HT2 cC HS;clear hx hy Fv Gt hu1 qJ;generalize x.length=n1 at *;generalize y.length=n2 at *;go_wp2_with fail;refine HS.o.mono ?_;rintro e w1 ⟨rfl,hb1⟩;have HB1:=Lh (HBR.o.trans (hb1.mono hs));clear hb1;obtain⟨d,hd⟩:=Xe (decide (x=y));rw[<-hd];have HD:=Lh hd;clear hd;cases d
   ·have HNE:=Lh (show ¬ m1=m2 by
     intro e
     have e2:=Ot.o.symm.trans ((congrArg (fun l:List Kf=>l[i]?) e).trans cC.o)
     injection e2 with e2
     have:=HD.o
     rw[Yv e2] at this
     cases this)
    go_wp2_with fail;go_ret;exact⟨Kx (Zv (by rw[Yw HNE.o])),HB1.o⟩
   ·have HQ:=Lt (x=y) (of_decide_eq_true HD.o.symm);go_wp2_with fail;go_roundw;exact⟨i+1,by omega,by go_num,by show _=_;rw[HT.o,HT2.o,HE.o,HQ.o],HB1.o⟩;simp[intOf];omega
  ·have Ua:i=n:=by omega
   have HEQ:=Lh (show m1=m2 by
    have h:=HE.o
    rwa [Ua,Qd (by rw[<-HN.o];exact Ya _),Qd (by rw[<-Ci.o];exact Ya _)] at h)
   go_wp2_with fail;go_ret;exact⟨Kx (Zv (by rw[Yv HEQ.o])),HBR.o⟩
 ·have HNE:=Lt (¬ m1=m2) (fun e=>hl (by rw[e]));have kY:((m1.length:Int) != (m2.length:Int))=true:=by simpa using (show ¬ (m1.length:Int)=m2.length by omega)
  clear hl;go_enter Tryz.func122,Tryz.ntmps122;go_wp2_with fail;go_ret;exact⟨Kx (Zv (by rw[Yw HNE.o])),Xr _ _⟩
theorem xO(v1 v2:Value)(m1 m2:List Kf)(w:World)(h1:Je (Th Js) w w.heap.size v1 m1)(h2:Je (Th Js) w w.heap.size v2 m2) :
  Calls Tryz.prog 64 #[v1,v2] w fun e w'=>e=.returned (.bool (decide (m1=m2)))/\Below w.heap.size w w':=by
 have HE:=Lh (py v1 v2 m1 m2 w h1 h2);obtain⟨A1,c1,rfl,-,-⟩:=h1.form;obtain⟨A2,c2,rfl,-,-⟩:=h2.form;clear h1 h2;go_enter Tryz.func64,Tryz.ntmps64;go_wp2_with fail;refine HE.o.mono ?_;rintro e w1 ⟨rfl,hb1⟩;go_wp2_with fail;go_ret;exact⟨rfl,hb1⟩
def Bu(k:Int):Bool:=decide (1<=k/\k<=4)
theorem mG(k:Int)(w:World):Calls Tryz.prog 27 #[.int .i64 k] w fun e w'=>e=.returned (.bool (Bu k))/\w=w':=by
 have hc:k<1\/(1<=k/\k<=4)\/4<k:=by omega
 rcases hc with h | h | h
 all_goals
  go_enter Tryz.func27,Tryz.ntmps27;go_wp2
  all_goals first
   |(exfalso;omega)
   |(exfalso;simp at *;omega)
   |(go_ret;exact⟨Kx (Zv (by rw[Bool.eq_iff_iff];simp[Bu] <;> omega)),rfl⟩)
def pV(g:Kc)(left:Int)(s:Int×List (Int×Int)):Bool:=decide ((g.2.2.length:Int)<=s.1)||decide (0<=s.1)&&decide (Sm g s.1≠left)
theorem qjY(g:Kc)(left:Nat)(m:Kf):me g left m=!m.any (pV g (left:Int)):=by
 unfold me pV
 induction m with
 |nil=>rfl
 |cons s m ih =>
  rw[List.all_cons,List.any_cons,ih];generalize (m.any fun s=>decide ((g.2.2.length:Int)<=s.1)||decide (0<=s.1)&&decide (Sm g s.1≠(left:Int)))=x;generalize (decide ((g.2.2.length:Int)<=s.1)||decide (0<=s.1)&&decide (Sm g s.1≠(left:Int)))=y;cases x <;> cases y <;> rfl
theorem qjZ(gb lb:Nat)(v1 v2 vn:Value)(A3:Option Addr)(q c3:Nat)(g:Kc)(left:Int)(s:Int×List (Int×Int))(w:World)(B:Nat)(hg:w.heap[gb]? = some (.cells #[v1,v2,.slice A3 q c3] 25 (0,0)))(hl:w.heap[lb]? = some (.cells #[.int .i64 left] 3 (0,0)))
  (hr:Je Vv w B (.slice A3 q c3) g.2.2) (hB:B<=w.heap.size) (hvn:∃ A n c,vn=.slice A n c) :
  Calls Tryz.prog 106 #[.agg #[.int .i64 s.1,vn],.pointer (some ⟨gb,0,none⟩),.pointer (some ⟨lb,0,none⟩)] w fun e w'=>e=.returned (.bool (pV g left s))/\Below w.heap.size w w':=by
 obtain⟨A0,n0,c0,rfl⟩:=hvn;have hq:=hr.n_eq;have hqs:=hr.n_le;obtain⟨o,ho⟩:=Xe s.1;rw[<-ho];have Db:=Lh (show pV g left s=(decide ((q:Int)<=o)||decide (0<=o)&&decide (Sm g o≠left)) by unfold pV;rw[<-hq,<-ho]);have HBW:=Lt (Below w.heap.size w (w.alloc (.cells #[.int .i64 o,.slice A0 n0 c0] 118))) ((Xr _ _).alloc (Ya _) _);have HS:=Lh (Xn w (.cells #[.int .i64 o,.slice A0 n0 c0] 118));have HG:=Lh ((HBW.o.block gb (gl hg)).trans hg);have HL:=Lh ((HBW.o.block lb (gl hl)).trans hl);have HR:=Lh (hr.below (HBW.o.mono hB));obtain⟨K,hK⟩:=Xe w.heap.size;rw[<-hK] at HS;clear hg hl hr ho;by_cases h1:(q:Int)<=o
 ·have d1:decide (o≥(q:Int))=true:=by simpa using h1
  have d1':decide ((q:Int)<=o)=true:=by simpa using h1
  have Ju:=Lh (show pV g left s=true by rw[Db.o,Yv h1];rfl);clear h1 hq;go_enter Tryz.func106,Tryz.ntmps106;go_wp2_with fail;rw[<-hK];clear hK;generalize w.alloc (.cells #[.int .i64 o,.slice A0 n0 c0] 118)=w1 at *;obtain⟨a0,a1,a2⟩:=Pd HG.o;have s0:w1.cell? ⟨K,0,none⟩=some (.int .i64 o):=Xc HS.o rfl;refine Text.wt (by kernel_rfl) fun Q' hQ'=>?_;go_wp2_with fail;refine⟨by rfl,?_⟩;go_wp2_with fail;go_ret;exact⟨Kx (Zv Ju.o.symm),HBW.o.drew⟩
 ·have d1:decide ((q:Int)<=o)=false:=by simpa using h1
  by_cases h2:0<=o
  ·obtain⟨k,hk⟩:∃ k:Nat,o=(k:Int):=⟨o.toNat,by omega⟩;have hkq:k<g.2.2.length:=by omega
   have hkq2:k<q:=by omega
   have HLF:=Lh (show Sm g o=g.2.2[k].1 by unfold Sm;rw[hk];simp[hkq]);obtain⟨b,off,cs,hA3,_,_,Zx,Zm⟩:=HR.o.get hkq (by decide);subst hA3;obtain⟨u,rfl,hsu,Ib,Sc⟩:=Kq Zx;have c0':=Zm 0 _ rfl;simp only[show Vv.size=2 from rfl,Yp] at c0';clear Zm Zx hsu;generalize g.2.2[k].1=lv at *;have Ju:=Lh (show pV g left s=decide (lv≠left) by rw[Db.o,d1,HLF.o,Yv h2];rfl);subst hk;have d2:decide ((0:Int)<=(k:Int))=true:=by simp
   have d1n:decide (q<=k)=false:=by simp;omega
   by_cases he:lv=left
   ·have hx:(lv != left)=false:=by simp[he]
    have kP:=Lh (show pV g left s=false by rw[Ju.o,Yw (fun e=>e he)]);clear he;clear h1 h2 hq hkq;go_enter Tryz.func106,Tryz.ntmps106;go_wp2_with fail;rw[<-hK];clear hK;generalize w.alloc (.cells #[.int .i64 (k:Int),.slice A0 n0 c0] 118)=w1 at *;obtain⟨a0,a1,a2⟩:=Pd HG.o;have s0:w1.cell? ⟨K,0,none⟩=some (.int .i64 (k:Int)):=Xc HS.o rfl;have l0:w1.cell? ⟨lb,0,none⟩=some (.int .i64 left):=Xc HL.o rfl;refine Text.wt (by kernel_rfl) fun Q' hQ'=>?_;go_wp2_with fail;refine⟨by rfl,?_⟩;go_wp2_with fail;go_ret;exact⟨Kx (Zv kP.o.symm),HBW.o.drew⟩
   ·have hx:(lv != left)=true:=by simp[he]
    have kP:=Lh (show pV g left s=true by rw[Ju.o,Yv he]);clear he;clear h1 h2 hq hkq;go_enter Tryz.func106,Tryz.ntmps106;go_wp2_with fail;rw[<-hK];clear hK;generalize w.alloc (.cells #[.int .i64 (k:Int),.slice A0 n0 c0] 118)=w1 at *;obtain⟨a0,a1,a2⟩:=Pd HG.o;have s0:w1.cell? ⟨K,0,none⟩=some (.int .i64 (k:Int)):=Xc HS.o rfl;have l0:w1.cell? ⟨lb,0,none⟩=some (.int .i64 left):=Xc HL.o rfl;refine Text.wt (by kernel_rfl) fun Q' hQ'=>?_;go_wp2_with fail;refine⟨by rfl,?_⟩;go_wp2_with fail;go_ret;exact⟨Kx (Zv kP.o.symm),HBW.o.drew⟩
  ·have d2:decide ((0:Int)<=o)=false:=by simpa using h2
   have Ju:=Lh (show pV g left s=false by rw[Db.o,d1,d2];rfl);clear h1 h2 hq;go_enter Tryz.func106,Tryz.ntmps106;go_wp2_with fail;rw[<-hK];clear hK;generalize w.alloc (.cells #[.int .i64 o,.slice A0 n0 c0] 118)=w1 at *;obtain⟨a0,a1,a2⟩:=Pd HG.o;have s0:w1.cell? ⟨K,0,none⟩=some (.int .i64 o):=Xc HS.o rfl;refine Text.wt (by kernel_rfl) fun Q' hQ'=>?_;go_wp2_with fail;refine⟨by rfl,?_⟩;go_wp2_with fail;go_ret;exact⟨Kx (Zv Ju.o.symm),HBW.o.drew⟩
theorem qrW(v1 v2 v3 v:Value)(g:Kc)(left:Nat)(m:Kf)(w:World)(B:Nat)(hr:Je Vv w B v3 g.2.2)(hB:B<=w.heap.size)(hm:Je Js w w.heap.size v m) :
  Calls Tryz.prog 49 #[.agg #[v1,v2,v3],.int .i64 left,v] w fun e w'=>e=.returned (.bool (me g left m))/\Below w.heap.size w w':=by
 obtain⟨A3,c3,rfl,_,_⟩:=hr.form;obtain⟨A,c,rfl,_,_⟩:=hm.form;have HOW:=Lh (qjY g left m);have HR:=Lh hr;have HM:=Lh hm;clear hr hm;generalize g.2.2.length=q at *;generalize m.length=n at *;have HB2:=Lt (Below w.heap.size w ((w.alloc (.cells #[v1,v2,.slice A3 q c3] 25)).alloc (.cells #[.int .i64 left] 3))) (((Xr _ _).alloc (Ya _) _).alloc (by rw[Xs];omega) _);have HG:=Lh (Go.heap_alloc2_old w (.cells #[v1,v2,.slice A3 q c3] 25) (.cells #[.int .i64 left] 3));have HL:=Lh (Go.heap_alloc2_new w (.cells #[v1,v2,.slice A3 q c3] 25) (.cells #[.int .i64 left] 3));go_enter Tryz.func49,Tryz.ntmps49;go_wp2_with fail;generalize (w.alloc (.cells #[v1,v2,.slice A3 q c3] 25)).alloc (.cells #[.int .i64 left] 3)=w2 at *;have HC:=Lh (zt 106 #[.pointer (some ⟨w.heap.size,0,none⟩),.pointer (some ⟨w.heap.size+1,0,none⟩)] (pV g (left:Int)) (.slice A n c) m w2 (HM.o.fut HB2.o (Ya _) HB2.o.size) (fun _ _=>by kernel_rfl) (fun cs x w3 _ hb3 hrx=>by
  obtain⟨vx,rfl,Ab,_,_⟩:=Me hrx
  obtain⟨Ax,cx,rfl,_,_⟩:=Ab.form
  exact qjZ w.heap.size (w.heap.size+1) v1 v2 _ A3 q c3 g (left:Int) x w3 B ((hb3.block _ (gl HG.o)).trans HG.o) ((hb3.block _ (gl HL.o)).trans HL.o) (HR.o.below ((HB2.o.mono hB).trans (hb3.mono (Yb hB HB2.o.size)))) (Yb hB (Yb HB2.o.size hb3.size)) ⟨_,_,_,rfl⟩))
 refine HC.o.mono ?_;rintro e w3 ⟨rfl,hb3⟩;have HB3:=Lh (HB2.o.trans (hb3.mono HB2.o.size));generalize m.any (pV g (left:Int))=x at *;go_wp2_with fail;go_ret;exact⟨Kx (Zv HOW.o.symm),HB3.o⟩
theorem vf(v:Value)(m:Kf)(w:World)(hv:Je Js w w.heap.size v m)(hl:m.length<=2199023255552)(he:∀ k<m.length,(Mb m k).length<=2199023255552)(ht:dX w) :
  Calls Tryz.prog 50 #[v] w fun e w'=>e=.returned (.bool (decide (m≠[])&&decide (Ny m=m)))/\Below w.heap.size w w':=by
 have HMK:=Lh (jJ v m w hv hl he ht);have HV:=Lh hv;obtain⟨A,c,rfl,Nj,Uy⟩:=hv.form;unfold maxLen at Uy;by_cases hm:m=[]
 ·subst hm;clear HMK hv hl he;go_enter Tryz.func50,Tryz.ntmps50;go_wp2_with fail;go_ret;exact⟨Kx (Zv (by simp)),Xr _ _⟩
 ·have Dg:0<m.length:=Qy.2 hm;have Ju:=Lh (show (decide (m≠[])&&decide (Ny m=m))=decide (m=Ny m) by
   rw[Yv (show m≠[] from hm),Bool.true_and,decide_eq_decide]
   exact eq_comm)
  have iK:=Lh (fun(W:World)(hb:Below w.heap.size w W)(v2:Value)(h2:Je Js W W.heap.size v2 (Ny m))=>jI (.slice A m.length c) v2 m (Ny m) W (HV.o.fut hb (Ya _) hb.size) h2);clear hv hl he hm HV;generalize m.length=n at *;have d0:decide ((0:Int)<(n:Int))=true:=by simp;omega
  have d0n:decide (0<n)=true:=by simp;omega
  go_enter Tryz.func50,Tryz.ntmps50;go_wp2_with fail;refine HMK.o.mono ?_;rintro e w2 ⟨v2,rfl,eX,Ja⟩;have hS2:=eX w2 fun _ _ _=>rfl;obtain⟨A2,c2,rfl,_,_⟩:=hS2.form;have HC:=Lh (iK.o w2 Ja _ hS2);have HB2:=Lh Ja;clear eX hS2 Ja;generalize (Ny m).length=n2 at *;go_wp2_with fail;refine HC.o.mono ?_;rintro e w3 ⟨rfl,hb3⟩;have HB3:=Lh (HB2.o.trans (hb3.mono HB2.o.size));clear hb3;generalize decide (m=Ny m)=x at *;go_wp2_with fail;go_ret;exact⟨Kx (Zv Ju.o.symm),HB3.o⟩
theorem qkU:Dc Tryz.prog 29 64 1 24 (.slice none 0 0):=Gq (by kernel_rfl) (by kernel_rfl) rfl (by omega)
def zlF(ms:List Kf)(w:World)(e:Ending)(w':World):Prop:=∃ v,e=.returned v/\Je (Th Js) w' w'.heap.size v ms/\Below w.heap.size w w'
def qoS(ms:List Kf)(w:World)(e:Ending)(w':World):Prop:=∃ v,e=.returned v/\(∀ w'':World,(∀ b,w.heap.size<=b->b<w'.heap.size->w''.heap[b]? = w'.heap[b]?)->Je (Th Js) w'' w''.heap.size v ms)/\Below w.heap.size w w'
theorem qnJ(F:FuncId)(cap:Array Value)(n:Nat)(f:Nat->Kf)(w:World)(hn:n<=1099511627776)(hF:∀(args:Array Value)(w:World),(callFunc F args).run Tryz.prog w=.ok (.enter F args) w)
  (hc:∀ left<n,∀ W,Below w.heap.size w W->Calls Tryz.prog F (#[.int .i64 (left:Nat)]++cap) W (qoT (f left) W)) :
  Calls Tryz.prog 43 #[.int .i64 n,.func (.func F) #[] cap] w (qoS ((List.range n).map f) w):=by
 have HC:=Lh hc;clear hc;go_enter Tryz.func43,Tryz.ntmps43;go_wp2_with fail;go_loopw [8,5] (fun v8 v5 wr=>∃(k:Nat)(vs:List Value),k<=n/\v8=.int .i64 k/\vs.length=k/\Hid (Oo wr w.heap.size v5 vs ((List.range k).map f))/\Hid (Below w.heap.size w wr)) (fun v8 _ _=>n - (intOf v8).toNat);exact⟨0,[],by omega,rfl,rfl,Oo.nil _ _,Xr _ _⟩;obtain⟨k,vs,hk,rfl,hvk,HE,HB⟩:=hrel;obtain⟨A5,c5,rfl,Ic,kX⟩:=Zo HE.o.row;unfold maxLen at kX;have HVK:=Lh hvk;clear hvk;by_cases Ji:k<n
 ·go_wp2_with fail;refine (HC.o k Ji wr HB.o).mono ?_;rintro e w1 ⟨vm,rfl,hm,hb1⟩;obtain⟨Am,cm,rfl,jO,hm2⟩:=(hm w1 fun _ _ _=>rfl).form;have HM:=Lh hm;have HB1:=Lh hb1;have hvl:vs.length<=n:=by rw[HVK.o];omega
  have hbz:=HB1.o.size;have hbz2:=HB.o.size;have HE1:=Lh (HE.o.below hb1);clear hm hb1;go_wp2_with (refine Zs (some 16) rfl ?_);refine Stop.go (Zz (m:=1) (n:=vs.length) qkU rfl rfl rfl rfl (HE1.o.row.alloc _) (Rd.row (B:=w1.heap.size+1) (Xn w1 _) (by omega)) rfl (by simp[Value.oneCell']) ?h63 ?hby ?hbase ?_)
  case h63=>simp only[maxLen];omega
  case hby=>omega
  case hbase=>rw[Xs];omega
  intro v2 w2 qvQ aI zeX _;have b_:=Lh (HE.o.snoc HB.o.size HB1.o HM.o (.cells #[.slice Am (f k).length cm] 64) qvQ aI zeX);have HB2:=Lh (Zt ((HB.o.trans (HB1.o.mono HB.o.size)).alloc (by omega) (.cells #[.slice Am (f k).length cm] 64)) aI (HE1.o.row.alloc _) (Ya _) (by rw[Xs];omega));clear qvQ aI zeX;go_wp2_with fail;go_roundw
  case rel =>
   refine⟨k+1,vs++[.slice Am (f k).length cm],by omega,by go_num,by rw[Qe,HVK.o];rfl,?_,HB2.o⟩;show Oo _ _ _ _ _;rw[List.range_succ,Qt];exact b_.o
  case measure=>simp[intOf];omega
 ·have hkn:k=n:=by omega
  subst hkn;go_wp2_with fail;go_ret;exact⟨_,rfl,fun w'' hw=>HE.o.fresh w'' hw,HB.o⟩
theorem qdG{A1 A2 A3 Ar:Option Addr}{n m q c1 c2 c3 nr cr:Nat}(rows:List Ud)(w:World)(hv:Je Aj w w.heap.size (.slice Ar nr cr) rows)(hf:Hc rows)(hn:n<=1099511627776)(ht:dX w) :
  Calls Tryz.prog 15 #[Ri A1 A2 A3 n m q c1 c2 c3,.slice Ar nr cr] w (qoS (Gd rows n) w):=by
 have HV:=Lh hv;have HF:=Lh hf;have HT:=Lh ht;have hb3:=Xn (w.alloc (.cells #[.slice A1 n c1,.slice A2 m c2,.slice A3 q c3] 25)) (.cells #[.slice Ar nr cr] 28);rw[Xs] at hb3;have HB3:=Lh hb3;have HBW:=Lt (Below w.heap.size w ((w.alloc (.cells #[.slice A1 n c1,.slice A2 m c2,.slice A3 q c3] 25)).alloc (.cells #[.slice Ar nr cr] 28))) (((Xr _ _).alloc (Ya _) _).alloc (by rw[Xs];omega) _);clear hv hf ht hb3;unfold Ri;go_enter Tryz.func15,Tryz.ntmps15;go_wp2_with fail;generalize (w.alloc (.cells #[.slice A1 n c1,.slice A2 m c2,.slice A3 q c3] 25)).alloc (.cells #[.slice Ar nr cr] 28)=wq at *;have Oa:w.heap.size+1<wq.heap.size:=(gl HB3.o);refine (qnJ 44 #[.pointer (some ⟨w.heap.size+1,0,none⟩)] n (fun left=>Te (Wr ((left:Nat):Int) rows)) wq hn (fun _ _=>by kernel_rfl) (fun left _ W hb=>?_)).mono ?_
 ·have hW:=HBW.o.trans (hb.mono HBW.o.size);exact qsL (.slice Ar nr cr) rows (w.heap.size+1) left W (HV.o.fut hW (Ya _) hW.size) HF.o (Vo (t:=28) ((hb.block _ Oa).trans HB3.o)) (HT.o.below hW)
 rintro e w1 ⟨v,rfl,hs,hb1⟩;have HS:=Lh hs;have HB1:=Lh (HBW.o.trans (hb1.mono HBW.o.size));clear hs hb1;go_wp2_with fail;go_ret;exact⟨_,rfl,fun w'' hw=>HS.o w'' fun b h1 h2=>hw b (by have:=HBW.o.size;omega) h2,HB1.o⟩
abbrev Im(v1 v2 v3 vr vm:Value)(k:Int):Value:=.agg #[v1,v2,v3,.int .i64 k,vr,vm]
structure Gh(w:World)(B:Nat)(v1 v2 v3 vr vm:Value)(v:Ng):Prop where
 gram:nL w B v1 v2 v3 v.1
 rows:Je Aj w B vr v.2.2.1
 machs:Je (Th Js) w B vm v.2.2.2
section
variable {w w':World} {B B' N:Nat} {v1 v2 v3 vr vm:Value} {v:Ng}
theorem Gh.fut(h:Gh w B v1 v2 v3 vr vm v)(hb:Below N w w')(h1:B<=N)(h2:B<=B'):Gh w' B' v1 v2 v3 vr vm v:=⟨h.gram.fut hb h1 h2,h.rows.fut hb h1 h2,h.machs.fut hb h1 h2⟩
theorem Gh.zero:Gh w B (.slice none 0 0) (.slice none 0 0) (.slice none 0 0) (.slice none 0 0) (.slice none 0 0) Wa:=⟨nL.zero,Je.nil_,Je.nil_⟩
theorem Gh.form(h:Gh w B v1 v2 v3 vr vm v):∃ A1 A2 A3 A4 A5 c1 c2 c3 c4 c5,v1=.slice A1 v.1.1.length c1/\v2=.slice A2 v.1.2.1.length c2/\v3=.slice A3 v.1.2.2.length c3/\vr=.slice A4 v.2.2.1.length c4/\vm=.slice A5 v.2.2.2.length c5:=by
 obtain⟨A1,A2,A3,c1,c2,c3,rfl,rfl,rfl⟩:=h.gram.form;obtain⟨A4,c4,rfl,_⟩:=h.rows.form;obtain⟨A5,c5,rfl,_⟩:=h.machs.form;exact⟨_,_,_,_,_,_,_,_,_,_,rfl,rfl,rfl,rfl,rfl⟩
end
def Ie:fJ Wf where
 size:=4
 rep:=fun _ _ cs x=>cs=clc x/\x.2.1.length<=maxLen
 len:=fun h=>by rw[h.1];rfl
 keep:=fun h _=>h
 more:=fun h _=>h
 one:=fun h=>by rw[h.1];intro u hu;simp only[clc,List.mem_cons,List.not_mem_nil,or_false] at hu;rcases hu with rfl | rfl | rfl | rfl <;> rfl
theorem Sg{w:World}{g:Nat}{a b c d e f:Value}{cur:Array Value}{t:TypeId}(hg:w.heap[g]? = some (.cells cur t (0,0)))(hc:cur.size=6)(h1:a.oneCell'=true)(h2:b.oneCell'=true)(h3:c.oneCell'=true)(h4:d.oneCell'=true)(h5:e.oneCell'=true)(h6:f.oneCell'=true) :
  (Instr.storeAt 31 (.pointer (some ⟨g,0,none⟩)) (.agg #[a,b,c,d,e,f])).run Tryz.prog w=.ok () (w.setRow g [a,b,c,d,e,f].toArray):=by
 rw[Az (vs:=[a,b,c,d,e,f]) rfl (by kernel_rfl) hg (by simp;omega) (by intro u hu;simp only[List.mem_cons,List.not_mem_nil,or_false] at hu;rcases hu with rfl | rfl | rfl | rfl | rfl | rfl <;> assumption)];congr 2;simp[List.drop_eq_nil_of_le (show cur.toList.length<=6 by simp;omega)]
theorem qH{fn:Func}{p u x:Tmp}{r y:Value}{Q:Ending->World->Prop}(h:fn.results=#[.cell p 31,.tmp u,.tmp x]){a:Act}{w:World}{g:Nat}{c0 c1 c2 c3 c4 c5:Value}{fr:Nat×Nat}{t:TypeId}(hd:a.defers=[])
  (hp:a.tmps.getD p undef=.pointer (some ⟨g,0,none⟩)) (hu:a.tmps.getD u undef=r) (hx:a.tmps.getD x undef=y) (hg:w.heap[g]? = some (.cells #[c0,c1,c2,c3,c4,c5] t fr)) (hq:Q (.returned (.tuple #[.agg #[c0,c1,c2,c3,c4,c5],r,y])) w):bodyPost Tryz.prog fn Q .ret a w:=by
 refine Zg (v:=.tuple #[.agg #[c0,c1,c2,c3,c4,c5],r,y]) ?_ hd hq;rw[Mw h,hp,hu,hx];simp[asAddr,Result.andThen,run_loadVar_row w g t 31 #[c0,c1,c2,c3,c4,c5] fr _ hg Tryz.underlying31 rfl (by kernel_rfl)]
def cE(g:Kc):Prop:=g.1.length<=12/\g.2.1.length<=3/\g.2.2.length<=40
def vW(g:Kc)(k:Int)(w:World)(e:Ending)(w':World):Prop :=
 ∃(v1 v2 v3 vr vm vc:Value)(v:Ng)(cl:List Wf)(er:Int),vV g k v cl er/\e=.returned (.tuple #[Im v1 v2 v3 vr vm v.2.1,vc,.int .i64 er]) /\
  (∀ w'':World,(∀ b,w.heap.size<=b->b<w'.heap.size->w''.heap[b]? = w'.heap[b]?)->Gh w'' w''.heap.size v1 v2 v3 vr vm v/\Je Ie w'' w''.heap.size vc cl)/\Below w.heap.size w w'
theorem vW.bad{g:Kc}{k:Int}{w w':World}{er:Int}(h:vV g k Wa [] er)(hb:Below w.heap.size w w'):vW g k w (.returned (.tuple #[Im (.slice none 0 0) (.slice none 0 0) (.slice none 0 0) (.slice none 0 0) (.slice none 0 0) 0,.slice none 0 0,.int .i64 er])) w' :=
 ⟨_,_,_,_,_,_,Wa,[],er,h,rfl,fun _ _=>⟨Gh.zero,Je.nil_⟩,hb⟩
theorem qnP{w:World}{base:Nat}{v:Value}{cl:List Wf}(h:w.ownsRow base 85 4 v cl.length (Px cl))(hs:∀ c∈cl,c.2.1.length<=maxLen):Je Ie w w.heap.size v cl:=by
 obtain⟨A,c,rfl,h1,h2⟩:=Zo h;refine⟨A,c,cl.map clc,rfl,h1,h2,by rw[Qk],Rd.of_own h,fun i cs x hc hx=>?_⟩;rw[Qv,hx] at hc;injection hc with hc;subst hc;exact⟨rfl,hs x (Qp hx)⟩
theorem ky{w:World}{base:Nat}{v:Value}{rows:List Ud}(h:w.ownsRow base 81 3 v rows.length (Wk rows))(hf:qpK rows):Je Aj w w.heap.size v rows:=n_ hf h
theorem zdS{g:Kc}{k:Int}(h:¬ (1<=k/\k<=4)):vV g k Wa [] 1:=⟨fun _=>⟨rfl,rfl,rfl⟩,fun h2=>absurd h2 h,fun h2=>absurd h2 h⟩
theorem qsH{g:Kc}{k:Int}(h:1<=k/\k<=4)(hc:Kb g≠0):vV g k Wa [] (Kb g):=⟨fun h2=>absurd h h2,fun _ _=>⟨rfl,rfl,rfl⟩,fun _ h2=>absurd h2 hc⟩
theorem ml{g:Kc}{k:Int}{s:Zw}{v:Ng}{c:List Wf}{e:Int}(h:1<=k/\k<=4)(hc:Kb g=0)(ha:Lf k (Jk g) (some s))(ho:OfS (Jk g) k s v c e):vV g k v c e:=⟨fun h2=>absurd h h2,fun _ h2=>absurd hc h2,fun _ _=>⟨s,ha,ho⟩⟩
theorem qn{rs:Zu}{n:Nat}{s:Zw}(hs:Dr s){c:Wf}(hc:c∈Mr rs n s):c.2.1.length<=maxLen:=by
 unfold Mr at hc;obtain⟨left,_,hc⟩:=Xu.1 hc;generalize Wc rs left=l at hc
 induction l with
 |nil=>cases hc
 |cons a l ih =>
  rcases Qh.1 (show c∈l.flatMap (Ho (left:Int) s a)++Bo (left:Int) s l from hc) with hc | hc
  ·obtain⟨b,_,hc⟩:=Xu.1 hc;unfold Ho at hc;split at hc
   ·cases hc
   ·rename_i w hw;rw[Qi] at hc;subst hc;have:=(hs.getD a).1 w (fh hw).1;unfold maxLen;simp only;omega
  ·exact ih hc
theorem tH(v1 v2 v3:Value)(g:Kc)(k:Int)(w:World)(hf:cE g)(h:nL w w.heap.size v1 v2 v3 g)(ht:dX w) :
  Calls Tryz.prog 9 #[.agg #[v1,v2,v3],.int .i64 k] w (vW g k w):=by
 obtain⟨A1,A2,A3,c1,c2,c3,rfl,rfl,rfl⟩:=h.form;have HF:=Lh hf;have HH:=Lh h;have HT:=Lh ht;clear h ht hf;obtain⟨S,hS⟩:=Xe w.heap.size;have HSE:=Lh hS;have HGR:=Lh (fun(W:World)(hb:Below w.heap.size w W)=>(show Nb W W.heap.size A1 A2 A3 g.1.length g.2.1.length g.2.2.length c1 c2 c3 g from ⟨(HH.o.fut hb (Ya _) hb.size).names,(HH.o.fut hb (Ya _) hb.size).terms,(HH.o.fut hb (Ya _) hb.size).rules,by have h1:=HF.o.1;have h2:=HF.o.2.1;have h3:=HF.o.2.2;omega⟩));have HCK:=Lh (fun(W:World)(hb:Below w.heap.size w W)=>mY W (HGR.o W hb));have HCN:=Lh (fun(W:World)(hb:Below w.heap.size w W)=>gW (.slice A1 g.1.length c1) (.slice A2 g.2.1.length c2) (.slice A3 g.2.2.length c3) g W (by have h1:=HF.o.1;have h2:=HF.o.2.1;omega) (HH.o.fut hb (Ya _) hb.size));unfold Ri at HCK;obtain⟨n,hn⟩:=Xe g.1.length;obtain⟨m,hm⟩:=Xe g.2.1.length;obtain⟨q,hq⟩:=Xe g.2.2.length;simp only[<-hn,<-hm,<-hq] at HCK HCN;rw[<-hn,<-hm,<-hq];have HNE:=Lt (n=g.1.length/\m=g.2.1.length/\q=g.2.2.length) (⟨hn,hm,hq⟩);clear hn hm hq HGR HH;have HB1:=Lt (Below w.heap.size w ((w.alloc (.cells #[.slice A1 n c1,.slice A2 m c2,.slice A3 q c3] 25)).alloc (.cells #[.slice none 0 0,.slice none 0 0,.slice none 0 0,.int .i64 0,.slice none 0 0,.slice none 0 0] 31))) (((Xr _ _).alloc (Ya _) _).alloc (by rw[Xs];omega) _);have HG1:=Lh (Go.heap_alloc2_old w (.cells #[.slice A1 n c1,.slice A2 m c2,.slice A3 q c3] 25) (.cells #[.slice none 0 0,.slice none 0 0,.slice none 0 0,.int .i64 0,.slice none 0 0,.slice none 0 0] 31));have HS1:=Lh (Go.heap_alloc2_new w (.cells #[.slice A1 n c1,.slice A2 m c2,.slice A3 q c3] 25) (.cells #[.slice none 0 0,.slice none 0 0,.slice none 0 0,.int .i64 0,.slice none 0 0,.slice none 0 0] 31));rw[<-hS] at HG1 HS1;have HLK:=Lh (fun W:World=>mG k W);by_cases hk:1<=k/\k<=4
 ·have hlk:Bu k=true:=Yv hk;rw[hlk] at HLK;have HK:=Lh hk;clear hlk;go_enter Tryz.func9,Tryz.ntmps9;go_wp2_with fail;rw[<-hS];clear hS;generalize (w.alloc (.cells #[.slice A1 n c1,.slice A2 m c2,.slice A3 q c3] 25)).alloc (.cells #[.slice none 0 0,.slice none 0 0,.slice none 0 0,.int .i64 0,.slice none 0 0,.slice none 0 0] 31)=w1 at *;refine (HLK.o w1).mono ?_;rintro e w2 ⟨rfl,rfl⟩;obtain⟨a0,a1,a2⟩:=Jb HG1.o;go_wp2_with fail;refine (HCK.o w1 HB1.o).mono ?_;rintro e w2 ⟨rfl,Ja⟩;have HG2:=Lh ((Ja.block S (gl HG1.o)).trans HG1.o);have HS2:=Lh ((Ja.block (S+1) (gl HS1.o)).trans HS1.o);have HB2:=Lh (HB1.o.trans (Ja.mono HB1.o.size));clear Ja a0 a1 a2;by_cases hc:Kb g=0
  ·rw[hc];have HC:=Lh hc;clear hc;obtain⟨a0,a1,a2⟩:=Jb HG2.o;go_wp2_with fail;refine (HCN.o w2 HB2.o).mono ?_;rintro e w3 ⟨u1,u2,u3,rfl,hu,hb3⟩;have qA:=Lh (An HC.o);rw[show Py g=Jk g from if_pos ((Fj g).2 qA.o.1)] at hu;obtain⟨B1,B2,B3,d1,d2,d3,rfl,rfl,rfl⟩:=(hu w3 fun _ _ _=>rfl).form;rw[(Vz g).1,(Vz g).2.1,(Vz g).2.2,<-HNE.o.1,<-HNE.o.2.1,<-HNE.o.2.2] at hu |-;have HU:=Lh hu;have hb4:Below w3.heap.size w3 (w3.alloc (.cells #[.slice B1 n d1,.slice B2 m d2,.slice B3 q d3,.int .i64 k,.slice none 0 0,.slice none 0 0] 31)):=(Xr _ _).alloc (Ya _) _;have HS4:=Lh (((hb3.trans (hb4.mono hb3.size)).block (S+1) (gl HS2.o)).trans HS2.o);have HB4:=Lh (HB2.o.trans ((hb3.trans (hb4.mono hb3.size)).mono HB2.o.size));have HV4:=Lh (Xn w3 (.cells #[.slice B1 n d1,.slice B2 m d2,.slice B3 q d3,.int .i64 k,.slice none 0 0,.slice none 0 0] 31));have HZ4:=Lh (show w3.heap.size<(w3.alloc (.cells #[.slice B1 n d1,.slice B2 m d2,.slice B3 q d3,.int .i64 k,.slice none 0 0,.slice none 0 0] 31)).heap.size by rw[Xs];omega);have HBW:=Lh hb4;have qgV:=Lt (w.heap.size<=w2.heap.size/\w2.heap.size<=w3.heap.size/\S+1<w2.heap.size) (⟨HB2.o.size,hb3.size,(gl HS2.o)⟩);obtain⟨V,hV⟩:=Xe w3.heap.size;rw[<-hV] at HV4 HZ4;have HVE:=Lh hV;clear hu hb3 hb4;go_wp2_with fail;rw[<-hV];clear hV;generalize w3.alloc (.cells #[.slice B1 n d1,.slice B2 m d2,.slice B3 q d3,.int .i64 k,.slice none 0 0,.slice none 0 0] 31)=w4 at *;have HUF:=Lh (fun(W:World)(hb:Below V w4 W)=>HU.o W fun b h1 h2=>(hb.block b (by rw[HVE.o];exact h2)).trans (HBW.o.block b h2));have HMK:=Lh (qkR (g:=Jk g) k w4 (show Nb w4 w4.heap.size B1 B2 B3 n m q d1 d2 d3 (Jk g) from ⟨(HUF.o w4 (Xr _ _)).names,(HUF.o w4 (Xr _ _)).terms,(HUF.o w4 (Xr _ _)).rules,by have h1:=HF.o.1;have h2:=HF.o.2.1;have h3:=HF.o.2.2;have h4:=HNE.o;omega⟩));unfold Ri at HMK;have jh:w4.cell? ⟨V,0,none⟩=some (.slice B1 n d1):=Xc HV4.o rfl;have iF:w4.cell? ⟨V,1,none⟩=some (.slice B2 m d2):=Xc HV4.o rfl;have oM:w4.cell? ⟨V,2,none⟩=some (.slice B3 q d3):=Xc HV4.o rfl;go_wp2_with fail;refine HMK.o.mono ?_;rintro e w5 ⟨hb5,_,qL⟩;have hnb:=qS HK.o HC.o;obtain⟨o,hao,It⟩:=qL hnb;obtain⟨kk,hkk,hlg⟩:=qI hnb (show (Jk g).2.1.length<=3 by rw[(Vz g).2.1];exact HF.o.2.1);obtain⟨s,rfl,hM⟩:=hlg.sets (hkk ▸ hao);have kN:=Lh (gZ hlg.k4 (hkk ▸ hao)).2;have HAO:=Lh hao;have HLG:=Lh (And.intro hlg hM);have HB5:=Lh (HB4.o.trans (hb5.mono HB4.o.size));have wF:=Lh ((hb5.block (S+1) (gl HS4.o)).trans HS4.o);have wA:=Lh ((hb5.block V HZ4.o).trans HV4.o);have zuC:=Lt (Below V w4 w5) (hb5.mono (Yg HZ4.o));have zaQ:=Lt (w.heap.size<=w4.heap.size/\V<w4.heap.size/\w4.heap.size<=w5.heap.size) (⟨HB4.o.size,HZ4.o,hb5.size⟩);clear qL hnb hao hlg hM hb5 hkk jh iF oM;rcases It with ⟨Oa,vc,rfl,jS⟩ | ⟨Oa,vr,rows,rfl,hp,hsr,pH⟩
   ·have nI:=Lh (ml (v:=Wa) (c:=Mr (Jk g).2.2 n s) (e:=20) HK.o HC.o HAO.o (.inl ⟨by rw[(Vz g).1,<-HNE.o.1];exact Oa,rfl,by rw[(Vz g).1,<-HNE.o.1],rfl⟩));have HCR:=Lh jS;obtain⟨Ac,cc,rfl,_,_⟩:=Zo jS;have HCS:=Lt (∀ c∈Mr (Jk g).2.2 n s,c.2.1.length<=maxLen) (fun c hc=>qn kN.o hc);clear jS;generalize Mr (Jk g).2.2 n s=cl at *;clear Oa;obtain⟨ncl,sm⟩:=Xe cl.length;have ztZ:=Lh sm;rw[<-sm] at HCR |-;clear sm;go_wp2_with (refine Zs none rfl ?_);refine Stop.go (Zn rfl 31 rfl rfl rfl (Sg wF.o rfl rfl rfl rfl rfl rfl rfl) ?_);have Dl:=Lh (Zi _ _ _ _ _ _ wF.o:(w5.setRow (S+1) [.slice none 0 0,.slice none 0 0,.slice none 0 0,.int .i64 0,.slice none 0 0,.slice none 0 0].toArray).heap[S+1]? = _);have Db:=Lh (Zj HB5.o (show w.heap.size<=S+1 by have:=HSE.o;omega) [.slice none 0 0,.slice none 0 0,.slice none 0 0,.int .i64 0,.slice none 0 0,.slice none 0 0].toArray);have HCF:=Lh (fun(w'':World)(hw:∀ b,w.heap.size<=b->b<(w5.setRow (S+1) [.slice none 0 0,.slice none 0 0,.slice none 0 0,.int .i64 0,.slice none 0 0,.slice none 0 0].toArray).heap.size->w''.heap[b]? = (w5.setRow (S+1) [.slice none 0 0,.slice none 0 0,.slice none 0 0,.int .i64 0,.slice none 0 0,.slice none 0 0].toArray).heap[b]?)=>show Je Ie w'' w''.heap.size (.slice Ac ncl cc) cl from by
     have h1:=lW (w':=w'') (N:=w4.heap.size) HCR.o (Ya _) (fun b h1 h2=>(hw b (by have:=zaQ.o;omega) (by simp[World.setRow];exact h2)).trans (setRow_other w5 (S+1) b _ (by have:=qgV.o;have:=zaQ.o;have:=HVE.o;omega)))
     rw[ztZ.o] at h1 |-
     exact qnP h1 HCS.o)
    generalize w5.setRow (S+1) [.slice none 0 0,.slice none 0 0,.slice none 0 0,.int .i64 0,.slice none 0 0,.slice none 0 0].toArray=wz at *;generalize ha:Act.put _ _ _=z9;simp[Act.put] at ha;subst ha;go_wp2_with fail;refine qH (g:=S+1) rfl rfl rfl rfl rfl Dl.o ?_;exact⟨_,_,_,_,_,_,Wa,cl,20,nI.o,rfl,fun w'' hw=>⟨Gh.zero,HCF.o w'' hw⟩,Db.o⟩
   ·have nI:=Lh (ml (v:=(Jk g,k,rows,Gd rows n)) (c:=[]) (e:=0) HK.o HC.o HAO.o (.inr ⟨by rw[(Vz g).1,<-HNE.o.1];exact Oa,rows,hp,hsr,by rw[(Vz g).1,<-HNE.o.1],rfl,rfl⟩));have HRF:=Lh (qjP HLG.o.1 HLG.o.2 hp);have zsR:=Lh (ng HLG.o.1 HLG.o.2 kN.o (show (Jk g).2.2.length<=40 by rw[(Vz g).2.2];exact HF.o.2.2) hp);have HRR:=Lh pH;obtain⟨Ar,cr,rfl,_,_⟩:=Zo pH;clear Oa hp hsr pH;obtain⟨nr,ow⟩:=Xe rows.length;have HNR:=Lh ow;rw[<-ow] at HRR |-;clear ow;have zoJ:n<=1099511627776:=by have h1:=HF.o.1;have h4:=HNE.o.1;omega
    have HLD:=Lh (qdG (A1:=B1) (A2:=B2) (A3:=B3) (n:=n) (m:=m) (q:=q) (c1:=d1) (c2:=d2) (c3:=d3) (Ar:=Ar) (nr:=nr) (cr:=cr) rows w5 (by
     have h1:=HRR.o
     rw[HNR.o] at h1 |-
     exact ky h1 HRF.o) zsR.o zoJ (HT.o.below HB5.o))
    unfold Ri at HLD;have jh:w5.cell? ⟨V,0,none⟩=some (.slice B1 n d1):=Xc wA.o rfl;have iF:w5.cell? ⟨V,1,none⟩=some (.slice B2 m d2):=Xc wA.o rfl;have oM:w5.cell? ⟨V,2,none⟩=some (.slice B3 q d3):=Xc wA.o rfl;go_wp2_with fail;refine HLD.o.mono ?_;rintro e w6 ⟨vm,rfl,hmf,hb6⟩;obtain⟨Am,cm,rfl,_,_⟩:=(hmf w6 fun _ _ _=>rfl).form;have HMF:=Lh hmf;have HB6:=Lh (HB5.o.trans (hb6.mono HB5.o.size));have wE:=Lh ((hb6.block (S+1) (gl wF.o)).trans wF.o);have HV6:=Lh ((hb6.block V (gl wA.o)).trans wA.o);have zbR:=Lh hb6;clear hmf hb6 jh iF oM;obtain⟨nm,hnm⟩:=Xe ((Gd rows n).length);rw[<-hnm] at HMF |-;clear hnm;have v4:w6.cell? ⟨V,4,none⟩=some (.slice none 0 0):=Xc HV6.o rfl;have v5:w6.cell? ⟨V,5,none⟩=some (.slice none 0 0):=Xc HV6.o rfl;have f4:w6.frozen? ⟨V,4,none⟩=false:=by simp[World.frozen?,HV6.o]
    have f5:w6.frozen? ⟨V,5,none⟩=false:=by simp[World.frozen?,HV6.o]
    have v0:w6.cell? ⟨V,0,none⟩=some (.slice B1 n d1):=Xc HV6.o rfl;have v1':w6.cell? ⟨V,1,none⟩=some (.slice B2 m d2):=Xc HV6.o rfl;have v2':w6.cell? ⟨V,2,none⟩=some (.slice B3 q d3):=Xc HV6.o rfl;have v3':w6.cell? ⟨V,3,none⟩=some (.int .i64 k):=Xc HV6.o rfl;go_wp2_with (refine Zs (some 46) rfl ?_);have HV7:=Lh (Kj (k:=5) (Kj (k:=4) HV6.o (.slice Ar nr cr)) (.slice Am nm cm));have HS7:=Lh (Vd (g:=V) (k:=5) (Vd (g:=V) (k:=4) wE.o (by have:=qgV.o;have:=HVE.o;omega) (.slice Ar nr cr)) (by have:=qgV.o;have:=HVE.o;omega) (.slice Am nm cm));have HB7:=Lh ((HB6.o.setCell (p:=⟨V,4,none⟩) (by show w.heap.size<=V;have:=qgV.o;have:=HVE.o;omega) (.slice Ar nr cr)).setCell (p:=⟨V,5,none⟩) (by show w.heap.size<=V;have:=qgV.o;have:=HVE.o;omega) (.slice Am nm cm));have zsG:=Lt (∀ b,b≠V->((w6.setCell ⟨V,4,none⟩ (.slice Ar nr cr)).setCell ⟨V,5,none⟩ (.slice Am nm cm)).heap[b]? = w6.heap[b]?) (fun b hb=>(Zb _ _ _ _ hb).trans (Zb _ _ _ _ hb));have HZ7:=Lh (show ((w6.setCell ⟨V,4,none⟩ (.slice Ar nr cr)).setCell ⟨V,5,none⟩ (.slice Am nm cm)).heap.size=w6.heap.size by rw[Za,Za]);clear v0 v1' v2' v3' v4 v5 f4 f5;refine Stop.go ?_;generalize (w6.setCell ⟨V,4,none⟩ (.slice Ar nr cr)).setCell ⟨V,5,none⟩ (.slice Am nm cm)=w7 at *;have v0:w7.cell? ⟨V,0,none⟩=some (.slice B1 n d1):=Xc HV7.o rfl;have v1':w7.cell? ⟨V,1,none⟩=some (.slice B2 m d2):=Xc HV7.o rfl;have v2':w7.cell? ⟨V,2,none⟩=some (.slice B3 q d3):=Xc HV7.o rfl;have v3':w7.cell? ⟨V,3,none⟩=some (.int .i64 k):=Xc HV7.o rfl;have v4:w7.cell? ⟨V,4,none⟩=some (.slice Ar nr cr):=Xc HV7.o rfl;have v5:w7.cell? ⟨V,5,none⟩=some (.slice Am nm cm):=Xc HV7.o rfl;go_wp2_with (refine Zs none rfl ?_);refine Stop.go (Zn rfl 31 rfl rfl rfl (Sg HS7.o rfl rfl rfl rfl rfl rfl rfl) ?_);have Dl:=Lh (Zi _ _ _ _ _ _ HS7.o:(w7.setRow (S+1) [.slice B1 n d1,.slice B2 m d2,.slice B3 q d3,.int .i64 k,.slice Ar nr cr,.slice Am nm cm].toArray).heap[S+1]? = _);have Db:=Lh (Zj HB7.o (show w.heap.size<=S+1 by have:=HSE.o;omega) [.slice B1 n d1,.slice B2 m d2,.slice B3 q d3,.int .i64 k,.slice Ar nr cr,.slice Am nm cm].toArray);have zsF:=Lt (∀ b,b≠V->b≠S+1->(w7.setRow (S+1) [.slice B1 n d1,.slice B2 m d2,.slice B3 q d3,.int .i64 k,.slice Ar nr cr,.slice Am nm cm].toArray).heap[b]? = w6.heap[b]?) (fun b h1 h2=>(setRow_other w7 (S+1) b _ h2).trans (zsG.o b h1));have HZ8:=Lt ((w7.setRow (S+1) [.slice B1 n d1,.slice B2 m d2,.slice B3 q d3,.int .i64 k,.slice Ar nr cr,.slice Am nm cm].toArray).heap.size=w6.heap.size) ((by simp[World.setRow]:_=w7.heap.size).trans HZ7.o);generalize w7.setRow (S+1) [.slice B1 n d1,.slice B2 m d2,.slice B3 q d3,.int .i64 k,.slice Ar nr cr,.slice Am nm cm].toArray=wz at *;have HFR:=Lh (fun(w'':World)(hw:∀ b,w.heap.size<=b->b<wz.heap.size->w''.heap[b]? = wz.heap[b]?)=>show Gh w'' w''.heap.size (.slice B1 n d1) (.slice B2 m d2) (.slice B3 q d3) (.slice Ar nr cr) (.slice Am nm cm) (Jk g,k,rows,Gd rows n)/\Je Ie w'' w''.heap.size (.slice none 0 0) [] from by
     have s1:=qgV.o
     have s2:=zaQ.o
     have s3:=HVE.o
     have s4:=zbR.o.size
     have hz:∀ b,w.heap.size<=b->b<w6.heap.size->b≠V->b≠S+1->w''.heap[b]? = w6.heap[b]? := fun b h1 h2 h3 h4=>(hw b h1 (by rw[HZ8.o];exact h2)).trans (zsF.o b h3 h4)
     refine⟨⟨HU.o w'' fun b h1 h2=>?_,?_,HMF.o w'' fun b h1 h2=>hz b (by omega) h2 (by omega) (by omega)⟩,Je.nil_⟩
     ·have hb1:w4.heap[b]? = w3.heap[b]? := HBW.o.block b h2
      have Ja:w5.heap[b]? = w4.heap[b]? := zuC.o.block b (by omega)
      have hb3:w6.heap[b]? = w5.heap[b]? := zbR.o.block b (by omega)
      exact (hz b (by omega) (by omega) (by omega) (by omega)).trans (hb3.trans (Ja.trans hb1))
     ·have h1:=lW (w':=w'') (N:=w4.heap.size) HRR.o (Ya _) fun b h1 h2=>(hz b (by omega) (by omega) (by omega) (by omega)).trans (zbR.o.block b h2)
      show Je Aj w'' w''.heap.size (.slice Ar nr cr) rows
      rw[HNR.o] at h1 |-
      exact ky h1 HRF.o)
    generalize ha:Act.put _ _ _=z9;simp[Act.put] at ha;subst ha;go_wp2_with fail;refine qH (g:=S+1) rfl rfl rfl rfl rfl Dl.o ?_;exact⟨_,_,_,_,_,_,(Jk g,k,rows,Gd rows n),[],0,nI.o,rfl,HFR.o,Db.o⟩
  ·have Ju:=Lh (qsH HK.o hc);have g0:(Kb g != 0)=true:=by simpa using hc
   generalize Kb g=cn at *;clear hc;go_wp2_with (refine Zs none rfl ?_);refine Stop.go (Zn rfl 31 rfl rfl rfl (Sg HS2.o rfl rfl rfl rfl rfl rfl rfl) ?_);have Dl:=Lh (Zi _ _ _ _ _ _ HS2.o:(w2.setRow (S+1) [.slice none 0 0,.slice none 0 0,.slice none 0 0,.int .i64 0,.slice none 0 0,.slice none 0 0].toArray).heap[S+1]? = _);have Db:=Lh (Zj HB2.o (show w.heap.size<=S+1 by have:=HSE.o;omega) [.slice none 0 0,.slice none 0 0,.slice none 0 0,.int .i64 0,.slice none 0 0,.slice none 0 0].toArray);generalize w2.setRow (S+1) [.slice none 0 0,.slice none 0 0,.slice none 0 0,.int .i64 0,.slice none 0 0,.slice none 0 0].toArray=wz at *;generalize ha:Act.put _ _ _=z9;simp[Act.put] at ha;subst ha;go_wp2_with fail;refine qH (g:=S+1) rfl rfl rfl rfl rfl Dl.o ?_;exact vW.bad Ju.o Db.o
 ·have hlk:Bu k=false:=Yw hk;rw[hlk] at HLK;have Ju:=Lh (zdS (g:=g) hk);clear hlk hk;go_enter Tryz.func9,Tryz.ntmps9;go_wp2_with fail;rw[<-hS];clear hS;generalize (w.alloc (.cells #[.slice A1 n c1,.slice A2 m c2,.slice A3 q c3] 25)).alloc (.cells #[.slice none 0 0,.slice none 0 0,.slice none 0 0,.int .i64 0,.slice none 0 0,.slice none 0 0] 31)=w1 at *;refine (HLK.o w1).mono ?_;rintro e w2 ⟨rfl,rfl⟩;go_wp2_with (refine Zs none rfl ?_);refine Stop.go (Zn rfl 31 rfl rfl rfl (Sg HS1.o rfl rfl rfl rfl rfl rfl rfl) ?_);have Dl:=Lh (Zi _ _ _ _ _ _ HS1.o:(w1.setRow (S+1) [.slice none 0 0,.slice none 0 0,.slice none 0 0,.int .i64 0,.slice none 0 0,.slice none 0 0].toArray).heap[S+1]? = _);have Db:=Lh (Zj HB1.o (show w.heap.size<=S+1 by have:=HSE.o;omega) [.slice none 0 0,.slice none 0 0,.slice none 0 0,.int .i64 0,.slice none 0 0,.slice none 0 0].toArray);generalize w1.setRow (S+1) [.slice none 0 0,.slice none 0 0,.slice none 0 0,.int .i64 0,.slice none 0 0,.slice none 0 0].toArray=wz at *;generalize ha:Act.put _ _ _=z9;simp[Act.put] at ha;subst ha;go_wp2_with fail;refine qH (g:=S+1) rfl rfl rfl rfl rfl Dl.o ?_;exact vW.bad Ju.o Db.o
end Go.Proofs.YtmaojnmnbpomeaaGreatDoor
