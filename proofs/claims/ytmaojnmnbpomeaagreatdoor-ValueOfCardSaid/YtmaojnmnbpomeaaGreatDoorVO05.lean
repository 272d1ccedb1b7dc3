/- A part. -/
import Derived.Test.YtmaojnmnbpomeaaGreatDoorVO04
import Derived.Deep.LoopGhost
set_option maxRecDepth 100000
set_option maxHeartbeats 64000000
namespace Go.Proofs.YtmaojnmnbpomeaaGreatDoor
open Go.RowKit
abbrev v_:=List (Int×List (Int×Int))
def Jn:Lf (Int×List (Int×Int)):=Ra Vh (Ro Gg)
theorem Mi{w:World}{B:Nat}{cs:List Value}{r:Int×List (Int×Int)}(h:Jn.rep w B cs r):∃ v,cs=[.int .i64 r.1,v]/\Jb Gg w B v r.2/\-9223372036854775808<=r.1/\r.1<=9223372036854775807:=by
 obtain⟨c1,c2,rfl,⟨rfl,h1,h2⟩,v,rfl,hs⟩:=h;exact⟨v,rfl,hs,h1,h2⟩
theorem Nh{w:World}{B:Nat}{cs:List Value}{r:Int×Int}(h:Gg.rep w B cs r):cs=[.int .i64 r.1,.int .i64 r.2]/\-9223372036854775808<=r.1/\r.1<=9223372036854775807/\-9223372036854775808<=r.2/\r.2<=9223372036854775807:=by
 obtain⟨c1,c2,rfl,⟨rfl,h1,h2⟩,rfl,h3,h4⟩:=h;exact⟨rfl,h1,h2,h3,h4⟩
abbrev Sta:=Int×List (Int×Int)
abbrev Kf:=List Sta
def Nd(m:Kf)(k:Nat):Int:=(m.getD k (0,[])).1
def Md(m:Kf)(k:Nat):List (Int×Int):=(m.getD k (0,[])).2
def Ny(m:Kf)(k:Nat)(sym:Int):Option Nat:=match (m.getD k (0,[])).2.find? (fun e=>decide (e.1=sym)) with
 |some e=>if 0<=e.2/\e.2<m.length then some e.2.toNat else none
 |none=>none
def dM(m:Kf):Nat->List Int->Option Nat
 |k,[]=>some k
 |k,b::r=>match Ny m k b with | some j=>dM m j r | none=>none
def Uq(m:Kf)(k:Nat)(l:List Int):Int:=match dM m k l with | some j=>Nd m j | none=>-1
theorem kV(m:Kf)(k:Nat):Uq m k []=Nd m k:=rfl
theorem Vv(m:Kf)(k:Nat)(b:Int)(r:List Int):Uq m k (b::r)=match Ny m k b with | some j=>Uq m j r | none=>-1:=by
 simp only[Uq,dM];cases Ny m k b <;> rfl
def Na(terms Gq:Int):Int->List (Int×Int)->Bool
 |_,[]=>true
 |last,e::r=>decide (last<e.1)&&decide (e.1<terms)&&decide (0<=e.2)&&decide (e.2<Gq)&&Na terms Gq e.1 r
def Uj(m:Kf)(terms:Int):Bool:=m.all (fun s=>decide (-1<=s.1)&&Na terms m.length (-1) s.2)&&decide (m≠[])
theorem Ou{t s:Int}:∀{l:List (Int×Int)}{last:Int},Na t s last l=true->(∀ e∈l,last<e.1/\e.1<t/\0<=e.2/\e.2<s)/\l.Pairwise (fun a b=>a.1<b.1)
 |[],_,_=>⟨by simp,List.Pairwise.nil⟩
 |e::r,last,h=>by
  simp only[Na,Yk,Yi] at h;obtain⟨⟨⟨⟨h1,h2⟩,h3⟩,h4⟩,h5⟩:=h;obtain⟨g1,g2⟩:=Ou h5;refine⟨fun x hx=>?_,Qx.2 ⟨fun x hx=>(g1 x hx).1,g2⟩⟩;rcases List.mem_cons.1 hx with rfl | hx
  ·exact⟨h1,h2,h3,h4⟩
  ·obtain⟨k1,k2,k3,k4⟩:=g1 x hx;exact⟨by omega,k2,k3,k4⟩
theorem zH{t s:Int}:∀{l:List (Int×Int)}{last:Int},(∀ e∈l,last<e.1/\e.1<t/\0<=e.2/\e.2<s)->l.Pairwise (fun a b=>a.1<b.1)->Na t s last l=true
 |[],_,_,_=>rfl
 |e::r,last,h1,h2=>by
  obtain⟨k1,k2,k3,k4⟩:=h1 e (Xh ..);obtain⟨g1,g2⟩:=Qx.1 h2;simp only[Na,Yk,Yi];refine⟨⟨⟨⟨k1,k2⟩,k3⟩,k4⟩,zH (fun x hx=>?_) g2⟩;obtain⟨k1',k2',k3',k4'⟩:=h1 x (Xi _ hx);exact⟨g1 x hx,k2',k3',k4'⟩
structure Wh(m:Kf):Prop where
 some:m≠[]
 o:∀ k<m.length,-1<=Nd m k
 tos:∀ k<m.length,∀ e∈Md m k,0<=e.1/\0<=e.2/\e.2<m.length
 rise:∀ k<m.length,(Md m k).Pairwise (fun a b=>a.1<b.1)
theorem Bq{m:Kf}{k:Nat}(h:k<m.length):Nd m k=m[k].1:=by
 unfold Nd;rw[Qb,Qa h];rfl
theorem Al{m:Kf}{k:Nat}(h:k<m.length):Md m k=m[k].2:=by
 unfold Md;rw[Qb,Qa h];rfl
theorem Ft{m:Kf}{t:Int}(h:Uj m t=true):Wh m:=by
 unfold Uj at h;simp only[Yk,Xp,Yi] at h;obtain⟨h1,h2⟩:=h;refine⟨h2,fun k hk=>?_,fun k hk e he=>?_,fun k hk=>?_⟩
 ·rw[Bq hk];exact (h1 _ (Qg hk)).1
 ·rw[Al hk] at he;obtain⟨a,b,c,d⟩:=(Ou (h1 _ (Qg hk)).2).1 e he;exact⟨by omega,c,d⟩
 ·rw[Al hk];exact (Ou (h1 _ (Qg hk)).2).2
theorem uv{m:Kf}{t:Int}(h:Uj m t=true){k:Nat}(hk:k<m.length){e:Int×Int}(he:e∈Md m k):e.1<t:=by
 unfold Uj at h;simp only[Yk,Xp,Yi] at h;rw[Al hk] at he;exact ((Ou (h.1 _ (Qg hk)).2).1 e he).2.1
theorem gG{m:Kf}{t:Int}(h:Wh m)(ht:∀ k<m.length,∀ e∈Md m k,e.1<t):Uj m t=true:=by
 unfold Uj;simp only[Yk,Xp,Yi];refine⟨fun s hs=>?_,h.some⟩;obtain⟨k,hk,rfl⟩:=Qz hs;refine⟨by rw[<-Bq hk];exact h.o k hk,zH (fun e he=>?_) ?_⟩
 ·rw[<-Al hk] at he;obtain⟨a,b,c⟩:=h.tos k hk e he;exact⟨by omega,ht k hk e he,b,c⟩
 ·rw[<-Al hk];exact h.rise k hk
theorem qhI{l:List (Int×Int)}(h:l.Pairwise (fun a b=>a.1<b.1)){e:Int×Int}(he:e∈l):l.find? (fun x=>decide (x.1=e.1))=some e:=by
 induction l with
 |nil=>cases he
 |cons a r ih =>
  obtain⟨g1,g2⟩:=Qx.1 h;rcases List.mem_cons.1 he with rfl | he
  ·rw[List.find?_cons_of_pos (by simp)]
  ·rw[List.find?_cons_of_neg (by have:=g1 e he;simp only[Yi];omega)];exact ih g2 he
theorem Wa{m:Kf}(hg:Wh m){k:Nat}(hk:k<m.length)(t:Int)(j:Nat):Ny m k t=some j↔(t,(j:Int))∈Md m k:=by
 have hr:=hg.rise k hk;have ht:=hg.tos k hk;unfold Ny;unfold Md at hr ht |-;constructor
 ·intro h;split at h
  ·rename_i e he;split at h
   ·rename_i h2;have h3:=List.mem_of_find?_eq_some he;have h4:=List.find?_some he;simp only[Yi] at h4;injection h with h;have:e=(t,(j:Int)):=Prod.ext h4 (by show e.2=(j:Int);omega)
    rwa [<-this]
   ·cases h
  ·cases h
 ·intro h;have h2:=qhI hr h;simp only at h2;rw[h2];have h3:=(ht _ h).2;simp only at h3 |-;rw[if_pos h3];simp
theorem Dc{m:Kf}{k:Nat}{t:Int}{j:Nat}(h:Ny m k t=some j):j<m.length:=by
 unfold Ny at h;split at h
 ·split at h
  ·cases h;omega
  ·cases h
 ·cases h
theorem nJ(m:Kf):∀(a b:List Int)(k:Nat),dM m k (a++b)=(dM m k a).bind fun j=>dM m j b
 |[],_,_=>rfl
 |x::r,b,k=>by
  simp only[List.cons_append,dM];cases Ny m k x with
  |none=>rfl
  |some j=>exact nJ m r b j
theorem xb{m:Kf}:∀{l:List Int}{k j:Nat},k<m.length->dM m k l=some j->j<m.length
 |[],k,j,hk,h=>by unfold dM at h;cases h;exact hk
 |b::r,k,j,hk,h=>by
  unfold dM at h;split at h
  ·rename_i i hi;exact xb (Dc hi) h
  ·cases h
def Oa(m:Kf)(i:Nat):Prop:=∃ l,dM m 0 l=some i
def jY(m:Kf)(i:Nat):Prop:=∃ l,Uq m i l≠-1
def Gj(m:Kf)(i j:Nat):Prop:=∀ l,Uq m i l=Uq m j l
def bQ(m:Kf)(i:Nat):Prop:=Oa m i/\jY m i
theorem Gt{m:Kf}(hg:Wh m){i:Nat}(h:Oa m i):i<m.length:=by
 obtain⟨l,hl⟩:=h;exact xb (Qy.2 hg.some) hl
theorem Bl(m:Kf):Oa m 0:=⟨[],rfl⟩
theorem Bm{m:Kf}(hg:Wh m){i:Nat}(h:Oa m i){e:Int×Int}(he:e∈Md m i):Oa m e.2.toNat:=by
 have hi:=Gt hg h;obtain⟨l,hl⟩:=h;have h2:=(hg.tos i hi e he).2;have h3:Ny m i e.1=some e.2.toNat:=(Wa hg hi e.1 e.2.toNat).2 (by rw[show ((e.2.toNat:Nat):Int)=e.2 by omega];exact he);refine⟨l++[e.1],?_⟩;rw[nJ,hl];simp only[Option.bind_some,dM,h3]
theorem xh{m:Kf}(hg:Wh m){P:Nat->Prop}(h0:P 0)(hc:∀ i<m.length,P i->∀ e∈Md m i,P e.2.toNat):∀{i:Nat},Oa m i->P i:=by
 intro i ⟨l,hl⟩;have key:∀(l:List Int)(k:Nat),k<m.length->P k->dM m k l=some i->P i:=by
  intro l
  induction l with
  |nil=>intro k _ hp h;unfold dM at h;cases h;exact hp
  |cons b r ih =>
   intro k hk hp h;unfold dM at h;split at h
   ·rename_i j hj;have h1:=(Wa hg hk b j).1 hj;have:=hc k hk hp _ h1;simp only[Yw] at this;exact ih j (Dc hj) this h
   ·cases h
 exact key l 0 (Qy.2 hg.some) h0 hl
theorem vi{m:Kf}(hg:Wh m){i:Nat}(hi:i<m.length){e:Int×Int}(he:e∈Md m i)(h:jY m e.2.toNat):jY m i:=by
 obtain⟨l,hl⟩:=h;have h2:=(hg.tos i hi e he).2;have h3:Ny m i e.1=some e.2.toNat:=(Wa hg hi e.1 e.2.toNat).2 (by rw[show ((e.2.toNat:Nat):Int)=e.2 by omega];exact he);refine⟨e.1::l,?_⟩;rw[Vv,h3];exact hl
theorem qdG{m:Kf}{i:Nat}(h:0<=Nd m i):jY m i:=⟨[],by rw[kV];omega⟩
theorem vh{m:Kf}(hg:Wh m){P:Nat->Prop}(h0:∀ i<m.length,0<=Nd m i->P i)(hc:∀ i<m.length,∀ e∈Md m i,P e.2.toNat->P i):∀{i:Nat},i<m.length->jY m i->P i:=by
 intro i hi ⟨l,hl⟩
 induction l generalizing i with
 |nil =>
  rw[kV] at hl;have:=hg.o i hi;exact h0 i hi (by omega)
 |cons b r ih =>
  rw[Vv] at hl;split at hl
  ·rename_i j hj;have h1:=(Wa hg hi b j).1 hj;exact hc i hi _ h1 (by simp only[Yw];exact ih (Dc hj) hl)
  ·exact absurd rfl hl
theorem pD{m:Kf}{i j:Nat}(h:Gj m i j)(t:Int)(r:List Int):(match Ny m i t with | some x=>Uq m x r | none=>-1)=(match Ny m j t with | some x=>Uq m x r | none=>-1):=by
 have:=h (t::r)
 rwa [Vv,Vv] at this
theorem zW{m:Kf}{i:Nat}(h:¬ jY m i)(l:List Int):Uq m i l=-1:=Classical.byContradiction fun h2=>h ⟨l,h2⟩
theorem Se{m:Kf}{i j:Nat}(h:Gj m i j):Gj m j i:=fun l=>(h l).symm
def Rr(m:Kf)(use:Nat->Bool)(c:Nat->Int)(i:Nat):Int×Int×List (Int×Int):=(c i,Nd m i,((Md m i).filter fun e=>use e.2.toNat).map fun e=>(e.1,c e.2.toNat))
def Ly(m:Kf)(use:Nat->Bool):Prop:=∀ i<m.length,use i=true↔bQ m i
theorem Bc{m:Kf}(hg:Wh m){use:Nat->Bool}{c:Nat->Int}{i:Nat}(hi:i<m.length)(b v:Int):(b,v)∈(Rr m use c i).2.2↔∃ x,Ny m i b=some x/\use x=true/\c x=v:=by
 unfold Rr;simp only[Xa,Qw,Prod.mk.injEq];constructor
 ·rintro⟨e,⟨he,hu⟩,rfl,rfl⟩;have h2:=(hg.tos i hi e he).2;exact⟨e.2.toNat,(Wa hg hi e.1 e.2.toNat).2 (by rw[show ((e.2.toNat:Nat):Int)=e.2 by omega];exact he),hu,rfl⟩
 ·rintro⟨x,hx,hu,rfl⟩;exact⟨(b,(x:Int)),⟨(Wa hg hi b x).1 hx,by simpa using hu⟩,rfl,by simp⟩
theorem kW{m:Kf}(hg:Wh m){use:Nat->Bool}(hu:Ly m use){i:Nat}(hr:Oa m i)(b:Int)(r:List Int)(h:¬ ∃ x,Ny m i b=some x/\use x=true):Uq m i (b::r)=-1:=by
 rw[Vv];split
 ·rename_i x hx;have hi:=Gt hg hr;have hn:¬ bQ m x:=fun h2=>h ⟨x,hx,(hu x (Dc hx)).2 h2⟩;have hrx:Oa m x:=by
   have:=Bm hg hr ((Wa hg hi b x).1 hx);simpa using this
  exact zW (fun ht=>hn ⟨hrx,ht⟩) r
 ·rfl
theorem du{m:Kf}(hg:Wh m){use:Nat->Bool}(hu:Ly m use){c:Nat->Int}(hs:∀ i<m.length,∀ j<m.length,use i=true->use j=true->c i=c j->Rr m use c i=Rr m use c j) :
  ∀(l:List Int)(i j:Nat),i<m.length->j<m.length->use i=true->use j=true->c i=c j->Uq m i l=Uq m j l:=by
 intro l
 induction l with
 |nil =>
  intro i j hi hj ui uj hc;have:=hs i hi j hj ui uj hc;simp only[Rr,Prod.mk.injEq] at this;exact this.2.1
 |cons b r ih =>
  intro i j hi hj ui uj hc;have hsg:=hs i hi j hj ui uj hc;have hri:=((hu i hi).1 ui).1;have hrj:=((hu j hj).1 uj).1;by_cases h:∃ x,Ny m i b=some x/\use x=true
  ·obtain⟨x,hx,ux⟩:=h;have h1:(b,c x)∈(Rr m use c i).2.2:=(Bc hg hi b (c x)).2 ⟨x,hx,ux,rfl⟩;rw[hsg] at h1;obtain⟨y,hy,uy,hcy⟩:=(Bc hg hj b (c x)).1 h1;rw[Vv,Vv,hx,hy];exact ih x y (Dc hx) (Dc hy) ux uy hcy.symm
  ·rw[kW hg hu hri b r h];refine (kW hg hu hrj b r ?_).symm;rintro⟨y,hy,uy⟩;have h1:(b,c y)∈(Rr m use c j).2.2:=(Bc hg hj b (c y)).2 ⟨y,hy,uy,rfl⟩;rw[<-hsg] at h1;obtain⟨x,hx,ux,_⟩:=(Bc hg hi b (c y)).1 h1;exact h ⟨x,hx,ux⟩
theorem mj:∀{l k:List (Int×Int)},l.Pairwise (fun a b=>a.1<b.1)->k.Pairwise (fun a b=>a.1<b.1)->(∀ e,e∈l↔e∈k)->l=k
 |[],k,_,_,h=>by
  cases k with
  |nil=>rfl
  |cons a r=>exact absurd ((h a).2 (Xh ..)) (by simp)
 |a::r,[],_,_,h=>absurd ((h a).1 (Xh ..)) (by simp)
 |a::r,b::s,h1,h2,h=>by
  obtain⟨p1,q1⟩:=Qx.1 h1;obtain⟨p2,q2⟩:=Qx.1 h2;have Aj:a=b:=by
   rcases List.mem_cons.1 ((h a).1 (Xh ..)) with e | e
   ·exact e
   ·rcases List.mem_cons.1 ((h b).2 (Xh ..)) with e2 | e2
    ·exact e2.symm
    ·have:=p2 a e;have:=p1 b e2;omega
  subst Aj;congr 1;refine mj q1 q2 fun e=>⟨fun he=>?_,fun he=>?_⟩
  ·rcases List.mem_cons.1 ((h e).1 (Xi _ he)) with e2 | e2
   ·subst e2;have:=p1 e he;omega
   ·exact e2
  ·rcases List.mem_cons.1 ((h e).2 (Xi _ he)) with e2 | e2
   ·subst e2;have:=p2 e he;omega
   ·exact e2
theorem zB{m:Kf}(hg:Wh m)(use:Nat->Bool)(c:Nat->Int){i:Nat}(hi:i<m.length):(Rr m use c i).2.2.Pairwise (fun a b=>a.1<b.1):=by
 unfold Rr;simp only;rw[List.pairwise_map];exact List.Pairwise.filter _ (hg.rise i hi)
theorem vH{m:Kf}(hg:Wh m){use:Nat->Bool}(hu:Ly m use){i j:Nat}(hj:j<m.length)(uj:use j=true)(ha:Gj m i j){b:Int}{x:Nat}(hx:Ny m i b=some x)(ux:use x=true) :
  ∃ y,Ny m j b=some y/\use y=true/\Gj m x y:=by
 obtain⟨l,hl⟩:=((hu x (Dc hx)).1 ux).2;have hb:=fun r=>pD ha b r;rw[hx] at hb;simp only at hb;cases hy:Ny m j b with
 |none =>
  have:=hb l;rw[hy] at this;exact absurd this hl
 |some y =>
  have Tq:Gj m x y:=fun r=>by
   have:=hb r
   rwa [hy] at this
  refine⟨y,rfl,(hu y (Dc hy)).2 ⟨?_,l,?_⟩,Tq⟩
  ·have:=Bm hg ((hu j hj).1 uj).1 ((Wa hg hj b y).1 hy);simpa using this
  ·rw[<-Tq l];exact hl
theorem n_{m:Kf}(hg:Wh m){use:Nat->Bool}(hu:Ly m use){c:Nat->Int}(hc:∀ i<m.length,∀ j<m.length,use i=true->use j=true->Gj m i j->c i=c j)
  {i j:Nat} (hi:i<m.length) (hj:j<m.length) (ui:use i=true) (uj:use j=true) (ha:Gj m i j):Rr m use c i=Rr m use c j:=by
 have h1:(Rr m use c i).2.2=(Rr m use c j).2.2:=by
  refine mj (zB hg use c hi) (zB hg use c hj) fun e=>?_;obtain⟨b,v⟩:=e;rw[Bc hg hi,Bc hg hj];constructor
  ·rintro⟨x,hx,ux,rfl⟩;obtain⟨y,hy,uy,Tq⟩:=vH hg hu hj uj ha hx ux;exact⟨y,hy,uy,(hc x (Dc hx) y (Dc hy) ux uy Tq).symm⟩
  ·rintro⟨x,hx,ux,rfl⟩;obtain⟨y,hy,uy,Tq⟩:=vH hg hu hi ui (Se ha) hx ux;exact⟨y,hy,uy,(hc x (Dc hx) y (Dc hy) ux uy Tq).symm⟩
 have h2:Nd m i=Nd m j:=ha [];exact Prod.ext (hc i hi j hj ui uj ha) (Prod.ext h2 h1)
theorem mK:∀(n:Nat)(l:List Nat),(∀ k<n,k∈l)->n<=l.length
 |0,_,_=>Ye _
 |n+1,l,h=>by
  have h1:=h n (by omega);have:=mK n (l.erase n) fun k hk=>(List.mem_erase_of_ne (by omega)).2 (h k (by omega));rw[List.length_erase_of_mem h1] at this;have:=List.length_pos_of_mem h1;omega
theorem oQ:∀(n:Nat)(l:List Nat),l.length<=n->(∀ k<n,k∈l)->l.Nodup
 |0,l,h,_=>by
  have:l=[]:=Xv (by omega);subst this;exact List.nodup_nil
 |n+1,l,h,hc=>by
  have h1:=hc n (by omega);have hl:=List.length_erase_of_mem h1;have hcv:∀ k<n,k∈l.erase n:=fun k hk=>(List.mem_erase_of_ne (by omega)).2 (hc k (by omega));have h2:=oQ n (l.erase n) (by omega) hcv;have h3:n∉l.erase n:=by
   intro h4;have h5:=mK n ((l.erase n).erase n) fun k hk=>(List.mem_erase_of_ne (by omega)).2 (hcv k hk);rw[List.length_erase_of_mem h4,hl] at h5;have:=List.length_pos_of_mem h1;have:=List.length_pos_of_mem h4;omega
  exact (List.perm_cons_erase h1).nodup_iff.2 (List.nodup_cons.2 ⟨h3,h2⟩)
theorem zX:∀(n:Nat)(l:List Nat),l.Nodup->(∀ x∈l,x<n)->l.length<=n
 |0,l,_,h=>by
  cases l with
  |nil=>simp
  |cons a r=>exact absurd (h a (Xh ..)) (by omega)
 |n+1,l,hn,h=>by
  have:=zX n (l.erase n) (hn.erase n) fun x hx=>by
   have h1:=h x (List.mem_of_mem_erase hx);have h2:x≠n:=fun e=>by subst e;exact (List.Nodup.not_mem_erase hn) hx
   omega
  by_cases h1:n∈l
  ·rw[List.length_erase_of_mem h1] at this;omega
  ·rw[List.erase_of_not_mem h1] at this;omega
def Ee(use:Nat->Bool)(a:Nat->Nat->Bool)(s:List Nat×List (Int×Int))(e:Int×Int):List Nat×List (Int×Int) :=
 if use e.2.toNat then (match s.1.findIdx? (a e.2.toNat) with
  |some n=>(s.1,s.2++[(e.1,(n:Int))])
  |none=>(s.1++[e.2.toNat],s.2++[(e.1,(s.1.length:Int))])) else s
def Hy(m:Kf)(use:Nat->Bool)(a:Nat->Nat->Bool):Nat->List Nat×Kf
 |0=>([0],[])
 |n+1=>match (Hy m use a n).1[n]? with
  |some x=>(((Md m x).foldl (Ee use a) ((Hy m use a n).1,[])).1,(Hy m use a n).2++[(Nd m x,((Md m x).foldl (Ee use a) ((Hy m use a n).1,[])).2)])
  |none=>Hy m use a n
def Ox:Nat->List (Int×Int)->Option Nat
 |n,[]=>some n
 |n,e::r=>if (n:Int)<e.2 then none else if e.2=(n:Int) then Ox (n+1) r else Ox n r
theorem Gc:∀(l k:List (Int×Int))(n:Nat),Ox n (l++k)=(Ox n l).bind fun j=>Ox j k
 |[],_,_=>rfl
 |e::r,k,n=>by
  simp only[List.cons_append,Ox];split
  ·rfl
  ·split
   ·exact Gc r k (n+1)
   ·exact Gc r k n
def qaI(m:Kf)(q:List Nat)(es l:List (Int×Int)):Prop:=∀ t n,(t,n)∈l->∃(y k:Nat)(z:Nat),(t,(y:Int))∈es/\bQ m y/\n=(k:Int)/\q[k]? = some z/\Gj m z y
theorem qaI.mono{m:Kf}{q q':List Nat}{es l:List (Int×Int)}(h:qaI m q es l)(hp:q <+: q'):qaI m q' es l:=by
 intro t n hn;obtain⟨y,k,z,h1,h2,h3,h4,h5⟩:=h t n hn;obtain⟨u,rfl⟩:=hp;refine⟨y,k,z,h1,h2,h3,?_,h5⟩;rw[Qo (Qj.1 h4).1];exact h4
structure QOk(m:Kf)(q:List Nat):Prop where
 zero:q[0]? = some 0
 use:∀ x∈q,bQ m x
 apart:q.Pairwise fun x y=>¬ Gj m x y
structure jq(m:Kf)(use:Nat->Bool)(q0 q:List Nat)(es l:List (Int×Int)):Prop where
 pre:q0 <+: q
 ok:QOk m q
 tos:qaI m q es l
 all:∀ e∈es,use e.2.toNat=true->∃ n,(e.1,n)∈l
 rise:l.Pairwise fun a b=>a.1<b.1
 ord:Ox q0.length l=some q.length
 new:∀ k,q0.length<=k->k<q.length->∃ t,(t,(k:Int))∈l
def qT(m:Kf)(a:Nat->Nat->Bool):Prop:=∀ i j,bQ m i->bQ m j->(a i j=true↔Gj m i j)
theorem bv{m:Kf}{q:List Nat}{es l:List (Int×Int)}{e:Int×Int}{n:Nat}{z:Nat}(h:qaI m q es l)(he:0<=e.2)(hu:bQ m e.2.toNat)(hz:q[n]? = some z)(ha:Gj m z e.2.toNat):qaI m q (es++[e]) (l++[(e.1,(n:Int))]):=by
 intro t k hk;rcases Qh.1 hk with hk | hk
 ·obtain⟨y,i,z',h1,h2⟩:=h t k hk;exact⟨y,i,z',List.mem_append_left _ h1,h2⟩
 ·simp only[Qi,Prod.mk.injEq] at hk;obtain⟨rfl,rfl⟩:=hk;refine⟨e.2.toNat,n,z,List.mem_append_right _ ?_,hu,rfl,hz,ha⟩;rw[show ((e.2.toNat:Nat):Int)=e.2 by omega];simp
theorem qhE{m:Kf}(hg:Wh m){use:Nat->Bool}(hu:Ly m use){a:Nat->Nat->Bool}(Tq:qT m a){x:Nat}(hx:bQ m x){q0 q:List Nat}{done rest l:List (Int×Int)}{e:Int×Int}(hd:done++e::rest=Md m x)
  (h:jq m use q0 q done l):jq m use q0 (Ee use a (q,l) e).1 (done++[e]) (Ee use a (q,l) e).2:=by
 have jz:=Gt hg hx.1;have hem:e∈Md m x:=by rw[<-hd];simp
 have het:=hg.tos x jz e hem;have hr:=hg.rise x jz;rw[<-hd] at hr;have Jo:∀ u∈l,u.1<e.1:=by
  intro u qD;obtain⟨y,k,z,h1,-⟩:=h.tos u.1 u.2 qD;exact (List.pairwise_append.1 hr).2.2 _ h1 e (Xh ..)
 have hlen:e.2.toNat<m.length:=by omega
 unfold Ee;by_cases hue:use e.2.toNat=true
 ·rw[if_pos hue];have qmT:=(hu _ hlen).1 hue;simp only;cases hf:q.findIdx? (a e.2.toNat) with
  |some n =>
   simp only;rw[List.findIdx?_eq_some_iff_getElem] at hf;obtain⟨hn,hp,-⟩:=hf;have hz:=h.ok.use _ (Qg hn);have hA:=(Tq _ _ qmT hz).1 hp;refine⟨h.pre,h.ok,bv h.tos het.2.1 qmT (Qa hn) (Se hA),?_,?_,?_,?_⟩
   ·intro e' wO ue';rcases Qh.1 wO with wO | wO
    ·obtain⟨k,hk⟩:=h.all e' wO ue';exact⟨k,List.mem_append_left _ hk⟩
    ·rw[Qi] at wO;subst wO;exact⟨n,by simp⟩
   ·refine List.pairwise_append.2 ⟨h.rise,List.pairwise_singleton ..,fun u qD v hv=>?_⟩;rw[Qi] at hv;subst hv;exact Jo u qD
   ·rw[Gc,h.ord];simp only[Option.bind_some,Ox];rw[if_neg (by omega),if_neg (by omega)]
   ·intro k h1 h2;obtain⟨t,ht⟩:=h.new k h1 h2;exact⟨t,List.mem_append_left _ ht⟩
  |none =>
   simp only;rw[List.findIdx?_eq_none_iff] at hf;have Bw:q <+: q++[e.2.toNat]:=List.prefix_append ..;have hq0:0<q.length:=by
    have:=(Qj.1 h.ok.zero).1;exact this
   refine⟨h.pre.trans Bw,⟨?_,?_,?_⟩,bv (h.tos.mono Bw) het.2.1 qmT (z:=e.2.toNat) (by simp) (fun _=>rfl),?_,?_,?_,?_⟩
   ·rw[Qo hq0];exact h.ok.zero
   ·intro y hy;rcases Qh.1 hy with hy | hy
    ·exact h.ok.use y hy
    ·rw[Qi] at hy;subst hy;exact qmT
   ·refine List.pairwise_append.2 ⟨h.ok.apart,List.pairwise_singleton ..,fun u qD v hv=>?_⟩;rw[Qi] at hv;subst hv;intro hA;have h1:=hf u qD;have:=(Tq _ _ qmT (h.ok.use u qD)).2 (Se hA);simp[this] at h1
   ·intro e' wO ue';rcases Qh.1 wO with wO | wO
    ·obtain⟨k,hk⟩:=h.all e' wO ue';exact⟨k,List.mem_append_left _ hk⟩
    ·rw[Qi] at wO;subst wO;exact⟨q.length,by simp⟩
   ·refine List.pairwise_append.2 ⟨h.rise,List.pairwise_singleton ..,fun u qD v hv=>?_⟩;rw[Qi] at hv;subst hv;exact Jo u qD
   ·rw[Gc,h.ord];simp[Ox]
   ·intro k h1 h2;by_cases hk:k<q.length
    ·obtain⟨t,ht⟩:=h.new k h1 hk;exact⟨t,List.mem_append_left _ ht⟩
    ·simp only[Qe,Qf] at h2;have:k=q.length:=by omega
     subst this;exact⟨e.1,by simp⟩
 ·rw[if_neg hue];refine⟨h.pre,h.ok,?_,?_,h.rise,h.ord,h.new⟩
  ·intro t k hk;obtain⟨y,i,z',h1,h2⟩:=h.tos t k hk;exact⟨y,i,z',List.mem_append_left _ h1,h2⟩
  ·intro e' wO ue';rcases Qh.1 wO with wO | wO
   ·exact h.all e' wO ue'
   ·rw[Qi] at wO;subst wO;exact absurd ue' hue
theorem qv{m:Kf}(hg:Wh m){use:Nat->Bool}(hu:Ly m use){a:Nat->Nat->Bool}(Tq:qT m a){x:Nat}(hx:bQ m x){q0:List Nat}:∀(rest done:List (Int×Int))(s:List Nat×List (Int×Int)),done++rest=Md m x ->
  jq m use q0 s.1 done s.2->jq m use q0 (rest.foldl (Ee use a) s).1 (Md m x) (rest.foldl (Ee use a) s).2
 |[],done,s,hd,h=>by
  rw[List.append_nil] at hd;rw[<-hd];exact h
 |e::r,done,s,hd,h=>by
  rw[List.foldl_cons];exact qv hg hu Tq hx r (done++[e]) _ (by simpa using hd) (qhE hg hu Tq hx hd h)
theorem qdX{m:Kf}{q:List Nat}(h:QOk m q):q.Nodup:=h.apart.imp fun hn e=>hn (by subst e;exact fun _=>rfl)
theorem eu{m:Kf}(hg:Wh m){q:List Nat}(h:QOk m q):q.length<=m.length:=zX _ _ (qdX h) fun x hx=>Gt hg (h.use x hx).1
structure qrE(m:Kf)(use:Nat->Bool)(n:Nat)(q:List Nat)(out:Kf):Prop where
 ok:QOk m q
 len:out.length=min n q.length
 st:∀ k<out.length,∃ x,q[k]? = some x/\Nd out k=Nd m x/\qaI m q (Md m x) (Md out k)/\(∀ e∈Md m x,use e.2.toNat=true->∃ n,(e.1,n)∈Md out k)/\(Md out k).Pairwise fun a b=>a.1<b.1
 ord:∀ k≤out.length,∃ i,Ox 1 ((out.take k).flatMap fun s=>s.2)=some i/\(k<q.length->k<i)/\(k=out.length->i=q.length)
 new:∀ k,0<k->k<q.length->∃ p<k,∃ t,(t,(k:Int))∈Md out p
theorem Rx{m k:Kf}{i:Nat}(h:i<m.length):Nd (m++k) i=Nd m i/\Md (m++k) i=Md m i:=by
 unfold Nd Md;simp only[Qb,Qo h];exact⟨trivial,trivial⟩
theorem lJ{m:Kf}{s:Sta}:Nd (m++[s]) m.length=s.1/\Md (m++[s]) m.length=s.2:=by
 unfold Nd Md;simp
theorem qpF{m:Kf}{use:Nat->Bool}(h:bQ m 0):qrE m use 0 [0] [] :=
 ⟨⟨rfl,by simpa using h,List.pairwise_singleton ..⟩,rfl,by simp,fun k hk=>⟨1,by simp[Ox],fun h=>h,fun _=>rfl⟩,fun k h1 h2=>by simp at h2;omega⟩
theorem mQ{m:Kf}(hg:Wh m){use:Nat->Bool}(hu:Ly m use){a:Nat->Nat->Bool}(Tq:qT m a)(h0:bQ m 0):∀ n,qrE m use n (Hy m use a n).1 (Hy m use a n).2
 |0=>qpF h0
 |n+1=>by
  have ih:=mQ hg hu Tq h0 n;unfold Hy;rcases hs:Hy m use a n with ⟨q,out⟩;rw[hs] at ih;simp only at ih |-;cases hq:q[n]? with
  |none =>
   simp only;have h1:=List.getElem?_eq_none_iff.1 hq;exact⟨ih.ok,by rw[ih.len];omega,ih.st,ih.ord,ih.new⟩
  |some x =>
   simp only;have eM:=(Qj.1 hq).1;have hx:=ih.ok.use x (Qp hq);have hF:=qv hg hu Tq hx (q0:=q) (Md m x) [] (q,[]) rfl ⟨List.prefix_refl _,ih.ok,by intro t k hk;simp at hk,by simp,List.Pairwise.nil,rfl,fun k h1 h2=>by simp only at h2;omega⟩;rcases Uv:(Md m x).foldl (Ee use a) (q,[]) with ⟨q',l⟩;rw[Uv] at hF;simp only at hF |-;have hol:out.length=n:=by rw[ih.len];omega
   have xV:q.length<=q'.length:=hF.pre.length_le;have dQ:∀{k y:Nat},q[k]? = some y->q'[k]? = some y:=by
    intro k y hk;obtain⟨u,hu⟩:=hF.pre;rw[<-hu,Qo (Qj.1 hk).1];exact hk
   refine⟨hF.ok,by simp only[Qe,Qf];omega,?_,?_,?_⟩
   ·intro k hk;by_cases hkn:k<out.length
    ·obtain⟨y,h1,h2,h3,h4,h5⟩:=ih.st k hkn;rw[(Rx hkn).1,(Rx hkn).2];exact⟨y,dQ h1,h2,h3.mono hF.pre,h4,h5⟩
    ·simp only[Qe,Qf] at hk;have:k=out.length:=by omega
     subst this;rw[lJ.1,lJ.2];exact⟨x,dQ (by rw[hol];exact hq),rfl,hF.tos,hF.all,hF.rise⟩
   ·intro k hk;simp only[Qe,Qf] at hk |-;by_cases hkn:k<=out.length
    ·obtain⟨i,h1,h2,h3⟩:=ih.ord k hkn;refine⟨i,by rw[List.take_append_of_le_length hkn];exact h1,fun Jo=>?_,fun e=>by omega⟩;by_cases h4:k<q.length
     ·exact h2 h4
     ·omega
    ·have hke:k=out.length+1:=by omega
     subst hke;obtain⟨i,h1,h2,h3⟩:=ih.ord out.length (Xz _);have h4:=h3 rfl;subst h4;refine⟨q'.length,?_,fun h=>h,fun _=>rfl⟩;rw[Qd (by simp),List.flatMap_append,Gc];rw[Qd (Xz _)] at h1;rw[h1];simpa using hF.ord
   ·intro k h1 h2;by_cases hkn:k<q.length
    ·obtain⟨p,hp,t,ht⟩:=ih.new k h1 hkn;refine⟨p,hp,t,?_⟩;by_cases hpl:p<out.length
     ·rw[(Rx hpl).2];exact ht
     ·exfalso;unfold Md at ht;rw[Qb,Xf (by omega)] at ht;simp at ht
    ·obtain⟨t,ht⟩:=hF.new k (by omega) h2;refine⟨out.length,by omega,t,?_⟩;rw[lJ.2];exact ht
noncomputable def Kb(m:Kf)(i:Nat):Bool:=@decide (bQ m i) (Classical.propDecidable _)
noncomputable def Nt(m:Kf)(i j:Nat):Bool:=@decide (Gj m i j) (Classical.propDecidable _)
theorem Eo(m:Kf)(i:Nat):Kb m i=true↔bQ m i:=by
 unfold Kb;exact @decide_eq_true_iff _ (Classical.propDecidable _)
theorem Cu(m:Kf):Ly m (Kb m):=fun i _=>Eo m i
theorem gQ(m:Kf)(i j:Nat):Nt m i j=true↔Gj m i j:=by
 unfold Nt;exact @decide_eq_true_iff _ (Classical.propDecidable _)
theorem Lx(m:Kf):qT m (Nt m):=fun i j _ _=>gQ m i j
noncomputable abbrev Ww(m:Kf)(n:Nat):List Nat×Kf:=Hy m (Kb m) (Nt m) n
noncomputable def Nz(m:Kf):Kf:=if Uj m 9223372036854775807=true then (if Kb m 0=true then (Ww m m.length).2 else [(-1,[])]) else []
theorem sm{m:Kf}{use:Nat->Bool}{a:Nat->Nat->Bool}{n:Nat}(h:(Hy m use a n).1.length<=n):∀ k,Hy m use a (n+k)=Hy m use a n
 |0=>rfl
 |k+1=>by
  have ih:=sm h k;rw[<-Yv];rw[show Hy m use a (n+k+1)=_ from rfl];simp only[Hy];rw[ih,Xf (by omega)]
theorem qvV{m:Kf}(hg:Wh m)(h0:bQ m 0){n:Nat}(h:(Ww m n).1.length=n):Ww m m.length=Ww m n:=by
 have h1:=eu hg (mQ hg (Cu m) (Lx m) h0 n).ok;have h2:=sm (m:=m) (use:=Kb m) (a:=Nt m) (n:=n) (by show (Ww m n).1.length<=n;omega) (m.length - n);have h3:(Ww m n).1.length<=m.length:=h1;rw[show n+(m.length - n)=m.length by omega] at h2;exact h2
structure Tm(m M:Kf):Prop where
 good:Wh M
 tell:∀ l,Uq M 0 l=Uq m 0 l
 apart:∀ i k,i<M.length->k<M.length->i≠k->∃ l,Uq M i l≠Uq M k l
 tells:∀ i,0<i->i<M.length->∃ l,Uq M i l≠-1
 zero:(∀ l,Uq M 0 l=-1)->Md M 0=[]
 ord:∀ k<M.length,∃ i,Ox 1 ((M.take k).flatMap fun s=>s.2)=some i/\k<i
 ordl:∃ i,Ox 1 (M.flatMap fun s=>s.2)=some i
 new:∀ k,0<k->k<M.length->∃ p<k,∃ t,(t,(k:Int))∈Md M p
 term:∀ k<M.length,∀ e∈Md M k,∃ i<m.length,∃ d∈Md m i,e.1=d.1
theorem qpG{m:Kf}(hg:Wh m)(h0:bQ m 0):(Ww m m.length).2.length=(Ww m m.length).1.length:=by
 have h:=mQ hg (Cu m) (Lx m) h0 m.length;have h1:=eu hg h.ok;have h2:(Ww m m.length).2.length=min m.length (Ww m m.length).1.length:=h.len;have h3:(Ww m m.length).1.length<=m.length:=h1;omega
theorem qhX{m:Kf}(hg:Wh m)(h0:bQ m 0):Tm m (Ww m m.length).2:=by
 have h:=mQ hg (Cu m) (Lx m) h0 m.length;have hl:=qpG hg h0;have hu:=Cu m;change qrE m (Kb m) m.length (Ww m m.length).1 (Ww m m.length).2 at h;generalize (Ww m m.length).1=q at h hl;generalize (Ww m m.length).2=M at h hl;have Dh:0<M.length:=by rw[hl];exact (Qj.1 h.ok.zero).1
 have hG:Wh M:=by
  refine⟨Qy.1 Dh,fun k hk=>?_,fun k hk e he=>?_,fun k hk=>?_⟩
  ·obtain⟨x,h1,h2,-⟩:=h.st k hk;rw[h2];exact hg.o x (Gt hg (h.ok.use x (Qp h1)).1)
  ·obtain⟨x,h1,h2,h3,-⟩:=h.st k hk;obtain⟨y,i,z,g1,g2,g3,g4,g5⟩:=h3 e.1 e.2 he;have:=(hg.tos x (Gt hg (h.ok.use x (Qp h1)).1) _ g1).1;have h6:=(Qj.1 g4).1;simp only at this;exact⟨this,by omega,by omega⟩
  ·obtain⟨x,h1,h2,h3,h4,h5⟩:=h.st k hk;exact h5
 have key:∀(l:List Int)(k x:Nat),k<M.length->q[k]? = some x->Uq M k l=Uq m x l:=by
  intro l
  induction l with
  |nil =>
   intro k x hk hx;obtain⟨x',h1,h2,-⟩:=h.st k hk;rw[hx] at h1;injection h1 with h1;subst h1;exact h2
  |cons b r ih =>
   intro k x hk hx;obtain⟨x',h1,h2,h3,h4,h5⟩:=h.st k hk;rw[hx] at h1;injection h1 with h1;subst h1;have hux:=h.ok.use x (Qp hx);have jz:=Gt hg hux.1;by_cases hc:∃ y,Ny m x b=some y/\Kb m y=true
   ·obtain⟨y,hy,uy⟩:=hc;have he:=(Wa hg jz b y).1 hy;obtain⟨n,hn⟩:=h4 _ he (by simpa using uy);simp only at hn;obtain⟨y',i,z,g1,g2,g3,g4,g5⟩:=h3 b n hn;have hy':=(Wa hg jz b y').2 g1;rw[hy] at hy';injection hy' with hy';subst hy';subst g3;have hsM:=(Wa hG hk b i).2 hn;rw[Vv,Vv,hy,hsM];simp only;rw[<-g5 r];exact ih i z (Dc hsM) g4
   ·rw[kW hg hu hux.1 b r hc,Vv];cases hsM:Ny M k b with
    |none=>rfl
    |some i =>
     exfalso;obtain⟨y',j,z,g1,g2,g3,g4,g5⟩:=h3 b _ ((Wa hG hk b i).1 hsM);exact hc ⟨y',(Wa hg jz b y').2 g1,(Eo m y').2 g2⟩
 have dQ:∀ k<M.length,∃ x,q[k]? = some x:=fun k hk=>⟨_,Qa (by omega)⟩;refine⟨hG,fun l=>key l 0 0 Dh h.ok.zero,?_,?_,?_,?_,?_,?_,?_⟩
 ·intro i k hi hk hne;obtain⟨x,hx⟩:=dQ i hi;obtain⟨y,hy⟩:=dQ k hk;refine Classical.byContradiction fun hno=>?_;have Tq:Gj m x y:=fun l=>by
   rw[<-key l i x hi hx,<-key l k y hk hy];exact Classical.byContradiction fun h2=>hno ⟨l,h2⟩
  have hp:=List.pairwise_iff_getElem.1 h.ok.apart;obtain⟨a1,a2⟩:=Qj.1 hx;obtain⟨b1,b2⟩:=Qj.1 hy;rcases Nat.lt_or_gt_of_ne hne with Jo | Jo
  ·have:=hp i k a1 b1 Jo;rw[a2,b2] at this;exact this Tq
  ·have:=hp k i b1 a1 Jo;rw[a2,b2] at this;exact this (Se Tq)
 ·intro i _ hi;obtain⟨x,hx⟩:=dQ i hi;obtain⟨l,Pj⟩:=(h.ok.use x (Qp hx)).2;exact⟨l,by rw[key l i x hi hx];exact Pj⟩
 ·intro Vj;obtain⟨l,Pj⟩:=h0.2;exact absurd (by rw[<-key l 0 0 Dh h.ok.zero];exact Vj l) Pj
 ·intro k hk;obtain⟨i,h1,h2,h3⟩:=h.ord k (by omega);exact⟨i,h1,h2 (by omega)⟩
 ·obtain⟨i,h1,h2,h3⟩:=h.ord M.length (Xz _);rw[Qd (Xz _)] at h1;exact⟨i,h1⟩
 ·intro k h1 h2;exact h.new k h1 (by omega)
 ·intro k hk e he;obtain⟨x,h1,h2,h3,-⟩:=h.st k hk;obtain⟨y,i,z,g1,-⟩:=h3 e.1 e.2 he;exact⟨x,Gt hg (h.ok.use x (Qp h1)).1,_,g1,rfl⟩
theorem qeO{m:Kf}(h0:¬ bQ m 0):Tm m [(-1,[])]:=by
 have ht:∀ l,Uq m 0 l=-1:=fun l=>Classical.byContradiction fun h=>h0 ⟨Bl m,l,h⟩;have hto:∀ l,Uq [(-1,[])] 0 l=-1:=by
  intro l;cases l with
  |nil=>rfl
  |cons b r=>rfl
 refine⟨⟨by simp,?_,?_,?_⟩,fun l=>by rw[ht l,hto l],?_,?_,fun _=>rfl,?_,⟨1,rfl⟩,?_,?_⟩
 ·intro k hk;simp only[Qf] at hk;have:k=0:=by omega
  subst this;decide
 ·intro k hk e he;simp only[Qf] at hk;have:k=0:=by omega
  subst this;simp[Md] at he
 ·intro k hk;simp only[Qf] at hk;have:k=0:=by omega
  subst this;exact List.Pairwise.nil
 ·intro i k hi hk hne;simp only[Qf] at hi hk;omega
 ·intro i h1 hi;simp only[Qf] at hi;omega
 ·intro k hk;simp only[Qf] at hk;have:k=0:=by omega
  subst this;exact⟨1,rfl,by omega⟩
 ·intro k h1 hk;simp only[Qf] at hk;omega
 ·intro k hk e he;simp only[Qf] at hk;have:k=0:=by omega
  subst this;simp[Md] at he
theorem yo{m:Kf}(h:Uj m 9223372036854775807=true):Tm m (Nz m):=by
 unfold Nz;rw[if_pos h];have hg:=Ft h;by_cases h0:Kb m 0=true
 ·rw[if_pos h0];exact qhX hg ((Eo m 0).1 h0)
 ·rw[if_neg h0];exact qeO fun h1=>h0 ((Eo m 0).2 h1)
theorem qlY{m:Kf}(h:Uj m 9223372036854775807≠true):Nz m=[]:=by
 unfold Nz;rw[if_neg h]
def uB(M:List Bool):Nat:=M.count false
theorem qoE{M:List Bool}{d:Nat}(h:M[d]? = some false):uB (M.set d true)<uB M:=by
 unfold uB;obtain⟨h1,h2⟩:=Qj.1 h;have h3:=List.count_set (a:=true) (b:=false) (l:=M) (i:=d) h1;have h4:0<M.count false:=List.count_pos_iff.2 (Qp h);rw[h3,h2];simp only[beq_self_eq_true,if_true];rw[if_neg (by decide)];omega
def rM(dir:Bool)(i:Nat)(e:Int×Int):Nat:=if dir then i else e.2.toNat
def Ls(dir:Bool)(i:Nat)(e:Int×Int):Nat:=if dir then e.2.toNat else i
abbrev Ff(M:List Bool)(k:Nat):Bool:=M.getD k false
def eH(dir:Bool)(M:List Bool)(i:Nat)(e:Int×Int):List Bool:=M.set (Ls dir i e) (Ff M (Ls dir i e)||Ff M (rM dir i e))
def nY(dir:Bool)(M:List Bool)(i:Nat)(e:Int×Int):Bool:=Ff M (rM dir i e)&&!Ff M (Ls dir i e)
theorem qeW(dir:Bool)(M:List Bool)(i:Nat)(e:Int×Int):(eH dir M i e).length=M.length:=by simp[eH]
theorem qbZ{M:List Bool}{k:Nat}(h:k<M.length):M[k]? = some (Ff M k):=by
 simp[Ff,Qa h]
theorem yw{dir:Bool}{M:List Bool}{i:Nat}{e:Int×Int}(hd:Ls dir i e<M.length)(h:nY dir M i e=false):eH dir M i e=M/\(Ff M (rM dir i e)=true->Ff M (Ls dir i e)=true):=by
 unfold nY at h;have h1:(Ff M (Ls dir i e)||Ff M (rM dir i e))=Ff M (Ls dir i e):=by
  cases h2:Ff M (rM dir i e) <;> cases h3:Ff M (Ls dir i e) <;> simp_all
 refine⟨?_,fun h2=>by rw[h2] at h;simpa using h⟩;unfold eH;rw[h1];apply List.ext_getElem?;intro k;rw[Xu];by_cases hk:Ls dir i e=k
 ·rw[if_pos hk,<-hk,if_pos hd,qbZ hd]
 ·rw[if_neg hk]
theorem yx{dir:Bool}{M:List Bool}{i:Nat}{e:Int×Int}(hd:Ls dir i e<M.length)(h:nY dir M i e=true):uB (eH dir M i e)<uB M/\eH dir M i e=M.set (Ls dir i e) true/\Ff M (rM dir i e)=true:=by
 unfold nY at h;simp only[Yk,Bool.not_eq_true'] at h;have h1:eH dir M i e=M.set (Ls dir i e) true:=by unfold eH;rw[h.1];simp
 exact⟨by rw[h1];exact qoE (by rw[qbZ hd,h.2]),h1,h.1⟩
def jZ(dir:Bool)(M:List Bool)(i:Nat)(l:List (Int×Int)):Prop:=∀ e∈l,Ff M (rM dir i e)=true->Ff M (Ls dir i e)=true
structure gT(dir:Bool)(m:Kf)(Inv:List Bool->Prop)(M0 M:List Bool)(again:Bool)(i k:Nat):Prop where
 len:M.length=m.length
 inv:Inv M
 le:uB M<=uB M0
 more:again=true->uB M<uB M0
 shut:again=false->M=M0/\(∀ j<i,jZ dir M j (Md m j))/\jZ dir M i ((Md m i).take k)
theorem gT.start{dir:Bool}{m:Kf}{Inv:List Bool->Prop}{M:List Bool}(hl:M.length=m.length)(h:Inv M):gT dir m Inv M M false 0 0 :=
 ⟨hl,h,Xz _,(fun h=>by cases h),fun _=>⟨rfl,fun j hj=>by omega,fun e he=>by simp at he⟩⟩
theorem gT.edge{dir:Bool}{m:Kf}{Inv:List Bool->Prop}{M0 M:List Bool}{again:Bool}{i k:Nat}(h:gT dir m Inv M0 M again i k){e:Int×Int}(he:(Md m i)[k]? = some e)(hd:Ls dir i e<m.length)
  (hi:∀ M,Inv M->M.length=m.length->Ff M (rM dir i e)=true->Inv (M.set (Ls dir i e) true)):gT dir m Inv M0 (eH dir M i e) (nY dir M i e||again) i (k+1):=by
 have hd':Ls dir i e<M.length:=by rw[h.len];exact hd
 obtain⟨hk,hke⟩:=Qj.1 he;cases hm:nY dir M i e with
 |true =>
  obtain⟨h1,h2,h3⟩:=yx hd' hm;exact⟨by rw[qeW];exact h.len,by rw[h2];exact hi M h.inv h.len h3,Ya (Yf h1) h.le,fun _=>Yb h1 h.le,fun h=>by simp at h⟩
 |false =>
  obtain⟨h1,h2⟩:=yw hd' hm;rw[h1,Yr];refine⟨h.len,h.inv,h.le,h.more,fun ha=>?_⟩;obtain⟨a1,a2,a3⟩:=h.shut ha;refine⟨a1,a2,fun x hx=>?_⟩;rw[Qc hk,Qh,Qi,hke] at hx;rcases hx with hx | rfl
  ·exact a3 x hx
  ·exact h2
theorem gT.next{dir:Bool}{m:Kf}{Inv:List Bool->Prop}{M0 M:List Bool}{again:Bool}{i:Nat}(h:gT dir m Inv M0 M again i (Md m i).length):gT dir m Inv M0 M again (i+1) 0 :=
 ⟨h.len,h.inv,h.le,h.more,fun ha=>by
  obtain⟨a1,a2,a3⟩:=h.shut ha
  rw[List.take_length] at a3
  refine⟨a1,fun j hj=>?_,fun e he=>by simp at he⟩
  by_cases Td:j=i
  ·subst Td
   exact a3
  ·exact a2 j (by omega)⟩
theorem gT.shutAll{dir:Bool}{m:Kf}{Inv:List Bool->Prop}{M0 M:List Bool}{k:Nat}(h:gT dir m Inv M0 M false m.length k):∀ j<m.length,jZ dir M j (Md m j):=(h.shut rfl).2.1
theorem mq{m:Kf}(hg:Wh m){M:List Bool}(h0:Ff M 0=true)(hi:∀ k,Ff M k=true->Oa m k)(hs:∀ j<m.length,jZ true M j (Md m j))(k:Nat):Ff M k=true↔Oa m k:=by
 refine⟨hi k,fun hr=>?_⟩;exact xh hg (P:=fun k=>Ff M k=true) h0 (fun j hj hmj e he=>hs j hj e he hmj) hr
theorem ky{m:Kf}(hg:Wh m){M:List Bool}(h0:∀ k<m.length,0<=Nd m k->Ff M k=true)(hi:∀ k,Ff M k=true->jY m k)(hs:∀ j<m.length,jZ false M j (Md m j)){k:Nat}(hk:k<m.length):Ff M k=true↔jY m k:=by
 refine⟨hi k,fun hr=>?_⟩;exact vh hg (P:=fun k=>Ff M k=true) h0 (fun j hj e he hm=>hs j hj e he hm) hk hr
theorem qbY{M:List Bool}{d k:Nat}(h:Ff (M.set d true) k=true):k=d\/Ff M k=true:=by
 unfold Ff at *;rw[Qb,Xu] at h;by_cases hk:d=k
 ·exact .inl hk.symm
 ·rw[if_neg hk] at h;exact .inr (by rw[Qb];exact h)
theorem jW{M:List Bool}{d k:Nat}(h:Ff M k=true):Ff (M.set d true) k=true:=by
 unfold Ff at *;rw[Qb] at h |-;rw[Xu];by_cases hk:d=k
 ·subst hk;have hl:d<M.length:=by
   rcases Nat.lt_or_ge d M.length with h2 | h2
   ·exact h2
   ·rw[Xf h2] at h;cases h
  rw[if_pos rfl,if_pos hl];rfl
 ·rw[if_neg hk];exact h
def Iy(n:Nat)(f:Nat->Bool):List Bool:=(List.range n).map f
theorem Cf(n:Nat)(f:Nat->Bool):(Iy n f).length=n:=by simp[Iy]
theorem At{n:Nat}{f:Nat->Bool}{k:Nat}:Ff (Iy n f) k=(decide (k<n)&&f k):=by
 unfold Ff Iy;rw[Qb,Qv];by_cases h:k<n
 ·rw[List.getElem?_range h];simp[h]
 ·rw[Xf (by simp;omega)];simp[h]
theorem jT{n:Nat}{f g:Nat->Bool}(h:∀ k<n,f k=g k):Iy n f=Iy n g:=List.map_congr_left fun k hk=>h k (Xy.1 hk)
theorem qhW{n:Nat}{M:List Bool}(h:M.length=n):Iy n (Ff M)=M:=by
 subst h;apply List.ext_getElem?;intro k;unfold Iy;rw[Qv];by_cases hk:k<M.length
 ·rw[List.getElem?_range hk,Qa hk];simp[Ff,hk]
 ·rw[Xf (by simp;omega),Xf (by omega)];rfl
theorem sj{n k:Nat}{f:Nat->Bool}(h:k<n):(Iy n f)[k]? = some (f k):=by
 unfold Iy;rw[Qv,List.getElem?_range h];rfl
theorem uX(n:Nat):Iy n (fun _=>false)=List.replicate n false:=by
 unfold Iy;rw[List.map_const',List.length_range]
theorem uW{n i:Nat}{f:Nat->Bool}{b:Bool}:(Iy n f).set i b=Iy n (fun k=>if k=i then b else f k):=by
 apply List.ext_getElem?;intro k;by_cases hn:k<n
 ·rw[sj hn,Xu,sj hn,Cf];by_cases hk:i=k
  ·subst hk;simp[hn]
  ·have:¬ k=i:=fun e=>hk e.symm;simp[hk,this]
 ·rw[Xf (by rw[Qm,Cf];omega),Xf (by rw[Cf];omega)]
def Iv(l:List (Int×Int)):List Value:=(l.map fun e=>[Value.int .i64 e.1,.int .i64 e.2]).flatten
theorem bJ(l:List (Int×Int))(e:Int×Int):Iv (l++[e])=Iv l++[.int .i64 e.1,.int .i64 e.2]:=by simp[Iv]
def Ua(rs:List (Int×Value)):List Value:=(rs.map fun r=>[Value.int .i64 r.1,r.2]).flatten
theorem vy(l:List (Int×Value)):(Ua l).length=l.length*2:=by
 induction l with
 |nil=>rfl
 |cons x l ih=>unfold Ua at *;rw[List.map_cons,List.flatten_cons,Qe,ih,Qu];simp;omega
theorem Cy(r:Int×Value)(rs:List (Int×Value)):Ua (r::rs)=.int .i64 r.1::r.2::Ua rs:=by simp[Ua]
theorem fI:∀{rs:List (Int×Value)}{i:Nat}{r:Int×Value},rs[i]? = some r->(Ua rs)[i*2]? = some (.int .i64 r.1)/\(Ua rs)[i*2+1]? = some r.2
 |[],i,r,h=>by simp at h
 |a::rs,0,r,h=>by
  simp only[List.getElem?_cons_zero,Option.some.injEq] at h;subst h;exact⟨rfl,rfl⟩
 |a::rs,i+1,r,h=>by
  have:=fI (rs:=rs) (i:=i) (r:=r) (by simpa using h);rw[Cy,show (i+1)*2=i*2+1+1 by omega];simpa using this
theorem fH:∀{rs:List (Int×Value)}{i:Nat}{r:Int×Value},rs[i]? = some r->∀(x:Int)(v:Value),(Ua rs).set (i*2) (.int .i64 x)=Ua (rs.set i (x,r.2))/\(Ua rs).set (i*2+1) v=Ua (rs.set i (r.1,v))
 |[],i,r,h,_,_=>by simp at h
 |a::rs,0,r,h,x,v=>by
  simp only[List.getElem?_cons_zero,Option.some.injEq] at h;subst h;simp[Cy]
 |a::rs,i+1,r,h,x,v=>by
  obtain⟨h1,h2⟩:=fH (rs:=rs) (i:=i) (r:=r) (by simpa using h) x v;rw[Cy,show (i+1)*2=i*2+1+1 by omega];simp only[List.set_cons_succ,Cy,h1,h2,and_self]
theorem Mx{w:World}{q o:Nat}{v:Value}{cs:Array Value}{t:TypeId}{fr:Nat×Nat}(h:w.heap[q]? = some (.cells cs t fr)):(w.setCell ⟨q,o,none⟩ v).heap[q]? = some (.cells (cs.setIfInBounds o v) t fr):=by
 simp[World.setCell,Xx,h]
structure Ob(ts te:TypeId)(W:World)(N b:Nat)(rs:List (Int×Value))(es:List (List (Int×Int))):Prop where
 len:rs.length=es.length
 box:W.heap[b]? = some (.cells (Ua rs).toArray ts (0,0))
 own:∀(i:Nat)(r:Int×Value)(l:List (Int×Int)),rs[i]? = some r->es[i]? = some l->W.ownsRow N te 2 r.2 l.length (Iv l)
 nd:∀(i j:Nat)(r s:Int×Value)(g:Nat),rs[i]? = some r->rs[j]? = some s->r.2.ownBlock=some g->s.2.ownBlock=some g->i=j
section
variable {ts te:TypeId} {W W':World} {N b:Nat} {rs:List (Int×Value)} {es:List (List (Int×Int))}
theorem Ob.cells(h:Ob ts te W N b rs es){i:Nat}{r:Int×Value}(hr:rs[i]? = some r):W.cell? ⟨b,i*2,none⟩=some (.int .i64 r.1)/\W.cell? ⟨b,i*2+1,none⟩=some r.2/\(∀ k,W.frozen? ⟨b,k,none⟩=false):=by
 obtain⟨h1,h2⟩:=fI hr;refine⟨?_,?_,fun k=>by simp[World.frozen?,h.box]⟩
 ·rw[Za _ _ _ _ _ _ h.box];simpa using h1
 ·rw[Za _ _ _ _ _ _ h.box];simpa using h2
theorem Ob.mk0{n:Nat}{x:Int}(hb:W.heap[b]? = some (.cells (Ua (List.replicate n (x,.slice none 0 0))).toArray ts (0,0))):Ob ts te W N b (List.replicate n (x,.slice none 0 0)) (List.replicate n []):=by
 refine⟨by simp,hb,fun i r l hr hl=>?_,fun i j r s g hr hs hg=>?_⟩
 ·rw[Xg] at hr hl;split at hr
  ·injection hr with hr;rw[if_pos (by assumption)] at hl;injection hl with hl;subst hr hl;exact Yx _ _ _ _
  ·cases hr
 ·rw[Xg] at hr;split at hr
  ·injection hr with hr;subst hr;simp[Value.ownBlock] at hg
  ·cases hr
theorem Ob.keepRow(hne:ts≠te)(h:Ob ts te W N b rs es){i:Nat}{r:Int×Value}(hr:rs[i]? = some r):r.2.ownBlock≠some b:=by
 have hl:i<es.length:=by rw[<-h.len];exact (Qj.1 hr).1
 intro e;rcases (h.own i r _ hr (Qa hl)).2 with ⟨h0,_⟩ | ⟨g,cap,cur,h0,hg,hh,_⟩
 ·rw[h0] at e;cases e
 ·rw[h0] at e;have:g=b:=by simpa[Value.ownBlock] using e
  subst this;rw[h.box] at hh;injection hh with hh;injection hh with _ hh;exact hne hh
theorem Vd{w w':World}{base:Nat}{e:TypeId}{size:Nat}{v:Value}{n:Nat}{xs:List Value}(h:w.ownsRow base e size v n xs)(hk:∀ g cur,v.ownBlock=some g->w.heap[g]? = some (.cells cur e (0,0))->w'.heap[g]? = some (.cells cur e (0,0))):w'.ownsRow base e size v n xs:=by
 refine⟨h.1,?_⟩;rcases h.2 with h' | ⟨g,cap,cur,rfl,hg,hh,r⟩
 ·exact .inl h'
 ·exact .inr ⟨g,cap,cur,rfl,hg,hk g cur rfl hh,r⟩
theorem Ob.keep(h:Ob ts te W N b rs es)(hk:∀(g:Nat)(cur:Array Value)(t:TypeId),t=ts\/t=te->W.heap[g]? = some (.cells cur t (0,0))->W'.heap[g]? = some (.cells cur t (0,0))):Ob ts te W' N b rs es :=
 ⟨h.len,hk b _ _ (.inl rfl) h.box,fun i r l hi hl=>Vd (h.own i r l hi hl) fun g cur _ hh=>hk g cur _ (.inr rfl) hh,h.nd⟩
theorem Ob.setOut(hne:ts≠te)(h:Ob ts te W N b rs es){i:Nat}{r:Int×Value}(hr:rs[i]? = some r)(x:Int):Ob ts te (W.setCell ⟨b,i*2,none⟩ (.int .i64 x)) N b (rs.set i (x,r.2)) es:=by
 have key:∀(k:Nat)(s:Int×Value),(rs.set i (x,r.2))[k]? = some s->∃ s',rs[k]? = some s'/\s'.2=s.2:=fun k s hk=>by
  rw[Xu] at hk;split at hk
  ·rename_i hik;subst hik;split at hk
   ·injection hk with hk;exact⟨r,hr,by rw[<-hk]⟩
   ·cases hk
  ·exact⟨s,hk,rfl⟩
 refine⟨by rw[Qm];exact h.len,?_,fun k s l hk hl=>?_,fun k j s t g hk hj h1 h2=>?_⟩
 ·rw[Mx h.box,List.setIfInBounds_toArray,(fH hr x r.2).1]
 ·obtain⟨s',h1,h2⟩:=key k s hk;rw[<-h2];refine Vd (h.own k s' l h1 hl) fun g cur he hh=>(Yz _ _ _ _ ?_).trans hh;rintro rfl;exact absurd he (h.keepRow hne h1)
 ·obtain⟨s',a1,a2⟩:=key k s hk;obtain⟨t',b1,b2⟩:=key j t hj;exact h.nd k j s' t' g a1 b1 (by rw[a2];exact h1) (by rw[b2];exact h2)
theorem Ob.app(hne:ts≠te){W1:World}(h:Ob ts te W N b rs es){i:Nat}{r:Int×Value}{l:List (Int×Int)}(hr:rs[i]? = some r)(hl:es[i]? = some l){v:Value}{e:Int×Int}
  (hown:W1.ownsRow N te 2 v (l.length+1) (Iv (l++[e]))) (hg:W.grownBy W1 r.2.ownBlock) (hv:v.ownBlock=r.2.ownBlock\/v.ownBlock=some W.heap.size) :
  Ob ts te (W1.setCell ⟨b,i*2+1,none⟩ v) N b (rs.set i (r.1,v)) (es.set i (l++[e])):=by
 have Vq:=(Qj.1 hr).1;have Z_:=(Qj.1 hl).1;have Nk:=h.keepRow hne hr;have zsY:b<W.heap.size:=(gl h.box);have jK:W1.heap[b]? = some (.cells (Ua rs).toArray ts (0,0)):=(hg.block b zsY fun e=>Nk e.symm).trans h.box;have key:∀(k:Nat)(s:Int×Value),(rs.set i (r.1,v))[k]? = some s->(k=i/\s=(r.1,v))\/(k≠i/\rs[k]? = some s):=fun k s hk=>by
  rw[Xu] at hk;split at hk
  ·rename_i hik;injection hk with hk;exact .inl ⟨hik.symm,hk.symm⟩
  ·rename_i hik;exact .inr ⟨fun e=>hik e.symm,hk⟩
 have Jo:∀(k:Nat)(s:Int×Value)(g:Nat),rs[k]? = some s->s.2.ownBlock=some g->g<W.heap.size:=fun k s g hk pJ=>by
  have Dl:k<es.length:=by rw[<-h.len];exact (Qj.1 hk).1
  exact ((h.own k s _ hk (Qa Dl)).lt g pJ).2
 refine⟨by rw[Qm,Qm];exact h.len,?_,fun k s m hk hm=>?_,fun k j s t g hk hj h1 h2=>?_⟩
 ·rw[Mx jK,List.setIfInBounds_toArray,(fH hr r.1 v).2]
 ·rcases key k s hk with ⟨rfl,rfl⟩ | ⟨X_,hk⟩
  ·rw[Xu,if_pos rfl,if_pos Z_] at hm;injection hm with hm;subst hm;refine Vd (w:=W1) (by rw[Qe];exact hown) fun g cur he hh=>(Yz _ _ _ _ ?_).trans hh;rintro rfl;rcases hv with e1 | e1
   ·rw[e1] at he;exact Nk he
   ·rw[e1] at he;injection he with he;omega
  ·rw[Xu,if_neg (fun e=>X_ e.symm)] at hm;refine Vd (h.own k s m hk hm) fun g cur he hh=>(Yz _ _ _ _ ?_).trans ((hg.block g (gl hh) fun e=>?_).trans hh)
   ·rintro rfl;exact absurd he (h.keepRow hne hk)
   ·exact X_ (h.nd k i s r g hk hr he e.symm)
 ·rcases key k s hk with ⟨rfl,rfl⟩ | ⟨X_,oJ⟩
  ·rcases key j t hj with ⟨rfl,rfl⟩ | ⟨Td,hj2⟩
   ·rfl
   ·exfalso;rcases hv with e1 | e1
    ·exact Td (h.nd j k t r g hj2 hr h2 (by rw[<-e1];exact h1))
    ·have:=Jo j t g hj2 h2;have h1:v.ownBlock=some g:=h1;rw[e1] at h1;injection h1 with h1;omega
  ·rcases key j t hj with ⟨rfl,rfl⟩ | ⟨Td,hj2⟩
   ·exfalso;rcases hv with e1 | e1
    ·exact X_ (h.nd k j s r g oJ hr h1 (by rw[<-e1];exact h2))
    ·have:=Jo k s g oJ h1;have h2:v.ownBlock=some g:=h2;rw[e1] at h2;injection h2 with h2;omega
   ·exact h.nd k j s t g oJ hj2 h1 h2
theorem Ob.sl{es:List (List (Int×Int))}(eS:Lf (Int×List (Int×Int)))(eE:Lf (Int×Int))(hS:eS=Ra Vh (Ro eE))(hE:eE=Ra Vh Vh)(h:Ob ts te W N b rs es){c:Nat}(hc:rs.length<=c)(hc2:c<=maxLen)
  (hb1:∀ r∈rs,-9223372036854775808<=r.1/\r.1<=9223372036854775807) (Zy:∀ l∈es,∀ e∈l,(-9223372036854775808<=e.1/\e.1<=9223372036854775807)/\-9223372036854775808<=e.2/\e.2<=9223372036854775807) :
  Jb eS W W.heap.size (.slice (some ⟨b,0,none⟩) rs.length c) ((rs.zip es).map fun p=>(p.1.1,p.2)):=by
 subst hS hE;have hz:((rs.zip es).map fun p=>(p.1.1,p.2)).length=rs.length:=by rw[Qk,List.length_zip,h.len,Nat.min_self]
 refine⟨_,c,rs.map fun r=>[Value.int .i64 r.1,r.2],by rw[hz],by rw[hz];exact hc,hc2,by rw[hz,Qk],?_,fun i cs x hi hx=>?_⟩
 ·exact Rd.row h.box (gl h.box)
 ·rw[Qv] at hi hx;have Vq:i<rs.length:=by
   rcases Nat.lt_or_ge i rs.length with h | h
   ·exact h
   ·rw[Xf h] at hi;cases hi
  have Z_:i<es.length:=by rw[<-h.len];exact Vq
  rw[Qa Vq,Option.map_some] at hi;have hzl:i<(rs.zip es).length:=by rw[List.length_zip];omega
  rw[Qa hzl,List.getElem_zip,Option.map_some] at hx;injection hi with hi;injection hx with hx;subst hi hx;have hown:=h.own i _ _ (Qa Vq) (Qa Z_);obtain⟨A,c',e,h1,h2⟩:=Zk hown;refine⟨[.int .i64 rs[i].1],[rs[i].2],rfl,⟨rfl,hb1 _ (Qg Vq)⟩,rs[i].2,rfl,?_⟩;rw[e] at hown |-;refine⟨A,c',es[i].map fun e=>[Value.int .i64 e.1,.int .i64 e.2],rfl,h1,h2,by simp,Rd.of_own hown,fun j cs y hj hy=>?_⟩;rw[Qv,hy] at hj;injection hj with hj;subst hj;obtain⟨⟨a1,a2⟩,a3,a4⟩:=Zy _ (Qg Z_) _ (Qp hy);exact⟨_,_,rfl,⟨rfl,a1,a2⟩,rfl,a3,a4⟩
end
abbrev Ko(w:World)(x:Nat)(M:List Bool):Prop:=w.heap[x]? = some (.cells (M.map Value.bool).toArray 4 (0,0))
theorem Ko.at_{w:World}{x:Nat}{M:List Bool}(h:Ko w x M){k:Nat}(hk:k<M.length):w.cell? ⟨x,k,none⟩=some (.bool (Ff M k))/\w.frozen? ⟨x,k,none⟩=false:=by
 refine⟨?_,by simp[World.frozen?,h]⟩;rw[Za w x k _ _ _ h];simp[Ff,hk]
theorem Ko.set{w:World}{x:Nat}{M:List Bool}(h:Ko w x M)(k:Nat)(b:Bool):Ko (w.setCell ⟨x,k,none⟩ (.bool b)) x (M.set k b):=by
 show _=_;rw[Mx h,List.map_set,List.setIfInBounds_toArray]
theorem Ko.grown{w w':World}{x:Nat}{M:List Bool}(h:Ko w x M){row:Option Nat}(hg:w.grownBy w' row)(hne:some x≠row):Ko w' x M:=(hg.block x (gl h) hne).trans h
theorem bH(w:World)(x k:Nat)(v:Value):w.grownBy (w.setCell ⟨x,k,none⟩ v) (some x) :=
 ⟨rfl,rfl,rfl,by simp[World.setCell],fun i _ hne=>Yz _ _ _ _ (fun e=>hne (by rw[show i=x from e]))⟩
def jf(x:Nat)(more:Bool)(M':List Bool)(w:World)(e:Ending)(w':World):Prop:=e=.returned (.bool more)/\Ko w' x M'/\w.grownBy w' (some x)
theorem qZ(x:Nat)(M:List Bool)(k:Nat)(b:Bool)(w:World)(hx:Ko w x M)(hk:k<M.length) :
  Calls Tryz.prog 160 #[.slice (some ⟨x,0,none⟩) M.length M.length,.int .i64 k,.bool b] w (jf x (b&&!Ff M k) (M.set k (Ff M k||b)) w):=by
 obtain⟨c1,c2⟩:=hx.at_ hk;have HG:=Lh (bH w x k (.bool (Ff M k||b)));have HX:=Lh (hx.set k (Ff M k||b));obtain⟨n,hn⟩:=Xe M.length;rw[<-hn] at hk |-;generalize hm:Ff M k=a at *;obtain⟨r1,Oi⟩:=Xe ((b&&!a));obtain⟨r2,hr2⟩:=Xe ((a||b));rw[<-Oi,<-hr2];rw[<-hr2] at HG HX;cases a <;> cases b <;> cases Oi <;> cases hr2
 all_goals
  go_enter Tryz.func160,Tryz.ntmps160;go_wp2_with fail;go_ret;exact⟨rfl,HX.o,HG.o⟩
theorem di(x b7 b3:Nat)(M:List Bool)(i j:Nat)(w:World)(hx:Ko w x M)(h7:w.cell? ⟨b7,0,none⟩=some (.func (.func 160) #[] #[]))(h3:w.cell? ⟨b3,0,none⟩=some (.slice (some ⟨x,0,none⟩) M.length M.length))(hi:i<M.length)(hj:j<M.length) :
  Calls Tryz.prog 162 #[.int .i64 i,.int .i64 j,.pointer (some ⟨b7,0,none⟩),.pointer (some ⟨b3,0,none⟩)] w (jf x (Ff M i&&!Ff M j) (M.set j (Ff M j||Ff M i)) w):=by
 obtain⟨c1,c2⟩:=hx.at_ hi;have HS:=Lh (qZ x M j (Ff M i) w.drew hx hj);obtain⟨n,hn⟩:=Xe M.length;rw[<-hn] at hi hj h3 HS;clear hn;go_enter Tryz.func162,Tryz.ntmps162;go_wp2_with fail;refine Text.wt (by kernel_rfl) fun Q' hQ'=>?_;go_wp2_with fail;refine HS.o.mono ?_;rintro e w' ⟨rfl,h1,h2⟩;go_wp2_with fail;refine⟨by rfl,?_⟩;go_wp2;go_ret;exact⟨rfl,h1,h2.os,h2.tape,h2.output,h2.size,h2.block⟩
theorem dh(x b7 b3:Nat)(M:List Bool)(i j:Nat)(w:World)(hx:Ko w x M)(h7:w.cell? ⟨b7,0,none⟩=some (.func (.func 160) #[] #[]))(h3:w.cell? ⟨b3,0,none⟩=some (.slice (some ⟨x,0,none⟩) M.length M.length))(hi:i<M.length)(hj:j<M.length) :
  Calls Tryz.prog 163 #[.int .i64 i,.int .i64 j,.pointer (some ⟨b7,0,none⟩),.pointer (some ⟨b3,0,none⟩)] w (jf x (Ff M j&&!Ff M i) (M.set i (Ff M i||Ff M j)) w):=by
 obtain⟨c1,c2⟩:=hx.at_ hj;have HS:=Lh (qZ x M i (Ff M j) w.drew hx hi);obtain⟨n,hn⟩:=Xe M.length;rw[<-hn] at hi hj h3 HS;clear hn;go_enter Tryz.func163,Tryz.ntmps163;go_wp2_with fail;refine Text.wt (by kernel_rfl) fun Q' hQ'=>?_;go_wp2_with fail;refine HS.o.mono ?_;rintro e w' ⟨rfl,h1,h2⟩;go_wp2_with fail;refine⟨by rfl,?_⟩;go_wp2;go_ret;exact⟨rfl,h1,h2.os,h2.tape,h2.output,h2.size,h2.block⟩
def qpZ(F:FuncId)(cap:Array Value)(x:Nat)(dir:Bool)(m:Kf)(w:World):Prop :=
 ∀(M:List Bool)(i:Nat)(e:Int×Int)(W:World),w.grownBy W (some x)->Ko W x M->M.length=m.length->i<m.length->e∈Md m i ->
  Calls Tryz.prog F (#[.int .i64 i,.int .i64 e.2]++cap) W (jf x (nY dir M i e) (eH dir M i e) W)
def zjW(dir:Bool)(m:Kf)(Inv:List Bool->Prop)(x:Nat)(w:World)(n:Nat)(e:Ending)(w':World):Prop:=∃ M,e=.returned (.slice (some ⟨x,0,none⟩) n n)/\w.grownBy w' (some x)/\Ko w' x M/\M.length=m.length/\Inv M/\∀ i<m.length,jZ dir M i (Md m i)
theorem nI(F:FuncId)(cap:Array Value)(x:Nat)(dir:Bool)(Inv:List Bool->Prop)(v:Value)(m:Kf)(N:Nat)(M0:List Bool)(w:World)(hv:Jb Jn w N v m)(hN:N<=x)(hN2:N<=w.heap.size)(hg:Wh m)
  (hF:∀(args:Array Value)(w:World),(callFunc F args).run Tryz.prog w=.ok (.enter F args) w) (hx:Ko w x M0) (hl:M0.length=m.length) (h0:Inv M0)
  (hi:∀(M:List Bool)(i:Nat)(e:Int×Int),i<m.length->e∈Md m i->Inv M->M.length=m.length->Ff M (rM dir i e)=true->Inv (M.set (Ls dir i e) true)) (hm:qpZ F cap x dir m w) :
  Calls Tryz.prog 161 #[v,.slice (some ⟨x,0,none⟩) m.length m.length,.func (.func F) #[] cap] w (zjW dir m Inv x w m.length):=by
 obtain⟨A,c,rfl,hc1,hc2⟩:=hv.form;unfold maxLen at hc2;have HV:=Lh hv;have HG:=Lh hg;have HI:=Lh hi;have HM:=Lh hm;clear hv hg hi hm;obtain⟨n,hn⟩:=Xe m.length;have HN:=Lh hn;rw[<-hn] at hc1 HV |-;clear hn;go_enter Tryz.func161,Tryz.ntmps161;go_wp2_with fail;have HW0:Hid (w.grownBy w (some x)):=⟨rfl,rfl,rfl,Xz _,fun _ _ _=>rfl⟩;have HX0:=Lh hx;clear hx;go_loopg [7] (uB M0+2) (fun left v7 wr=>∃(b:Bool)(M:List Bool),v7=.bool b/\uB M+(if b=true then 1 else 0)<=left/\Hid (w.grownBy wr (some x))/\Hid (Ko wr x M)/\Hid (M.length=m.length)/\Hid (Inv M)/\Hid (b=false->∀ i<m.length,jZ dir M i (Md m i)))
 exact⟨true,M0,rfl,by simp,HW0.o,HX0.o,hl,h0,fun h=>by cases h⟩;clear HX0 hl h0;obtain⟨b,M1,rfl,Vt,HW,HX,HL,HI0,HS⟩:=hrel;obtain⟨gas,Ue⟩:=Xe gk;rw[<-Ue] at Vt;have HGK:=Lh Ue;clear Ue;generalize wr=wo at *;cases b
 ·go_wp2_with fail;go_ret;exact⟨M1,rfl,HW.o,HX.o,HL.o,HI0.o,HS.o trivial⟩
 ·have HLEFT:=Lh Vt;clear Vt;go_wp2_with fail;go_loopg [7,15] n (fun lf v7 v15 wt=>∃(b:Bool)(M:List Bool)(i:Nat),v7=.bool b/\v15=.int .i64 i/\i<=n/\n - i<=lf/\Hid (w.grownBy wt (some x))/\Hid (Ko wt x M)/\Hid (gT dir m Inv M1 M b i 0));exact⟨false,M1,0,rfl,rfl,by omega,by omega,HW.o,HX.o,gT.start HL.o HI0.o⟩;clear HW HX HI0 HS;obtain⟨b,M,i,rfl,rfl,hi,hlf,HW,HX,HSP⟩:=hrel;obtain⟨qgZ,bD⟩:=Xe gk;rw[<-bD] at hlf;have HGK2:=Lh bD;clear bD;generalize wr=wp at *;by_cases Jo:i<n
  ·have Vq:i<m.length:=by rw[<-HN.o];exact Jo
   have hvp:Jb Jn wp N (.slice A n c) m:=HV.o.keep fun p hp=>World.cell?_of_block (HW.o.block p.block (by omega) (fun e=>by injection e with e;omega));obtain⟨b1,o1,cs,rfl,-,hb1,Zt,Zj⟩:=hvp.get Vq (by decide);obtain⟨u,rfl,hu,Sr,Fn⟩:=Mi Zt;obtain⟨A4,e4,rfl,oM,oL⟩:=hu.form;unfold maxLen at oL;have d0:=Zj 0 _ rfl;have d1:=Zj 1 _ rfl;clear Zj hvp;simp only[show Jn.size=2 from rfl,Yo,<-Yv] at d0 d1;have wR:=Lh (Al Vq);have HTO:=Lh (HG.o.tos i Vq);have HU:Hid (Jb Gg w N (.slice A4 (m[i]).2.length e4) (m[i]).2):=hu.keep fun p hp=>(World.cell?_of_block (HW.o.block p.block (by omega) (fun e=>by injection e with e;omega))).symm;have HMK:=Lh (fun(M:List Bool)(e:Int×Int)(W:World)(h1:w.grownBy W (some x))(h2:Ko W x M)(h3:M.length=m.length)(h4:e∈Md m i)=>HM.o M i e W h1 h2 h3 Vq h4);have HIV:=Lh (fun(M:List Bool)(e:Int×Int)(h4:e∈Md m i)=>HI.o M i e Vq h4);obtain⟨s,hs⟩:=Xe (m[i]);rw[<-hs] at d0 d1 wR HU oM Sr Fn;clear hs hu Zt;obtain⟨so,se⟩:=s;simp only at d0 d1 oM Sr Fn HU wR;obtain⟨q,hq⟩:=Xe se.length;have HQ:=Lh hq;rw[<-hq] at d1 oM HU;clear hq;have HW1:=Lh (HW.o.trans (World.grownBy_alloc wp (.cells #[.int .i64 so,.slice A4 q e4] 118) _));have HX1:=Lh (HX.o.grown (World.grownBy_alloc wp (.cells #[.int .i64 so,.slice A4 q e4] 118) none) (by simp));go_wp2_with fail;generalize wp.alloc (.cells #[.int .i64 so,.slice A4 q e4] 118)=wq at *;generalize wp.heap.size=b9 at *;clear HW HX;go_loopg [7,23] q (fun lf v7 v23 wt=>∃(b:Bool)(M:List Bool)(k:Nat),v7=.bool b/\v23=.int .i64 k/\k<=q/\q - k<=lf/\Hid (w.grownBy wt (some x))/\Hid (Ko wt x M)/\Hid (gT dir m Inv M1 M b i k));exact⟨b,M,0,rfl,rfl,by omega,by omega,HW1.o,HX1.o,HSP.o⟩;clear HW1 HX1 HSP d0 d1;obtain⟨b,M,k,rfl,rfl,hk,quP,HW,HX,HSP⟩:=hrel;obtain⟨gas3,qnP⟩:=Xe gk;rw[<-qnP] at quP;have HGK3:=Lh qnP;clear qnP;generalize wr=wt at *;by_cases hlk:k<q
   ·have Dl:k<se.length:=by rw[<-HQ.o];exact hlk
    have hut:Jb Gg wt N (.slice A4 q e4) se:=HU.o.keep fun p hp=>World.cell?_of_block (HW.o.block p.block (by omega) (fun e=>by injection e with e;omega));obtain⟨b2,o2,cs,rfl,-,Zy,Zt,Zj⟩:=hut.get Dl (by decide);obtain⟨rfl,qC,tP,pl,hy4⟩:=Nh Zt;have d0:=Zj 0 _ rfl;have d1:=Zj 1 _ rfl;clear Zj hut Zt;simp only[show Gg.size=2 from rfl,Yo,<-Yv] at d0 d1;have Uz:se[k]∈Md m i:=by rw[wR.o];exact Qg Dl
    have HAT:=Lh (show (Md m i)[k]? = some se[k] by rw[wR.o];exact Qa Dl);obtain⟨e,he⟩:=Xe (se[k]);rw[<-he] at d0 d1 qC tP pl hy4 HAT Uz;clear he;have zvJ:=Lh (HTO.o e Uz);have zwP:=Lh (fun M W h1 h2 h3=>HMK.o M e W h1 h2 h3 Uz);have zwS:=Lh (fun M=>HIV.o M e Uz);have HE:=Lh (HSP.o.edge HAT.o (by have:=zvJ.o;unfold Ls;split <;> omega) zwS.o);have HL3:=Lh HSP.o.len;clear Uz HAT HSP;obtain⟨et,en⟩:=e;simp only at d0 d1;have HW1:=Lh (HW.o.trans (World.grownBy_alloc wt (.cells #[.int .i64 et,.int .i64 en] 145) _));have HX1:=Lh (HX.o.grown (World.grownBy_alloc wt (.cells #[.int .i64 et,.int .i64 en] 145) none) (by simp));go_wp2_with fail;refine (zwP.o M _ HW1.o HX1.o HL3.o).mono ?_;rintro e w5 ⟨rfl,h5,h6⟩;have HW5:=Lh (HW1.o.trans h6);have HX5:=Lh h5;obtain⟨a,ha⟩:=Xe (nY dir M i (et,en));rw[<-ha] at HE |-;clear ha h5 h6;obtain⟨r,hr⟩:=Xe ((a||b));rw[<-hr] at HE;cases a <;> cases b <;> cases hr
    all_goals
     go_wp2_with fail;go_roundg (gk - 1);exact⟨_,_,k+1,rfl,by go_num,by omega,by have:=HGK3.o;omega,HW5.o,HX5.o,HE.o⟩;have:=HGK3.o;omega
   ·have hkq:k=q:=by omega
    subst hkq;have HNX:=Lh (gT.next (by rw[wR.o,<-HQ.o];exact HSP.o));clear HSP;go_wp2_with fail;go_roundg (qgZ - 1);exact⟨b,M,i+1,rfl,by go_num,by omega,by have:=HGK2.o;omega,HW.o,HX.o,HNX.o⟩;have:=HGK2.o;omega
  ·have Mq:i=n:=by omega
   have Up:=Lh (fun(h:b=false)=>gT.shutAll (by rw[<-HN.o];rw[h,Mq] at HSP;exact HSP.o));have HLE:=Lh HSP.o.le;have HMO:=Lh HSP.o.more;have HL4:=Lh HSP.o.len;have HI4:=Lh HSP.o.inv;subst Mq;clear HSP;go_wp2_with fail;go_roundg (gas - 1)
   case measure=>have:=HGK.o;have:=HLEFT.o;simp at this;omega
   case rel =>
    refine⟨b,M,rfl,?_,HW.o,HX.o,HL4.o,HI4.o,Up.o⟩;have h1:=HLEFT.o;have h2:=HGK.o;have h3:=HLE.o;have h4:=HMO.o;simp only[if_true] at h1;cases b
    ·simp only[Bool.false_eq_true,if_false];omega
    ·have:=h4 rfl;simp only[if_true];omega
theorem mi(v:Value)(terms Gq:Int)(es:List (Int×Int))(w:World)(hv:Jb Gg w w.heap.size v es) :
  Calls Tryz.prog 104 #[v,.int .i64 terms,.int .i64 Gq] w fun e w'=>e=.returned (.bool (Na terms Gq (-1) es))/\Below w.heap.size w w':=by
 obtain⟨A,c,rfl,hc1,hc2⟩:=hv.form;unfold maxLen at hc2;go_enter Tryz.func104,Tryz.ntmps104;go_wp2_with fail;go_loopw [7,12] (fun v7 v12 wr=>∃(k:Nat)(last:Int),k<=es.length/\v7=.int .i64 last/\v12=.int .i64 k/\Hid (Na terms Gq (-1) es=Na terms Gq last (es.drop k))/\Below w.heap.size w wr) (fun _ v12 _=>es.length - (intOf v12).toNat);exact⟨0,-1,by omega,rfl,rfl,rfl,Xr _ _⟩;obtain⟨k,last,hk,rfl,rfl,HI,hbr⟩:=hrel;have Fd:=hbr.size;by_cases Jo:k<es.length
 ·obtain⟨eb,eo,cs,rfl,_,heb,Us,Zj⟩:=(hv.below hbr).get Jo (by decide);obtain⟨rfl,q1,q2,q3,q4⟩:=Nh Us;have f0:=Zj 0 _ rfl;have f1:=Zj 1 _ rfl;clear Zj Us;simp only[show Gg.size=2 from rfl,Yo,<-Yv] at f0 f1;have HS:Hid (Na terms Gq last (es.drop k)=(decide (last<es[k].1)&&decide (es[k].1<terms)&&decide (0<=es[k].2)&&decide (es[k].2<Gq)&&Na terms Gq es[k].1 (es.drop (k+1)))):=by
   show _=_;rw[Ql Jo];rfl
  obtain⟨x,hx⟩:=Xe (es[k]);rw[<-hx] at f0 f1 q1 q2 q3 q4 HS;clear hx;obtain⟨t,u⟩:=x;simp only at f0 f1 q1 q2 q3 q4;obtain⟨b1,hb1⟩:∃ b:Bool,decide (t<=last)=b:=⟨_,rfl⟩;obtain⟨b2,Zy⟩:∃ b:Bool,decide (terms<=t)=b:=⟨_,rfl⟩;obtain⟨b3,hb3⟩:∃ b:Bool,decide (u<0)=b:=⟨_,rfl⟩;obtain⟨b4,hb4⟩:∃ b:Bool,decide (Gq<=u)=b:=⟨_,rfl⟩;have HR:Hid (Na terms Gq last (es.drop k)=(!b1&&!b2&&!b3&&!b4&&Na terms Gq t (es.drop (k+1)))):=by
   show _=_;rw[HS.o,<-hb1,<-Zy,<-hb3,<-hb4];simp only[<-decide_not,Int.not_le,Int.not_lt]
  clear HS;have HB:=Lh (hbr.alloc Fd (.cells #[.int .i64 t,.int .i64 u] 145));cases b1 <;> cases b2 <;> cases b3 <;> cases b4
  case false.false.false.false =>
   go_wp2_with fail;go_roundw;exact⟨k+1,t,by omega,rfl,by go_num,by show _=_;rw[HI.o,HR.o];rfl,HB.o⟩;simp[intOf];omega
  all_goals
   go_wp2_with fail;go_ret;exact⟨Kd (Zm (by rw[HI.o,HR.o];rfl)),HB.o⟩
 ·have Dl:k=es.length:=by omega
  subst Dl;have HT:Hid (Na terms Gq last (es.drop es.length)=true):=by
   show _=_;rw[List.drop_length];rfl
  go_wp2_with fail;go_ret;exact⟨Kd (Zm (by rw[HI.o,HT.o])),hbr⟩
def Si(terms:Int)(n:Nat)(l:List Sta):Bool:=l.all fun s=>decide (-1<=s.1)&&Na terms n (-1) s.2
theorem qcX(m:Kf)(terms:Int):Uj m terms=(Si terms m.length m&&decide (m≠[])):=rfl
theorem qY(v:Value)(terms:Int)(m:Kf)(w:World)(hv:Jb Jn w w.heap.size v m) :
  Calls Tryz.prog 48 #[v,.int .i64 terms] w fun e w'=>e=.returned (.bool (Uj m terms))/\Below w.heap.size w w':=by
 obtain⟨A,c,rfl,hc1,hc2⟩:=hv.form;unfold maxLen at hc2;have HE:=Lh (qcX m terms);go_enter Tryz.func48,Tryz.ntmps48;go_wp2_with fail;go_loopw [9] (fun v9 wr=>∃ k:Nat,k<=m.length/\v9=.int .i64 k/\Hid (Si terms m.length m=Si terms m.length (m.drop k))/\Below w.heap.size w wr) (fun v9 _=>m.length - (intOf v9).toNat);exact⟨0,by omega,rfl,rfl,Xr _ _⟩;obtain⟨k,hk,rfl,HI,hbr⟩:=hrel;have Fd:=hbr.size;by_cases Jo:k<m.length
 ·obtain⟨ab,ao,cs,rfl,_,Aj,Zt,Zj⟩:=(hv.below hbr).get Jo (by decide);obtain⟨u,rfl,hu,Sr,Fn⟩:=Mi Zt;have c0:=Zj 0 _ rfl;have c1:=Zj 1 _ rfl;clear Zj Zt;simp only[show Jn.size=2 from rfl,Yo,<-Yv] at c0 c1;have HS:Hid (Si terms m.length (m.drop k)=((decide (-1<=m[k].1)&&Na terms m.length (-1) m[k].2)&&Si terms m.length (m.drop (k+1)))):=by
   show _=_;rw[Ql Jo];rfl
  obtain⟨x,hx⟩:=Xe (m[k]);rw[<-hx] at c0 hu Sr Fn HS;clear hx;obtain⟨o,es⟩:=x;simp only at c0 c1 hu Sr Fn;have HB:=Lh (hbr.alloc Fd (.cells #[.int .i64 o,u] 118));have HU:=Lh (hu.fut (B':=(wr.alloc (.cells #[.int .i64 o,u] 118)).heap.size) ((Xr wr.heap.size wr).alloc (Xz _) (.cells #[.int .i64 o,u] 118)) (by omega) (by simp;omega));obtain⟨A4,e4,rfl,hq1,tt⟩:=hu.form;obtain⟨b1,hb1⟩:∃ b:Bool,decide (o < -1)=b:=⟨_,rfl⟩;have qoD:decide (-1<=o)=!b1:=by simp only[<-hb1,<-decide_not,Int.not_lt]
  cases b1
  ·go_wp2_with fail;refine (mi _ terms m.length es _ HU.o).mono ?_;rintro e w2 ⟨rfl,Zy⟩;have HB2:=Lh (HB.o.trans (Zy.mono (by simp;omega)));clear Zy;cases hr:Na terms m.length (-1) es with
   |false =>
    have HF:Hid (Si terms m.length m=false):=by
     show _=_;rw[HI.o,HS.o];simp only[hr,Bool.and_false,Bool.false_and]
    clear hr;go_wp2_with fail;go_ret;exact⟨Kd (Zm (by rw[HE.o,HF.o];rfl)),HB2.o⟩
   |true =>
    have HF:Hid (Si terms m.length m=Si terms m.length (m.drop (k+1))):=by
     show _=_;rw[HI.o,HS.o];simp only[hr,qoD,Bool.not_false,Bool.true_and]
    clear hr;go_wp2_with fail;go_roundw;exact⟨k+1,by omega,by go_num,HF.o,HB2.o⟩;simp[intOf];omega
  ·have HF:Hid (Si terms m.length m=false):=by
    show _=_;rw[HI.o,HS.o];simp only[qoD,Bool.not_true,Bool.false_and]
   go_wp2_with fail;go_ret;exact⟨Kd (Zm (by rw[HE.o,HF.o];rfl)),HB.o⟩
 ·have Dl:k=m.length:=by omega
  subst Dl;have HF:Hid (Si terms m.length m=true):=by
   show _=_;rw[HI.o,List.drop_length];rfl
  by_cases h0:m.length=0
  ·have HN:Hid (decide (m≠[])=false):=by
    show _=_;rw[Xv h0];rfl
   have HG:=Lh (show decide (0<m.length)=false by rw[h0];rfl);have hg:decide ((0:Int)<(m.length:Int))=false:=by rw[h0];rfl
   clear h0;go_wp2_with fail;go_ret;exact⟨Kd (Zm (by rw[HE.o,HF.o,HN.o];exact HG.o)),hbr⟩
  ·have HN:Hid (decide (m≠[])=true):=by
    show _=_;rw[Yi];exact fun e=>h0 (by rw[e];rfl)
   have HG:=Lh (show decide (0<m.length)=true by rw[Yi];omega);have hg:decide ((0:Int)<(m.length:Int))=true:=by rw[Yi];omega
   go_wp2_with fail;go_ret;exact⟨Kd (Zm (by rw[HE.o,HF.o,HN.o];exact HG.o)),hbr⟩
abbrev Zq:=List (Int×List Int)
abbrev Zu:=List (List Wd)
def tb(s:Int):UInt8:=UInt8.ofNat (-1 - s).toNat
def Tp(k:Int)(a b:List Wd):List Wd:=a.flatMap fun x=>b.map fun y=>(x++y).take k.toNat
def Eb(k:Int)(a b:List Wd):Option (List Wd):=if (Uy (Tp k a b)).length<=4096 then some (Uy (Tp k a b)) else none
def Rn(sets:Zu)(s:Int):Option (List Wd):=if s<0 then (if -256<=s then some [[tb s]] else none) else sets[s.toNat]?
def Ng(sets:Zu)(k:Int):List Wd->List Int->Option (List Wd)
 |acc,[]=>some acc
 |acc,s::l=>(Rn sets s).bind fun x=>(Eb k acc x).bind fun o=>Ng sets k o l
def lM(sets:Zu)(k:Int)(syms:List Int):Option (List Wd):=Ng sets k [[]] syms
def Kt(a b:List Wd):List Wd:=Uy (a++b)
inductive RoundsTo{σ:Type}(f:σ->Option (σ×Bool)):σ->Option σ->Prop
 |fail {s}:f s=none->RoundsTo f s none
 |done {s s'}:f s=some (s',false)->RoundsTo f s (some s')
 |more {s s' o}:f s=some (s',true)->RoundsTo f s' o->RoundsTo f s o
theorem RoundsTo.det{σ:Type}{f:σ->Option (σ×Bool)}{s:σ}{o:Option σ}(h:RoundsTo f s o):∀{o'},RoundsTo f s o'->o=o':=by
 induction h with
 |fail e=>intro o' h';cases h' with
  |fail _=>rfl
  |done e'=>rw[e] at e';cases e'
  |more e' _=>rw[e] at e';cases e'
 |done e=>intro o' h';cases h' with
  |fail e'=>rw[e] at e';cases e'
  |done e'=>rw[e] at e';cases e';rfl
  |more e' _=>rw[e] at e';cases e'
 |more e _ ih=>intro o' h';cases h' with
  |fail e'=>rw[e] at e';cases e'
  |done e'=>rw[e] at e';cases e'
  |more e' h=>rw[e] at e';cases e';exact ih h
theorem RoundsTo.inv{σ:Type}{f:σ->Option (σ×Bool)}(P:σ->Prop)(hp:∀ s s' g,P s->f s=some (s',g)->P s'){s:σ}{o:Option σ}(h:RoundsTo f s o):P s->∀ s',o=some s'->P s'/\∃ t,P t/\f t=some (s',false):=by
 induction h with
 |fail e=>intro _ s' h;cases h
 |done e=>intro h s' e2;cases e2;exact⟨hp _ _ _ h e,_,h,e⟩
 |more e _ ih=>intro h s' e2;exact ih (hp _ _ _ h e) s' e2
def Et(k:Int)(sets:Zu)(r:Int×List Int):Option (Zu×Bool) :=
 (lM sets k r.2).bind fun x =>
  if (Kt (sets.getD r.1.toNat []) x).length<=4096 then some (sets.set r.1.toNat (Kt (sets.getD r.1.toNat []) x),decide ((sets.getD r.1.toNat []).length<(Kt (sets.getD r.1.toNat []) x).length)) else none
def Fy(k:Int):Zq->Zu×Bool->Option (Zu×Bool)
 |[],p=>some p
 |r::rs,p=>(Et k p.1 r).bind fun q=>Fy k rs (q.1,p.2||q.2)
def Mn(k:Int)(rs:Zq)(s:Zu):Option (Zu×Bool):=Fy k rs (s,false)
def Fq(k:Int)(rs:Zq)(n:Nat)(o:Option Zu):Prop:=RoundsTo (Mn k rs) (List.replicate n []) o
def Kg(sets fol:Zu)(k:Int)(r:Int×List Int)(at_:Int):Option (List Wd) :=
 if at_ < -1\/(r.2.length:Int)<=at_\/r.1<0\/(fol.length:Int)<=r.1 then none
 else (lM sets k (r.2.drop (at_+1).toNat)).bind fun x=>Eb k x (fol.getD r.1.toNat [])
structure El where
 fol:Zu
 grown:Bool
 limit:Bool
def Vr(sets:Zu)(k:Int)(r:Int×List Int)(at_:Nat)(p:El):El :=
 match Kg sets p.fol k r at_ with
 |none=>⟨p.fol,p.grown,true⟩
 |some x=>if r.2.getD at_ 0<0 then p else
   let a:=(r.2.getD at_ 0).toNat
   ⟨p.fol.set a (Kt (p.fol.getD a []) x),p.grown||decide ((p.fol.getD a []).length<(Kt (p.fol.getD a []) x).length),p.limit||decide (4096<(Kt (p.fol.getD a []) x).length)⟩
def Vs(sets:Zu)(k:Int)(r:Int×List Int):Nat->Nat->El->El
 |0,_,p=>p
 |n+1,at_,p=>Vs sets k r n (at_+1) (Vr sets k r at_ p)
def Wb(sets:Zu)(k:Int):Zq->El->El
 |[],p=>p
 |r::rs,p=>Wb sets k rs (Vs sets k r r.2.length 0 p)
def Gy(sets:Zu)(k:Int)(rs:Zq)(fol:Zu):Option (Zu×Bool) :=
 let p:=Wb sets k rs ⟨fol,false,false⟩
 if p.limit then none else some (p.fol,p.grown)
def Du(sets:Zu)(k:Int)(rs:Zq)(n:Nat)(o:Option Zu):Prop:=RoundsTo (Gy sets k rs) ((List.replicate n []).set 0 [[]]) o
def Mo(sets fol:Zu)(k:Int):Zq->Option Zu
 |[]=>some []
 |r::rs=>(Kg sets fol k r (-1)).bind fun x=>(Mo sets fol k rs).map (x::·)
inductive Der(rs:Zq):List Int->Wd->Prop
 |nil:Der rs [] []
 |term {s l w} (hs:s<0) (h:Der rs l w):Der rs (s::l) (tb s::w)
 |nont {a l r u v} (ha:0<=a) (hr:(a,r)∈rs) (h1:Der rs r u) (h2:Der rs l v):Der rs (a::l) (u++v)
inductive Fol(rs:Zq):Int->Wd->Prop
 |start:Fol rs 0 []
 |step {a r l1 b l2 u v} (hr:(a,r)∈rs) (e:r=l1++b::l2) (hb:0<=b) (h1:Der rs l2 u) (h2:Fol rs a v):Fol rs b (u++v)
theorem Lg(k:Nat)(u v:Wd):(u.take k++v.take k).take k=(u++v).take k:=by
 rw[List.take_append,List.take_append,List.take_take,List.take_take,Qq];congr 1
 ·simp
 ·rcases Nat.le_total k u.length with h | h
  ·rw[Nat.min_eq_left h];simp[Nat.sub_eq_zero_of_le h]
  ·rw[Nat.min_eq_right h,Nat.min_eq_left (Nat.sub_le _ _)]
theorem Bi(k:Nat)(u v:Wd):(u.take k++v).take k=(u++v).take k:=by
 rw[<-Lg k (u.take k) v,List.take_take,Nat.min_self,Lg]
theorem rI(k:Nat)(u v:Wd):(u++v.take k).take k=(u++v).take k:=by
 rw[<-Lg k u (v.take k),List.take_take,Nat.min_self,Lg]
theorem Dz{k:Int}{a b:List Wd}{z:Wd}:z∈Tp k a b↔∃ x∈a,∃ y∈b,z=(x++y).take k.toNat:=by
 unfold Tp;simp only[Xt,Xa];constructor
 ·rintro⟨x,hx,y,hy,rfl⟩;exact⟨x,hx,y,hy,rfl⟩
 ·rintro⟨x,hx,y,hy,rfl⟩;exact⟨x,hx,y,hy,rfl⟩
theorem Fm{k:Int}{a b o:List Wd}(h:Eb k a b=some o){z:Wd}:z∈o↔∃ x∈a,∃ y∈b,z=(x++y).take k.toNat:=by
 unfold Eb at h;split at h
 ·injection h with h;subst h;rw[Dw,Dz]
 ·cases h
theorem qpA{k:Int}{a b o:List Wd}(h:Eb k a b=some o):pW o:=by
 unfold Eb at h;split at h
 ·injection h with h;subst h;exact Bd _
 ·cases h
def bR(rs:Zq)(k:Nat)(sets:Zu):Prop:=∀(a:Nat)(s:List Wd),sets[a]? = some s->∀ x∈s,∃ r u,((a:Int),r)∈rs/\Der rs r u/\x=u.take k
theorem iU{rs:Zq}{k:Nat}{sets:Zu}(hs:bR rs k sets):∀(syms:List Int)(acc out:List Wd),(∀ x∈acc,x.take k=x)->Ng sets k acc syms=some out->∀ z∈out,∃ x∈acc,∃ u,Der rs syms u/\z=(x++u).take k
 |[],acc,out,hk,h,z,hz=>by
  injection h with h;subst h;exact⟨z,hz,[],.nil,by rw[List.append_nil,hk z hz]⟩
 |s::l,acc,out,hk,h,z,hz=>by
  simp only[Ng] at h;cases h1:Rn sets s with
  |none=>rw[h1] at h;cases h
  |some x1 =>
   rw[h1,Option.bind_some] at h;cases h2:Eb (k:Int) acc x1 with
   |none=>rw[h2] at h;cases h
   |some o =>
    rw[h2,Option.bind_some] at h;obtain⟨y,hy,u,hu,rfl⟩:=iU hs l o out (fun x hx=>by obtain⟨_,_,_,_,rfl⟩:=(Fm h2).1 hx;simp[List.take_take]) h z hz;obtain⟨p,hp,q,hq,rfl⟩:=(Fm h2).1 hy;simp only[Yw];rw[Bi];unfold Rn at h1;split at h1
    ·rename_i tS;split at h1
     ·injection h1 with h1;subst h1;rw[Qi] at hq;subst hq;exact⟨p,hp,tb s::u,.term tS hu,by simp⟩
     ·cases h1
    ·rename_i Dh;obtain⟨r,v,hr,hv,rfl⟩:=hs _ _ h1 q hq;rw[Int.toNat_of_nonneg (by omega)] at hr;refine⟨p,hp,v++u,.nont (by omega) hr hv hu,?_⟩;rw[<-Bi k (p++v.take k),rI,Bi,Xd]
theorem zS{rs:Zq}{k:Nat}{sets:Zu}(hs:bR rs k sets){syms:List Int}{out:List Wd}(h:lM sets k syms=some out){z:Wd}(hz:z∈out):∃ u,Der rs syms u/\z=u.take k:=by
 obtain⟨x,hx,u,hu,e⟩:=iU hs syms [[]] out (fun x hx=>by rw[Qi] at hx;subst hx;simp) h z hz;rw[Qi] at hx;subst hx;exact⟨u,hu,by simpa using e⟩
def kK(rs:Zq)(k:Nat)(sets:Zu):Prop:=∀ a r,(a,r)∈rs->0<=a->∃ x s,lM sets k r=some x/\sets[a.toNat]? = some s/\∀ y∈x,y∈s
theorem og{rs:Zq}{k:Nat}{sets:Zu}(hc:kK rs k sets){syms:List Int}{u:Wd}(h:Der rs syms u):∀(acc out:List Wd),Ng sets k acc syms=some out->(∀ x∈acc,x.take k=x)->∀ x∈acc,(x++u).take k∈out:=by
 induction h with
 |nil =>
  intro acc out h hk x hx;injection h with h;subst h;rw[List.append_nil,hk x hx];exact hx
 |@term s l w hs hd ih =>
  intro acc out h hk x hx;simp only[Ng] at h;cases h1:Rn sets s with
  |none=>rw[h1] at h;cases h
  |some x1 =>
   rw[h1,Option.bind_some] at h;cases h2:Eb (k:Int) acc x1 with
   |none=>rw[h2] at h;cases h
   |some o =>
    rw[h2,Option.bind_some] at h;unfold Rn at h1;rw[if_pos hs] at h1;split at h1
    ·injection h1 with h1;subst h1;have hm:(x++[tb s]).take k∈o:=(Fm h2).2 ⟨x,hx,[tb s],by simp,by simp⟩;have:=ih o out h (fun x hx=>by obtain⟨_,_,_,_,rfl⟩:=(Fm h2).1 hx;simp[List.take_take]) _ hm;rw[Bi,Xd] at this;exact this
    ·cases h1
 |@nont a l r u v ha hr h1' h2' ih1 ih2 =>
  intro acc out h hk x hx;simp only[Ng] at h;cases h1:Rn sets a with
  |none=>rw[h1] at h;cases h
  |some x1 =>
   rw[h1,Option.bind_some] at h;cases h2:Eb (k:Int) acc x1 with
   |none=>rw[h2] at h;cases h
   |some o =>
    rw[h2,Option.bind_some] at h;unfold Rn at h1;rw[if_neg (by omega)] at h1;obtain⟨xr,s,e1,e2,e3⟩:=hc a r hr ha;rw[e2] at h1;injection h1 with h1;subst h1;have hu:=ih1 [[]] xr e1 (fun x hx=>by rw[Qi] at hx;subst hx;simp) [] (by simp);rw[List.nil_append] at hu;have hm:(x++u.take k).take k∈o:=(Fm h2).2 ⟨x,hx,u.take k,e3 _ hu,by simp⟩;have:=ih2 o out h (fun x hx=>by obtain⟨_,_,_,_,rfl⟩:=(Fm h2).1 hx;simp[List.take_take]) _ hm;rw[rI,Bi,Xd] at this;exact this
theorem qlM{rs:Zq}{k:Nat}{sets:Zu}(hc:kK rs k sets){syms:List Int}{u:Wd}(h:Der rs syms u){out:List Wd}(ho:lM sets k syms=some out):u.take k∈out:=by
 have:=og hc h [[]] out ho (fun x hx=>by rw[Qi] at hx;subst hx;simp) [] (by simp);simpa using this
end Go.Proofs.YtmaojnmnbpomeaaGreatDoor
