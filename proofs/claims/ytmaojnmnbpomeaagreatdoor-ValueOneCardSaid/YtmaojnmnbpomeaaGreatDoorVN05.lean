/- A part. -/
import Derived.Test.YtmaojnmnbpomeaaGreatDoorVN04
import Derived.Deep.LoopGhost
set_option maxRecDepth 100000
set_option maxHeartbeats 64000000
namespace Go.Proofs.YtmaojnmnbpomeaaGreatDoor
open Go.RowKit
variable{again dir:Bool}{t:Int}{e:Int×Int}{es:List (Int×Int)}{M M0:List Bool}{Inv:List Bool->Prop}{syms:List Int}{q q0:List Nat}{cs:List Value}{out:List Wd}{B d i j k n x:Nat}{f use:Nat->Bool}{c:Nat->Int}{P:Nat->Prop}{σ:Type}{z:Wd}{w':World}
abbrev qbU:=List (Int×List (Int×Int))
def Ju:gX (Int×List (Int×Int)):=Cx Wg (Tw Rc)
theorem Mr{w:World}{r:Int×List (Int×Int)}(h:Ju.rep w B cs r):∃v,cs=[.int .i64 r.1,v]/\Je Rc w B v r.2/\-9223372036854775808<=r.1/\r.1<=9223372036854775807:=by
 obtain⟨c1,c2,rfl,⟨rfl,h1,h2⟩,v,rfl,hs⟩:=h;exact⟨v,rfl,hs,h1,h2⟩
theorem Nr{w:World}{r:Int×Int}(h:Rc.rep w B cs r):cs=[.int .i64 r.1,.int .i64 r.2]/\-9223372036854775808<=r.1/\r.1<=9223372036854775807/\-9223372036854775808<=r.2/\r.2<=9223372036854775807:=by
 obtain⟨c1,c2,rfl,⟨rfl,h1,h2⟩,rfl,h3,h4⟩:=h;exact⟨rfl,h1,h2,h3,h4⟩
abbrev Sta:=Int×List (Int×Int)
abbrev Kj:=List Sta
def No(m:Kj)(k:Nat):Int:=(m.getD k (0,[])).1
def Mm(m:Kj)(k:Nat):List (Int×Int):=(m.getD k (0,[])).2
def Di(m:Kj)(k:Nat)(sym:Int):Option Nat:=match (m.getD k (0,[])).2.find? (fun e=>decide (e.1=sym))with
 |some e=>if 0<=e.2/\e.2<m.length then some e.2.toNat else none
 |none=>none
def fI(m:Kj):Nat->List Int->Option Nat
 |k,[]=>some k
 |k,b::r=>match Di m k b with|some j=>fI m j r|none=>none
def Md(m:Kj)(k:Nat)(l:List Int):Int:=match fI m k l with|some j=>No m j|none=>-1
theorem nG(m:Kj)(k:Nat):Md m k []=No m k:=rfl
theorem Wb(m:Kj)(k:Nat)(b:Int)(r:List Int):Md m k (b::r)=match Di m k b with|some j=>Md m j r|none=>-1:=by
 simp only[Md,fI];cases Di m k b <;> rfl
def Nk(terms Ro:Int):Int->List (Int×Int)->Bool
 |_,[]=>true
 |last,e::r=>decide (last<e.1)&&decide (e.1<terms)&&decide (0<=e.2)&&decide (e.2<Ro)&&Nk terms Ro e.1 r
def Uy(m:Kj)(terms:Int):Bool:=m.all (fun s=>decide (-1<=s.1)&&Nk terms m.length (-1) s.2)&&decide (m≠[])
theorem Pz{t s:Int}:∀{l:List (Int×Int)}{last:Int},Nk t s last l=true->(∀e∈l,last<e.1/\e.1<t/\0<=e.2/\e.2<s)/\l.Pairwise (fun a b=>a.1<b.1)
 |[],_,_=>⟨by simp,List.Pairwise.nil⟩
 |e::r,last,h=>by
  simp only[Nk,Ym,Yk]at h;obtain⟨⟨⟨⟨h1,h2⟩,h3⟩,h4⟩,h5⟩:=h;obtain⟨g1,g2⟩:=Pz h5;refine⟨fun x hx=>?_,Qx.2 ⟨fun x hx=>(g1 x hx).1,g2⟩⟩;rcases List.mem_cons.1 hx with rfl|hx
  .exact⟨h1,h2,h3,h4⟩
  obtain⟨k1,k2,k3,k4⟩:=g1 x hx;exact⟨by omega,k2,k3,k4⟩
theorem bz{t s:Int}:∀{l:List (Int×Int)}{last:Int},(∀e∈l,last<e.1/\e.1<t/\0<=e.2/\e.2<s)->l.Pairwise (fun a b=>a.1<b.1)->Nk t s last l=true
 |[],_,_,_=>rfl
 |e::r,last,h1,h2=>by
  obtain⟨k1,k2,k3,k4⟩:=h1 e (Xi ..);obtain⟨g1,g2⟩:=Qx.1 h2;simp only[Nk,Ym,Yk];refine⟨⟨⟨⟨k1,k2⟩,k3⟩,k4⟩,bz (fun x hx=>?_) g2⟩;obtain⟨k1',k2',k3',k4'⟩:=h1 x (Xj _ hx);exact⟨g1 x hx,k2',k3',k4'⟩
structure Wz(m:Kj):Prop where
 some:m≠[]
 o:∀k<m.length,-1<=No m k
 tos:∀k<m.length,∀e∈Mm m k,0<=e.1/\0<=e.2/\e.2<m.length
 rise:∀k<m.length,(Mm m k).Pairwise (fun a b=>a.1<b.1)
theorem Cm{m:Kj}(h:k<m.length):No m k=m[k].1:=by
 unfold No;rw[Qb,Qa h];rfl
theorem Bi{m:Kj}(h:k<m.length):Mm m k=m[k].2:=by
 unfold Mm;rw[Qb,Qa h];rfl
theorem Gp{m:Kj}(h:Uy m t=true):Wz m:=by
 unfold Uy at h;simp only[Ym,Xq,Yk]at h;obtain⟨h1,h2⟩:=h;refine⟨h2,fun k hk=>?_,fun k hk e he=>?_,fun k hk=>?_⟩
 .rw[Cm hk];exact (h1 _ (Qg hk)).1
 .rw[Bi hk]at he;obtain⟨a,b,c,d⟩:=(Pz (h1 _ (Qg hk)).2).1 e he;exact⟨by omega,c,d⟩
 rw[Bi hk];exact (Pz (h1 _ (Qg hk)).2).2
theorem zc{m:Kj}(h:Uy m t=true)(hk:k<m.length)(he:e∈Mm m k):e.1<t:=by
 unfold Uy at h;simp only[Ym,Xq,Yk]at h;rw[Bi hk]at he;exact ((Pz (h.1 _ (Qg hk)).2).1 e he).2.1
theorem jB{m:Kj}(h:Wz m)(ht:∀k<m.length,∀e∈Mm m k,e.1<t):Uy m t=true:=by
 unfold Uy;simp only[Ym,Xq,Yk];refine⟨fun s hs=>?_,h.some⟩;obtain⟨k,hk,rfl⟩:=Qz hs;refine⟨by rw[<-Cm hk];exact h.o k hk,bz (fun e he=>?_) ?_⟩
 .rw[<-Bi hk]at he;obtain⟨a,b,c⟩:=h.tos k hk e he;exact⟨by omega,ht k hk e he,b,c⟩
 rw[<-Bi hk];exact h.rise k hk
theorem qjK{l:List (Int×Int)}(h:l.Pairwise (fun a b=>a.1<b.1))(he:e∈l):l.find? (fun x=>decide (x.1=e.1))=some e:=by
 induction l with
 |nil=>cases he
 |cons a r ih =>
  obtain⟨g1,g2⟩:=Qx.1 h;rcases List.mem_cons.1 he with rfl|he
  .rw[List.find?_cons_of_pos (by simp)]
  rw[List.find?_cons_of_neg (by have:=g1 e he;simp only[Yk];omega)];exact ih g2 he
theorem Wh{m:Kj}(hg:Wz m)(hk:k<m.length)(t:Int)(j:Nat):Di m k t=some j↔(t,(j:Int))∈Mm m k:=by
 have hr:=hg.rise k hk;have ht:=hg.tos k hk;unfold Di;unfold Mm at hr ht |-;constructor
 .intro h;split at h
  .rename_i e he;split at h
   .rename_i h2;have h3:=List.mem_of_find?_eq_some he;have h4:=List.find?_some he;simp only[Yk]at h4;injection h with h;have:e=(t,(j:Int)):=Prod.ext h4 (by show e.2=(j:Int);omega)
    rwa [<-this]
   cases h
  cases h
 intro h;have h2:=qjK hr h;simp only at h2;rw[h2];have h3:=(ht _ h).2;simp only at h3 |-;rw[if_pos h3];simp
theorem Dq{m:Kj}(h:Di m k t=some j):j<m.length:=by
 unfold Di at h;split at h
 .split at h
  .cases h;omega
  cases h
 cases h
theorem pP(m:Kj):∀(a b:List Int)(k:Nat),fI m k (a++b)=(fI m k a).bind fun j=>fI m j b
 |[],_,_=>rfl
 |x::r,b,k=>by
  simp only[List.cons_append,fI];cases Di m k x with
  |none=>rfl
  |some j=>exact pP m r b j
theorem zp{m:Kj}:∀{l:List Int}{k j:Nat},k<m.length->fI m k l=some j->j<m.length
 |[],k,j,hk,h=>by unfold fI at h;cases h;exact hk
 |b::r,k,j,hk,h=>by
  unfold fI at h;split at h
  .rename_i i hi;exact zp (Dq hi) h
  cases h
def Pg(m:Kj)(i:Nat):Prop:=∃l,fI m 0 l=some i
def mB(m:Kj)(i:Nat):Prop:=∃l,Md m i l≠-1
def Rg(m:Kj)(i j:Nat):Prop:=∀l,Md m i l=Md m j l
def dT(m:Kj)(i:Nat):Prop:=Pg m i/\mB m i
theorem Rq{m:Kj}(hg:Wz m)(h:Pg m i):i<m.length:=by
 obtain⟨l,hl⟩:=h;exact zp (Qy.2 hg.some) hl
theorem Ch(m:Kj):Pg m 0:=⟨[],rfl⟩
theorem Ci{m:Kj}(hg:Wz m)(h:Pg m i)(he:e∈Mm m i):Pg m e.2.toNat:=by
 have hi:=Rq hg h;obtain⟨l,hl⟩:=h;have h2:=(hg.tos i hi e he).2;have h3:Di m i e.1=some e.2.toNat:=(Wh hg hi e.1 e.2.toNat).2 (by rw[show ((e.2.toNat:Nat):Int)=e.2 by omega];exact he);refine⟨l++[e.1],?_⟩;rw[pP,hl];simp only[Option.bind_some,fI,h3]
theorem zw{m:Kj}(hg:Wz m)(h0:P 0)(hc:∀i<m.length,P i->∀e∈Mm m i,P e.2.toNat):∀{i:Nat},Pg m i->P i:=by
 intro i ⟨l,hl⟩;have key:∀(l:List Int)(k:Nat),k<m.length->P k->fI m k l=some i->P i:=by
  intro l
  induction l with
  |nil=>intro k _ hp h;unfold fI at h;cases h;exact hp
  |cons b r ih =>
   intro k hk hp h;unfold fI at h;split at h
   .rename_i j hj;have h1:=(Wh hg hk b j).1 hj;have:=hc k hk hp _ h1;simp only[Yz]at this;exact ih j (Dq hj) this h
   cases h
 exact key l 0 (Qy.2 hg.some) h0 hl
theorem zh{m:Kj}(hg:Wz m)(hi:i<m.length)(he:e∈Mm m i)(h:mB m e.2.toNat):mB m i:=by
 obtain⟨l,hl⟩:=h;have h2:=(hg.tos i hi e he).2;have h3:Di m i e.1=some e.2.toNat:=(Wh hg hi e.1 e.2.toNat).2 (by rw[show ((e.2.toNat:Nat):Int)=e.2 by omega];exact he);refine⟨e.1::l,?_⟩;rw[Wb,h3];exact hl
theorem qfK{m:Kj}(h:0<=No m i):mB m i:=⟨[],by rw[nG];omega⟩
theorem zg{m:Kj}(hg:Wz m)(h0:∀i<m.length,0<=No m i->P i)(hc:∀i<m.length,∀e∈Mm m i,P e.2.toNat->P i):∀{i:Nat},i<m.length->mB m i->P i:=by
 intro i hi ⟨l,hl⟩
 induction l generalizing i with
 |nil =>
  rw[nG]at hl;have:=hg.o i hi;exact h0 i hi (by omega)
 |cons b r ih =>
  rw[Wb]at hl;split at hl
  .rename_i j hj;have h1:=(Wh hg hi b j).1 hj;exact hc i hi _ h1 (by simp only[Yz];exact ih (Dq hj) hl)
  exact absurd rfl hl
theorem rA{m:Kj}(h:Rg m i j)(t:Int)(r:List Int):(match Di m i t with|some x=>Md m x r|none=>-1)=(match Di m j t with|some x=>Md m x r|none=>-1):=by
 have:=h (t::r)
 rwa [Wb,Wb]at this
theorem dh{m:Kj}(h:¬ mB m i)(l:List Int):Md m i l=-1:=Classical.byContradiction fun h2=>h ⟨l,h2⟩
theorem Th{m:Kj}(h:Rg m i j):Rg m j i:=fun l=>(h l).symm
def Sn(m:Kj)(use:Nat->Bool)(c:Nat->Int)(i:Nat):Int×Int×List (Int×Int):=(c i,No m i,((Mm m i).filter fun e=>use e.2.toNat).map fun e=>(e.1,c e.2.toNat))
def Pe(m:Kj)(use:Nat->Bool):Prop:=∀i<m.length,use i=true↔dT m i
theorem Bv{m:Kj}(hg:Wz m)(hi:i<m.length)(b v:Int):(b,v)∈(Sn m use c i).2.2↔∃x,Di m i b=some x/\use x=true/\c x=v:=by
 unfold Sn;simp only[Xa,Qw,Prod.mk.injEq];constructor
 .rintro⟨e,⟨he,hu⟩,rfl,rfl⟩;have h2:=(hg.tos i hi e he).2;exact⟨e.2.toNat,(Wh hg hi e.1 e.2.toNat).2 (by rw[show ((e.2.toNat:Nat):Int)=e.2 by omega];exact he),hu,rfl⟩
 rintro⟨x,hx,hu,rfl⟩;exact⟨(b,(x:Int)),⟨(Wh hg hi b x).1 hx,by simpa using hu⟩,rfl,by simp⟩
theorem nH{m:Kj}(hg:Wz m)(hu:Pe m use)(hr:Pg m i)(b:Int)(r:List Int)(h:¬ ∃x,Di m i b=some x/\use x=true):Md m i (b::r)=-1:=by
 rw[Wb];split
 .rename_i x hx;have hi:=Rq hg hr;have hn:¬ dT m x:=fun h2=>h ⟨x,hx,(hu x (Dq hx)).2 h2⟩;have hrx:Pg m x:=by
   have:=Ci hg hr ((Wh hg hi b x).1 hx);simpa using this
  exact dh (fun ht=>hn ⟨hrx,ht⟩) r
 rfl
theorem iv{m:Kj}(hg:Wz m)(hu:Pe m use)(hs:∀i<m.length,∀j<m.length,use i=true->use j=true->c i=c j->Sn m use c i=Sn m use c j) :
  ∀(l:List Int)(i j:Nat),i<m.length->j<m.length->use i=true->use j=true->c i=c j->Md m i l=Md m j l:=by
 intro l
 induction l with
 |nil =>
  intro i j hi hj ui uj hc;have:=hs i hi j hj ui uj hc;simp only[Sn,Prod.mk.injEq]at this;exact this.2.1
 |cons b r ih =>
  intro i j hi hj ui uj hc;have hsg:=hs i hi j hj ui uj hc;have hri:=((hu i hi).1 ui).1;have hrj:=((hu j hj).1 uj).1;by_cases h:∃x,Di m i b=some x/\use x=true
  .obtain⟨x,hx,ux⟩:=h;have h1:(b,c x)∈(Sn m use c i).2.2:=(Bv hg hi b (c x)).2 ⟨x,hx,ux,rfl⟩;rw[hsg]at h1;obtain⟨y,hy,uy,hcy⟩:=(Bv hg hj b (c x)).1 h1;rw[Wb,Wb,hx,hy];exact ih x y (Dq hx) (Dq hy) ux uy hcy.symm
  rw[nH hg hu hri b r h];refine (nH hg hu hrj b r ?_).symm;rintro⟨y,hy,uy⟩;have h1:(b,c y)∈(Sn m use c j).2.2:=(Bv hg hj b (c y)).2 ⟨y,hy,uy,rfl⟩;rw[<-hsg]at h1;obtain⟨x,hx,ux,_⟩:=(Bv hg hi b (c y)).1 h1;exact h ⟨x,hx,ux⟩
theorem pt:∀{l k:List (Int×Int)},l.Pairwise (fun a b=>a.1<b.1)->k.Pairwise (fun a b=>a.1<b.1)->(∀e,e∈l↔e∈k)->l=k
 |[],k,_,_,h=>by
  cases k with
  |nil=>rfl
  |cons a r=>exact absurd ((h a).2 (Xi ..)) (by simp)
 |a::r,[],_,_,h=>absurd ((h a).1 (Xi ..)) (by simp)
 |a::r,b::s,h1,h2,h=>by
  obtain⟨p1,q1⟩:=Qx.1 h1;obtain⟨p2,q2⟩:=Qx.1 h2;have Bg:a=b:=by
   rcases List.mem_cons.1 ((h a).1 (Xi ..))with e|e
   .exact e
   rcases List.mem_cons.1 ((h b).2 (Xi ..))with e2|e2
   .exact e2.symm
   have:=p2 a e;have:=p1 b e2;omega
  subst Bg;congr 1;refine pt q1 q2 fun e=>⟨fun he=>?_,fun he=>?_⟩
  .rcases List.mem_cons.1 ((h e).1 (Xj _ he))with e2|e2
   .subst e2;have:=p1 e he;omega
   exact e2
  rcases List.mem_cons.1 ((h e).2 (Xj _ he))with e2|e2
  .subst e2;have:=p2 e he;omega
  exact e2
theorem bp{m:Kj}(hg:Wz m)(use:Nat->Bool)(c:Nat->Int)(hi:i<m.length):(Sn m use c i).2.2.Pairwise (fun a b=>a.1<b.1):=by
 unfold Sn;simp only;rw[List.pairwise_map];exact List.Pairwise.filter _ (hg.rise i hi)
theorem xQ{m:Kj}(hg:Wz m)(hu:Pe m use)(hj:j<m.length)(uj:use j=true)(ha:Rg m i j){b:Int}(hx:Di m i b=some x)(ux:use x=true) :
  ∃y,Di m j b=some y/\use y=true/\Rg m x y:=by
 obtain⟨l,hl⟩:=((hu x (Dq hx)).1 ux).2;have hb:=fun r=>rA ha b r;rw[hx]at hb;simp only at hb;cases hy:Di m j b with
 |none =>
  have:=hb l;rw[hy]at this;exact absurd this hl
 |some y =>
  have Aj:Rg m x y:=fun r=>by
   have:=hb r
   rwa [hy]at this
  refine⟨y,rfl,(hu y (Dq hy)).2 ⟨?_,l,?_⟩,Aj⟩
  .have:=Ci hg ((hu j hj).1 uj).1 ((Wh hg hj b y).1 hy);simpa using this
  rw[<-Aj l];exact hl
theorem qbL{m:Kj}(hg:Wz m)(hu:Pe m use)(hc:∀i<m.length,∀j<m.length,use i=true->use j=true->Rg m i j->c i=c j)
   (hi:i<m.length) (hj:j<m.length) (ui:use i=true) (uj:use j=true) (ha:Rg m i j):Sn m use c i=Sn m use c j:=by
 have h1:(Sn m use c i).2.2=(Sn m use c j).2.2:=by
  refine pt (bp hg use c hi) (bp hg use c hj) fun e=>?_;obtain⟨b,v⟩:=e;rw[Bv hg hi,Bv hg hj];constructor
  .rintro⟨x,hx,ux,rfl⟩;obtain⟨y,hy,uy,Aj⟩:=xQ hg hu hj uj ha hx ux;exact⟨y,hy,uy,(hc x (Dq hx) y (Dq hy) ux uy Aj).symm⟩
  rintro⟨x,hx,ux,rfl⟩;obtain⟨y,hy,uy,Aj⟩:=xQ hg hu hi ui (Th ha) hx ux;exact⟨y,hy,uy,(hc x (Dq hx) y (Dq hy) ux uy Aj).symm⟩
 have h2:No m i=No m j:=ha [];exact Prod.ext (hc i hi j hj ui uj ha) (Prod.ext h2 h1)
theorem oS:∀(n:Nat)(l:List Nat),(∀k<n,k∈l)->n<=l.length
 |0,_,_=>Yg _
 |n+1,l,h=>by
  have h1:=h n (by omega);have:=oS n (l.erase n) fun k hk=>(List.mem_erase_of_ne (by omega)).2 (h k (by omega));rw[List.length_erase_of_mem h1]at this;have:=List.length_pos_of_mem h1;omega
theorem qQ:∀(n:Nat)(l:List Nat),l.length<=n->(∀k<n,k∈l)->l.Nodup
 |0,l,h,_=>by
  have:l=[]:=Xx (by omega);subst this;exact List.nodup_nil
 |n+1,l,h,hc=>by
  have h1:=hc n (by omega);have hl:=List.length_erase_of_mem h1;have hcv:∀k<n,k∈l.erase n:=fun k hk=>(List.mem_erase_of_ne (by omega)).2 (hc k (by omega));have h2:=qQ n (l.erase n) (by omega) hcv;have h3:n∉l.erase n:=by
   intro h4;have h5:=oS n ((l.erase n).erase n) fun k hk=>(List.mem_erase_of_ne (by omega)).2 (hcv k hk);rw[List.length_erase_of_mem h4,hl]at h5;have:=List.length_pos_of_mem h1;have:=List.length_pos_of_mem h4;omega
  exact (List.perm_cons_erase h1).nodup_iff.2 (List.nodup_cons.2 ⟨h3,h2⟩)
theorem di:∀(n:Nat)(l:List Nat),l.Nodup->(∀x∈l,x<n)->l.length<=n
 |0,l,_,h=>by
  cases l with
  |nil=>simp
  |cons a r=>exact absurd (h a (Xi ..)) (by omega)
 |n+1,l,hn,h=>by
  have:=di n (l.erase n) (hn.erase n) fun x hx=>by
   have h1:=h x (List.mem_of_mem_erase hx);have h2:x≠n:=fun e=>by subst e;exact (List.Nodup.not_mem_erase hn) hx
   omega
  by_cases h1:n∈l
  .rw[List.length_erase_of_mem h1]at this;omega
  rw[List.erase_of_not_mem h1]at this;omega
def Es(use:Nat->Bool)(a:Nat->Nat->Bool)(s:List Nat×List (Int×Int))(e:Int×Int):List Nat×List (Int×Int) :=
 if use e.2.toNat then (match s.1.findIdx? (a e.2.toNat)with
  |some n=>(s.1,s.2++[(e.1,(n:Int))])
  |none=>(s.1++[e.2.toNat],s.2++[(e.1,(s.1.length:Int))]))else s
def bE(m:Kj)(use:Nat->Bool)(a:Nat->Nat->Bool):Nat->List Nat×Kj
 |0=>([0],[])
 |n+1=>match (bE m use a n).1[n]? with
  |some x=>(((Mm m x).foldl (Es use a) ((bE m use a n).1,[])).1,(bE m use a n).2++[(No m x,((Mm m x).foldl (Es use a) ((bE m use a n).1,[])).2)])
  |none=>bE m use a n
def Hb:Nat->List (Int×Int)->Option Nat
 |n,[]=>some n
 |n,e::r=>if (n:Int)<e.2 then none else if e.2=(n:Int)then Hb (n+1) r else Hb n r
theorem Ra:∀(l k:List (Int×Int))(n:Nat),Hb n (l++k)=(Hb n l).bind fun j=>Hb j k
 |[],_,_=>rfl
 |e::r,k,n=>by
  simp only[List.cons_append,Hb];split
  .rfl
  split
  .exact Ra r k (n+1)
  exact Ra r k n
def qcI(m:Kj)(q:List Nat)(es l:List (Int×Int)):Prop:=∀t n,(t,n)∈l->∃(y k:Nat)(z:Nat),(t,(y:Int))∈es/\dT m y/\n=(k:Int)/\q[k]?=some z/\Rg m z y
theorem qcI.mono{m:Kj}{q':List Nat}{l:List (Int×Int)}(h:qcI m q es l)(hp:q <+: q'):qcI m q' es l:=by
 intro t n hn;obtain⟨y,k,z,h1,h2,h3,h4,h5⟩:=h t n hn;obtain⟨u,rfl⟩:=hp;refine⟨y,k,z,h1,h2,h3,?_,h5⟩;rw[Qo (Qj.1 h4).1];exact h4
structure QOk(m:Kj)(q:List Nat):Prop where
 zero:q[0]?=some 0
 use:∀x∈q,dT m x
 apart:q.Pairwise fun x y=>¬ Rg m x y
structure mh(m:Kj)(use:Nat->Bool)(q0 q:List Nat)(es l:List (Int×Int)):Prop where
 pre:q0 <+: q
 ok:QOk m q
 tos:qcI m q es l
 all:∀e∈es,use e.2.toNat=true->∃n,(e.1,n)∈l
 rise:l.Pairwise fun a b=>a.1<b.1
 ord:Hb q0.length l=some q.length
 new:∀k,q0.length<=k->k<q.length->∃t,(t,(k:Int))∈l
def sX(m:Kj)(a:Nat->Nat->Bool):Prop:=∀i j,dT m i->dT m j->(a i j=true↔Rg m i j)
theorem fh{m:Kj}{l:List (Int×Int)}{z:Nat}(h:qcI m q es l)(he:0<=e.2)(hu:dT m e.2.toNat)(hz:q[n]?=some z)(ha:Rg m z e.2.toNat):qcI m q (es++[e]) (l++[(e.1,(n:Int))]):=by
 intro t k hk;rcases Qh.1 hk with hk|hk
 .obtain⟨y,i,z',h1,h2⟩:=h t k hk;exact⟨y,i,z',List.mem_append_left _ h1,h2⟩
 simp only[Qi,Prod.mk.injEq]at hk;obtain⟨rfl,rfl⟩:=hk;refine⟨e.2.toNat,n,z,List.mem_append_right _ ?_,hu,rfl,hz,ha⟩;rw[show ((e.2.toNat:Nat):Int)=e.2 by omega];simp
theorem qjG{m:Kj}(hg:Wz m)(hu:Pe m use){a:Nat->Nat->Bool}(Aj:sX m a)(hx:dT m x){done rest l:List (Int×Int)}(hd:done++e::rest=Mm m x)
  (h:mh m use q0 q done l):mh m use q0 (Es use a (q,l) e).1 (done++[e]) (Es use a (q,l) e).2:=by
 have zR:=Rq hg hx.1;have hem:e∈Mm m x:=by rw[<-hd];simp
 have het:=hg.tos x zR e hem;have hr:=hg.rise x zR;rw[<-hd]at hr;have Jl:∀u∈l,u.1<e.1:=by
  intro u sH;obtain⟨y,k,z,h1,-⟩:=h.tos u.1 u.2 sH;exact (List.pairwise_append.1 hr).2.2 _ h1 e (Xi ..)
 have hlen:e.2.toNat<m.length:=by omega
 unfold Es;by_cases hue:use e.2.toNat=true
 .rw[if_pos hue];have qpE:=(hu _ hlen).1 hue;simp only;cases hf:q.findIdx? (a e.2.toNat)with
  |some n =>
   simp only;rw[List.findIdx?_eq_some_iff_getElem]at hf;obtain⟨hn,hp,-⟩:=hf;have hz:=h.ok.use _ (Qg hn);have hA:=(Aj _ _ qpE hz).1 hp;refine⟨h.pre,h.ok,fh h.tos het.2.1 qpE (Qa hn) (Th hA),?_,?_,?_,?_⟩
   .intro e' yS ue';rcases Qh.1 yS with yS|yS
    .obtain⟨k,hk⟩:=h.all e' yS ue';exact⟨k,List.mem_append_left _ hk⟩
    rw[Qi]at yS;subst yS;exact⟨n,by simp⟩
   .refine List.pairwise_append.2 ⟨h.rise,List.pairwise_singleton ..,fun u sH v hv=>?_⟩;rw[Qi]at hv;subst hv;exact Jl u sH
   .rw[Ra,h.ord];simp only[Option.bind_some,Hb];rw[if_neg (by omega),if_neg (by omega)]
   intro k h1 h2;obtain⟨t,ht⟩:=h.new k h1 h2;exact⟨t,List.mem_append_left _ ht⟩
  |none =>
   simp only;rw[List.findIdx?_eq_none_iff]at hf;have Cr:q <+: q++[e.2.toNat]:=List.prefix_append ..;have hq0:0<q.length:=by
    have:=(Qj.1 h.ok.zero).1;exact this
   refine⟨h.pre.trans Cr,⟨?_,?_,?_⟩,fh (h.tos.mono Cr) het.2.1 qpE (z:=e.2.toNat) (by simp) (fun _=>rfl),?_,?_,?_,?_⟩
   .rw[Qo hq0];exact h.ok.zero
   .intro y hy;rcases Qh.1 hy with hy|hy
    .exact h.ok.use y hy
    rw[Qi]at hy;subst hy;exact qpE
   .refine List.pairwise_append.2 ⟨h.ok.apart,List.pairwise_singleton ..,fun u sH v hv=>?_⟩;rw[Qi]at hv;subst hv;intro hA;have h1:=hf u sH;have:=(Aj _ _ qpE (h.ok.use u sH)).2 (Th hA);simp[this]at h1
   .intro e' yS ue';rcases Qh.1 yS with yS|yS
    .obtain⟨k,hk⟩:=h.all e' yS ue';exact⟨k,List.mem_append_left _ hk⟩
    rw[Qi]at yS;subst yS;exact⟨q.length,by simp⟩
   .refine List.pairwise_append.2 ⟨h.rise,List.pairwise_singleton ..,fun u sH v hv=>?_⟩;rw[Qi]at hv;subst hv;exact Jl u sH
   .rw[Ra,h.ord];simp[Hb]
   intro k h1 h2;by_cases hk:k<q.length
   .obtain⟨t,ht⟩:=h.new k h1 hk;exact⟨t,List.mem_append_left _ ht⟩
   simp only[Qe,Qf]at h2;have:k=q.length:=by omega
   subst this;exact⟨e.1,by simp⟩
 rw[if_neg hue];refine⟨h.pre,h.ok,?_,?_,h.rise,h.ord,h.new⟩
 .intro t k hk;obtain⟨y,i,z',h1,h2⟩:=h.tos t k hk;exact⟨y,i,z',List.mem_append_left _ h1,h2⟩
 intro e' yS ue';rcases Qh.1 yS with yS|yS
 .exact h.all e' yS ue'
 rw[Qi]at yS;subst yS;exact absurd ue' hue
theorem ub{m:Kj}(hg:Wz m)(hu:Pe m use){a:Nat->Nat->Bool}(Aj:sX m a)(hx:dT m x):∀(rest done:List (Int×Int))(s:List Nat×List (Int×Int)),done++rest=Mm m x ->
  mh m use q0 s.1 done s.2->mh m use q0 (rest.foldl (Es use a) s).1 (Mm m x) (rest.foldl (Es use a) s).2
 |[],done,s,hd,h=>by
  rw[List.append_nil]at hd;rw[<-hd];exact h
 |e::r,done,s,hd,h=>by
  rw[List.foldl_cons];exact ub hg hu Aj hx r (done++[e]) _ (by simpa using hd) (qjG hg hu Aj hx hd h)
theorem qgA{m:Kj}(h:QOk m q):q.Nodup:=h.apart.imp fun hn e=>hn (by subst e;exact fun _=>rfl)
theorem jl{m:Kj}(hg:Wz m)(h:QOk m q):q.length<=m.length:=di _ _ (qgA h) fun x hx=>Rq hg (h.use x hx).1
structure qtT(m:Kj)(use:Nat->Bool)(n:Nat)(q:List Nat)(out:Kj):Prop where
 ok:QOk m q
 len:out.length=min n q.length
 st:∀k<out.length,∃x,q[k]?=some x/\No out k=No m x/\qcI m q (Mm m x) (Mm out k)/\(∀e∈Mm m x,use e.2.toNat=true->∃n,(e.1,n)∈Mm out k)/\(Mm out k).Pairwise fun a b=>a.1<b.1
 ord:∀k≤out.length,∃i,Hb 1 ((out.take k).flatMap fun s=>s.2)=some i/\(k<q.length->k<i)/\(k=out.length->i=q.length)
 new:∀k,0<k->k<q.length->∃p<k,∃t,(t,(k:Int))∈Mm out p
theorem Sz{m k:Kj}(h:i<m.length):No (m++k) i=No m i/\Mm (m++k) i=Mm m i:=by
 unfold No Mm;simp only[Qb,Qo h];exact⟨trivial,trivial⟩
theorem nR{m:Kj}{s:Sta}:No (m++[s]) m.length=s.1/\Mm (m++[s]) m.length=s.2:=by
 unfold No Mm;simp
theorem qrU{m:Kj}(h:dT m 0):qtT m use 0 [0] [] :=
 ⟨⟨rfl,by simpa using h,List.pairwise_singleton ..⟩,rfl,by simp,fun k hk=>⟨1,by simp[Hb],fun h=>h,fun _=>rfl⟩,fun k h1 h2=>by simp at h2;omega⟩
theorem oY{m:Kj}(hg:Wz m){use:Nat->Bool}(hu:Pe m use){a:Nat->Nat->Bool}(Aj:sX m a)(h0:dT m 0):∀n,qtT m use n (bE m use a n).1 (bE m use a n).2
 |0=>qrU h0
 |n+1=>by
  have ih:=oY hg hu Aj h0 n;unfold bE;rcases hs:bE m use a n with ⟨q,out⟩;rw[hs]at ih;simp only at ih |-;cases hq:q[n]? with
  |none =>
   simp only;have h1:=List.getElem?_eq_none_iff.1 hq;exact⟨ih.ok,by rw[ih.len];omega,ih.st,ih.ord,ih.new⟩
  |some x =>
   simp only;have Ow:=(Qj.1 hq).1;have hx:=ih.ok.use x (Qp hq);have hF:=ub hg hu Aj hx (q0:=q) (Mm m x) [] (q,[]) rfl ⟨List.prefix_refl _,ih.ok,by intro t k hk;simp at hk,by simp,List.Pairwise.nil,rfl,fun k h1 h2=>by simp only at h2;omega⟩;rcases Mo:(Mm m x).foldl (Es use a) (q,[])with ⟨q',l⟩;rw[Mo]at hF;simp only at hF |-;have hol:out.length=n:=by rw[ih.len];omega
   have sp:q.length<=q'.length:=hF.pre.length_le;have fN:∀{k y:Nat},q[k]?=some y->q'[k]?=some y:=by
    intro k y hk;obtain⟨u,hu⟩:=hF.pre;rw[<-hu,Qo (Qj.1 hk).1];exact hk
   refine⟨hF.ok,by simp only[Qe,Qf];omega,?_,?_,?_⟩
   .intro k hk;by_cases hkn:k<out.length
    .obtain⟨y,h1,h2,h3,h4,h5⟩:=ih.st k hkn;rw[(Sz hkn).1,(Sz hkn).2];exact⟨y,fN h1,h2,h3.mono hF.pre,h4,h5⟩
    simp only[Qe,Qf]at hk;have:k=out.length:=by omega
    subst this;rw[nR.1,nR.2];exact⟨x,fN (by rw[hol];exact hq),rfl,hF.tos,hF.all,hF.rise⟩
   .intro k hk;simp only[Qe,Qf]at hk |-;by_cases hkn:k<=out.length
    .obtain⟨i,h1,h2,h3⟩:=ih.ord k hkn;refine⟨i,by rw[List.take_append_of_le_length hkn];exact h1,fun Jl=>?_,fun e=>by omega⟩;by_cases h4:k<q.length
     .exact h2 h4
     omega
    have hke:k=out.length+1:=by omega
    subst hke;obtain⟨i,h1,h2,h3⟩:=ih.ord out.length (Yb _);have h4:=h3 rfl;subst h4;refine⟨q'.length,?_,fun h=>h,fun _=>rfl⟩;rw[Qd (by simp),List.flatMap_append,Ra];rw[Qd (Yb _)]at h1;rw[h1];simpa using hF.ord
   intro k h1 h2;by_cases hkn:k<q.length
   .obtain⟨p,hp,t,ht⟩:=ih.new k h1 hkn;refine⟨p,hp,t,?_⟩;by_cases hpl:p<out.length
    .rw[(Sz hpl).2];exact ht
    exfalso;unfold Mm at ht;rw[Qb,Xg (by omega)]at ht;simp at ht
   obtain⟨t,ht⟩:=hF.new k (by omega) h2;refine⟨out.length,by omega,t,?_⟩;rw[nR.2];exact ht
noncomputable def Ke(m:Kj)(i:Nat):Bool:=@decide (dT m i) (Classical.propDecidable _)
noncomputable def De(m:Kj)(i j:Nat):Bool:=@decide (Rg m i j) (Classical.propDecidable _)
theorem Ff(m:Kj)(i:Nat):Ke m i=true↔dT m i:=by
 unfold Ke;exact @decide_eq_true_iff _ (Classical.propDecidable _)
theorem Ir(m:Kj):Pe m (Ke m):=fun i _=>Ff m i
theorem jI(m:Kj)(i j:Nat):De m i j=true↔Rg m i j:=by
 unfold De;exact @decide_eq_true_iff _ (Classical.propDecidable _)
theorem Pd(m:Kj):sX m (De m):=fun i j _ _=>jI m i j
noncomputable abbrev Uo(m:Kj)(n:Nat):List Nat×Kj:=bE m (Ke m) (De m) n
noncomputable def Dk(m:Kj):Kj:=if Uy m 9223372036854775807=true then (if Ke m 0=true then (Uo m m.length).2 else [(-1,[])])else []
theorem xc{m:Kj}{use:Nat->Bool}{a:Nat->Nat->Bool}{n:Nat}(h:(bE m use a n).1.length<=n):∀k,bE m use a (n+k)=bE m use a n
 |0=>rfl
 |k+1=>by
  have ih:=xc h k;rw[<-Yy];rw[show bE m use a (n+k+1)=_ from rfl];simp only[bE];rw[ih,Xg (by omega)]
theorem qyH{m:Kj}(hg:Wz m)(h0:dT m 0)(h:(Uo m n).1.length=n):Uo m m.length=Uo m n:=by
 have h1:=jl hg (oY hg (Ir m) (Pd m) h0 n).ok;have h2:=xc (m:=m) (use:=Ke m) (a:=De m) (n:=n) (by show (Uo m n).1.length<=n;omega) (m.length-n);have h3:(Uo m n).1.length<=m.length:=h1;rw[show n+(m.length-n)=m.length by omega]at h2;exact h2
structure Ag(m M:Kj):Prop where
 good:Wz M
 tell:∀l,Md M 0 l=Md m 0 l
 apart:∀i k,i<M.length->k<M.length->i≠k->∃l,Md M i l≠Md M k l
 tells:∀i,0<i->i<M.length->∃l,Md M i l≠-1
 zero:(∀l,Md M 0 l=-1)->Mm M 0=[]
 ord:∀k<M.length,∃i,Hb 1 ((M.take k).flatMap fun s=>s.2)=some i/\k<i
 ordl:∃i,Hb 1 (M.flatMap fun s=>s.2)=some i
 new:∀k,0<k->k<M.length->∃p<k,∃t,(t,(k:Int))∈Mm M p
 term:∀k<M.length,∀e∈Mm M k,∃i<m.length,∃d∈Mm m i,e.1=d.1
theorem qrV{m:Kj}(hg:Wz m)(h0:dT m 0):(Uo m m.length).2.length=(Uo m m.length).1.length:=by
 have h:=oY hg (Ir m) (Pd m) h0 m.length;have h1:=jl hg h.ok;have h2:(Uo m m.length).2.length=min m.length (Uo m m.length).1.length:=h.len;have h3:(Uo m m.length).1.length<=m.length:=h1;omega
theorem qkC{m:Kj}(hg:Wz m)(h0:dT m 0):Ag m (Uo m m.length).2:=by
 have h:=oY hg (Ir m) (Pd m) h0 m.length;have hl:=qrV hg h0;have hu:=Ir m;change qtT m (Ke m) m.length (Uo m m.length).1 (Uo m m.length).2 at h;generalize (Uo m m.length).1=q at h hl;generalize (Uo m m.length).2=M at h hl;have Dt:0<M.length:=by rw[hl];exact (Qj.1 h.ok.zero).1
 have hG:Wz M:=by
  refine⟨Qy.1 Dt,fun k hk=>?_,fun k hk e he=>?_,fun k hk=>?_⟩
  .obtain⟨x,h1,h2,-⟩:=h.st k hk;rw[h2];exact hg.o x (Rq hg (h.ok.use x (Qp h1)).1)
  .obtain⟨x,h1,h2,h3,-⟩:=h.st k hk;obtain⟨y,i,z,g1,g2,g3,g4,g5⟩:=h3 e.1 e.2 he;have:=(hg.tos x (Rq hg (h.ok.use x (Qp h1)).1) _ g1).1;have h6:=(Qj.1 g4).1;simp only at this;exact⟨this,by omega,by omega⟩
  obtain⟨x,h1,h2,h3,h4,h5⟩:=h.st k hk;exact h5
 have key:∀(l:List Int)(k x:Nat),k<M.length->q[k]?=some x->Md M k l=Md m x l:=by
  intro l
  induction l with
  |nil =>
   intro k x hk hx;obtain⟨x',h1,h2,-⟩:=h.st k hk;rw[hx]at h1;injection h1 with h1;subst h1;exact h2
  |cons b r ih =>
   intro k x hk hx;obtain⟨x',h1,h2,h3,h4,h5⟩:=h.st k hk;rw[hx]at h1;injection h1 with h1;subst h1;have hux:=h.ok.use x (Qp hx);have zR:=Rq hg hux.1;by_cases hc:∃y,Di m x b=some y/\Ke m y=true
   .obtain⟨y,hy,uy⟩:=hc;have he:=(Wh hg zR b y).1 hy;obtain⟨n,hn⟩:=h4 _ he (by simpa using uy);simp only at hn;obtain⟨y',i,z,g1,g2,g3,g4,g5⟩:=h3 b n hn;have hy':=(Wh hg zR b y').2 g1;rw[hy]at hy';injection hy' with hy';subst hy';subst g3;have hsM:=(Wh hG hk b i).2 hn;rw[Wb,Wb,hy,hsM];simp only;rw[<-g5 r];exact ih i z (Dq hsM) g4
   rw[nH hg hu hux.1 b r hc,Wb];cases hsM:Di M k b with
   |none=>rfl
   |some i =>
    exfalso;obtain⟨y',j,z,g1,g2,g3,g4,g5⟩:=h3 b _ ((Wh hG hk b i).1 hsM);exact hc ⟨y',(Wh hg zR b y').2 g1,(Ff m y').2 g2⟩
 have fN:∀k<M.length,∃x,q[k]?=some x:=fun k hk=>⟨_,Qa (by omega)⟩;refine⟨hG,fun l=>key l 0 0 Dt h.ok.zero,?_,?_,?_,?_,?_,?_,?_⟩
 .intro i k hi hk hne;obtain⟨x,hx⟩:=fN i hi;obtain⟨y,hy⟩:=fN k hk;refine Classical.byContradiction fun hno=>?_;have Aj:Rg m x y:=fun l=>by
   rw[<-key l i x hi hx,<-key l k y hk hy];exact Classical.byContradiction fun h2=>hno ⟨l,h2⟩
  have hp:=List.pairwise_iff_getElem.1 h.ok.apart;obtain⟨a1,a2⟩:=Qj.1 hx;obtain⟨b1,b2⟩:=Qj.1 hy;rcases Nat.lt_or_gt_of_ne hne with Jl|Jl
  .have:=hp i k a1 b1 Jl;rw[a2,b2]at this;exact this Aj
  have:=hp k i b1 a1 Jl;rw[a2,b2]at this;exact this (Th Aj)
 .intro i _ hi;obtain⟨x,hx⟩:=fN i hi;obtain⟨l,Hn⟩:=(h.ok.use x (Qp hx)).2;exact⟨l,by rw[key l i x hi hx];exact Hn⟩
 .intro Wc;obtain⟨l,Hn⟩:=h0.2;exact absurd (by rw[<-key l 0 0 Dt h.ok.zero];exact Wc l) Hn
 .intro k hk;obtain⟨i,h1,h2,h3⟩:=h.ord k (by omega);exact⟨i,h1,h2 (by omega)⟩
 .obtain⟨i,h1,h2,h3⟩:=h.ord M.length (Yb _);rw[Qd (Yb _)]at h1;exact⟨i,h1⟩
 .intro k h1 h2;exact h.new k h1 (by omega)
 intro k hk e he;obtain⟨x,h1,h2,h3,-⟩:=h.st k hk;obtain⟨y,i,z,g1,-⟩:=h3 e.1 e.2 he;exact⟨x,Rq hg (h.ok.use x (Qp h1)).1,_,g1,rfl⟩
theorem qgP{m:Kj}(h0:¬ dT m 0):Ag m [(-1,[])]:=by
 have ht:∀l,Md m 0 l=-1:=fun l=>Classical.byContradiction fun h=>h0 ⟨Ch m,l,h⟩;have hto:∀l,Md [(-1,[])] 0 l=-1:=by
  intro l;cases l with
  |nil=>rfl
  |cons b r=>rfl
 refine⟨⟨by simp,?_,?_,?_⟩,fun l=>by rw[ht l,hto l],?_,?_,fun _=>rfl,?_,⟨1,rfl⟩,?_,?_⟩
 .intro k hk;simp only[Qf]at hk;have:k=0:=by omega
  subst this;decide
 .intro k hk e he;simp only[Qf]at hk;have:k=0:=by omega
  subst this;simp[Mm]at he
 .intro k hk;simp only[Qf]at hk;have:k=0:=by omega
  subst this;exact List.Pairwise.nil
 .intro i k hi hk hne;simp only[Qf]at hi hk;omega
 .intro i h1 hi;simp only[Qf]at hi;omega
 .intro k hk;simp only[Qf]at hk;have:k=0:=by omega
  subst this;exact⟨1,rfl,by omega⟩
 .intro k h1 hk;simp only[Qf]at hk;omega
 intro k hk e he;simp only[Qf]at hk;have:k=0:=by omega
 subst this;simp[Mm]at he
theorem D_{m:Kj}(h:Uy m 9223372036854775807=true):Ag m (Dk m):=by
 unfold Dk;rw[if_pos h];have hg:=Gp h;by_cases h0:Ke m 0=true
 .rw[if_pos h0];exact qkC hg ((Ff m 0).1 h0)
 rw[if_neg h0];exact qgP fun h1=>h0 ((Ff m 0).2 h1)
theorem qoJ{m:Kj}(h:Uy m 9223372036854775807≠true):Dk m=[]:=by
 unfold Dk;rw[if_neg h]
def wQ(M:List Bool):Nat:=M.count false
theorem qqT(h:M[d]?=some false):wQ (M.set d true)<wQ M:=by
 unfold wQ;obtain⟨h1,h2⟩:=Qj.1 h;have h3:=List.count_set (a:=true) (b:=false) (l:=M) (i:=d) h1;have h4:0<M.count false:=List.count_pos_iff.2 (Qp h);rw[h3,h2];simp only[beq_self_eq_true,if_true];rw[if_neg (by decide)];omega
def tY(dir:Bool)(i:Nat)(e:Int×Int):Nat:=if dir then i else e.2.toNat
def Pa(dir:Bool)(i:Nat)(e:Int×Int):Nat:=if dir then e.2.toNat else i
abbrev Ga(M:List Bool)(k:Nat):Bool:=M.getD k false
def gI(dir:Bool)(M:List Bool)(i:Nat)(e:Int×Int):List Bool:=M.set (Pa dir i e) (Ga M (Pa dir i e)||Ga M (tY dir i e))
def qD(dir:Bool)(M:List Bool)(i:Nat)(e:Int×Int):Bool:=Ga M (tY dir i e)&&!Ga M (Pa dir i e)
theorem qgW(dir:Bool)(M:List Bool)(i:Nat)(e:Int×Int):(gI dir M i e).length=M.length:=by simp[gI]
theorem qeF(h:k<M.length):M[k]?=some (Ga M k):=by
 simp[Ga,Qa h]
theorem T_(hd:Pa dir i e<M.length)(h:qD dir M i e=false):gI dir M i e=M/\(Ga M (tY dir i e)=true->Ga M (Pa dir i e)=true):=by
 unfold qD at h;have h1:(Ga M (Pa dir i e)||Ga M (tY dir i e))=Ga M (Pa dir i e):=by
  cases h2:Ga M (tY dir i e) <;> cases h3:Ga M (Pa dir i e) <;> simp_all
 refine⟨?_,fun h2=>by rw[h2]at h;simpa using h⟩;unfold gI;rw[h1];apply List.ext_getElem?;intro k;rw[Xw];by_cases hk:Pa dir i e=k
 .rw[if_pos hk,<-hk,if_pos hd,qeF hd]
 rw[if_neg hk]
theorem A_(hd:Pa dir i e<M.length)(h:qD dir M i e=true):wQ (gI dir M i e)<wQ M/\gI dir M i e=M.set (Pa dir i e) true/\Ga M (tY dir i e)=true:=by
 unfold qD at h;simp only[Ym,Bool.not_eq_true']at h;have h1:gI dir M i e=M.set (Pa dir i e) true:=by unfold gI;rw[h.1];simp
 exact⟨by rw[h1];exact qqT (by rw[qeF hd,h.2]),h1,h.1⟩
def mC(dir:Bool)(M:List Bool)(i:Nat)(l:List (Int×Int)):Prop:=∀e∈l,Ga M (tY dir i e)=true->Ga M (Pa dir i e)=true
structure jL(dir:Bool)(m:Kj)(Inv:List Bool->Prop)(M0 M:List Bool)(again:Bool)(i k:Nat):Prop where
 len:M.length=m.length
 inv:Inv M
 le:wQ M<=wQ M0
 more:again=true->wQ M<wQ M0
 shut:again=false->M=M0/\(∀j<i,mC dir M j (Mm m j))/\mC dir M i ((Mm m i).take k)
theorem jL.start{m:Kj}(hl:M.length=m.length)(h:Inv M):jL dir m Inv M M false 0 0 :=
 ⟨hl,h,Yb _,(fun h=>by cases h),fun _=>⟨rfl,fun j hj=>by omega,fun e he=>by simp at he⟩⟩
theorem jL.edge{m:Kj}(h:jL dir m Inv M0 M again i k)(he:(Mm m i)[k]?=some e)(hd:Pa dir i e<m.length)
  (hi:∀M,Inv M->M.length=m.length->Ga M (tY dir i e)=true->Inv (M.set (Pa dir i e) true)):jL dir m Inv M0 (gI dir M i e) (qD dir M i e||again) i (k+1):=by
 have hd':Pa dir i e<M.length:=by rw[h.len];exact hd
 obtain⟨hk,hke⟩:=Qj.1 he;cases hm:qD dir M i e with
 |true =>
  obtain⟨h1,h2,h3⟩:=A_ hd' hm;exact⟨by rw[qgW];exact h.len,by rw[h2];exact hi M h.inv h.len h3,Yd (Yh h1) h.le,fun _=>Ye h1 h.le,fun h=>by simp at h⟩
 |false =>
  obtain⟨h1,h2⟩:=T_ hd' hm;rw[h1,Yt];refine⟨h.len,h.inv,h.le,h.more,fun ha=>?_⟩;obtain⟨a1,a2,a3⟩:=h.shut ha;refine⟨a1,a2,fun x hx=>?_⟩;rw[Qc hk,Qh,Qi,hke]at hx;rcases hx with hx|rfl
  .exact a3 x hx
  exact h2
theorem jL.next{m:Kj}(h:jL dir m Inv M0 M again i (Mm m i).length):jL dir m Inv M0 M again (i+1) 0 :=
 ⟨h.len,h.inv,h.le,h.more,fun ha=>by
  obtain⟨a1,a2,a3⟩:=h.shut ha
  rw[List.take_length]at a3
  refine⟨a1,fun j hj=>?_,fun e he=>by simp at he⟩
  by_cases Aa:j=i
  .subst Aa
   exact a3
  exact a2 j (by omega)⟩
theorem jL.shutAll{m:Kj}(h:jL dir m Inv M0 M false m.length k):∀j<m.length,mC dir M j (Mm m j):=(h.shut rfl).2.1
theorem py{m:Kj}(hg:Wz m)(h0:Ga M 0=true)(hi:∀k,Ga M k=true->Pg m k)(hs:∀j<m.length,mC true M j (Mm m j))(k:Nat):Ga M k=true↔Pg m k:=by
 refine⟨hi k,fun hr=>?_⟩;exact zw hg (P:=fun k=>Ga M k=true) h0 (fun j hj hmj e he=>hs j hj e he hmj) hr
theorem ol{m:Kj}(hg:Wz m)(h0:∀k<m.length,0<=No m k->Ga M k=true)(hi:∀k,Ga M k=true->mB m k)(hs:∀j<m.length,mC false M j (Mm m j))(hk:k<m.length):Ga M k=true↔mB m k:=by
 refine⟨hi k,fun hr=>?_⟩;exact zg hg (P:=fun k=>Ga M k=true) h0 (fun j hj e he hm=>hs j hj e he hm) hk hr
theorem qeE(h:Ga (M.set d true) k=true):k=d\/Ga M k=true:=by
 unfold Ga at*;rw[Qb,Xw]at h;by_cases hk:d=k
 .exact .inl hk.symm
 rw[if_neg hk]at h;exact .inr (by rw[Qb];exact h)
theorem lZ(h:Ga M k=true):Ga (M.set d true) k=true:=by
 unfold Ga at*;rw[Qb]at h |-;rw[Xw];by_cases hk:d=k
 .subst hk;have hl:d<M.length:=by
   rcases Nat.lt_or_ge d M.length with h2|h2
   .exact h2
   rw[Xg h2]at h;cases h
  rw[if_pos rfl,if_pos hl];rfl
 rw[if_neg hk];exact h
def Ly(n:Nat)(f:Nat->Bool):List Bool:=(List.range n).map f
theorem Ib(n:Nat)(f:Nat->Bool):(Ly n f).length=n:=by simp[Ly]
theorem Bn:Ga (Ly n f) k=(decide (k<n)&&f k):=by
 unfold Ga Ly;rw[Qb,Qv];by_cases h:k<n
 .rw[List.getElem?_range h];simp[h]
 rw[Xg (by simp;omega)];simp[h]
theorem lX{g:Nat->Bool}(h:∀k<n,f k=g k):Ly n f=Ly n g:=List.map_congr_left fun k hk=>h k (Ya.1 hk)
theorem qkB(h:M.length=n):Ly n (Ga M)=M:=by
 subst h;apply List.ext_getElem?;intro k;unfold Ly;rw[Qv];by_cases hk:k<M.length
 .rw[List.getElem?_range hk,Qa hk];simp[Ga,hk]
 rw[Xg (by simp;omega),Xg (by omega)];rfl
theorem vz(h:k<n):(Ly n f)[k]?=some (f k):=by
 unfold Ly;rw[Qv,List.getElem?_range h];rfl
theorem xJ(n:Nat):Ly n (fun _=>false)=List.replicate n false:=by
 unfold Ly;rw[List.map_const',List.length_range]
theorem xI{b:Bool}:(Ly n f).set i b=Ly n (fun k=>if k=i then b else f k):=by
 apply List.ext_getElem?;intro k;by_cases hn:k<n
 .rw[vz hn,Xw,vz hn,Ib];by_cases hk:i=k
  .subst hk;simp[hn]
  have:¬ k=i:=fun e=>hk e.symm;simp[hk,this]
 rw[Xg (by rw[Qm,Ib];omega),Xg (by rw[Ib];omega)]
def Lw(l:List (Int×Int)):List Value:=(l.map fun e=>[Value.int .i64 e.1,.int .i64 e.2]).flatten
theorem dL(l:List (Int×Int))(e:Int×Int):Lw (l++[e])=Lw l++[.int .i64 e.1,.int .i64 e.2]:=by simp[Lw]
def Up(rs:List (Int×Value)):List Value:=(rs.map fun r=>[Value.int .i64 r.1,r.2]).flatten
theorem zn(l:List (Int×Value)):(Up l).length=l.length*2:=by
 induction l with
 |nil=>rfl
 |cons x l ih=>unfold Up at*;rw[List.map_cons,List.flatten_cons,Qe,ih,Qu];simp;omega
theorem Iv(r:Int×Value)(rs:List (Int×Value)):Up (r::rs)=.int .i64 r.1::r.2::Up rs:=by simp[Up]
theorem iG:∀{rs:List (Int×Value)}{i:Nat}{r:Int×Value},rs[i]?=some r->(Up rs)[i*2]?=some (.int .i64 r.1)/\(Up rs)[i*2+1]?=some r.2
 |[],i,r,h=>by simp at h
 |a::rs,0,r,h=>by
  simp only[List.getElem?_cons_zero,Option.some.injEq]at h;subst h;exact⟨rfl,rfl⟩
 |a::rs,i+1,r,h=>by
  have:=iG (rs:=rs) (i:=i) (r:=r) (by simpa using h);rw[Iv,show (i+1)*2=i*2+1+1 by omega];simpa using this
theorem iF:∀{rs:List (Int×Value)}{i:Nat}{r:Int×Value},rs[i]?=some r->∀(x:Int)(v:Value),(Up rs).set (i*2) (.int .i64 x)=Up (rs.set i (x,r.2))/\(Up rs).set (i*2+1) v=Up (rs.set i (r.1,v))
 |[],i,r,h,_,_=>by simp at h
 |a::rs,0,r,h,x,v=>by
  simp only[List.getElem?_cons_zero,Option.some.injEq]at h;subst h;simp[Iv]
 |a::rs,i+1,r,h,x,v=>by
  obtain⟨h1,h2⟩:=iF (rs:=rs) (i:=i) (r:=r) (by simpa using h) x v;rw[Iv,show (i+1)*2=i*2+1+1 by omega];simp only[List.set_cons_succ,Iv,h1,h2,and_self]
theorem Ni{w:World}{q o:Nat}{v:Value}{cs:Array Value}{t:TypeId}{fr:Nat×Nat}(h:w.heap[q]?=some (.cells cs t fr)):(w.setCell ⟨q,o,none⟩ v).heap[q]?=some (.cells (cs.setIfInBounds o v) t fr):=by
 simp[World.setCell,Xz,h]
structure Ph(ts te:TypeId)(W:World)(N b:Nat)(rs:List (Int×Value))(es:List (List (Int×Int))):Prop where
 len:rs.length=es.length
 box:W.heap[b]?=some (.cells (Up rs).toArray ts (0,0))
 own:∀(i:Nat)(r:Int×Value)(l:List (Int×Int)),rs[i]?=some r->es[i]?=some l->W.ownsRow N te 2 r.2 l.length (Lw l)
 nd:∀(i j:Nat)(r s:Int×Value)(g:Nat),rs[i]?=some r->rs[j]?=some s->r.2.ownBlock=some g->s.2.ownBlock=some g->i=j
section
variable {ts te:TypeId} {W W':World} {N b:Nat} {rs:List (Int×Value)} {es:List (List (Int×Int))}
theorem Ph.cells(h:Ph ts te W N b rs es){r:Int×Value}(hr:rs[i]?=some r):W.cell? ⟨b,i*2,none⟩=some (.int .i64 r.1)/\W.cell? ⟨b,i*2+1,none⟩=some r.2/\(∀k,W.frozen? ⟨b,k,none⟩=false):=by
 obtain⟨h1,h2⟩:=iG hr;refine⟨?_,?_,fun k=>by simp[World.frozen?,h.box]⟩
 .rw[Zd _ _ _ _ _ _ h.box];simpa using h1
 rw[Zd _ _ _ _ _ _ h.box];simpa using h2
theorem Ph.mk0{x:Int}(hb:W.heap[b]?=some (.cells (Up (List.replicate n (x,.slice none 0 0))).toArray ts (0,0))):Ph ts te W N b (List.replicate n (x,.slice none 0 0)) (List.replicate n []):=by
 refine⟨by simp,hb,fun i r l hr hl=>?_,fun i j r s g hr hs hg=>?_⟩
 .rw[Xh]at hr hl;split at hr
  .injection hr with hr;rw[if_pos (by assumption)]at hl;injection hl with hl;subst hr hl;exact Za _ _ _ _
  cases hr
 rw[Xh]at hr;split at hr
 .injection hr with hr;subst hr;simp[Value.ownBlock]at hg
 cases hr
theorem Ph.keepRow(hne:ts≠te)(h:Ph ts te W N b rs es){r:Int×Value}(hr:rs[i]?=some r):r.2.ownBlock≠some b:=by
 have hl:i<es.length:=by rw[<-h.len];exact (Qj.1 hr).1
 intro e;rcases (h.own i r _ hr (Qa hl)).2 with ⟨h0,_⟩|⟨g,cap,cur,h0,hg,hh,_⟩
 .rw[h0]at e;cases e
 rw[h0]at e;have:g=b:=by simpa[Value.ownBlock]using e
 subst this;rw[h.box]at hh;injection hh with hh;injection hh with _ hh;exact hne hh
theorem Vi{w:World}{base:Nat}{e:TypeId}{size:Nat}{v:Value}{xs:List Value}(h:w.ownsRow base e size v n xs)(hk:∀g cur,v.ownBlock=some g->w.heap[g]?=some (.cells cur e (0,0))->w'.heap[g]?=some (.cells cur e (0,0))):w'.ownsRow base e size v n xs:=by
 refine⟨h.1,?_⟩;rcases h.2 with h'|⟨g,cap,cur,rfl,hg,hh,r⟩
 .exact .inl h'
 exact .inr ⟨g,cap,cur,rfl,hg,hk g cur rfl hh,r⟩
theorem Ph.keep(h:Ph ts te W N b rs es)(hk:∀(g:Nat)(cur:Array Value)(t:TypeId),t=ts\/t=te->W.heap[g]?=some (.cells cur t (0,0))->W'.heap[g]?=some (.cells cur t (0,0))):Ph ts te W' N b rs es :=
 ⟨h.len,hk b _ _ (.inl rfl) h.box,fun i r l hi hl=>Vi (h.own i r l hi hl) fun g cur _ hh=>hk g cur _ (.inr rfl) hh,h.nd⟩
theorem Ph.setOut(hne:ts≠te)(h:Ph ts te W N b rs es){r:Int×Value}(hr:rs[i]?=some r)(x:Int):Ph ts te (W.setCell ⟨b,i*2,none⟩ (.int .i64 x)) N b (rs.set i (x,r.2)) es:=by
 have key:∀(k:Nat)(s:Int×Value),(rs.set i (x,r.2))[k]?=some s->∃s',rs[k]?=some s'/\s'.2=s.2:=fun k s hk=>by
  rw[Xw]at hk;split at hk
  .rename_i hik;subst hik;split at hk
   .injection hk with hk;exact⟨r,hr,by rw[<-hk]⟩
   cases hk
  exact⟨s,hk,rfl⟩
 refine⟨by rw[Qm];exact h.len,?_,fun k s l hk hl=>?_,fun k j s t g hk hj h1 h2=>?_⟩
 .rw[Ni h.box,List.setIfInBounds_toArray,(iF hr x r.2).1]
 .obtain⟨s',h1,h2⟩:=key k s hk;rw[<-h2];refine Vi (h.own k s' l h1 hl) fun g cur he hh=>(Zc _ _ _ _ ?_).trans hh;rintro rfl;exact absurd he (h.keepRow hne h1)
 obtain⟨s',a1,a2⟩:=key k s hk;obtain⟨t',b1,b2⟩:=key j t hj;exact h.nd k j s' t' g a1 b1 (by rw[a2];exact h1) (by rw[b2];exact h2)
theorem Ph.app(hne:ts≠te){W1:World}(h:Ph ts te W N b rs es){r:Int×Value}{l:List (Int×Int)}(hr:rs[i]?=some r)(hl:es[i]?=some l){v:Value}
  (hown:W1.ownsRow N te 2 v (l.length+1) (Lw (l++[e]))) (hg:W.grownBy W1 r.2.ownBlock) (hv:v.ownBlock=r.2.ownBlock\/v.ownBlock=some W.heap.size) :
  Ph ts te (W1.setCell ⟨b,i*2+1,none⟩ v) N b (rs.set i (r.1,v)) (es.set i (l++[e])):=by
 have Wp:=(Qj.1 hr).1;have qaA:=(Qj.1 hl).1;have Nu:=h.keepRow hne hr;have zvT:b<W.heap.size:=(gl h.box);have lM:W1.heap[b]?=some (.cells (Up rs).toArray ts (0,0)):=(hg.block b zvT fun e=>Nu e.symm).trans h.box;have key:∀(k:Nat)(s:Int×Value),(rs.set i (r.1,v))[k]?=some s->(k=i/\s=(r.1,v))\/(k≠i/\rs[k]?=some s):=fun k s hk=>by
  rw[Xw]at hk;split at hk
  .rename_i hik;injection hk with hk;exact .inl ⟨hik.symm,hk.symm⟩
  rename_i hik;exact .inr ⟨fun e=>hik e.symm,hk⟩
 have Jl:∀(k:Nat)(s:Int×Value)(g:Nat),rs[k]?=some s->s.2.ownBlock=some g->g<W.heap.size:=fun k s g hk rI=>by
  have Du:k<es.length:=by rw[<-h.len];exact (Qj.1 hk).1
  exact ((h.own k s _ hk (Qa Du)).lt g rI).2
 refine⟨by rw[Qm,Qm];exact h.len,?_,fun k s m hk hm=>?_,fun k j s t g hk hj h1 h2=>?_⟩
 .rw[Ni lM,List.setIfInBounds_toArray,(iF hr r.1 v).2]
 .rcases key k s hk with ⟨rfl,rfl⟩|⟨x_,hk⟩
  .rw[Xw,if_pos rfl,if_pos qaA]at hm;injection hm with hm;subst hm;refine Vi (w:=W1) (by rw[Qe];exact hown) fun g cur he hh=>(Zc _ _ _ _ ?_).trans hh;rintro rfl;rcases hv with e1|e1
   .rw[e1]at he;exact Nu he
   rw[e1]at he;injection he with he;omega
  rw[Xw,if_neg (fun e=>x_ e.symm)]at hm;refine Vi (h.own k s m hk hm) fun g cur he hh=>(Zc _ _ _ _ ?_).trans ((hg.block g (gl hh) fun e=>?_).trans hh)
  .rintro rfl;exact absurd he (h.keepRow hne hk)
  exact x_ (h.nd k i s r g hk hr he e.symm)
 rcases key k s hk with ⟨rfl,rfl⟩|⟨x_,mU⟩
 .rcases key j t hj with ⟨rfl,rfl⟩|⟨Aa,z_⟩
  .rfl
  exfalso;rcases hv with e1|e1
  .exact Aa (h.nd j k t r g z_ hr h2 (by rw[<-e1];exact h1))
  have:=Jl j t g z_ h2;have h1:v.ownBlock=some g:=h1;rw[e1]at h1;injection h1 with h1;omega
 rcases key j t hj with ⟨rfl,rfl⟩|⟨Aa,z_⟩
 .exfalso;rcases hv with e1|e1
  .exact x_ (h.nd k j s r g mU hr h1 (by rw[<-e1];exact h2))
  have:=Jl k s g mU h1;have h2:v.ownBlock=some g:=h2;rw[e1]at h2;injection h2 with h2;omega
 exact h.nd k j s t g mU z_ h1 h2
theorem Ph.sl{es:List (List (Int×Int))}(eS:gX (Int×List (Int×Int)))(eE:gX (Int×Int))(hS:eS=Cx Wg (Tw eE))(hE:eE=Cx Wg Wg)(h:Ph ts te W N b rs es){c:Nat}(hc:rs.length<=c)(Uw:c<=maxLen)
  (hb1:∀r∈rs,-9223372036854775808<=r.1/\r.1<=9223372036854775807) (Jd:∀l∈es,∀e∈l,(-9223372036854775808<=e.1/\e.1<=9223372036854775807)/\-9223372036854775808<=e.2/\e.2<=9223372036854775807) :
  Je eS W W.heap.size (.slice (some ⟨b,0,none⟩) rs.length c) ((rs.zip es).map fun p=>(p.1.1,p.2)):=by
 subst hS hE;have hz:((rs.zip es).map fun p=>(p.1.1,p.2)).length=rs.length:=by rw[Qk,List.length_zip,h.len,Nat.min_self]
 refine⟨_,c,rs.map fun r=>[Value.int .i64 r.1,r.2],by rw[hz],by rw[hz];exact hc,Uw,by rw[hz,Qk],?_,fun i cs x hi hx=>?_⟩
 .exact Rd.row h.box (gl h.box)
 rw[Qv]at hi hx;have Wp:i<rs.length:=by
  rcases Nat.lt_or_ge i rs.length with h|h
  .exact h
  rw[Xg h]at hi;cases hi
 have qaA:i<es.length:=by rw[<-h.len];exact Wp
 rw[Qa Wp,Option.map_some]at hi;have hzl:i<(rs.zip es).length:=by rw[List.length_zip];omega
 rw[Qa hzl,List.getElem_zip,Option.map_some]at hx;injection hi with hi;injection hx with hx;subst hi hx;have hown:=h.own i _ _ (Qa Wp) (Qa qaA);obtain⟨A,c',e,h1,h2⟩:=Zp hown;refine⟨[.int .i64 rs[i].1],[rs[i].2],rfl,⟨rfl,hb1 _ (Qg Wp)⟩,rs[i].2,rfl,?_⟩;rw[e]at hown |-;refine⟨A,c',es[i].map fun e=>[Value.int .i64 e.1,.int .i64 e.2],rfl,h1,h2,by simp,Rd.of_own hown,fun j cs y hj hy=>?_⟩;rw[Qv,hy]at hj;injection hj with hj;subst hj;obtain⟨⟨a1,a2⟩,a3,a4⟩:=Jd _ (Qg qaA) _ (Qp hy);exact⟨_,_,rfl,⟨rfl,a1,a2⟩,rfl,a3,a4⟩
end
abbrev Ks(w:World)(x:Nat)(M:List Bool):Prop:=w.heap[x]?=some (.cells (M.map Value.bool).toArray 4 (0,0))
theorem Ks.at_{w:World}(h:Ks w x M)(hk:k<M.length):w.cell? ⟨x,k,none⟩=some (.bool (Ga M k))/\w.frozen? ⟨x,k,none⟩=false:=by
 refine⟨?_,by simp[World.frozen?,h]⟩;rw[Zd w x k _ _ _ h];simp[Ga,hk]
theorem Ks.set{w:World}(h:Ks w x M)(k:Nat)(b:Bool):Ks (w.setCell ⟨x,k,none⟩ (.bool b)) x (M.set k b):=by
 show _=_;rw[Ni h,List.map_set,List.setIfInBounds_toArray]
theorem Ks.grown{w:World}(h:Ks w x M){row:Option Nat}(hg:w.grownBy w' row)(hne:some x≠row):Ks w' x M:=(hg.block x (gl h) hne).trans h
theorem dG(w:World)(x k:Nat)(v:Value):w.grownBy (w.setCell ⟨x,k,none⟩ v) (some x) :=
 ⟨rfl,rfl,rfl,by simp[World.setCell],fun i _ hne=>Zc _ _ _ _ (fun e=>hne (by rw[show i=x from e]))⟩
def lu(x:Nat)(more:Bool)(M':List Bool)(w:World)(e:Ending)(w':World):Prop:=e=.returned (.bool more)/\Ks w' x M'/\w.grownBy w' (some x)
theorem tF(x:Nat)(M:List Bool)(k:Nat)(b:Bool)(w:World)(hx:Ks w x M)(hk:k<M.length) :
  Calls Tryz.prog 160 #[.slice (some ⟨x,0,none⟩) M.length M.length,.int .i64 k,.bool b] w (lu x (b&&!Ga M k) (M.set k (Ga M k||b)) w):=by
 obtain⟨c1,c2⟩:=hx.at_ hk;have HG:=Lh (dG w x k (.bool (Ga M k||b)));have HX:=Lh (hx.set k (Ga M k||b));obtain⟨n,hn⟩:=Xe M.length;rw[<-hn]at hk |-;generalize hm:Ga M k=a at*;obtain⟨r1,Sr⟩:=Xe ((b&&!a));obtain⟨r2,hr2⟩:=Xe ((a||b));rw[<-Sr,<-hr2];rw[<-hr2]at HG HX;cases a <;> cases b <;> cases Sr <;> cases hr2
 all_goals
  go_enter Tryz.func160,Tryz.ntmps160;go_wp2;go_ret;exact⟨rfl,HX.o,HG.o⟩
theorem im(x b7 b3:Nat)(M:List Bool)(i j:Nat)(w:World)(hx:Ks w x M)(h7:w.cell? ⟨b7,0,none⟩=some (.func (.func 160) #[] #[]))(h3:w.cell? ⟨b3,0,none⟩=some (.slice (some ⟨x,0,none⟩) M.length M.length))(hi:i<M.length)(hj:j<M.length) :
  Calls Tryz.prog 162 #[.int .i64 i,.int .i64 j,.pointer (some ⟨b7,0,none⟩),.pointer (some ⟨b3,0,none⟩)] w (lu x (Ga M i&&!Ga M j) (M.set j (Ga M j||Ga M i)) w):=by
 obtain⟨c1,c2⟩:=hx.at_ hi;have HS:=Lh (tF x M j (Ga M i) w.drew hx hj);obtain⟨n,hn⟩:=Xe M.length;rw[<-hn]at hi hj h3 HS;clear hn;go_enter Tryz.func162,Tryz.ntmps162;go_wp2;refine Text.wt (by kernel_rfl) fun Q' hQ'=>?_;go_wp2_with fail;refine HS.o.mono ?_;rintro e w' ⟨rfl,h1,h2⟩;go_wp2;refine⟨by rfl,?_⟩;go_wp2;go_ret;exact⟨rfl,h1,h2.os,h2.tape,h2.output,h2.size,h2.block⟩
theorem il(x b7 b3:Nat)(M:List Bool)(i j:Nat)(w:World)(hx:Ks w x M)(h7:w.cell? ⟨b7,0,none⟩=some (.func (.func 160) #[] #[]))(h3:w.cell? ⟨b3,0,none⟩=some (.slice (some ⟨x,0,none⟩) M.length M.length))(hi:i<M.length)(hj:j<M.length) :
  Calls Tryz.prog 163 #[.int .i64 i,.int .i64 j,.pointer (some ⟨b7,0,none⟩),.pointer (some ⟨b3,0,none⟩)] w (lu x (Ga M j&&!Ga M i) (M.set i (Ga M i||Ga M j)) w):=by
 obtain⟨c1,c2⟩:=hx.at_ hj;have HS:=Lh (tF x M i (Ga M j) w.drew hx hi);obtain⟨n,hn⟩:=Xe M.length;rw[<-hn]at hi hj h3 HS;clear hn;go_enter Tryz.func163,Tryz.ntmps163;go_wp2;refine Text.wt (by kernel_rfl) fun Q' hQ'=>?_;go_wp2_with fail;refine HS.o.mono ?_;rintro e w' ⟨rfl,h1,h2⟩;go_wp2;refine⟨by rfl,?_⟩;go_wp2;go_ret;exact⟨rfl,h1,h2.os,h2.tape,h2.output,h2.size,h2.block⟩
def qsO(F:FuncId)(cap:Array Value)(x:Nat)(dir:Bool)(m:Kj)(w:World):Prop :=
 ∀(M:List Bool)(i:Nat)(e:Int×Int)(W:World),w.grownBy W (some x)->Ks W x M->M.length=m.length->i<m.length->e∈Mm m i ->
  Calls Tryz.prog F (#[.int .i64 i,.int .i64 e.2]++cap) W (lu x (qD dir M i e) (gI dir M i e) W)
def zmR(dir:Bool)(m:Kj)(Inv:List Bool->Prop)(x:Nat)(w:World)(n:Nat)(e:Ending)(w':World):Prop:=∃M,e=.returned (.slice (some ⟨x,0,none⟩) n n)/\w.grownBy w' (some x)/\Ks w' x M/\M.length=m.length/\Inv M/\∀i<m.length,mC dir M i (Mm m i)
theorem pO(F:FuncId)(cap:Array Value)(x:Nat)(dir:Bool)(Inv:List Bool->Prop)(v:Value)(m:Kj)(N:Nat)(M0:List Bool)(w:World)(hv:Je Ju w N v m)(hN:N<=x)(hN2:N<=w.heap.size)(hg:Wz m)
  (hF:∀(args:Array Value)(w:World),(callFunc F args).run Tryz.prog w=.ok (.enter F args) w) (hx:Ks w x M0) (hl:M0.length=m.length) (h0:Inv M0)
  (hi:∀(M:List Bool)(i:Nat)(e:Int×Int),i<m.length->e∈Mm m i->Inv M->M.length=m.length->Ga M (tY dir i e)=true->Inv (M.set (Pa dir i e) true)) (hm:qsO F cap x dir m w) :
  Calls Tryz.prog 161 #[v,.slice (some ⟨x,0,none⟩) m.length m.length,.func (.func F) #[] cap] w (zmR dir m Inv x w m.length):=by
 obtain⟨A,c,rfl,Nj,Uw⟩:=hv.form;unfold maxLen at Uw;have HV:=Lh hv;have HG:=Lh hg;have HI:=Lh hi;have HM:=Lh hm;clear hv hg hi hm;obtain⟨n,hn⟩:=Xe m.length;have HN:=Lh hn;rw[<-hn]at Nj HV |-;clear hn;go_enter Tryz.func161,Tryz.ntmps161;go_wp2_with fail;have HW0:=Lt (w.grownBy w (some x)) (⟨rfl,rfl,rfl,Yb _,fun _ _ _=>rfl⟩);have HX0:=Lh hx;clear hx;go_loopg [7] (wQ M0+2) (fun left v7 wr=>∃(b:Bool)(M:List Bool),v7=.bool b/\wQ M+(if b=true then 1 else 0)<=left/\Hid (w.grownBy wr (some x))/\Hid (Ks wr x M)/\Hid (M.length=m.length)/\Hid (Inv M)/\Hid (b=false->∀i<m.length,mC dir M i (Mm m i)))
 exact⟨true,M0,rfl,by simp,HW0.o,HX0.o,hl,h0,fun h=>by cases h⟩;clear HX0 hl h0;obtain⟨b,M1,rfl,Ef,HW,HX,HL,HI0,HS⟩:=hrel;obtain⟨gas,Gx⟩:=Xe gk;rw[<-Gx]at Ef;have HGK:=Lh Gx;clear Gx;generalize wr=wo at*;cases b
 .go_wp2;go_ret;exact⟨M1,rfl,HW.o,HX.o,HL.o,HI0.o,HS.o trivial⟩
 have HLEFT:=Lh Ef;clear Ef;go_wp2_with fail;go_loopg [7,15] n (fun lf v7 v15 wt=>∃(b:Bool)(M:List Bool)(i:Nat),v7=.bool b/\v15=.int .i64 i/\i<=n/\n-i<=lf/\Hid (w.grownBy wt (some x))/\Hid (Ks wt x M)/\Hid (jL dir m Inv M1 M b i 0));exact⟨false,M1,0,rfl,rfl,by omega,by omega,HW.o,HX.o,jL.start HL.o HI0.o⟩;clear HW HX HI0 HS;obtain⟨b,M,i,rfl,rfl,hi,hlf,HW,HX,HSP⟩:=hrel;obtain⟨zwT,qpZ⟩:=Xe gk;rw[<-qpZ]at hlf;have HGK2:=Lh qpZ;clear qpZ;generalize wr=wp at*;by_cases Jl:i<n
 .have Wp:i<m.length:=by rw[<-HN.o];exact Jl
  have hvp:Je Ju wp N (.slice A n c) m:=HV.o.keep fun p hp=>World.cell?_of_block (HW.o.block p.block (by omega) (fun e=>by injection e with e;omega));obtain⟨b1,o1,cs,rfl,-,hb1,Ja,Zn⟩:=hvp.get Wp (by decide);obtain⟨u,rfl,hu,Ik,Si⟩:=Mr Ja;obtain⟨A4,e4,rfl,ew,sL⟩:=hu.form;unfold maxLen at sL;have d0:=Zn 0 _ rfl;have d1:=Zn 1 _ rfl;clear Zn hvp;simp only[show Ju.size=2 from rfl,Yq,<-Yy]at d0 d1;have yV:=Lh (Bi Wp);have HTO:=Lh (HG.o.tos i Wp);have HU:=Lt (Je Rc w N (.slice A4 (m[i]).2.length e4) (m[i]).2) (hu.keep fun p hp=>(World.cell?_of_block (HW.o.block p.block (by omega) (fun e=>by injection e with e;omega))).symm);have HMK:=Lh (fun(M:List Bool)(e:Int×Int)(W:World)(h1:w.grownBy W (some x))(h2:Ks W x M)(h3:M.length=m.length)(h4:e∈Mm m i)=>HM.o M i e W h1 h2 h3 Wp h4);have HIV:=Lh (fun(M:List Bool)(e:Int×Int)(h4:e∈Mm m i)=>HI.o M i e Wp h4);obtain⟨s,hs⟩:=Xe (m[i]);rw[<-hs]at d0 d1 yV HU ew Ik Si;clear hs hu Ja;obtain⟨so,se⟩:=s;simp only at d0 d1 ew Ik Si HU yV;obtain⟨q,hq⟩:=Xe se.length;have HQ:=Lh hq;rw[<-hq]at d1 ew HU;clear hq;have HW1:=Lh (HW.o.trans (World.grownBy_alloc wp (.cells #[.int .i64 so,.slice A4 q e4] 118) _));have HX1:=Lh (HX.o.grown (World.grownBy_alloc wp (.cells #[.int .i64 so,.slice A4 q e4] 118) none) (by simp));go_wp2_with fail;generalize wp.alloc (.cells #[.int .i64 so,.slice A4 q e4] 118)=wq at*;generalize wp.heap.size=b9 at*;clear HW HX;go_loopg [7,23] q (fun lf v7 v23 wt=>∃(b:Bool)(M:List Bool)(k:Nat),v7=.bool b/\v23=.int .i64 k/\k<=q/\q-k<=lf/\Hid (w.grownBy wt (some x))/\Hid (Ks wt x M)/\Hid (jL dir m Inv M1 M b i k));exact⟨b,M,0,rfl,rfl,by omega,by omega,HW1.o,HX1.o,HSP.o⟩;clear HW1 HX1 HSP d0 d1;obtain⟨b,M,k,rfl,rfl,hk,zuO,HW,HX,HSP⟩:=hrel;obtain⟨gas3,qpY⟩:=Xe gk;rw[<-qpY]at zuO;have HGK3:=Lh qpY;clear qpY;generalize wr=wt at*;by_cases hlk:k<q
  .have Du:k<se.length:=by rw[<-HQ.o];exact hlk
   have hut:Je Rc wt N (.slice A4 q e4) se:=HU.o.keep fun p hp=>World.cell?_of_block (HW.o.block p.block (by omega) (fun e=>by injection e with e;omega));obtain⟨b2,o2,cs,rfl,-,Jd,Ja,Zn⟩:=hut.get Du (by decide);obtain⟨rfl,sG,wF,sh,hy4⟩:=Nr Ja;have d0:=Zn 0 _ rfl;have d1:=Zn 1 _ rfl;clear Zn hut Ja;simp only[show Rc.size=2 from rfl,Yq,<-Yy]at d0 d1;have Ml:se[k]∈Mm m i:=by rw[yV.o];exact Qg Du
   have HAT:=Lh (show (Mm m i)[k]?=some se[k] by rw[yV.o];exact Qa Du);obtain⟨e,he⟩:=Xe (se[k]);rw[<-he]at d0 d1 sG wF sh hy4 HAT Ml;clear he;have zyE:=Lh (HTO.o e Ml);have zzQ:=Lh (fun M W h1 h2 h3=>HMK.o M e W h1 h2 h3 Ml);have zzV:=Lh (fun M=>HIV.o M e Ml);have HE:=Lh (HSP.o.edge HAT.o (by have:=zyE.o;unfold Pa;split <;> omega) zzV.o);have HL3:=Lh HSP.o.len;clear Ml HAT HSP;obtain⟨et,en⟩:=e;simp only at d0 d1;have HW1:=Lh (HW.o.trans (World.grownBy_alloc wt (.cells #[.int .i64 et,.int .i64 en] 145) _));have HX1:=Lh (HX.o.grown (World.grownBy_alloc wt (.cells #[.int .i64 et,.int .i64 en] 145) none) (by simp));go_wp2_with fail;refine (zzQ.o M _ HW1.o HX1.o HL3.o).mono ?_;rintro e w5 ⟨rfl,h5,h6⟩;have HW5:=Lh (HW1.o.trans h6);have HX5:=Lh h5;obtain⟨a,ha⟩:=Xe (qD dir M i (et,en));rw[<-ha]at HE |-;clear ha h5 h6;obtain⟨r,hr⟩:=Xe ((a||b));rw[<-hr]at HE;cases a <;> cases b <;> cases hr
   all_goals
    go_wp2;go_roundg (gk-1);exact⟨_,_,k+1,rfl,by go_num,by omega,by have:=HGK3.o;omega,HW5.o,HX5.o,HE.o⟩;have:=HGK3.o;omega
  have hkq:k=q:=by omega
  subst hkq;have HNX:=Lh (jL.next (by rw[yV.o,<-HQ.o];exact HSP.o));clear HSP;go_wp2;go_roundg (zwT-1);exact⟨b,M,i+1,rfl,by go_num,by omega,by have:=HGK2.o;omega,HW.o,HX.o,HNX.o⟩;have:=HGK2.o;omega
 have Uh:i=n:=by omega
 have Mc:=Lh (fun(h:b=false)=>jL.shutAll (by rw[<-HN.o];rw[h,Uh]at HSP;exact HSP.o));have HLE:=Lh HSP.o.le;have HMO:=Lh HSP.o.more;have HL4:=Lh HSP.o.len;have HI4:=Lh HSP.o.inv;subst Uh;clear HSP;go_wp2;go_roundg (gas-1)
 case measure=>have:=HGK.o;have:=HLEFT.o;simp at this;omega
 case rel =>
  refine⟨b,M,rfl,?_,HW.o,HX.o,HL4.o,HI4.o,Mc.o⟩;have h1:=HLEFT.o;have h2:=HGK.o;have h3:=HLE.o;have h4:=HMO.o;simp only[if_true]at h1;cases b
  .simp only[Bool.false_eq_true,if_false];omega
  have:=h4 rfl;simp only[if_true];omega
theorem pr(v:Value)(terms Ro:Int)(es:List (Int×Int))(w:World)(hv:Je Rc w w.heap.size v es) :
  Calls Tryz.prog 104 #[v,.int .i64 terms,.int .i64 Ro] w fun e w'=>e=.returned (.bool (Nk terms Ro (-1) es))/\Below w.heap.size w w':=by
 obtain⟨A,c,rfl,Nj,Uw⟩:=hv.form;unfold maxLen at Uw;go_enter Tryz.func104,Tryz.ntmps104;go_wp2_with fail;go_loopw [7,12] (fun v7 v12 wr=>∃(k:Nat)(last:Int),k<=es.length/\v7=.int .i64 last/\v12=.int .i64 k/\Hid (Nk terms Ro (-1) es=Nk terms Ro last (es.drop k))/\Below w.heap.size w wr) (fun _ v12 _=>es.length-(intOf v12).toNat);exact⟨0,-1,by omega,rfl,rfl,rfl,Xr _ _⟩;obtain⟨k,last,hk,rfl,rfl,HI,hbr⟩:=hrel;have Fb:=hbr.size;by_cases Jl:k<es.length
 .obtain⟨eb,eo,cs,rfl,_,heb,Mv,Zn⟩:=(hv.below hbr).get Jl (by decide);obtain⟨rfl,q1,q2,q3,q4⟩:=Nr Mv;have f0:=Zn 0 _ rfl;have f1:=Zn 1 _ rfl;clear Zn Mv;simp only[show Rc.size=2 from rfl,Yq,<-Yy]at f0 f1;have HS:Hid (Nk terms Ro last (es.drop k)=(decide (last<es[k].1)&&decide (es[k].1<terms)&&decide (0<=es[k].2)&&decide (es[k].2<Ro)&&Nk terms Ro es[k].1 (es.drop (k+1)))):=by
   show _=_;rw[Ql Jl];rfl
  obtain⟨x,hx⟩:=Xe (es[k]);rw[<-hx]at f0 f1 q1 q2 q3 q4 HS;clear hx;obtain⟨t,u⟩:=x;simp only at f0 f1 q1 q2 q3 q4;obtain⟨b1,hb1⟩:∃b:Bool,decide (t<=last)=b:=⟨_,rfl⟩;obtain⟨b2,Jd⟩:∃b:Bool,decide (terms<=t)=b:=⟨_,rfl⟩;obtain⟨b3,hb3⟩:∃b:Bool,decide (u<0)=b:=⟨_,rfl⟩;obtain⟨b4,hb4⟩:∃b:Bool,decide (Ro<=u)=b:=⟨_,rfl⟩;have HR:Hid (Nk terms Ro last (es.drop k)=(!b1&&!b2&&!b3&&!b4&&Nk terms Ro t (es.drop (k+1)))):=by
   show _=_;rw[HS.o,<-hb1,<-Jd,<-hb3,<-hb4];simp only[<-decide_not,Int.not_le,Int.not_lt]
  clear HS;have HB:=Lh (hbr.alloc Fb (.cells #[.int .i64 t,.int .i64 u] 145));cases b1 <;> cases b2 <;> cases b3 <;> cases b4
  case false.false.false.false =>
   go_wp2;go_roundw;exact⟨k+1,t,by omega,rfl,by go_num,by show _=_;rw[HI.o,HR.o];rfl,HB.o⟩;simp[intOf];omega
  all_goals
   go_wp2;go_ret;exact⟨Kw (Zw (by rw[HI.o,HR.o];rfl)),HB.o⟩
 have Du:k=es.length:=by omega
 subst Du;have HT:Hid (Nk terms Ro last (es.drop es.length)=true):=by
  show _=_;rw[List.drop_length];rfl
 go_wp2;go_ret;exact⟨Kw (Zw (by rw[HI.o,HT.o])),hbr⟩
def Tl(terms:Int)(n:Nat)(l:List Sta):Bool:=l.all fun s=>decide (-1<=s.1)&&Nk terms n (-1) s.2
theorem qfC(m:Kj)(terms:Int):Uy m terms=(Tl terms m.length m&&decide (m≠[])):=rfl
theorem tE(v:Value)(terms:Int)(m:Kj)(w:World)(hv:Je Ju w w.heap.size v m) :
  Calls Tryz.prog 48 #[v,.int .i64 terms] w fun e w'=>e=.returned (.bool (Uy m terms))/\Below w.heap.size w w':=by
 obtain⟨A,c,rfl,Nj,Uw⟩:=hv.form;unfold maxLen at Uw;have HE:=Lh (qfC m terms);go_enter Tryz.func48,Tryz.ntmps48;go_wp2_with fail;go_loopw [9] (fun v9 wr=>∃k:Nat,k<=m.length/\v9=.int .i64 k/\Hid (Tl terms m.length m=Tl terms m.length (m.drop k))/\Below w.heap.size w wr) (fun v9 _=>m.length-(intOf v9).toNat);exact⟨0,by omega,rfl,rfl,Xr _ _⟩;obtain⟨k,hk,rfl,HI,hbr⟩:=hrel;have Fb:=hbr.size;by_cases Jl:k<m.length
 .obtain⟨ab,ao,cs,rfl,_,Bg,Ja,Zn⟩:=(hv.below hbr).get Jl (by decide);obtain⟨u,rfl,hu,Ik,Si⟩:=Mr Ja;have c0:=Zn 0 _ rfl;have c1:=Zn 1 _ rfl;clear Zn Ja;simp only[show Ju.size=2 from rfl,Yq,<-Yy]at c0 c1;have HS:Hid (Tl terms m.length (m.drop k)=((decide (-1<=m[k].1)&&Nk terms m.length (-1) m[k].2)&&Tl terms m.length (m.drop (k+1)))):=by
   show _=_;rw[Ql Jl];rfl
  obtain⟨x,hx⟩:=Xe (m[k]);rw[<-hx]at c0 hu Ik Si HS;clear hx;obtain⟨o,es⟩:=x;simp only at c0 c1 hu Ik Si;have HB:=Lh (hbr.alloc Fb (.cells #[.int .i64 o,u] 118));have HU:=Lh (hu.fut (B':=(wr.alloc (.cells #[.int .i64 o,u] 118)).heap.size) ((Xr wr.heap.size wr).alloc (Yb _) (.cells #[.int .i64 o,u] 118)) (by omega) (by simp;omega));obtain⟨A4,e4,rfl,hq1,hq2⟩:=hu.form;obtain⟨b1,hb1⟩:∃b:Bool,decide (o < -1)=b:=⟨_,rfl⟩;have qqO:decide (-1<=o)=!b1:=by simp only[<-hb1,<-decide_not,Int.not_lt]
  cases b1
  .go_wp2_with fail;refine (pr _ terms m.length es _ HU.o).mono ?_;rintro e w2 ⟨rfl,Jd⟩;have HB2:=Lh (HB.o.trans (Jd.mono (by simp;omega)));clear Jd;cases hr:Nk terms m.length (-1) es with
   |false =>
    have HF:Hid (Tl terms m.length m=false):=by
     show _=_;rw[HI.o,HS.o];simp only[hr,Bool.and_false,Bool.false_and]
    clear hr;go_wp2;go_ret;exact⟨Kw (Zw (by rw[HE.o,HF.o];rfl)),HB2.o⟩
   |true =>
    have HF:Hid (Tl terms m.length m=Tl terms m.length (m.drop (k+1))):=by
     show _=_;rw[HI.o,HS.o];simp only[hr,qqO,Bool.not_false,Bool.true_and]
    clear hr;go_wp2;go_roundw;exact⟨k+1,by omega,by go_num,HF.o,HB2.o⟩;simp[intOf];omega
  have HF:Hid (Tl terms m.length m=false):=by
   show _=_;rw[HI.o,HS.o];simp only[qqO,Bool.not_true,Bool.false_and]
  go_wp2;go_ret;exact⟨Kw (Zw (by rw[HE.o,HF.o];rfl)),HB.o⟩
 have Du:k=m.length:=by omega
 subst Du;have HF:Hid (Tl terms m.length m=true):=by
  show _=_;rw[HI.o,List.drop_length];rfl
 by_cases h0:m.length=0
 .have HN:Hid (decide (m≠[])=false):=by
   show _=_;rw[Xx h0];rfl
  have HG:=Lh (show decide (0<m.length)=false by rw[h0];rfl);have hg:decide ((0:Int)<(m.length:Int))=false:=by rw[h0];rfl
  clear h0;go_wp2;go_ret;exact⟨Kw (Zw (by rw[HE.o,HF.o,HN.o];exact HG.o)),hbr⟩
 have HN:Hid (decide (m≠[])=true):=by
  show _=_;rw[Yk];exact fun e=>h0 (by rw[e];rfl)
 have HG:=Lh (show decide (0<m.length)=true by rw[Yk];omega);have hg:decide ((0:Int)<(m.length:Int))=true:=by rw[Yk];omega
 go_wp2;go_ret;exact⟨Kw (Zw (by rw[HE.o,HF.o,HN.o];exact HG.o)),hbr⟩
abbrev Zz:=List (Int×List Int)
abbrev Jb:=List (List Wd)
def tb(s:Int):UInt8:=UInt8.ofNat (-1-s).toNat
def Ai(k:Int)(a b:List Wd):List Wd:=a.flatMap fun x=>b.map fun y=>(x++y).take k.toNat
def Ep(k:Int)(a b:List Wd):Option (List Wd):=if (Mk (Ai k a b)).length<=4096 then some (Mk (Ai k a b))else none
def Sj(sets:Jb)(s:Int):Option (List Wd):=if s<0 then (if -256<=s then some [[tb s]]else none)else sets[s.toNat]?
def Nq(sets:Jb)(k:Int):List Wd->List Int->Option (List Wd)
 |acc,[]=>some acc
 |acc,s::l=>(Sj sets s).bind fun x=>(Ep k acc x).bind fun o=>Nq sets k o l
def nS(sets:Jb)(k:Int)(syms:List Int):Option (List Wd):=Nq sets k [[]] syms
def Kv(a b:List Wd):List Wd:=Mk (a++b)
inductive RoundsTo{σ:Type}(f:σ->Option (σ×Bool)):σ->Option σ->Prop
 |fail {s}:f s=none->RoundsTo f s none
 |done {s s'}:f s=some (s',false)->RoundsTo f s (some s')
 |more {s s' o}:f s=some (s',true)->RoundsTo f s' o->RoundsTo f s o
theorem RoundsTo.det{f:σ->Option (σ×Bool)}{s:σ}{o:Option σ}(h:RoundsTo f s o):∀{o'},RoundsTo f s o'->o=o':=by
 induction h with
 |fail e=>intro o' h';cases h' with
  |fail _=>rfl
  |done e'=>rw[e]at e';cases e'
  |more e' _=>rw[e]at e';cases e'
 |done e=>intro o' h';cases h' with
  |fail e'=>rw[e]at e';cases e'
  |done e'=>rw[e]at e';cases e';rfl
  |more e' _=>rw[e]at e';cases e'
 |more e _ ih=>intro o' h';cases h' with
  |fail e'=>rw[e]at e';cases e'
  |done e'=>rw[e]at e';cases e'
  |more e' h=>rw[e]at e';cases e';exact ih h
theorem RoundsTo.inv{f:σ->Option (σ×Bool)}(P:σ->Prop)(hp:∀s s' g,P s->f s=some (s',g)->P s'){s:σ}{o:Option σ}(h:RoundsTo f s o):P s->∀s',o=some s'->P s'/\∃t,P t/\f t=some (s',false):=by
 induction h with
 |fail e=>intro _ s' h;cases h
 |done e=>intro h s' e2;cases e2;exact⟨hp _ _ _ h e,_,h,e⟩
 |more e _ ih=>intro h s' e2;exact ih (hp _ _ _ h e) s' e2
def Fk(k:Int)(sets:Jb)(r:Int×List Int):Option (Jb×Bool) :=
 (nS sets k r.2).bind fun x =>
  if (Kv (sets.getD r.1.toNat []) x).length<=4096 then some (sets.set r.1.toNat (Kv (sets.getD r.1.toNat []) x),decide ((sets.getD r.1.toNat []).length<(Kv (sets.getD r.1.toNat []) x).length))else none
def Gu(k:Int):Zz->Jb×Bool->Option (Jb×Bool)
 |[],p=>some p
 |r::rs,p=>(Fk k p.1 r).bind fun q=>Gu k rs (q.1,p.2||q.2)
def Mx(k:Int)(rs:Zz)(s:Jb):Option (Jb×Bool):=Gu k rs (s,false)
def Gl(k:Int)(rs:Zz)(n:Nat)(o:Option Jb):Prop:=RoundsTo (Mx k rs) (List.replicate n []) o
def Kk(sets fol:Jb)(k:Int)(r:Int×List Int)(at_:Int):Option (List Wd) :=
 if at_ < -1\/(r.2.length:Int)<=at_\/r.1<0\/(fol.length:Int)<=r.1 then none
 else (nS sets k (r.2.drop (at_+1).toNat)).bind fun x=>Ep k x (fol.getD r.1.toNat [])
structure Fd where
 fol:Jb
 grown:Bool
 limit:Bool
def Vx(sets:Jb)(k:Int)(r:Int×List Int)(at_:Nat)(p:Fd):Fd :=
 match Kk sets p.fol k r at_ with
 |none=>⟨p.fol,p.grown,true⟩
 |some x=>if r.2.getD at_ 0<0 then p else
   let a:=(r.2.getD at_ 0).toNat
   ⟨p.fol.set a (Kv (p.fol.getD a []) x),p.grown||decide ((p.fol.getD a []).length<(Kv (p.fol.getD a []) x).length),p.limit||decide (4096<(Kv (p.fol.getD a []) x).length)⟩
def Wa(sets:Jb)(k:Int)(r:Int×List Int):Nat->Nat->Fd->Fd
 |0,_,p=>p
 |n+1,at_,p=>Wa sets k r n (at_+1) (Vx sets k r at_ p)
def Wi(sets:Jb)(k:Int):Zz->Fd->Fd
 |[],p=>p
 |r::rs,p=>Wi sets k rs (Wa sets k r r.2.length 0 p)
def Rx(sets:Jb)(k:Int)(rs:Zz)(fol:Jb):Option (Jb×Bool) :=
 let p:=Wi sets k rs ⟨fol,false,false⟩
 if p.limit then none else some (p.fol,p.grown)
def Ek(sets:Jb)(k:Int)(rs:Zz)(n:Nat)(o:Option Jb):Prop:=RoundsTo (Rx sets k rs) ((List.replicate n []).set 0 [[]]) o
def My(sets fol:Jb)(k:Int):Zz->Option Jb
 |[]=>some []
 |r::rs=>(Kk sets fol k r (-1)).bind fun x=>(My sets fol k rs).map (x::·)
inductive Der(rs:Zz):List Int->Wd->Prop
 |nil:Der rs [] []
 |term {s l w} (hs:s<0) (h:Der rs l w):Der rs (s::l) (tb s::w)
 |nont {a l r u v} (ha:0<=a) (hr:(a,r)∈rs) (h1:Der rs r u) (h2:Der rs l v):Der rs (a::l) (u++v)
inductive Fol(rs:Zz):Int->Wd->Prop
 |start:Fol rs 0 []
 |step {a r l1 b l2 u v} (hr:(a,r)∈rs) (e:r=l1++b::l2) (hb:0<=b) (h1:Der rs l2 u) (h2:Fol rs a v):Fol rs b (u++v)
theorem Oj(k:Nat)(u v:Wd):(u.take k++v.take k).take k=(u++v).take k:=by
 rw[List.take_append,List.take_append,List.take_take,List.take_take,Qq];congr 1
 .simp
 rcases Nat.le_total k u.length with h|h
 .rw[Nat.min_eq_left h];simp[Nat.sub_eq_zero_of_le h]
 rw[Nat.min_eq_right h,Nat.min_eq_left (Nat.sub_le _ _)]
theorem Cc(k:Nat)(u v:Wd):(u.take k++v).take k=(u++v).take k:=by
 rw[<-Oj k (u.take k) v,List.take_take,Nat.min_self,Oj]
theorem tT(k:Nat)(u v:Wd):(u++v.take k).take k=(u++v).take k:=by
 rw[<-Oj k u (v.take k),List.take_take,Nat.min_self,Oj]
theorem En{k:Int}{a b:List Wd}:z∈Ai k a b↔∃x∈a,∃y∈b,z=(x++y).take k.toNat:=by
 unfold Ai;simp only[Xv,Xa];constructor
 .rintro⟨x,hx,y,hy,rfl⟩;exact⟨x,hx,y,hy,rfl⟩
 rintro⟨x,hx,y,hy,rfl⟩;exact⟨x,hx,y,hy,rfl⟩
theorem Gf{k:Int}{a b o:List Wd}(h:Ep k a b=some o):z∈o↔∃x∈a,∃y∈b,z=(x++y).take k.toNat:=by
 unfold Ep at h;split at h
 .injection h with h;subst h;rw[Em,En]
 cases h
theorem qrQ{k:Int}{a b o:List Wd}(h:Ep k a b=some o):sA o:=by
 unfold Ep at h;split at h
 .injection h with h;subst h;exact Bw _
 cases h
def dU(rs:Zz)(k:Nat)(sets:Jb):Prop:=∀(a:Nat)(s:List Wd),sets[a]?=some s->∀x∈s,∃r u,((a:Int),r)∈rs/\Der rs r u/\x=u.take k
theorem kV{rs:Zz}{k:Nat}{sets:Jb}(hs:dU rs k sets):∀(syms:List Int)(acc out:List Wd),(∀x∈acc,x.take k=x)->Nq sets k acc syms=some out->∀z∈out,∃x∈acc,∃u,Der rs syms u/\z=(x++u).take k
 |[],acc,out,hk,h,z,hz=>by
  injection h with h;subst h;exact⟨z,hz,[],.nil,by rw[List.append_nil,hk z hz]⟩
 |s::l,acc,out,hk,h,z,hz=>by
  simp only[Nq]at h;cases h1:Sj sets s with
  |none=>rw[h1]at h;cases h
  |some x1 =>
   rw[h1,Option.bind_some]at h;cases h2:Ep (k:Int) acc x1 with
   |none=>rw[h2]at h;cases h
   |some o =>
    rw[h2,Option.bind_some]at h;obtain⟨y,hy,u,hu,rfl⟩:=kV hs l o out (fun x hx=>by obtain⟨_,_,_,_,rfl⟩:=(Gf h2).1 hx;simp[List.take_take]) h z hz;obtain⟨p,hp,q,hq,rfl⟩:=(Gf h2).1 hy;simp only[Yz];rw[Cc];unfold Sj at h1;split at h1
    .rename_i wI;split at h1
     .injection h1 with h1;subst h1;rw[Qi]at hq;subst hq;exact⟨p,hp,tb s::u,.term wI hu,by simp⟩
     cases h1
    rename_i Dt;obtain⟨r,v,hr,hv,rfl⟩:=hs _ _ h1 q hq;rw[Int.toNat_of_nonneg (by omega)]at hr;refine⟨p,hp,v++u,.nont (by omega) hr hv hu,?_⟩;rw[<-Cc k (p++v.take k),tT,Cc,Xd]
theorem dc{rs:Zz}{sets:Jb}(hs:dU rs k sets)(h:nS sets k syms=some out)(hz:z∈out):∃u,Der rs syms u/\z=u.take k:=by
 obtain⟨x,hx,u,hu,e⟩:=kV hs syms [[]] out (fun x hx=>by rw[Qi]at hx;subst hx;simp) h z hz;rw[Qi]at hx;subst hx;exact⟨u,hu,by simpa using e⟩
def mR(rs:Zz)(k:Nat)(sets:Jb):Prop:=∀a r,(a,r)∈rs->0<=a->∃x s,nS sets k r=some x/\sets[a.toNat]?=some s/\∀y∈x,y∈s
theorem qz{rs:Zz}{sets:Jb}(hc:mR rs k sets){u:Wd}(h:Der rs syms u):∀(acc out:List Wd),Nq sets k acc syms=some out->(∀x∈acc,x.take k=x)->∀x∈acc,(x++u).take k∈out:=by
 induction h with
 |nil =>
  intro acc out h hk x hx;injection h with h;subst h;rw[List.append_nil,hk x hx];exact hx
 |@term s l w hs hd ih =>
  intro acc out h hk x hx;simp only[Nq]at h;cases h1:Sj sets s with
  |none=>rw[h1]at h;cases h
  |some x1 =>
   rw[h1,Option.bind_some]at h;cases h2:Ep (k:Int) acc x1 with
   |none=>rw[h2]at h;cases h
   |some o =>
    rw[h2,Option.bind_some]at h;unfold Sj at h1;rw[if_pos hs]at h1;split at h1
    .injection h1 with h1;subst h1;have hm:(x++[tb s]).take k∈o:=(Gf h2).2 ⟨x,hx,[tb s],by simp,by simp⟩;have:=ih o out h (fun x hx=>by obtain⟨_,_,_,_,rfl⟩:=(Gf h2).1 hx;simp[List.take_take]) _ hm;rw[Cc,Xd]at this;exact this
    cases h1
 |@nont a l r u v ha hr h1' h2' ih1 ih2 =>
  intro acc out h hk x hx;simp only[Nq]at h;cases h1:Sj sets a with
  |none=>rw[h1]at h;cases h
  |some x1 =>
   rw[h1,Option.bind_some]at h;cases h2:Ep (k:Int) acc x1 with
   |none=>rw[h2]at h;cases h
   |some o =>
    rw[h2,Option.bind_some]at h;unfold Sj at h1;rw[if_neg (by omega)]at h1;obtain⟨xr,s,e1,e2,e3⟩:=hc a r hr ha;rw[e2]at h1;injection h1 with h1;subst h1;have hu:=ih1 [[]] xr e1 (fun x hx=>by rw[Qi]at hx;subst hx;simp) [] (by simp);rw[List.nil_append]at hu;have hm:(x++u.take k).take k∈o:=(Gf h2).2 ⟨x,hx,u.take k,e3 _ hu,by simp⟩;have:=ih2 o out h (fun x hx=>by obtain⟨_,_,_,_,rfl⟩:=(Gf h2).1 hx;simp[List.take_take]) _ hm;rw[tT,Cc,Xd]at this;exact this
theorem qnW{rs:Zz}{sets:Jb}(hc:mR rs k sets){u:Wd}(h:Der rs syms u)(ho:nS sets k syms=some out):u.take k∈out:=by
 have:=qz hc h [[]] out ho (fun x hx=>by rw[Qi]at hx;subst hx;simp) [] (by simp);simpa using this
end Go.Proofs.YtmaojnmnbpomeaaGreatDoor
