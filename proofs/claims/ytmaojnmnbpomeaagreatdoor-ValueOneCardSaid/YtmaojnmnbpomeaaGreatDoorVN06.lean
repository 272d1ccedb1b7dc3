/- A part. -/
import Derived.Test.YtmaojnmnbpomeaaGreatDoorVN05
import Derived.Deep.OwnRows
import Derived.Test.YtmaojnmnbpomeaaGreatDoorVNSeat
import Derived.Deep.DeepCutAuto
import Derived.Lib.ItoaLen
import Derived.Shelf.Strconv.ErrVarAll
import Derived.Sort.OwnSorted
set_option maxRecDepth 100000
set_option maxHeartbeats 64000000
namespace Go.Proofs.YtmaojnmnbpomeaaGreatDoor
variable{cs:Array Value}{p:Fd}{r:Int×List Int}{fol s s':Jb}{m:Kj}{M M1 M2 P:List Bool}{F a b out ts:List Wd}{B K b3 b7 i j k n q:Nat}{use:Nat->Bool}{c c':Nat->Int}{A:Option Addr}{α σ:Type}{t:TypeId}{x:Wd}{W0 w:World}{rs:Zz}
def Sb(rs:Zz)(n:Nat):Prop:=∀a r,(a,r)∈rs->0<=a/\a<n/\∀s∈r,s<n
def Mj(s:Jb):Prop:=∀(a:Nat)(x:List Wd),s[a]?=some x->sA x
theorem Mj.getD(h:Mj s)(a:Nat):sA (s.getD a []):=by
 rw[Qb];cases e:s[a]? with
 |none=>exact List.Pairwise.nil
 |some x=>exact h a x e
theorem Mj.set(h:Mj s)(a:Nat){x:List Wd}(hx:sA x):Mj (s.set a x):=by
 intro b y hy;rw[Xw]at hy;split at hy
 .split at hy
  .injection hy with hy;subst hy;exact hx
  cases hy
 exact h b y hy
theorem Mj.replicate(n:Nat):Mj (List.replicate n []):=by
 intro b y hy;rw[Xh]at hy;split at hy
 .injection hy with hy;subst hy;exact List.Pairwise.nil
 cases hy
theorem Gq(a b:List Wd):sA (Kv a b):=Bw _
theorem Cn:x∈Kv a b↔x∈a\/x∈b:=by unfold Kv;rw[Em,Qh]
theorem fZ(s:Jb)(a:Nat):s.set a (s.getD a [])=s:=by
 apply List.ext_getElem?;intro i;rw[Xw];split
 .rename_i h;subst h;split
  .rename_i hl;rw[Qb,Qa hl];rfl
  rename_i hl;rw[Xg (by omega)]
 rfl
structure Ii(rs:Zz)(n k:Nat)(s:Jb):Prop where
 len:s.length=n
 asc:Mj s
 sound:dU rs k s
theorem wY(rs:Zz)(n k:Nat):Ii rs n k (List.replicate n []):=⟨by simp,Mj.replicate n,fun a s h x hx=>by
 rw[Xh]at h
 split at h
 .injection h with h;subst h;cases hx
 cases h⟩
theorem qiW{g:Bool}(hr:r∈rs)(hw:Sb rs n)(h:Ii rs n k s)(e:Fk k s r=some (s',g)):Ii rs n k s':=by
 unfold Fk at e;cases h1:nS s k r.2 with
 |none=>rw[h1]at e;cases e
 |some x =>
  rw[h1,Option.bind_some]at e;split at e
  .injection e with e;injection e with e e2;subst e;refine⟨by rw[Qm];exact h.len,h.asc.set _ (Gq _ _),fun a s1 Gc y hy=>?_⟩;rw[Xw]at Gc;split at Gc
   .rename_i ha;split at Gc
    .injection Gc with Gc;subst Gc ha;rcases Cn.1 hy with hy|hy
     .rw[Qb]at hy;cases e3:s[r.1.toNat]? with
      |none=>rw[e3]at hy;cases hy
      |some z=>rw[e3]at hy;exact h.sound _ _ e3 y hy
     obtain⟨u,hu,rfl⟩:=dc h.sound h1 hy;refine⟨r.2,u,?_,hu,rfl⟩;rw[Int.toNat_of_nonneg (hw r.1 r.2 hr).1];exact hr
    cases Gc
   exact h.sound _ _ Gc y hy
  cases e
theorem uO(hw:Sb rs n):∀(l:Zz)(p q:Jb×Bool),(∀r∈l,r∈rs)->Ii rs n k p.1->Gu k l p=some q->Ii rs n k q.1
 |[],p,q,_,h,e=>by injection e with e;subst e;exact h
 |r::l,p,q,hl,h,e=>by
  simp only[Gu]at e;cases h1:Fk k p.1 r with
  |none=>rw[h1]at e;cases e
  |some t =>
   rw[h1,Option.bind_some]at e;exact uO hw l (t.1,p.2||t.2) q (fun r hr=>hl r (by simp[hr])) (qiW (g:=t.2) (hl r (by simp)) hw h h1) e
theorem tt{k:Int}(ha:Mj s)(e:Fk k s r=some (s',false)):s'=s/\∃x,nS s k r.2=some x/\∀y∈x,y∈s.getD r.1.toNat []:=by
 unfold Fk at e;cases h1:nS s k r.2 with
 |none=>rw[h1]at e;cases e
 |some x =>
  rw[h1,Option.bind_some]at e;split at e
  .injection e with e;injection e with e e2;have hle:=of_decide_eq_false e2;obtain⟨g1,g2⟩:=(eG (a:=s.getD r.1.toNat []) (b:=x) (ha.getD _)).2 (Nat.le_of_not_lt hle);refine⟨?_,x,rfl,g2⟩;rw[<-e];show s.set _ (Mk _)=s;rw[g1,fZ]
  cases e
theorem kP{k:Int}:∀(l:Zz)(s s':Jb)(g:Bool),Mj s->Gu k l (s,g)=some (s',false)->g=false/\s'=s/\∀r∈l,∃x,nS s k r.2=some x/\∀y∈x,y∈s.getD r.1.toNat []
 |[],s,s',g,_,e=>by
  injection e with e;injection e with e1 e2;exact⟨e2,e1.symm,fun r hr=>by cases hr⟩
 |r::l,s,s',g,ha,e=>by
  simp only[Gu]at e;cases h1:Fk k s r with
  |none=>rw[h1]at e;cases e
  |some t =>
   rw[h1,Option.bind_some]at e;obtain⟨t1,t2⟩:=t;cases t2 with
   |true =>
    exfalso;rw[Bool.or_true]at e;have:∀(l:Zz)(p:Jb)(q:Jb×Bool),Gu k l (p,true)=some q->q.2=true:=by
     intro l
     induction l with
     |nil=>intro p q e;injection e with e;subst e;rfl
     |cons r l ih =>
      intro p q e;simp only[Gu]at e;cases h:Fk k p r with
      |none=>rw[h]at e;cases e
      |some t=>rw[h,Option.bind_some,Bool.true_or]at e;exact ih _ _ e
    have:=this _ _ _ e;cases this
   |false =>
    rw[Bool.or_false]at e;obtain⟨rfl,x,hx,hs⟩:=tt ha h1;obtain⟨hg,rfl,h2⟩:=kP l _ s' g ha e;refine⟨hg,rfl,fun r' zS=>?_⟩;rcases List.mem_cons.1 zS with rfl|zS
    .exact⟨x,hx,hs⟩
    exact h2 r' zS
theorem Gl.full(hw:Sb rs n)(h:Gl k rs n (some s)):Ii rs n k s/\mR rs k s:=by
 obtain⟨h1,t,h2,h3⟩:=RoundsTo.inv (Ii rs n k) (fun s s' g hs e=>uO hw rs (s,false) (s',g) (fun _ h=>h) hs e) h (wY rs n k) s rfl;refine⟨h1,?_⟩;obtain⟨_,rfl,h4⟩:=kP rs t s false h2.asc h3;intro a r hr ha;obtain⟨x,hx,hs⟩:=h4 (a,r) hr;have hl:a.toNat<s.length:=by rw[h1.len];have:=(hw a r hr).2.1;omega
 refine⟨x,s[a.toNat],hx,Qa hl,fun y hy=>?_⟩;have:=hs y hy
 rwa [Qb,Qa hl]at this
def lp(rs:Zz)(k:Nat)(fol:Jb):Prop:=∀(a:Nat)(s:List Wd),fol[a]?=some s->∀x∈s,∃v,Fol rs a v/\x=v.take k
theorem lp.getD(h:lp rs k fol){a:Nat}(hx:x∈fol.getD a []):∃v,Fol rs a v/\x=v.take k:=by
 rw[Qb]at hx;cases e:fol[a]? with
 |none=>rw[e]at hx;cases hx
 |some s=>rw[e]at hx;exact h _ _ e x hx
theorem gS{sets:Jb}(hs:dU rs k sets)(ho:lp rs k fol){at_:Int}(h:Kk sets fol k r at_=some out){z:Wd}(hz:z∈out) :
  ∃u v,Der rs (r.2.drop (at_+1).toNat) u/\Fol rs r.1 v/\z=(u++v).take k:=by
 unfold Kk at h;split at h
 .cases h
 rename_i hg;cases h1:nS sets k (r.2.drop (at_+1).toNat)with
 |none=>rw[h1]at h;cases h
 |some x =>
  rw[h1,Option.bind_some]at h;obtain⟨p,hp,q,hq,rfl⟩:=(Gf h).1 hz;obtain⟨u,hu,rfl⟩:=dc hs h1 hp;obtain⟨v,hv,rfl⟩:=ho.getD hq;rw[Int.toNat_of_nonneg (by omega)]at hv;exact⟨u,v,hu,hv,by simp only[Yz];rw[Oj]⟩
theorem lY{sets:Jb}(hc:mR rs k sets){at_:Int}(h:Kk sets fol k r at_=some out){u v:Wd}(hu:Der rs (r.2.drop (at_+1).toNat) u)(hv:v.take k∈fol.getD r.1.toNat []) :
  (u++v).take k∈out:=by
 unfold Kk at h;split at h
 .cases h
 cases h1:nS sets k (r.2.drop (at_+1).toNat)with
 |none=>rw[h1]at h;cases h
 |some x =>
  rw[h1,Option.bind_some]at h;exact (Gf h).2 ⟨u.take k,qnW hc hu h1,v.take k,hv,by simp only[Yz];rw[Oj]⟩
structure aG(rs:Zz)(n k:Nat)(s:Jb):Prop where
 len:s.length=n
 asc:Mj s
 sound:lp rs k s
 start:[]∈s.getD 0 []
theorem kj(hn:0<n):aG rs n k ((List.replicate n []).set 0 [[]]):=by
 refine⟨by simp,(Mj.replicate n).set 0 (by simp),fun a s h x hx=>?_,?_⟩
 .rw[Xw]at h;split at h
  .rename_i ha;split at h
   .injection h with h;subst h ha;rw[Qi]at hx;subst hx;exact⟨[],.start,by simp⟩
   cases h
  rw[Xh]at h;split at h
  .injection h with h;subst h;cases hx
  cases h
 rw[Qb,Xw];simp[hn]
theorem qaV{r:List Int}{at_:Nat}(h:at_<r.length):r=r.take at_++r.getD at_ 0::r.drop (at_+1):=by
 rw[Qb,Qa h];simp
theorem ow(hn:0<n){sets:Jb}(hs:dU rs k sets)(hr:r∈rs){at_:Nat}(zV:at_<r.2.length)(h:aG rs n k p.fol):aG rs n k (Vx sets k r at_ p).fol:=by
 unfold Vx;cases h1:Kk sets p.fol k r at_ with
 |none=>exact h
 |some x =>
  simp only;split
  .exact h
  rename_i Dt;refine⟨by simp only[Qm];exact h.len,h.asc.set _ (Gq _ _),fun a s Gc y hy=>?_,?_⟩
  .simp only[Xw]at Gc;split at Gc
   .rename_i ha;split at Gc
    .injection Gc with Gc;subst Gc ha;rcases Cn.1 hy with hy|hy
     .exact h.sound.getD hy
     obtain⟨u,v,hu,hv,rfl⟩:=gS hs h.sound h1 hy;refine⟨u++v,?_,rfl⟩;rw[Int.toNat_of_nonneg (by omega)];rw[show ((at_:Int)+1).toNat=at_+1 by omega]at hu;exact .step (a:=r.1) (r:=r.2) hr (qaV zV) (by omega) hu hv
    cases Gc
   exact h.sound _ _ Gc y hy
  simp only[Qb,Xw];split
  .rename_i ha;rw[if_pos (by rw[h.len];omega)];simp only[Option.getD_some];refine Cn.2 (.inl ?_);rw[ha];simpa[Qb]using h.start
  simpa[Qb]using h.start
theorem kI(hn:0<n){sets:Jb}(hs:dU rs k sets)(hr:r∈rs):∀(m at_:Nat)(p:Fd),at_+m<=r.2.length->aG rs n k p.fol->aG rs n k (Wa sets k r m at_ p).fol
 |0,_,p,_,h=>h
 |m+1,at_,p,hm,h=>kI hn hs hr m (at_+1) _ (by omega) (ow hn hs hr (by omega) h)
theorem fX(hn:0<n){sets:Jb}(hs:dU rs k sets):∀(l:Zz)(p:Fd),(∀r∈l,r∈rs)->aG rs n k p.fol->aG rs n k (Wi sets k l p).fol
 |[],p,_,h=>h
 |r::l,p,hl,h=>fX hn hs l _ (fun r hr=>hl r (by simp[hr])) (kI hn hs (hl r (by simp)) _ _ _ (by omega) h)
def mD(p:Fd):Prop:=p.grown=false/\p.limit=false
theorem fW{sets:Jb}{k:Int}{at_:Nat}(h:mD (Vx sets k r at_ p)):mD p:=by
 unfold Vx at h;cases h1:Kk sets p.fol k r at_ with
 |none=>rw[h1]at h;cases h.2
 |some x =>
  rw[h1]at h;simp only at h;split at h
  .exact h
  obtain⟨h2,h3⟩:=h;simp only[Yn]at h2 h3;exact⟨h2.1,h3.1⟩
theorem Cd{sets:Jb}{k:Int}:∀(m at_:Nat)(p:Fd),mD (Wa sets k r m at_ p)->mD p
 |0,_,_,h=>h
 |m+1,at_,_,h=>fW (Cd m (at_+1) _ h)
theorem aM{sets:Jb}{k:Int}:∀(l:Zz)(p:Fd),mD (Wi sets k l p)->mD p
 |[],_,h=>h
 |_::l,_,h=>Cd _ _ _ (aM l _ h)
def lj(sets fol:Jb)(k:Int)(r:Int×List Int)(at_:Nat):Prop:=∃x,Kk sets fol k r at_=some x/\(0<=r.2.getD at_ 0->∀y∈x,y∈fol.getD (r.2.getD at_ 0).toNat [])
theorem zA{sets:Jb}{k:Int}{at_:Nat}(ha:Mj p.fol)(h:mD (Vx sets k r at_ p)):Vx sets k r at_ p=p/\lj sets p.fol k r at_:=by
 have hq:=fW h;unfold Vx at h |-;cases h1:Kk sets p.fol k r at_ with
 |none=>rw[h1]at h;cases h.2
 |some x =>
  rw[h1]at h;simp only at h |-;split at h
  .rename_i wI;exact⟨if_pos wI,x,h1,fun h0=>absurd wI (by omega)⟩
  rename_i Dt;rw[if_neg Dt];obtain⟨h2,h3⟩:=h;simp only[Yn,Yl]at h2 h3;obtain⟨g1,g2⟩:=(eG (a:=p.fol.getD (r.2.getD at_ 0).toNat []) (b:=x) (ha.getD _)).2 (Nat.le_of_not_lt h2.2);refine⟨?_,x,h1,fun _=>g2⟩;obtain⟨f,g,l⟩:=p;obtain⟨e1,e2⟩:=hq;simp only at e1 e2 g1 h2 h3 |-;subst e1 e2;show Fd.mk (f.set _ (Mk _)) _ _=_;unfold Kv;rw[g1,fZ];unfold Kv at h2 h3;rw[g1]at h3;simp only[Yt,Fd.mk.injEq,true_and,Yl,Nat.lt_irrefl,not_false_eq_true];exact h3.2
theorem bZ{sets:Jb}{k:Int}{r:Int×List Int}:∀(m at_:Nat)(p:Fd),Mj p.fol->mD (Wa sets k r m at_ p)->Wa sets k r m at_ p=p/\∀i,at_<=i->i<at_+m->lj sets p.fol k r i
 |0,_,_,_,h=>⟨rfl,fun i h1 h2=>by omega⟩
 |m+1,at_,p,ha,h=>by
  simp only[Wa]at h |-;obtain⟨e1,e2⟩:=zA ha (Cd m (at_+1) _ h);rw[e1]at h |-;obtain⟨e3,e4⟩:=bZ m (at_+1) p ha h;refine⟨e3,fun i h1 h2=>?_⟩;rcases Nat.eq_or_lt_of_le h1 with rfl|h1
  .exact e2
  exact e4 i h1 (by omega)
theorem aL{sets:Jb}{k:Int}:∀(l:Zz)(p:Fd),Mj p.fol->mD (Wi sets k l p)->Wi sets k l p=p/\∀r∈l,∀i,i<r.2.length->lj sets p.fol k r i
 |[],_,_,h=>⟨rfl,fun r hr=>by cases hr⟩
 |r::l,p,ha,h=>by
  simp only[Wi]at h |-;obtain⟨e1,e2⟩:=bZ _ _ _ ha (aM l _ h);rw[e1]at h |-;obtain⟨e3,e4⟩:=aL l p ha h;refine⟨e3,fun r' zS i hi=>?_⟩;rcases List.mem_cons.1 zS with rfl|zS
  .exact e2 i (by omega) (by omega)
  exact e4 r' zS i hi
theorem Ek.full(hn:0<n){sets:Jb}(hs:dU rs k sets)(hc:mR rs k sets)(h:Ek sets k rs n (some fol)) :
  aG rs n k fol/\∀(b:Int)(v:Wd),0<=b->b<n->Fol rs b v->v.take k∈fol.getD b.toNat []:=by
 obtain⟨h1,t,h2,h3⟩:=RoundsTo.inv (aG rs n k) (fun s s' g hi e=>by
  unfold Rx at e
  simp only at e
  split at e
  .cases e
  injection e with e
  injection e with e1 e2
  rw[<-e1]
  exact fX hn hs rs ⟨s,false,false⟩ (fun _ h=>h) hi) h (kj hn) fol rfl
 refine⟨h1,?_⟩;unfold Rx at h3;simp only at h3;split at h3
 .cases h3
 rename_i hlim;injection h3 with h3;injection h3 with h3 h4;obtain⟨e1,e2⟩:=aL rs ⟨t,false,false⟩ h2.asc ⟨h4,by simpa using hlim⟩;rw[e1]at h3;simp only at h3;subst h3;have key:∀b v,Fol rs b v->v.take k∈t.getD b.toNat []:=by
  intro b v hf
  induction hf with
  |start=>simpa using h2.start
  |@step a r l1 b l2 u v hr e hb hd hf ih =>
   subst e;obtain⟨x,hx,Uh⟩:=e2 (a,l1++b::l2) hr l1.length (by simp);have zV:(l1++b::l2).getD l1.length 0=b:=by simp
   simp only[zV]at Uh;refine Uh hb _ (lY hc hx ?_ ih);simp only[show ((l1.length:Int)+1).toNat=l1.length+1 by omega];simpa using hd
 exact fun b v _ _ hf=>key b v hf
theorem jK{sets fol:Jb}{k:Int}:∀(l:Zz)(out:Jb),My sets fol k l=some out->out.length=l.length/\∀(i:Nat)(r:Int×List Int),l[i]?=some r->∃x,out[i]?=some x/\Kk sets fol k r (-1)=some x
 |[],out,h=>by injection h with h;subst h;exact⟨rfl,fun i r h=>by simp at h⟩
 |r::l,out,h=>by
  simp only[My]at h;cases h1:Kk sets fol k r (-1)with
  |none=>rw[h1]at h;cases h
  |some x =>
   rw[h1,Option.bind_some]at h;cases h2:My sets fol k l with
   |none=>rw[h2]at h;cases h
   |some o =>
    rw[h2]at h;injection h with h;subst h;obtain⟨e1,e2⟩:=jK l o h2;refine⟨by simp[e1],fun i r' zS=>?_⟩;cases i with
    |zero=>simp only[List.getElem?_cons_zero,Option.some.injEq]at zS;subst zS;exact⟨x,by simp,h1⟩
    |succ i=>simpa using e2 i r' (by simpa using zS)
def mq(rs:Zz)(k:Nat)(r:Int×List Int)(z:Wd):Prop:=∃u v,Der rs r.2 u/\Fol rs r.1 v/\z=(u++v).take k
structure xX(rs:Zz)(n k:Nat)(out:Jb):Prop where
 len:out.length=rs.length
 mean:∀(i:Nat)(r:Int×List Int)(x:List Wd),rs[i]?=some r->out[i]?=some x->sA x/\∀z,z∈x↔mq rs k r z
theorem xd{sets:Jb}{k:Int}{at_:Int}{x:List Wd}(h:Kk sets fol k r at_=some x):sA x:=by
 unfold Kk at h;split at h
 .cases h
 cases h1:nS sets k (r.2.drop (at_+1).toNat)with
 |none=>rw[h1]at h;cases h
 |some y=>rw[h1,Option.bind_some]at h;exact qrQ h
theorem zjE(hn:0<n)(hw:Sb rs n){sets out:Jb}(h1:Gl k rs n (some sets))(h2:Ek sets k rs n (some fol))(h3:My sets fol k rs=some out):xX rs n k out:=by
 obtain⟨a1,a2⟩:=h1.full hw;obtain⟨b1,b2⟩:=h2.full hn a1.sound a2;obtain⟨c1,c2⟩:=jK rs out h3;refine⟨c1,fun i r x hr hx=>?_⟩;obtain⟨y,hy,hb⟩:=c2 i r hr;rw[hx]at hy;injection hy with hy;subst hy;refine⟨xd hb,fun z=>⟨fun hz=>?_,fun hz=>?_⟩⟩
 .obtain⟨u,v,hu,hv,e⟩:=gS a1.sound b1.sound hb hz;exact⟨u,v,by simpa using hu,hv,e⟩
 obtain⟨u,v,hu,hv,rfl⟩:=hz;have hm:(r.1,r.2)∈rs:=Qp hr;have:=hw r.1 r.2 hm;exact lY a2 hb (by simpa using hu) (b2 r.1 v this.1 this.2.1 hv)
def qkH:Nat->List Wd
 |0=>[[]]
 |n+1=>[]::(qkH n).flatMap fun w=>[0::w,1::w,2::w]
def bJ(w:Wd):Prop:=w.length<=4/\∀c∈w,c.toNat<3
theorem rh:∀(n:Nat)(w:Wd),w.length<=n->(∀c∈w,c.toNat<3)->w∈qkH n
 |0,[],_,_=>by simp[qkH]
 |0,c::w,h,_=>by simp at h
 |n+1,[],_,_=>by simp[qkH]
 |n+1,c::w,h,hc=>by
  have ih:=rh n w (by simpa using h) (fun c hc'=>hc c (by simp[hc']));have h3:=hc c (by simp);simp only[qkH,List.mem_cons,Xv];right;refine⟨w,ih,?_⟩;have:c=0\/c=1\/c=2:=by
   have e:c=UInt8.ofNat c.toNat:=by simp
   have:c.toNat=0\/c.toNat=1\/c.toNat=2:=by omega
   rcases this with h|h|h <;> rw[h]at e <;> simp[e]
  rcases this with rfl|rfl|rfl <;> simp
theorem zfE:(qkH 4).length=121:=rfl
theorem qeB{l:List Wd}(hn:l.Nodup)(h:∀w∈l,bJ w):l.length<=121:=by
 rw[<-zfE];exact hn.length_le_of_subset fun w hw=>rh 4 w (h w hw).1 (h w hw).2
def Gd(s:Jb):Prop:=∀(a:Nat)(x:List Wd),s[a]?=some x->∀w∈x,bJ w
theorem vk{k:Int}(hk:k<=4)(ha:∀w∈a,bJ w)(hb:∀w∈b,bJ w):∃o,Ep k a b=some o/\∀w∈o,bJ w:=by
 have hf:∀w∈Ai k a b,bJ w:=by
  intro w hw;obtain⟨x,hx,y,hy,rfl⟩:=En.1 hw;refine⟨by rw[Qq];omega,fun c hc=>?_⟩;rcases Qh.1 (List.mem_of_mem_take hc)with h|h
  .exact (ha x hx).2 c h
  exact (hb y hy).2 c h
 have h:=qeB (Bw (Ai k a b)).nodup fun w hw=>hf w (Em.1 hw);refine⟨Mk (Ai k a b),?_,fun w hw=>hf w (Em.1 hw)⟩;unfold Ep;rw[if_pos (by omega)]
def zhF(rs:Zz):Prop:=∀a r,(a,r)∈rs->∀s∈r,-3<=s
theorem zcR{s:Int}(h1:s<0)(h2:-3<=s):(tb s).toNat<3:=by
 unfold tb;rw[UInt8.toNat_ofNat'];omega
theorem vP{k:Int}(hk:k<=4){sets:Jb}(hs:Gd sets):∀(syms:List Int)(acc:List Wd),(∀s∈syms,-3<=s/\s<sets.length)->(∀w∈acc,bJ w)->∃o,Nq sets k acc syms=some o/\∀w∈o,bJ w
 |[],acc,_,ha=>⟨acc,rfl,ha⟩
 |s::l,acc,hl,ha=>by
  obtain⟨h1,h2⟩:=hl s (by simp);have ho:∃x,Sj sets s=some x/\∀w∈x,bJ w:=by
   unfold Sj;split
   .rename_i wI;rw[if_pos (by omega)];refine⟨_,rfl,fun w hw=>?_⟩;rw[Qi]at hw;subst hw;exact⟨by simp,fun c hc=>by rw[Qi]at hc;subst hc;exact zcR wI h1⟩
   have hl:s.toNat<sets.length:=by omega
   exact⟨sets[s.toNat],Qa hl,hs _ _ (Qa hl)⟩
  obtain⟨x,hx,hxf⟩:=ho;obtain⟨o,ho,hof⟩:=vk hk ha hxf;obtain⟨z,hz,hzf⟩:=vP hk hs l o (fun s h=>hl s (by simp[h])) hof;exact⟨z,by simp only[Nq,hx,Option.bind_some,ho,hz],hzf⟩
theorem qeA:∀w∈([[]]:List Wd),bJ w:=fun w hw=>by rw[Qi]at hw;subst hw;exact⟨by simp,fun c hc=>by cases hc⟩
theorem qcZ{k:Int}(hk:k<=4){sets:Jb}(hs:Gd sets){syms:List Int}(h:∀s∈syms,-3<=s/\s<sets.length):∃o,nS sets k syms=some o/\∀w∈o,bJ w:=vP hk hs syms [[]] h qeA
theorem Gd.getD(h:Gd s)(a:Nat):∀w∈s.getD a [],bJ w:=by
 rw[Qb];cases e:s[a]? with
 |none=>intro w hw;cases hw
 |some x=>exact h a x e
theorem Gd.set(h:Gd s)(a:Nat){x:List Wd}(hx:∀w∈x,bJ w):Gd (s.set a x):=by
 intro b y hy;rw[Xw]at hy;split at hy
 .split at hy
  .injection hy with hy;subst hy;exact hx
  cases hy
 exact h b y hy
theorem Gd.replicate(n:Nat):Gd (List.replicate n []):=by
 intro b y hy;rw[Xh]at hy;split at hy
 .injection hy with hy;subst hy;intro w hw;cases hw
 cases hy
theorem av(ha:∀w∈a,bJ w)(hb:∀w∈b,bJ w):(∀w∈Kv a b,bJ w)/\(Kv a b).length<=121:=by
 have h:∀w∈Kv a b,bJ w:=fun w hw=>(Cn.1 hw).elim (ha w) (hb w);exact⟨h,qeB (Gq a b).nodup h⟩
theorem qiX{k:Int}(hk:k<=4)(hs:Gd s)(hr:∀x∈r.2,-3<=x/\x<s.length):∃q,Fk k s r=some q/\Gd q.1/\q.1.length=s.length:=by
 obtain⟨o,ho,hof⟩:=qcZ hk hs hr;obtain⟨u1,u2⟩:=av (hs.getD r.1.toNat) hof;unfold Fk;rw[ho,Option.bind_some,if_pos (by omega)];exact⟨_,rfl,hs.set _ u1,by simp⟩
theorem uP{k:Int}(hk:k<=4){n:Nat}:∀(l:Zz)(p:Jb×Bool),(∀r∈l,∀x∈r.2,-3<=x/\x<n)->Gd p.1->p.1.length=n->∃q,Gu k l p=some q/\Gd q.1/\q.1.length=n
 |[],p,_,hs,hl=>⟨p,rfl,hs,hl⟩
 |r::l,p,hr,hs,hl=>by
  obtain⟨q,hq,h1,h2⟩:=qiX hk hs (r:=r) (fun x hx=>by rw[hl];exact hr r (by simp) x hx);obtain⟨z,hz,h3,h4⟩:=uP hk l (q.1,p.2||q.2) (fun r h=>hr r (by simp[h])) h1 (by rw[h2,hl]);exact⟨z,by simp only[Gu,hq,Option.bind_some,hz],h3,h4⟩
theorem RoundsTo.never{f:σ->Option (σ×Bool)}(P:σ->Prop)(hp:∀s,P s->∃q,f s=some q/\P q.1){s:σ}{o:Option σ}(h:RoundsTo f s o):P s->∃s',o=some s'/\P s':=by
 induction h with
 |fail e=>intro h;obtain⟨q,hq,_⟩:=hp _ h;rw[e]at hq;cases hq
 |done e=>intro h;obtain⟨q,hq,h1⟩:=hp _ h;rw[e]at hq;injection hq with hq;subst hq;exact⟨_,rfl,h1⟩
 |more e _ ih=>intro h;obtain⟨q,hq,h1⟩:=hp _ h;rw[e]at hq;injection hq with hq;subst hq;exact ih h1
theorem Gl.few{k:Int}(hk:k<=4)(hw:Sb rs n)(hr:zhF rs){o:Option Jb}(h:Gl k rs n o):∃s,o=some s/\Gd s/\s.length=n :=
 RoundsTo.never (fun s=>Gd s/\s.length=n) (fun s ⟨h1,h2⟩=>uP hk rs (s,false) (fun r hm x hx=>⟨hr r.1 r.2 hm x hx,(hw r.1 r.2 hm).2.2 x hx⟩) h1 h2) h ⟨Gd.replicate n,by simp⟩
theorem qS{k:Int}(hk:k<=4){sets:Jb}(hs:Gd sets)(hf:Gd fol){at_:Int}(h1:-1<=at_)(h2:at_<r.2.length)(h3:0<=r.1/\r.1<fol.length)(h4:∀x∈r.2,-3<=x/\x<sets.length):∃o,Kk sets fol k r at_=some o/\∀w∈o,bJ w:=by
 unfold Kk;rw[if_neg (by omega)];obtain⟨x,hx,hxf⟩:=qcZ hk hs (syms:=r.2.drop (at_+1).toNat) (fun s h=>h4 s (List.mem_of_mem_drop h));rw[hx,Option.bind_some];exact vk hk hxf (hf.getD _)
theorem oy{k:Int}(hk:k<=4){sets:Jb}(hs:Gd sets){at_:Nat}(hf:Gd p.fol)(hl:p.fol.length=n)(h2:at_<r.2.length)(h3:0<=r.1/\r.1<n)(h4:∀x∈r.2,-3<=x/\x<sets.length) :
  Gd (Vx sets k r at_ p).fol/\(Vx sets k r at_ p).fol.length=n/\(Vx sets k r at_ p).limit=p.limit:=by
 obtain⟨x,hx,hxf⟩:=qS hk hs hf (r:=r) (at_:=at_) (by omega) (by omega) (by rw[hl];exact h3) h4;unfold Vx;rw[hx];simp only;split
 .exact⟨hf,hl,rfl⟩
 obtain⟨u1,u2⟩:=av (hf.getD (r.2.getD at_ 0).toNat) hxf;exact⟨hf.set _ u1,by simpa using hl,by rw[show decide (4096<(Kv (p.fol.getD (r.2.getD at_ 0).toNat []) x).length)=false from Yx (by omega),Bool.or_false]⟩
theorem kJ{k:Int}(hk:k<=4){sets:Jb}(hs:Gd sets){r:Int×List Int}{n:Nat}(h3:0<=r.1/\r.1<n)(h4:∀x∈r.2,-3<=x/\x<sets.length):∀(m at_:Nat)(p:Fd),Gd p.fol->p.fol.length=n->at_+m<=r.2.length ->
  Gd (Wa sets k r m at_ p).fol/\(Wa sets k r m at_ p).fol.length=n/\(Wa sets k r m at_ p).limit=p.limit
 |0,_,p,hf,hl,_=>⟨hf,hl,rfl⟩
 |m+1,at_,p,hf,hl,hm=>by
  obtain⟨a1,a2,a3⟩:=oy hk hs hf hl (r:=r) (at_:=at_) (by omega) h3 h4;obtain⟨b1,b2,b3⟩:=kJ hk hs h3 h4 m (at_+1) _ a1 a2 (by omega);exact⟨b1,b2,b3.trans a3⟩
theorem fY{k:Int}(hk:k<=4){sets:Jb}(hs:Gd sets){n:Nat}:∀(l:Zz)(p:Fd),(∀r∈l,(0<=r.1/\r.1<n)/\∀x∈r.2,-3<=x/\x<sets.length)->Gd p.fol->p.fol.length=n ->
  Gd (Wi sets k l p).fol/\(Wi sets k l p).fol.length=n/\(Wi sets k l p).limit=p.limit
 |[],p,_,hf,hl=>⟨hf,hl,rfl⟩
 |r::l,p,h,hf,hl=>by
  obtain⟨a1,a2,a3⟩:=kJ hk hs (h r (by simp)).1 (h r (by simp)).2 r.2.length 0 p hf hl (by omega);obtain⟨b1,b2,b3⟩:=fY hk hs l _ (fun r hr=>h r (by simp[hr])) a1 a2;exact⟨b1,b2,b3.trans a3⟩
theorem Ek.few{k:Int}(hk:k<=4)(hw:Sb rs n)(hr:zhF rs){sets:Jb}(hs:Gd sets)(Mo:sets.length=n){o:Option Jb}(h:Ek sets k rs n o):∃s,o=some s/\Gd s/\s.length=n :=
 RoundsTo.never (fun s=>Gd s/\s.length=n) (fun s ⟨h1,h2⟩=>by
  obtain⟨a1,a2,a3⟩:=fY hk hs rs ⟨s,false,false⟩ (fun r hm=>⟨⟨(hw r.1 r.2 hm).1,(hw r.1 r.2 hm).2.1⟩,fun x hx=>⟨hr r.1 r.2 hm x hx,by rw[Mo];exact (hw r.1 r.2 hm).2.2 x hx⟩⟩) h1 h2
  exact⟨_,by unfold Rx;simp only[a3];rfl,a1,a2⟩) h ⟨(Gd.replicate n).set 0 qeA,by simp⟩
theorem xR{k:Int}(hk:k<=4){sets fol:Jb}(hs:Gd sets)(hf:Gd fol):∀(l:Zz),(∀r∈l,(0<=r.1/\r.1<fol.length)/\∀x∈r.2,-3<=x/\x<sets.length)->∃o,My sets fol k l=some o
 |[],_=>⟨[],rfl⟩
 |r::l,h=>by
  obtain⟨x,hx,_⟩:=qS hk hs hf (r:=r) (at_:=-1) (by omega) (by omega) (h r (by simp)).1 (h r (by simp)).2;obtain⟨o,ho⟩:=xR hk hs hf l (fun r hr=>h r (by simp[hr]));exact⟨x::o,by simp only[My,hx,Option.bind_some,ho,Option.map_some]⟩
def Wj(P:List Bool)(r:Int×List Int):List Bool:=if r.2.all (fun s=>decide (s<0)||P.getD s.toNat false)then P.set r.1.toNat true else P
def Wq{σ:Type}(f:σ->Int×List Int->σ)(rs:Zz):Nat->σ->σ
 |0,s=>s
 |n+1,s=>Wq f rs n (rs.foldl f s)
def Ky(rs:Zz)(n:Nat):List Bool:=Wq Wj rs (n+1) (List.replicate n false)
def Jt(R:List Bool)(left:Int)(s:Int):List Bool:=if R.getD left.toNat false&&decide (0<=s)then R.set s.toNat true else R
def Wr(R:List Bool)(r:Int×List Int):List Bool:=r.2.foldl (fun R s=>Jt R r.1 s) R
def Uu(rs:Zz)(n:Nat):List Bool:=Wq Wr rs (n+1) ((List.replicate n false).set 0 true)
def Oi(rs:Zz)(t:Nat):Bool:=rs.any fun r=>r.2.any fun s=>decide (s=-1-(t:Int))
def wellE(n m:Nat)(rs:Zz):Int:=if (Ky rs n).all id then (if (Uu rs n).all id&&(List.range m).all (Oi rs)then 0 else 17)else 18
theorem Dr{f:σ->Int×List Int->σ}(I:σ->Prop)(h:∀s r,r∈rs->I s->I (f s r)):∀(n:Nat)(s:σ),I s->I (Wq f rs n s)
 |0,_,hs=>hs
 |n+1,s,hs=>Dr I h n _ (by
  have:∀(l:Zz)(s:σ),(∀r∈l,r∈rs)->I s->I (l.foldl f s):=by
   intro l
   induction l with
   |nil=>intro s _ hs;exact hs
   |cons r l ih=>intro s hl hs;exact ih _ (fun r hr=>hl r (by simp[hr])) (h _ _ (hl r (by simp)) hs)
  exact this rs s (fun _ h=>h) hs)
theorem Fr(h:(P.set i true)[j]?=some true):(j=i)\/P[j]?=some true:=by
 rw[Xw]at h;split at h
 .rename_i e;exact .inl e.symm
 exact .inr h
def xW(rs:Zz)(a:Int):Prop:=∃r u,(a,r)∈rs/\Der rs r u
theorem Hs{rs:Zz}:∀(l:List Int),(∀s∈l,s<0\/xW rs s)->(∀a r,(a,r)∈rs->0<=a)->∃u,Der rs l u
 |[],_,_=>⟨[],.nil⟩
 |s::l,h,hw=>by
  obtain⟨v,hv⟩:=Hs l (fun s hs=>h s (by simp[hs])) hw;rcases h s (by simp)with hs|⟨r,u,hr,hu⟩
  .exact⟨_,.term hs hv⟩
  exact⟨_,.nont (hw s r hr) hr hu hv⟩
structure sU(rs:Zz)(n:Nat)(P:List Bool):Prop where
 len:P.length=n
 sound:∀a:Nat,P[a]?=some true->xW rs a
theorem jn(hw:Sb rs n)(hr:r∈rs)(h:sU rs n P):sU rs n (Wj P r):=by
 unfold Wj;split
 .rename_i Wc;refine⟨by rw[Qm];exact h.len,fun a ha=>?_⟩;rcases Fr ha with rfl|ha
  .rw[Int.toNat_of_nonneg (hw r.1 r.2 hr).1];obtain⟨u,hu⟩:=Hs (rs:=rs) r.2 (fun s hs=>by
    have:=Xq.1 Wc s hs
    simp only[Yu,Yk]at this
    rcases this with h1|h1
    .exact .inl h1
    rcases Int.lt_or_le s 0 with h0|h0
    .exact .inl h0
    right
    rw[Qb]at h1
    cases e:P[s.toNat]? with
    |none=>rw[e]at h1;cases h1
    |some b =>
     rw[e]at h1
     simp only[Option.getD_some]at h1
     subst h1
     have:=h.sound _ e
     rwa [Int.toNat_of_nonneg h0]at this) (fun a r h=>(hw a r h).1)
   exact⟨r.2,u,hr,hu⟩
  exact h.sound a ha
 exact h
theorem Cj(hw:Sb rs n):sU rs n (Ky rs n) :=
 Dr (sU rs n) (fun _ _ hr h=>jn hw hr h) _ _ ⟨by simp,fun a ha=>by
  rw[Xh]at ha
  split at ha
  .cases ha
  cases ha⟩
def qbO(rs:Zz)(a:Int):Prop:=∃v,Fol rs a v
structure Ie(rs:Zz)(n:Nat)(R:List Bool):Prop where
 len:R.length=n
 sound:∀a:Nat,R[a]?=some true->qbO rs a
theorem zJ(hw:Sb rs n)(hp:∀a,0<=a->a<(n:Int)->xW rs a){R:List Bool}(hr:r∈rs)(h:Ie rs n R):Ie rs n (Wr R r):=by
 unfold Wr;have:∀(l2 l1:List Int)(R:List Bool),r.2=l1++l2->Ie rs n R->Ie rs n (l2.foldl (fun R s=>Jt R r.1 s) R):=by
  intro l2
  induction l2 with
  |nil=>intro l1 R _ h;exact h
  |cons s l2 ih =>
   intro l1 R e h;refine ih (l1++[s]) _ (by simp[e]) ?_;show Ie rs n (Jt R r.1 s);unfold Jt;split
   .rename_i hc;simp only[Ym,Yk]at hc;refine⟨by rw[Qm];exact h.len,fun a ha=>?_⟩;rcases Fr ha with rfl|ha
    .obtain⟨u,hu⟩:=Hs (rs:=rs) l2 (fun x hx=>by
      rcases Int.lt_or_le x 0 with h0|h0
      .exact .inl h0
      exact .inr (hp x h0 ((hw r.1 r.2 hr).2.2 x (by rw[e];simp[hx])))) (fun a r h=>(hw a r h).1)
     have h1:=hc.1;rw[Qb]at h1;cases e2:R[r.1.toNat]? with
     |none=>rw[e2]at h1;cases h1
     |some b =>
      rw[e2]at h1;simp only[Option.getD_some]at h1;subst h1;obtain⟨v,hv⟩:=h.sound _ e2;rw[Int.toNat_of_nonneg (hw r.1 r.2 hr).1]at hv;rw[Int.toNat_of_nonneg hc.2];exact⟨_,.step (a:=r.1) (r:=r.2) hr e hc.2 hu hv⟩
    exact h.sound a ha
   exact h
 exact this r.2 [] R rfl h
theorem pW(hw:Sb rs n)(hp:∀a,0<=a->a<(n:Int)->xW rs a):Ie rs n (Uu rs n) :=
 Dr (Ie rs n) (fun _ _ hr h=>zJ hw hp hr h) _ _ ⟨by simp,fun a ha=>by
  rcases Fr ha with rfl|ha
  .exact⟨[],.start⟩
  rw[Xh]at ha
  split at ha <;> cases ha⟩
theorem sS(h:P.all id=true){a:Nat}(ha:a<P.length):P[a]?=some true:=by
 rw[Qa ha];exact congrArg some (Xq.1 h _ (Qg ha))
theorem qmI{m:Nat}(hw:Sb rs n)(h:wellE n m rs=0):∀a,0<=a->a<(n:Int)->xW rs a/\qbO rs a:=by
 unfold wellE at h;split at h
 .rename_i h1;split at h
  .rename_i h2;have hp:∀a,0<=a->a<(n:Int)->xW rs a:=by
    intro a h0 hn;have:=(Cj hw).sound a.toNat (sS h1 (by rw[(Cj hw).len];omega))
    rwa [Int.toNat_of_nonneg h0]at this
   intro a h0 hn;refine⟨hp a h0 hn,?_⟩;have h3:=(Ym _ _ ▸ h2).1;have:=(pW hw hp).sound a.toNat (sS h3 (by rw[(pW hw hp).len];omega))
   rwa [Int.toNat_of_nonneg h0]at this
  cases h
 cases h
open Go.RowKit
def eW:gX Wd:=zxA Mi fun l=>⟨l.toArray⟩
abbrev wv(x:Wd):Value:=.string ⟨x.toArray⟩
theorem sO{cs:List Value}(h:eW.rep w B cs x):cs=[wv x]/\x.length<=maxLen:=by
 obtain⟨h1,h2⟩:=h;exact⟨h1,by simpa[ByteArray.size]using h2⟩
theorem zbO(h:x.length<=maxLen):eW.rep w B [wv x] x:=⟨rfl,by simpa[ByteArray.size]using h⟩
def bI(xs:List Wd):Prop:=∀x∈xs,x.length<=maxLen
def Zx(xs:List Wd):List Value:=xs.map wv
theorem kl:∀(xs:List Wd),(xs.map fun x=>[wv x]).flatten=Zx xs
 |[]=>rfl
 |x::l=>by rw[List.map_cons,List.flatten_cons,kl l];rfl
theorem Gm(xs:List Wd):(Zx xs).length=xs.length:=by simp[Zx]
theorem iB(xs:List Wd):∀u∈Zx xs,u.oneCell'=true:=by
 intro u hu;obtain⟨x,_,rfl⟩:=Xa.1 hu;rfl
section
variable {w w':World} {B:Nat} {v:Value} {xs:List Wd}
theorem Je.fits(h:Je eW w B v xs):bI xs:=by
 obtain⟨A,c,css,e,h1,h2,h3,h4,h5⟩:=h;intro x hx;obtain⟨i,hi,rfl⟩:=Qz hx;exact (sO (h5 i _ _ (Qa (by omega)) (Qa hi))).2
theorem Lk{c:Nat}(hf:bI xs)(hr:Rd w B A (Zx xs))(h1:xs.length<=c)(h2:c<=maxLen):Je eW w B (.slice A xs.length c) xs:=by
 refine⟨A,c,xs.map fun x=>[wv x],rfl,h1,h2,by simp,?_,fun i cs x hc hx=>?_⟩
 .rw[kl];exact hr
 rw[Qv,hx]at hc;injection hc with hc;subst hc;exact zbO (hf x (Qp hx))
theorem Je.rdW{c:Nat}(h:Je eW w B (.slice A n c) xs):Rd w B A (Zx xs):=by
 obtain⟨A,c,css,e,h1,h2,h3,h4,h5⟩:=h;injection e with e1 e2 e3;subst e1;have:css.flatten=Zx xs:=by
  have e:css=xs.map fun x=>[wv x]:=by
   apply List.ext_getElem?;intro i;rw[Qv];by_cases hi:i<xs.length
   .rw[Qa (by omega),Qa hi,Option.map_some];rw[(sO (h5 i _ _ (Qa (by omega)) (Qa hi))).1]
   rw[Xg (by omega),Xg (by omega)];rfl
  rw[e,kl]
 rw[<-this];exact h4
theorem Je.wd{c:Nat}(h:Je eW w B (.slice A n c) xs)(hk:k<xs.length):∃b off,A=some ⟨b,off,none⟩/\n<=c/\b<B/\w.cell? ⟨b,off+k,none⟩=some (wv xs[k]):=by
 obtain⟨b,off,cs,e,h1,h2,h3,h4⟩:=h.get hk (by decide);obtain⟨rfl,_⟩:=sO h3;have:=h4 0 _ rfl;simp only[show eW.size=1 from rfl,Ys,Yq]at this;exact⟨b,off,e,h1,h2,this⟩
theorem Av{base:Nat}(hf:bI xs)(h:w.ownsRow base t 1 v xs.length (Zx xs)):Je eW w w.heap.size v xs:=by
 obtain⟨A,c,rfl,h1,h2⟩:=Zp h;exact Lk hf (Rd.of_own h) h1 h2
end
theorem qrC(ha:bI a)(hb:bI b):bI (a++b):=fun x hx=>(Qh.1 hx).elim (ha x) (hb x)
theorem bV(x y:Wd):(⟨x.toArray⟩:ByteArray)++⟨y.toArray⟩=⟨(x++y).toArray⟩:=by
 apply ByteArray.ext;simp
theorem Ti(x:Wd):(⟨x.toArray⟩:ByteArray).size=x.length:=by simp[ByteArray.size]
theorem sB(x:Wd)(n:Nat):(⟨x.toArray⟩:ByteArray).extract 0 n=⟨(x.take n).toArray⟩:=by
 apply ByteArray.ext;simp
theorem zaC(x y:Wd):((⟨x.toArray⟩:ByteArray)==⟨y.toArray⟩)=decide (x=y):=by
 rw[Re];rw[decide_eq_decide];constructor
 .intro h;injection h with h;simpa using h.symm
 rintro rfl;rfl
theorem Vv{S:Nat}{v:Value}(h:w.heap[S]?=some (.cells #[v] t (0,0))):w.cell? ⟨S,0,none⟩=some v:=by rw[Zd w S 0 _ _ _ h];rfl
theorem vU(z:Value)(n:Nat):madeCells #[z] n=(List.replicate n z).toArray:=by
 apply Array.ext
 .simp[madeCells]
 intro i h1 h2;simp[madeCells,Nat.mod_one]
theorem sc(n:Nat)(hn:n<=1048576)(w:World):(Instr.makeSlice 61 (.int .i64 (n:Int)) (.int .i64 (n:Int))).run Tryz.prog w=.ok (.slice (some ⟨w.heap.size,0,none⟩) n n) (w.alloc (.cells (List.replicate n (Value.int .i64 0)).toArray 3)):=by
 rw[<-vU];exact run_make_row' 61 3 (.int .i64 0) 8 Tryz.underlying61 (by kernel_rfl) rfl .i64 .i64 n (by omega) (by omega) w
theorem qjZ(n:Nat)(hn:n<=1048576)(w:World):(Instr.makeSlice 70 (.int .i64 (n:Int)) (.int .i64 (n:Int))).run Tryz.prog w=.ok (.slice (some ⟨w.heap.size,0,none⟩) n n) (w.alloc (.cells (List.replicate n (Value.bool false)).toArray 4)):=by
 rw[<-vU];exact run_make_row' 70 4 (.bool false) 1 Tryz.underlying70 (by kernel_rfl) rfl .i64 .i64 n (by omega) (by omega) w
theorem bi(n:Nat)(hn:n<=1048576)(w:World):(Instr.makeSlice 76 (.int .i64 (n:Int)) (.int .i64 (n:Int))).run Tryz.prog w=.ok (.slice (some ⟨w.heap.size,0,none⟩) n n) (w.alloc (.cells (List.replicate n (Value.slice none 0 0)).toArray 22)):=by
 rw[<-vU];exact run_make_row' 76 22 (.slice none 0 0) 24 Tryz.underlying76 (by kernel_rfl) rfl .i64 .i64 n (by omega) (by omega) w
def Mg(x:Int)(n m:Nat):List Value:=List.replicate m (Value.int .i64 x)++List.replicate (n-m) (Value.int .i64 0)
theorem tl{x:Int}{m:Nat}(h:m<=n):(Mg x n m).length=n:=by simp[Mg];omega
theorem tm{x:Int}{m:Nat}(h:j<m):(Mg x n m)[j]?=some (Value.int .i64 x):=by
 unfold Mg;rw[Qo (by simpa using h)];simp[h]
theorem dE{x:Int}{m:Nat}:(Mg x n m).take m++List.replicate q (Value.int .i64 x)++(Mg x n m).drop (m+q)=Mg x n (m+q):=by
 unfold Mg;have e1:(List.replicate m (Value.int .i64 x)++List.replicate (n-m) (Value.int .i64 0)).take m=List.replicate m (Value.int .i64 x):=List.take_left' (by simp);have e2:(List.replicate m (Value.int .i64 x)++List.replicate (n-m) (Value.int .i64 0)).drop (m+q)=List.replicate (n-(m+q)) (Value.int .i64 0):=by
  rw[List.drop_append];simp;omega
 rw[e1,e2,List.replicate_append_replicate]
theorem qjR{g m:Nat}{x:Int}(hg:w.heap[g]?=some (.cells (Mg x n m).toArray 3 (0,0)))(hmn:m<=n)(hq:q=min m (n-m))(cd cs:Nat) :
  (Builtin.copy_ #[61,61] 3 #[.slice (some ⟨g,m,none⟩) (n-m) cd,.slice (some ⟨g,0,none⟩) m cs]).run Tryz.prog w=.ok (.int .i64 q) (w.setRow g (Mg x n (m+q)).toArray):=by
 show _=Result.ok (goInt (q:Int)) _;have:=run_copy_row (P:=Tryz.prog) w 61 61 3 3 g m (n-m) cd ⟨g,0,none⟩ m cs (Mg x n m).toArray 3 (List.replicate q (Value.int .i64 x)) Tryz.underlying61 (by kernel_rfl) hg (by rw[Qr,hq]) (fun j v hv=>by
  rw[Xh]at hv
  split at hv
  .injection hv with hv
   subst hv
   rw[Addr.add_lit,Yr,Zd w g j _ _ _ hg,<-Array.getElem?_toList]
   exact tm (by omega)
  cases hv) (by rw[Qr,List.size_toArray,tl hmn];omega) (fun v hv=>by obtain⟨_,rfl⟩:=List.mem_replicate.1 hv;rfl)
 rw[Qr]at this;rw[<-dE];exact this
def zmS(w:World)(x:Int)(n:Nat)(e:Ending)(w':World):Prop:=∃g,e=.returned (.slice (some ⟨g,0,none⟩) n n)/\w'.heap[g]?=some (.cells (List.replicate n (Value.int .i64 x)).toArray 3 (0,0))/\w.heap.size<=g/\Below w.heap.size w w'
theorem zv(b c:Nat)(x:Int)(n:Nat)(w:World)(hc:w.cell? ⟨b,0,none⟩=some (.int .i64 x))(h1:1<=n)(h2:n<=1048576) :
  Calls Tryz.prog 196 #[.slice (some ⟨b,0,none⟩) 1 c,.int .i64 n] w (zmS w x n):=by
 have hb:=Zm w _ hc;simp only at hb;have znW:=Lh (Tryz.bits_Mul 1 n (by omega) (by omega) w);have e1:((1*n/18446744073709551616:Nat):Int)=0:=by omega
 have e2:((1*n%18446744073709551616:Nat):Int)=n:=by omega
 rw[e1,e2]at znW;have sK:=sc n h2 w;have hcp:(Builtin.copy_ #[61,61] 3 #[.slice (some ⟨w.heap.size,0,none⟩) n n,.slice (some ⟨b,0,none⟩) 1 c]).run Tryz.prog (w.alloc (.cells (List.replicate n (Value.int .i64 0)).toArray 3))=.ok (.int .i64 1) (w.alloc (.cells (Mg x n 1).toArray 3)):=by
  have:=run_copy_row (P:=Tryz.prog) (w.alloc (.cells (List.replicate n (Value.int .i64 0)).toArray 3)) 61 61 3 3 w.heap.size 0 n n ⟨b,0,none⟩ 1 c (List.replicate n (Value.int .i64 0)).toArray 3 [.int .i64 x] Tryz.underlying61 (by kernel_rfl) (Xn w _) (by rw[Qf];exact (Nat.min_eq_left h1).symm) (fun j v hv=>by
   match j,hv with
   |0,hv =>
    injection hv with hv
    subst hv
    rw[Addr.add_lit,Yr]
    exact ((Xr w.heap.size w).alloc (Yb _) _).cell hb |>.trans hc
   |j+1,hv=>simp at hv) (by simp;omega) (fun v hv=>by rw[Qi]at hv;subst hv;rfl)
  rw[this,jb];have:=dE (x:=x) (n:=n) (m:=0) (q:=1);simp only[Mg,List.replicate_zero,List.nil_append,Nat.sub_zero,Yr]at this;simp only[Mg,Yr];rw[show ([Value.int .i64 x]:List Value).length=1 from rfl,show ([Value.int .i64 x]:List Value)=List.replicate 1 (Value.int .i64 x)from rfl,this];rfl
 clear e1 e2;obtain⟨src,zjT⟩:=Xe (List.replicate n (Value.int .i64 0));rw[<-zjT]at sK hcp;clear zjT;obtain⟨w2,mv⟩:=Xe (w.alloc (.cells (Mg x n 1).toArray 3));rw[<-mv]at hcp;have HG2:=Lh (show w2.heap[w.heap.size]?=some (.cells (Mg x n 1).toArray 3 (0,0)) by rw[mv];exact Xn w _);have HB2:=Lh (show Below w.heap.size w w2 by rw[mv];exact (Xr w.heap.size w).alloc (Yb _) _);clear mv;go_enter Tryz.func196,Tryz.ntmps196;go_wp2_with fail;refine znW.o.mono ?_;rintro e w1 ⟨rfl,rfl⟩;go_wp2_with fail;go_loopw [8] (fun v8 wr=>∃m:Nat,1<=m/\m<=n/\v8=.int .i64 m/\Hid (wr.heap[w1.heap.size]?=some (.cells (Mg x n m).toArray 3 (0,0)))/\Hid (Below w1.heap.size w1 wr)) (fun v8 _=>n-(intOf v8).toNat);exact⟨1,by omega,h1,rfl,HG2.o,HB2.o⟩;clear HG2 HB2;obtain⟨m,lH,hm2,rfl,HG,HB⟩:=hrel;by_cases Jl:m<n
 .have zvL:=qjR (w:=wr.drew) HG.o hm2 rfl (n-m) n;obtain⟨q,hq⟩:=Xe (min m (n-m));rw[<-hq]at zvL;have HQ:=Lh hq;have hmq:(m:Int)+(q:Int)<=1048576:=by omega
  clear hq hcp;go_wp2;refine Text.wt (by kernel_rfl) fun Q' hQ'=>?_;go_wp2;refine⟨by rfl,?_⟩;have qY:=Lh (Zj wr.drew w1.heap.size _ (Mg x n (m+q)).toArray _ (0,0) HG.o);have HB3:=Lh (Zk HB.o.drew (Yb _) (Mg x n (m+q)).toArray);go_wp2;exact⟨⟨m+q,by omega,by have:=HQ.o;omega,by go_num,qY.o,HB3.o⟩,by have:=HQ.o;simp[intOf];omega⟩
 have hmn:m=n:=by omega
 subst hmn;go_wp2;go_ret;refine⟨w1.heap.size,rfl,?_,Yb _,HB.o⟩;have:=HG.o;unfold Mg at this;simpa using this
theorem gH(v:Value)(m:qbU)(w:World)(hv:Je Ju w w.heap.size v m) :
  Calls Tryz.prog 98 #[v] w fun e w'=>e=.returned (.bool (Uy m 9223372036854775807))/\Below w.heap.size w w':=by
 have HS:=Lh (tE v 9223372036854775807 m w hv);go_enter Tryz.func98,Tryz.ntmps98;go_wp2_with fail;refine HS.o.mono ?_;rintro e w' ⟨rfl,hb⟩;go_wp2;go_ret;exact⟨rfl,hb⟩
theorem dp(z:Value)(n:Nat):madeCells #[z] n=(List.replicate n z).toArray:=by
 apply Array.ext
 .simp[madeCells]
 intro i h1 h2;simp[madeCells,Nat.mod_one]
theorem qbF(n:Nat)(hn:n<=2199023255552)(w:World):(Instr.makeSlice 70 (.int .i64 (n:Int)) (.int .i64 (n:Int))).run Tryz.prog w=.ok (.slice (some ⟨w.heap.size,0,none⟩) n n) (w.alloc (.cells ((List.replicate n false).map Value.bool).toArray 4)):=by
 rw[List.map_replicate,<-dp];exact run_make_row' 70 4 (.bool false) 1 Tryz.underlying70 (by kernel_rfl) rfl .i64 .i64 n (by omega) (by omega) w
section
variable (w:World) (o0 o1 o2 o3:Obj)
theorem al3:((((w.alloc o0).alloc o1).alloc o2).alloc o3).drew.heap[w.heap.size+1+1+1]?=some o3:=by
 have:=Xn (((w.alloc o0).alloc o1).alloc o2) o3;rw[Xs,Xs,Xs]at this;exact this
theorem al2:((((w.alloc o0).alloc o1).alloc o2).alloc o3).drew.heap[w.heap.size+1+1]?=some o2:=by
 have:=Xn ((w.alloc o0).alloc o1) o2;rw[Xs,Xs]at this;exact (Zf _ _ _ (by simp only[Xs];omega)).trans this
theorem al1:((((w.alloc o0).alloc o1).alloc o2).alloc o3).drew.heap[w.heap.size+1]?=some o1:=by
 have:=Xn (w.alloc o0) o1;rw[Xs]at this;exact (Zf _ _ _ (by simp only[Xs];omega)).trans ((Zf _ _ _ (by simp only[Xs];omega)).trans this)
theorem al0:((((w.alloc o0).alloc o1).alloc o2).alloc o3).drew.heap[w.heap.size]?=some o0 :=
 (Zf _ _ _ (by simp only[Xs];omega)).trans ((Zf _ _ _ (by simp only[Xs];omega)).trans ((Zf _ _ _ (by simp only[Xs];omega)).trans (Xn w o0)))
theorem alB{w0:World}(h:Below w0.heap.size w0 w):Below w0.heap.size w0 ((((w.alloc o0).alloc o1).alloc o2).alloc o3).drew:=by
 have:=h.size;exact ((((h.alloc this _).alloc (by simp only[Xs];omega) _).alloc (by simp only[Xs];omega) _).alloc (by simp only[Xs];omega) _).drew
end
structure zfF(w W:World)(n b3 b4 x1 x2:Nat):Prop where
 h3:W.heap[b3]?=some (.cells #[.slice (some ⟨x1,0,none⟩) n n] 70 (0,0))
 h4:W.heap[b4]?=some (.cells #[.slice (some ⟨x2,0,none⟩) n n] 70 (0,0))
 k3:w.heap.size<=b3
 k4:w.heap.size<=b4
 j1:w.heap.size<=x1
 j2:w.heap.size<=x2
 nb:b3≠b4
 nx:x1≠x2
theorem zcQ{W:World}{b4 x1 x2:Nat}(h3:W.heap[b3]?=some (.cells #[.slice (some ⟨x1,0,none⟩) n n] 70 (0,0)))(h4:W.heap[b4]?=some (.cells #[.slice (some ⟨x2,0,none⟩) n n] 70 (0,0)))
  (Lr:Ks W x1 (List.replicate n false)) (dB:Ks W x2 (List.replicate n false)) (hb:Below w.heap.size w W) (hk:w.heap.size<=b3/\w.heap.size<=b4/\w.heap.size<=x1/\w.heap.size<=x2/\b3≠b4/\x1≠x2) :
  ∃x1 x2,zfF w W n b3 b4 x1 x2/\Ks W x1 (List.replicate n false)/\Ks W x2 (List.replicate n false)/\Below w.heap.size w W:=⟨x1,x2,⟨h3,h4,hk.1,hk.2.1,hk.2.2.1,hk.2.2.2.1,hk.2.2.2.2.1,hk.2.2.2.2.2⟩,Lr,dB,hb⟩
structure Sc(w W:World)(n b3 b4 x1 x2:Nat)(M1 M2:List Bool):Prop where
 two:zfF w W n b3 b4 x1 x2
 m1:Ks W x1 M1
 m2:Ks W x2 M2
 l1:M1.length=n
 l2:M2.length=n
 bel:Below w.heap.size w W
section
variable {w W W':World} {n b3 b4 x1 x2:Nat} {M1 M2:List Bool}
theorem Sc.c3(h:Sc w W n b3 b4 x1 x2 M1 M2):W.cell? ⟨b3,0,none⟩=some (.slice (some ⟨x1,0,none⟩) n n):=Xc h.two.h3 rfl
theorem Sc.c4(h:Sc w W n b3 b4 x1 x2 M1 M2):W.cell? ⟨b4,0,none⟩=some (.slice (some ⟨x2,0,none⟩) n n):=Xc h.two.h4 rfl
theorem oX{b x:Nat}(h:W.heap[b]?=some (.cells cs t (0,0)))(hx:Ks W x M)(ht:t≠4):b≠x:=by
 rintro rfl;have h3:=h.symm.trans hx;injection h3 with h3;injection h3 with _ h3;exact ht h3
theorem Sc.alloc(h:Sc w W n b3 b4 x1 x2 M1 M2)(o:Obj):Sc w (W.alloc o) n b3 b4 x1 x2 M1 M2:=by
 obtain⟨⟨h3,h4,k3,k4,j1,j2,nb,nx⟩,m1,m2,l1,l2,hb⟩:=h;have key:∀{k:Nat}{o':Obj},W.heap[k]?=some o'->(W.alloc o).heap[k]?=some o':=fun hk=>(Zf _ _ _ (gl hk)).trans hk;exact⟨⟨key h3,key h4,k3,k4,j1,j2,nb,nx⟩,key m1,key m2,l1,l2,hb.alloc hb.size _⟩
theorem Sc.drew(h:Sc w W n b3 b4 x1 x2 M1 M2):Sc w W.drew n b3 b4 x1 x2 M1 M2 :=
 ⟨⟨h.two.h3,h.two.h4,h.two.k3,h.two.k4,h.two.j1,h.two.j2,h.two.nb,h.two.nx⟩,h.m1,h.m2,h.l1,h.l2,h.bel.drew⟩
theorem Sc.turn1(h:Sc w W n b3 b4 x1 x2 M1 M2)(hg:W.grownBy W' (some x1))(hm:Ks W' x1 M)(hl:M.length=n):Sc w W' n b3 b4 x1 x2 M M2:=by
 obtain⟨⟨h3,h4,k3,k4,j1,j2,nb,nx⟩,m1,m2,l1,l2,hb⟩:=h;have key:∀{k:Nat}{o':Obj},W.heap[k]?=some o'->k≠x1->W'.heap[k]?=some o':=fun hk hn=>(hg.block _ (gl hk) fun e=>hn (by injection e)).trans hk;exact⟨⟨key h3 (oX h3 m1 (by decide)),key h4 (oX h4 m1 (by decide)),k3,k4,j1,j2,nb,nx⟩,hm,key m2 (fun e=>nx e.symm),hl,l2,hb.trans ⟨hg.os,hg.tape,hg.output,hg.size,fun k hk=>hg.block k (Ye hk hb.size) fun e=>by injection e with e;omega⟩⟩
theorem Sc.turn2(h:Sc w W n b3 b4 x1 x2 M1 M2)(hg:W.grownBy W' (some x2))(hm:Ks W' x2 M)(hl:M.length=n):Sc w W' n b3 b4 x1 x2 M1 M:=by
 obtain⟨⟨h3,h4,k3,k4,j1,j2,nb,nx⟩,m1,m2,l1,l2,hb⟩:=h;have key:∀{k:Nat}{o':Obj},W.heap[k]?=some o'->k≠x2->W'.heap[k]?=some o':=fun hk hn=>(hg.block _ (gl hk) fun e=>hn (by injection e)).trans hk;exact⟨⟨key h3 (oX h3 m2 (by decide)),key h4 (oX h4 m2 (by decide)),k3,k4,j1,j2,nb,nx⟩,key m1 nx,hm,l1,hl,hb.trans ⟨hg.os,hg.tape,hg.output,hg.size,fun k hk=>hg.block k (Ye hk hb.size) fun e=>by injection e with e;omega⟩⟩
theorem Sc.set1(h:Sc w W n b3 b4 x1 x2 M1 M2)(k:Nat)(b:Bool):Sc w (W.setCell ⟨x1,k,none⟩ (.bool b)) n b3 b4 x1 x2 (M1.set k b) M2:=h.turn1 (dG _ _ _ _) (h.m1.set k b) (by rw[Qm];exact h.l1)
theorem Sc.set2(h:Sc w W n b3 b4 x1 x2 M1 M2)(k:Nat)(b:Bool):Sc w (W.setCell ⟨x2,k,none⟩ (.bool b)) n b3 b4 x1 x2 M1 (M2.set k b):=h.turn2 (dG _ _ _ _) (h.m2.set k b) (by rw[Qm];exact h.l2)
end
def Tk(m:Kj)(n i:Nat):List Bool:=Ly n fun k=>decide (k<i)&&decide (0<=No m k)
theorem iq(m:Kj)(n:Nat):Tk m n 0=List.replicate n false:=by
 rw[<-xJ];exact lX fun k _=>by simp
theorem ir(m:Kj)(n i:Nat):(Tk m n i).set i (decide (0<=No m i))=Tk m n (i+1):=by
 unfold Tk;rw[xI];refine lX fun k _=>?_;by_cases h:k=i
 .subst h;simp
 have:decide (k<i+1)=decide (k<i):=by rw[decide_eq_decide];omega
 rw[if_neg h,this]
def Ab(M1 M2:List Bool)(n i:Nat):List Bool:=Ly n fun k=>Ga M1 k&&(!decide (k<i)||Ga M2 k)
theorem vw(M2:List Bool)(h:M1.length=n):Ab M1 M2 n 0=M1:=by
 unfold Ab;simp only[Nat.not_lt_zero,decide_false,Bool.not_false,Bool.true_or,Bool.and_true];exact qkB h
theorem vy(M1 M2:List Bool)(n i:Nat):(Ab M1 M2 n i).set i (Ga M1 i&&Ga M2 i)=Ab M1 M2 n (i+1):=by
 unfold Ab;rw[xI];refine lX fun k _=>?_;by_cases h:k=i
 .subst h;simp
 have:decide (k<i+1)=decide (k<i):=by rw[decide_eq_decide];omega
 rw[if_neg h,this]
theorem qjY(h:i<n):Ga (Ab M1 M2 n i) i=Ga M1 i:=by
 unfold Ab;rw[Bn];simp[h]
def zmN(m:Kj)(w:World)(n:Nat)(e:Ending)(w':World):Prop:=∃x,e=.returned (.slice (some ⟨x,0,none⟩) n n)/\Ks w' x (Ly n (Ke m))/\w.heap.size<=x/\Below w.heap.size w w'
theorem S_(hg:Wz m){x:Nat}(h7:W0.cell? ⟨b7,0,none⟩=some (.func (.func 160) #[] #[]))(h3:W0.cell? ⟨b3,0,none⟩=some (.slice (some ⟨x,0,none⟩) m.length m.length))(n7:b7≠x)(n3:b3≠x) :
  qsO 162 #[.pointer (some ⟨b7,0,none⟩),.pointer (some ⟨b3,0,none⟩)] x true m W0:=by
 intro M i e W Ox hx hl hi he;have hto:=hg.tos i hi e he;have h:=im x b7 b3 M i e.2.toNat W hx (Ox.cell h7 (fun e=>n7 (by injection e))) (by rw[hl];exact Ox.cell h3 (fun e=>n3 (by injection e))) (by omega) (by omega);rw[show ((e.2.toNat:Nat):Int)=e.2 by omega]at h;exact h
theorem R_(hg:Wz m){x:Nat}(h7:W0.cell? ⟨b7,0,none⟩=some (.func (.func 160) #[] #[]))(h3:W0.cell? ⟨b3,0,none⟩=some (.slice (some ⟨x,0,none⟩) m.length m.length))(n7:b7≠x)(n3:b3≠x) :
  qsO 163 #[.pointer (some ⟨b7,0,none⟩),.pointer (some ⟨b3,0,none⟩)] x false m W0:=by
 intro M i e W Ox hx hl hi he;have hto:=hg.tos i hi e he;have h:=il x b7 b3 M i e.2.toNat W hx (Ox.cell h7 (fun e=>n7 (by injection e))) (by rw[hl];exact Ox.cell h3 (fun e=>n3 (by injection e))) (by omega) (by omega);rw[show ((e.2.toNat:Nat):Int)=e.2 by omega]at h;exact h
def qsS(m:Kj)(M:List Bool):Prop:=Ga M 0=true/\∀k,Ga M k=true->Pg m k
def qsR(m:Kj)(M:List Bool):Prop:=(∀k<m.length,0<=No m k->Ga M k=true)/\∀k,Ga M k=true->mB m k
theorem qhP(hg:Wz m)(M:List Bool)(i:Nat)(e:Int×Int)(he:e∈Mm m i)(h:qsS m M)(hs:Ga M (tY true i e)=true):qsS m (M.set (Pa true i e) true):=by
 refine⟨lZ h.1,fun k hk=>?_⟩;rcases qeE hk with rfl|hk
 .exact Ci hg (h.2 i hs) he
 exact h.2 k hk
theorem qhO(hg:Wz m)(M:List Bool)(i:Nat)(e:Int×Int)(hi:i<m.length)(he:e∈Mm m i)(h:qsR m M)(hs:Ga M (tY false i e)=true):qsR m (M.set (Pa false i e) true):=by
 refine⟨fun k hk ho=>lZ (h.1 k hk ho),fun k hk=>?_⟩;rcases qeE hk with rfl|hk
 .exact zh hg hi he (h.2 _ hs)
 exact h.2 k hk
theorem l_(hp:0<n):qsS m ((List.replicate n false).set 0 true):=by
 rw[<-xJ,xI];refine⟨by rw[Bn];simp[hp],fun k hk=>?_⟩;rw[Bn]at hk;simp at hk;obtain⟨_,rfl⟩:=hk;exact Ch m
theorem k_(hn:n=m.length):qsR m (Tk m n n):=by
 subst hn;unfold Tk;refine⟨fun k hk ho=>by rw[Bn];simp[hk,ho],fun k hk=>?_⟩;rw[Bn]at hk;simp at hk;exact qfK hk.2
theorem qrS(hg:Wz m)(hn:n=m.length)(i1:qsS m M1)(s1:∀j<m.length,mC true M1 j (Mm m j))(i2:qsR m M2)(s2:∀j<m.length,mC false M2 j (Mm m j)):Ab M1 M2 n n=Ly n (Ke m):=by
 unfold Ab;refine lX fun k hk=>?_;rw[Bool.eq_iff_iff,Ff,Yw hk];simp only[Bool.not_true,Yt,Ym];rw[py hg i1.1 i1.2 s1,ol hg i2.1 i2.2 s2 (by omega)];exact Iff.rfl
theorem zd(v:Value)(m:qbU)(w:World)(hv:Je Ju w w.heap.size v m)(qI:Uy m 9223372036854775807=true)(hl:m.length<=2199023255552) :
  Calls Tryz.prog 99 #[v] w (zmN m w m.length):=by
 have HR:=Lh (gH v m w hv);rw[qI]at HR;obtain⟨A,c,rfl,Nj,Uw⟩:=hv.form;unfold maxLen at Uw;have HV:=Lh hv;have HG:=Lh (Gp qI);clear hv qI;obtain⟨n,hn⟩:=Xe m.length;have HN:=Lh hn;rw[<-hn]at Nj HV hl HR |-;clear hn;go_enter Tryz.func99,Tryz.ntmps99;go_wp2_with fail;refine HR.o.mono ?_;rintro e w1 ⟨rfl,hb1⟩;have HB1:=Lh hb1;clear hb1;go_wp2_with fail
 go_cut [3,4] (fun v3 v4 wx=>∃b3 b4:Nat,v3=.pointer (some ⟨b3,0,none⟩)/\v4=.pointer (some ⟨b4,0,none⟩)/\Hid (∃x1 x2,zfF w wx n b3 b4 x1 x2/\Ks wx x1 (List.replicate n false)/\Ks wx x2 (List.replicate n false)/\Below w.heap.size w wx))
 case first =>
  have sK:=qbF n hl
  go_region_with (fail)
  all_goals (go_wp2;go_meet)
  all_goals
   have hz:=HB1.o.size;refine⟨_,_,rfl,rfl,?_⟩;apply zcQ
   .first|exact al0 _ _ _ _ _|exact al1 _ _ _ _ _|exact al2 _ _ _ _ _|exact al3 _ _ _ _ _
   .first|exact al0 _ _ _ _ _|exact al1 _ _ _ _ _|exact al2 _ _ _ _ _|exact al3 _ _ _ _ _
   .first|exact (al0 _ _ _ _ _).trans (by simp)|exact (al1 _ _ _ _ _).trans (by simp)|exact (al2 _ _ _ _ _).trans (by simp)|exact (al3 _ _ _ _ _).trans (by simp)
   .first|exact (al0 _ _ _ _ _).trans (by simp)|exact (al1 _ _ _ _ _).trans (by simp)|exact (al2 _ _ _ _ _).trans (by simp)|exact (al3 _ _ _ _ _).trans (by simp)
   .exact alB _ _ _ _ _ HB1.o
   omega
 case rest =>
  obtain⟨b3,b4,rfl,rfl,⟨x1,x2,h2,Lr,dB,Nd⟩⟩:=hcut;have HS:=Lt (Sc w wc n b3 b4 x1 x2 (List.replicate n false) (List.replicate n false)) (⟨h2,Lr,dB,Qr,Qr,Nd⟩);have HJ:=Lt (w.heap.size<=x1/\w.heap.size<=x2) (⟨h2.j1,h2.j2⟩);clear Lr dB Nd h2 HB1;generalize wc=wx at*;have Dt:0<n:=by rw[HN.o];exact Qy.2 HG.o.some
  have c3:=HS.o.c3;obtain⟨c0,cf⟩:=HS.o.m1.at_ (k:=0) (by rw[HS.o.l1];exact Dt);have HS1:=Lt (Sc w (wx.setCell ⟨x1,0,none⟩ (.bool true)) n b3 b4 x1 x2 ((List.replicate n false).set 0 true) (Tk m n 0)) (by rw[iq];exact HS.o.set1 0 true);have HVK:=Lh (fun(W:World)(h:Below w.heap.size w W)=>HV.o.below h);clear HS;obtain⟨Ma,hMa⟩:=Xe ((List.replicate n false).set 0 true);have HMA:=Lh hMa;rw[<-hMa]at HS1;clear hMa;go_wp2_with fail;go_loopw [22] (fun v22 wr=>∃i:Nat,i<=n/\v22=.int .i64 i/\Hid (Sc w wr n b3 b4 x1 x2 Ma (Tk m n i))) (fun v22 _=>n-(intOf v22).toNat);exact⟨0,by omega,rfl,HS1.o⟩;clear HS1 c3 c0 cf;obtain⟨i,hi,rfl,HS⟩:=hrel;by_cases Jl:i<n
  .have Wp:i<m.length:=by rw[<-HN.o];exact Jl
   obtain⟨ba,oa,cs,rfl,-,hba,Ja,Zn⟩:=(HVK.o wr HS.o.bel).get Wp (by decide);obtain⟨u,rfl,hu,Ik,Si⟩:=Mr Ja;obtain⟨A4,e4,rfl,ew,sL⟩:=hu.form;have d0:=Zn 0 _ rfl;have d1:=Zn 1 _ rfl;clear Zn Ja hu;simp only[show Ju.size=2 from rfl,Yq,<-Yy]at d0 d1;have znT:=Lh (Cm Wp);obtain⟨so,hso⟩:=Xe (m[i].1);rw[<-hso]at d0 znT Ik Si;clear hso;have HS2:=Lh (HS.o.alloc (.cells #[.int .i64 so,.slice A4 m[i].2.length e4] 118));have HS3:=Lt (Sc w ((wr.alloc (.cells #[.int .i64 so,.slice A4 m[i].2.length e4] 118)).setCell ⟨x2,i,none⟩ (.bool (decide (0<=so)))) n b3 b4 x1 x2 Ma (Tk m n (i+1))) (by
    have:=HS2.o.set2 i (decide (0<=No m i))
    rw[ir,znT.o]at this
    exact this)
   have c4:=HS2.o.c4;obtain⟨g0,gf⟩:=HS2.o.m2.at_ (k:=i) (by rw[HS2.o.l2];exact Jl);clear HS HS2;go_wp2;go_roundw;exact⟨i+1,by omega,by go_num,HS3.o⟩;simp[intOf];omega
  have Uh:i=n:=by omega
  subst Uh;have yv:=Lh (HS.o.alloc (.cells #[.func (.func 160) #[] #[]] 202));have HB7:=Lh (Xn wr (.cells #[.func (.func 160) #[] #[]] 202));have c3:=yv.o.c3;have c4:=yv.o.c4;have Lr:x1<wr.heap.size:=(gl HS.o.m1);have dB:x2<wr.heap.size:=(gl HS.o.m2);have HN3:=Lt (b3≠x1/\b4≠x2) (⟨oX HS.o.two.h3 HS.o.m1 (by decide),oX HS.o.two.h4 HS.o.m2 (by decide)⟩);clear HS HR;go_wp2_with fail;generalize wr.alloc (.cells #[.func (.func 160) #[] #[]] 202)=wy at*;generalize wr.heap.size=b7 at*;have h7:wy.cell? ⟨b7,0,none⟩=some (.func (.func 160) #[] #[]):=Xc HB7.o rfl;have HJ1:=HJ.o;have HSP:=Lh (pO 162 #[.pointer (some ⟨b7,0,none⟩),.pointer (some ⟨b3,0,none⟩)] x1 true (qsS m) (.slice A i c) m w.heap.size Ma wy (HVK.o wy yv.o.bel) HJ1.1 yv.o.bel.size HG.o (fun _ _=>by kernel_rfl) yv.o.m1 (by rw[yv.o.l1];exact HN.o) (by rw[HMA.o];exact l_ Dt) (fun M i e _ he h _ hs=>qhP HG.o M i e he h hs) (S_ HG.o h7 (by rw[<-HN.o];exact c3) (by omega) HN3.o.1));rw[<-HN.o]at HSP;clear c3 c4;refine HSP.o.mono ?_;rintro e w2 ⟨M1,rfl,bP,hm2,Hn,hi2,eR⟩;have mI:=Lh (yv.o.turn1 bP hm2 (by rw[HN.o];exact Hn));have HI1:=Lh hi2;have HS1:=Lh eR;have h7':w2.cell? ⟨b7,0,none⟩=some (.func (.func 160) #[] #[]):=bP.cell h7 (fun e=>by simp only[Option.some.injEq]at e;omega);clear h7 bP hm2 Hn hi2 eR yv HB7 HSP;have c4:=mI.o.c4;go_wp2_with fail;have HSP:=Lh (pO 163 #[.pointer (some ⟨b7,0,none⟩),.pointer (some ⟨b4,0,none⟩)] x2 false (qsR m) (.slice A i c) m w.heap.size (Tk m i i) w2 (HVK.o w2 mI.o.bel) HJ1.2 mI.o.bel.size HG.o (fun _ _=>by kernel_rfl) mI.o.m2 (by rw[mI.o.l2];exact HN.o) (k_ HN.o) (fun M i e hi he h _ hs=>qhO HG.o M i e hi he h hs) (R_ HG.o h7' (by rw[<-HN.o];exact c4) (by omega) HN3.o.2));rw[<-HN.o]at HSP;clear c4;refine HSP.o.mono ?_;rintro e w3 ⟨M2,rfl,bP,hm2,Hn,hi2,eR⟩;have HSC:=Lh (mI.o.turn2 bP hm2 (by rw[HN.o];exact Hn));have HI2:=Lh hi2;have HS2:=Lh eR;clear h7' bP hm2 Hn hi2 eR mI HSP;have c3:=HSC.o.c3;go_wp2_with fail;have HSC0:=Lt (Sc w w3 i b3 b4 x1 x2 (Ab M1 M2 i 0) M2) (by rw[vw M2 HSC.o.l1];exact HSC.o);clear HSC c3;go_loopw [44] (fun v44 wr=>∃k:Nat,k<=i/\v44=.int .i64 k/\Hid (Sc w wr i b3 b4 x1 x2 (Ab M1 M2 i k) M2)) (fun v44 _=>i-(intOf v44).toNat);exact⟨0,by omega,rfl,HSC0.o⟩;clear HSC0;obtain⟨k,hk,rfl,HS⟩:=hrel;have c3:=HS.o.c3;have c4:=HS.o.c4;by_cases hlk:k<i
  .obtain⟨g0,gf⟩:=HS.o.m1.at_ (k:=k) (by rw[HS.o.l1];exact hlk);rw[qjY hlk]at g0;obtain⟨g1,-⟩:=HS.o.m2.at_ (k:=k) (by rw[HS.o.l2];exact hlk);have HNX:=Lt (Sc w (wr.setCell ⟨x1,k,none⟩ (.bool (Ga M1 k&&Ga M2 k))) i b3 b4 x1 x2 (Ab M1 M2 i (k+1)) M2) (by rw[<-vy];exact HS.o.set1 _ _);clear HS;obtain⟨a,ha⟩:=Xe (Ga M1 k);obtain⟨b,hb⟩:=Xe (Ga M2 k);rw[<-ha]at g0 HNX;rw[<-hb]at g1 HNX;clear ha hb;obtain⟨r,hr⟩:=Xe ((a&&b));rw[<-hr]at HNX;go_wp2_with fail;cases a <;> cases b <;> cases hr
   all_goals
    refine Text.wt (by kernel_rfl) fun Q' hQ'=>?_;go_wp2;refine⟨by rfl,?_⟩;go_wp2;go_roundw;exact⟨k+1,by omega,by go_num,HNX.o.drew⟩;simp[intOf];omega
  have x_:k=i:=by omega
  subst x_;go_wp2;go_ret;have:=HS.o;rw[qrS HG.o HN.o HI1.o HS1.o HI2.o HS2.o]at this;exact⟨x1,rfl,this.m1,HJ1.1,this.bel⟩
theorem Bk(acc:Nat)(b:UInt8)(r:List UInt8):Lib.decFrom acc (b::r)=(Lib.digitVal b).bind fun d=>Lib.decFrom (acc*10+d) r:=by
 rw[Lib.decFrom];cases Lib.digitVal b <;> rfl
theorem xC(x y:List UInt8):∀(acc:Nat),Lib.decFrom acc (x++y)=(Lib.decFrom acc x).bind fun m=>Lib.decFrom m y:=by
 induction x with
 |nil=>intro acc;rfl
 |cons a x ih =>
  intro acc;rw[List.cons_append,Bk,Bk];cases Lib.digitVal a with
  |none=>rfl
  |some d=>exact ih _
theorem dM(d:Nat)(h:d<10):Lib.digitVal (UInt8.ofNat (48+d))=some d:=by
 have h1:(UInt8.ofNat (48+d)).toNat=48+d:=by
  rw[UInt8.toNat_ofNat'];omega
 unfold Lib.digitVal;rw[h1,if_pos (by omega)];congr 1;omega
theorem Cz(u:Nat):Lib.decFrom 0 (Lib.decDigits u)=some u:=by
 induction u using Nat.strongRecOn with
 |_ u ih =>
  rw[Lib.decDigits];split
  .rename_i h;rw[Bk,dM u h,Option.bind_some,Lib.decFrom,Nat.zero_mul,Yr]
  rename_i h;rw[xC,ih (u/10) (by omega),Option.bind_some,Bk,dM (u%10) (by omega),Option.bind_some,Lib.decFrom];congr 1;omega
theorem Lx(u:Nat):∀b∈Lib.decDigits u,48<=b.toNat/\b.toNat<=57:=fun b hb=>by
 obtain⟨k,hk⟩:=List.mem_iff_getElem?.1 hb;obtain⟨d,hd⟩:=Lib.digit_of_decFrom _ 0 u (Cz u) k b hk;unfold Lib.digitVal at hd;split at hd
 .assumption
 cases hd
theorem qhK(n:Int):∀c∈Lib.itoa n,c=45\/(48<=c.toNat/\c.toNat<=57):=by
 intro c hc;unfold Lib.itoa at hc;split at hc
 .rcases List.mem_cons.1 hc with e|hc
  .exact .inl e
  exact .inr (Lx _ c hc)
 exact .inr (Lx _ c hc)
theorem gP{a b:Nat}(h:Lib.decDigits a=Lib.decDigits b):a=b:=by
 have h1:=Cz a;rw[h,Cz b]at h1;injection h1 with h1;exact h1.symm
theorem lB{a b:Int}(h:Lib.itoa a=Lib.itoa b):a=b:=by
 have hno:∀(u v:Nat),Lib.decDigits u≠45::Lib.decDigits v:=by
  intro u v e;have:=Lx u 45 (by rw[e];exact Xi ..);exact absurd this.1 (by decide)
 unfold Lib.itoa at h;split at h <;> split at h
 .injection h with _ h;have:=gP h;omega
 .exact absurd h.symm (hno _ _)
 .exact absurd h (hno _ _)
 have:=gP h;omega
theorem jr(n:Int)(s:UInt8)(h1:s≠45)(h2:s.toNat<48\/57<s.toNat):s∉Lib.itoa n:=by
 intro h;rcases qhK n s h with e|e
 .exact h1 e
 omega
theorem lQ{s:UInt8}:∀{A B T U:List UInt8},s∉A->s∉B->(T=[]\/∃r,T=s::r)->(U=[]\/∃r,U=s::r)->A++T=B++U->A=B/\T=U
 |[],[],_,_,_,_,_,_,h=>⟨rfl,h⟩
 |[],b::B,T,U,_,hB,hT,_,h=>by
  exfalso;rcases hT with rfl|⟨r,rfl⟩
  .simp at h
  simp only[List.nil_append,List.cons_append]at h;injection h with h1 _;exact hB (by rw[h1];exact Xi ..)
 |a::A,[],T,U,hA,_,_,hU,h=>by
  exfalso;rcases hU with rfl|⟨r,rfl⟩
  .simp at h
  simp only[List.nil_append,List.cons_append]at h;injection h with h1 _;exact hA (by rw[<-h1];exact Xi ..)
 |a::A,b::B,T,U,hA,hB,hT,hU,h=>by
  simp only[List.cons_append]at h;injection h with h1 h2;obtain⟨e1,e2⟩:=lQ (fun hm=>hA (Xj _ hm)) (fun hm=>hB (Xj _ hm)) hT hU h2;exact⟨by rw[h1,e1],e2⟩
def edT(e:Int×Int):List UInt8:=32::(Lib.itoa e.1++58::Lib.itoa e.2)
def rO(l:List (Int×Int)):List UInt8:=l.flatMap edT
def uC(s:Int×Int×List (Int×Int)):List UInt8:=Lib.itoa s.1++32::(Lib.itoa s.2.1++rO s.2.2)
theorem eZ(l:List (Int×Int)):rO l=[]\/∃r,rO l=32::r:=by
 cases l with
 |nil=>exact .inl rfl
 |cons e r=>exact .inr ⟨_,rfl⟩
theorem uq:∀{l k:List (Int×Int)},rO l=rO k->l=k
 |[],[],_=>rfl
 |[],e::r,h=>by simp[rO,edT]at h
 |e::r,[],h=>by simp[rO,edT]at h
 |e::r,d::s,h=>by
  have h1:∀(x:Int×Int)(l:List (Int×Int)),rO (x::l)=32::(Lib.itoa x.1++58::(Lib.itoa x.2++rO l)):=fun x l=>by simp[rO,edT]
  rw[h1,h1]at h;injection h with _ h;have n58:∀n,(58:UInt8)∉Lib.itoa n:=fun n=>jr n 58 (by decide) (by decide);have n32:∀n,(32:UInt8)∉Lib.itoa n:=fun n=>jr n 32 (by decide) (by decide);obtain⟨e1,e2⟩:=lQ (n58 _) (n58 _) (.inr ⟨_,rfl⟩) (.inr ⟨_,rfl⟩) h;injection e2 with _ e2;obtain⟨e3,e4⟩:=lQ (n32 _) (n32 _) (eZ r) (eZ s) e2;rw[show e=d from Prod.ext (lB e1) (lB e3),uq e4]
theorem qfS{s t:Int×Int×List (Int×Int)}(h:uC s=uC t):s=t:=by
 unfold uC at h;have n32:∀n,(32:UInt8)∉Lib.itoa n:=fun n=>jr n 32 (by decide) (by decide);obtain⟨e1,e2⟩:=lQ (n32 _) (n32 _) (.inr ⟨_,rfl⟩) (.inr ⟨_,rfl⟩) h;injection e2 with _ e2;obtain⟨e3,e4⟩:=lQ (n32 _) (n32 _) (eZ _) (eZ _) e2;exact Prod.ext (lB e1) (Prod.ext (lB e3) (uq e4))
theorem qoF{l:List α}(h:l.Nodup)(hi:i<l.length)(hj:j<l.length)(e:l[i]=l[j]):i=j:=by
 have hp:=List.pairwise_iff_getElem.1 h;rcases Nat.lt_trichotomy i j with Jl|he|Jl
 .exact absurd e (hp i j hi hj Jl)
 .exact he
 exact absurd e.symm (hp j i hj hi Jl)
structure aC(m:Kj)(use:Nat->Bool)(c c':Nat->Int)(K:Nat):Prop where
 neg:∀i<m.length,use i=false->c' i=-1
 eq:∀i<m.length,∀j<m.length,use i=true->use j=true->(c' i=c' j↔Sn m use c i=Sn m use c j)
 lo:∀i<m.length,use i=true->∃v<K,c' i=((v:Nat):Int)
 onto:∀v<K,∃i<m.length,use i=true/\c' i=((v:Nat):Int)
def yM(m:Kj)(use:Nat->Bool)(c:Nat->Int):Prop:=∀i<m.length,∀j<m.length,use i=true->use j=true->Rg m i j->c i=c j
theorem aC.coarse(hg:Wz m)(hu:Pe m use)(h:aC m use c c' K)(hc:yM m use c):yM m use c' :=
 fun i hi j hj ui uj ha=>(h.eq i hi j hj ui uj).2 (qbL hg hu hc hi hj ui uj ha)
theorem aC.more(hg:Wz m)(hu:Pe m use){b:Nat->Int}{J:Nat}(h1:aC m use b c J)(h2:aC m use c c' K)(hb:yM m use b) :
  J<=K/\(K=J->∀i<m.length,∀j<m.length,use i=true->use j=true->(c' i=c' j↔Rg m i j)):=by
 have Ja:∀v,∃i:Nat,v<K->i<m.length/\use i=true/\c' i=((v:Nat):Int):=by
  intro v;by_cases hv:v<K
  .obtain⟨i,h3,h4,h5⟩:=h2.onto v hv;exact⟨i,fun _=>⟨h3,h4,h5⟩⟩
  exact⟨0,fun h=>absurd h hv⟩
 have hch:∃rep:Nat->Nat,∀v<K,rep v<m.length/\use (rep v)=true/\c' (rep v)=((v:Nat):Int):=⟨fun v=>Classical.choose (Ja v),fun v hv=>Classical.choose_spec (Ja v) hv⟩;obtain⟨rep,hr⟩:=hch;have qxC:∀i<m.length,∀j<m.length,use i=true->use j=true->c' i=c' j->c i=c j:=by
  intro i hi j hj ui uj e;have:=(h2.eq i hi j hj ui uj).1 e;simp only[Sn,Prod.mk.injEq]at this;exact this.1
 obtain⟨L,hL⟩:=Xe ((List.range K).map fun v=>(c (rep v)).toNat);have hLl:L.length=K:=by rw[hL];simp
 have zlN:∀k<J,k∈L:=by
  intro k hk;obtain⟨i,hi,ui,e⟩:=h1.onto k hk;obtain⟨v,hv,e2⟩:=h2.lo i hi ui;obtain⟨r1,r2,r3⟩:=hr v hv;have:=qxC (rep v) r1 i hi r2 ui (by rw[r3,e2]);rw[hL];exact Xa.2 ⟨v,Ya.2 hv,by rw[this,e];simp⟩
 refine⟨by rw[<-hLl];exact oS J L zlN,fun hKJ=>?_⟩;have Te:=qQ J L (by omega) zlN;have Cu:∀i<m.length,∀j<m.length,use i=true->use j=true->c i=c j->c' i=c' j:=by
  intro i hi j hj ui uj e;obtain⟨v,hv,e2⟩:=h2.lo i hi ui;obtain⟨u,hu',e3⟩:=h2.lo j hj uj;obtain⟨r1,r2,r3⟩:=hr v hv;obtain⟨s1,s2,s3⟩:=hr u hu';have k1:=qxC (rep v) r1 i hi r2 ui (by rw[r3,e2]);have k2:=qxC (rep u) s1 j hj s2 uj (by rw[s3,e3]);have hv':v<L.length:=by omega
  have ztF:u<L.length:=by omega
  have:L[v]=L[u]:=by
   subst hL;simp only[Xf,List.getElem_range];rw[k1,k2,e]
  rw[e2,e3,qoF Te hv' ztF this]
 intro i hi j hj ui uj;have hst:=iv hg hu (c:=c) fun i hi j hj ui uj e=>(h2.eq i hi j hj ui uj).1 (Cu i hi j hj ui uj e);constructor
 .intro e l;exact hst l i j hi hj ui uj (qxC i hi j hj ui uj e)
 intro ha;exact h2.coarse hg hu (h1.coarse hg hu hb) i hi j hj ui uj ha
abbrev fE:=List UInt8
def Hq(l:List fE):List fE:=l.foldl (fun F w=>if w∈F then F else F++[w]) []
theorem uh(l:List fE)(w:fE):Hq (l++[w])=if w∈Hq l then Hq l else Hq l++[w]:=by
 unfold Hq;rw[List.foldl_append];rfl
theorem oN(l:List fE):(Hq l).Nodup/\(∀w,w∈Hq l↔w∈l)/\(Hq l).length<=l.length:=by
 have key:∀(l F:List fE),F.Nodup->(l.foldl (fun F w=>if w∈F then F else F++[w]) F).Nodup/\(∀w,w∈l.foldl (fun F w=>if w∈F then F else F++[w]) F↔w∈F\/w∈l)/\(l.foldl (fun F w=>if w∈F then F else F++[w]) F).length<=l.length+F.length:=by
  intro l
  induction l with
  |nil=>intro F hF;exact⟨hF,by simp,by simp⟩
  |cons a r ih =>
   intro F hF;rw[List.foldl_cons];by_cases ha:a∈F
   .rw[if_pos ha];obtain⟨h1,h2,h3⟩:=ih F hF;refine⟨h1,fun w=>?_,by rw[Qu];omega⟩;rw[h2,List.mem_cons];constructor
    .rintro (h|h)
     .exact .inl h
     exact .inr (.inr h)
    rintro (h|rfl|h)
    .exact .inl h
    .exact .inl ha
    exact .inr h
   rw[if_neg ha];obtain⟨h1,h2,h3⟩:=ih (F++[a]) (List.nodup_append.2 ⟨hF,by simp,fun x hx y hy=>by simp at hy;subst hy;rintro rfl;exact ha hx⟩);refine⟨h1,fun w=>?_,by rw[Qe,Qf]at h3;rw[Qu];omega⟩;rw[h2,Qh,Qi,List.mem_cons];constructor
   .rintro ((h|rfl)|h)
    .exact .inl h
    .exact .inr (.inl rfl)
    exact .inr (.inr h)
   rintro (h|rfl|h)
   .exact .inl (.inl h)
   .exact .inl (.inr rfl)
   exact .inr h
 obtain⟨h1,h2,h3⟩:=key l [] List.nodup_nil;exact⟨h1,fun w=>by rw[<-show (w∈([]:List fE)\/w∈l)↔w∈l by simp];exact h2 w,h3⟩
def Ll(m:Kj)(use:Nat->Bool)(c:Nat->Int)(k:Nat):fE:=uC (Sn m use c k)
def pf(m:Kj)(use:Nat->Bool)(c:Nat->Int)(i:Nat):List fE:=((List.range i).filter use).map (Ll m use c)
theorem bn(m:Kj)(use:Nat->Bool)(c:Nat->Int)(i:Nat):pf m use c (i+1)=pf m use c i++if use i then [Ll m use c i]else []:=by
 unfold pf;rw[List.range_succ,List.filter_append,Qt];congr 1;cases h:use i <;> simp[h]
theorem qnF{t:fE}:t∈pf m use c i↔∃k<i,use k=true/\Ll m use c k=t:=by
 unfold pf;simp only[Xa,Qw,Ya];constructor
 .rintro⟨k,⟨h1,h2⟩,h3⟩;exact⟨k,h1,h2,h3⟩
 rintro⟨k,h1,h2,h3⟩;exact⟨k,⟨h1,h2⟩,h3⟩
theorem qnG(m:Kj)(use:Nat->Bool)(c:Nat->Int)(i:Nat):(pf m use c i).length<=i:=by
 unfold pf;rw[Qk];refine Yd (List.length_filter_le _ _) ?_;rw[List.length_range];exact Yb _
def Tx(m:Kj)(use:Nat->Bool)(c:Nat->Int)(i:Nat):List fE:=Hq (pf m use c i)
theorem qcS(m:Kj)(use:Nat->Bool)(c:Nat->Int)(i:Nat):(Tx m use c i).length<=i:=Yd (oN _).2.2 (qnG m use c i)
theorem pg(h:use i=false):Tx m use c (i+1)=Tx m use c i:=by
 unfold Tx;rw[bn,h];simp
theorem kM(h:use i=true):Tx m use c (i+1)=if Ll m use c i∈Tx m use c i then Tx m use c i else Tx m use c i++[Ll m use c i]:=by
 unfold Tx;rw[bn,h,if_pos rfl,uh]
theorem ja{t:fE}:t∈Tx m use c i↔∃k<i,use k=true/\Ll m use c k=t:=by
 unfold Tx;rw[(oN _).2.1,qnF]
def Tz(m:Kj)(use:Nat->Bool)(c:Nat->Int)(i k:Nat):Int:=if use k then (((Tx m use c i).idxOf (Ll m use c k):Nat):Int)else -1
theorem qhU{l:List fE}{w:fE}(h:w∈l)(r:List fE):(l++r).idxOf w=l.idxOf w:=by
 rw[List.idxOf_append,if_pos h]
theorem dl(hk:k<i):Tz m use c (i+1) k=Tz m use c i k:=by
 unfold Tz;cases hu:use k with
 |false=>rfl
 |true =>
  simp only[if_true];have hm:Ll m use c k∈Tx m use c i:=ja.2 ⟨k,hk,hu,rfl⟩;cases hi:use i with
  |false=>rw[pg hi]
  |true =>
   rw[kM hi];by_cases h:Ll m use c i∈Tx m use c i
   .rw[if_pos h]
   rw[if_neg h,qhU hm]
theorem qdG(hu:use i=true):Tz m use c (i+1) i=if Ll m use c i∈Tx m use c i then (((Tx m use c i).idxOf (Ll m use c i):Nat):Int)else ((Tx m use c i).length:Int):=by
 unfold Tz;rw[hu,if_pos rfl,kM hu];by_cases h:Ll m use c i∈Tx m use c i
 .rw[if_pos h,if_pos h]
 rw[if_neg h,if_neg h,List.idxOf_append,if_neg h];simp
theorem qdE(hu:use k=false):Tz m use c i k=-1:=by
 unfold Tz;rw[hu];rfl
theorem qpA{l:List fE}{a b:fE}(ha:a∈l)(h:l.idxOf a=l.idxOf b):a=b:=by
 have h1:=List.idxOf_lt_length_of_mem ha;have h2:l[l.idxOf a]=a:=List.getElem_idxOf h1;have h3:l.idxOf b<l.length:=by rw[<-h];exact h1
 have h4:l[l.idxOf b]=b:=List.getElem_idxOf h3;rw[<-h2,<-h4];congr 1
theorem pq(m:Kj)(use:Nat->Bool)(c:Nat->Int):aC m use c (Tz m use c m.length) (Tx m use c m.length).length:=by
 have Ml:∀i<m.length,use i=true->Ll m use c i∈Tx m use c m.length:=fun i hi ui=>ja.2 ⟨i,hi,ui,rfl⟩;refine⟨fun i _ hu=>qdE hu,fun i hi j hj ui uj=>?_,fun i hi ui=>?_,fun v hv=>?_⟩
 .unfold Tz;rw[ui,uj];simp only[if_true];constructor
  .intro h;have h2:Ll m use c i=Ll m use c j:=qpA (Ml i hi ui) (by exact_mod_cast h);exact qfS h2
  intro h;unfold Ll;rw[h]
 .refine⟨_,List.idxOf_lt_length_of_mem (Ml i hi ui),?_⟩;unfold Tz;rw[ui];rfl
 obtain⟨k,hk,uk,jX⟩:=ja.1 (Qg hv);refine⟨k,hk,uk,?_⟩;unfold Tz;rw[uk,if_pos rfl,jX];have Te:(Tx m use c m.length).Nodup:=(oN _).1;rw[Te.idxOf_getElem v hv]
def eD(m:Kj)(use:Nat->Bool)(c:Nat->Int)(ft:Int):Prop:=(ft=-1/\∀i<m.length,c i=-1)\/∃b J,ft=((J:Nat):Int)/\aC m use b c J/\yM m use b
theorem eD.coarse{m:Kj}(hg:Wz m){use:Nat->Bool}(hu:Pe m use){c:Nat->Int}{ft:Int}(h:eD m use c ft):yM m use c:=by
 rcases h with ⟨_,h⟩|⟨b,J,_,h1,h2⟩
 .intro i hi j hj _ _ _;rw[h i hi,h j hj]
 exact h1.coarse hg hu h2
theorem eD.next(hg:Wz m)(hu:Pe m use){ft:Int}(h:eD m use c ft):eD m use (Tz m use c m.length) ((Tx m use c m.length).length:Int):=.inr ⟨c,_,rfl,pq m use c,h.coarse hg hu⟩
theorem eD.more{m:Kj}(hg:Wz m){use:Nat->Bool}(hu:Pe m use){c:Nat->Int}{ft:Int}(h:eD m use c ft):ft<=(Tx m use c m.length).length/\(((Tx m use c m.length).length:Int)=ft->∀i<m.length,∀j<m.length,use i=true->use j=true->(Tz m use c m.length i=Tz m use c m.length j↔Rg m i j)):=by
 rcases h with ⟨h1,_⟩|⟨b,J,h0,h1,h2⟩
 .exact⟨by omega,fun h=>by omega⟩
 obtain⟨h3,h4⟩:=h1.more hg hu (pq m use c) h2;exact⟨by omega,fun h=>h4 (by omega)⟩
def So(m:Kj)(use:Nat->Bool)(c:Nat->Int)(i k:Nat):fE:=uC (c i,No m i,(((Mm m i).take k).filter fun e=>use e.2.toNat).map fun e=>(e.1,c e.2.toNat))
theorem vD(m:Kj)(use:Nat->Bool)(c:Nat->Int)(i:Nat):So m use c i 0=Lib.itoa (c i)++32::Lib.itoa (No m i):=by
 unfold So uC rO;simp
theorem qgF(m:Kj)(use:Nat->Bool)(c:Nat->Int)(i:Nat):So m use c i (Mm m i).length=Ll m use c i:=by
 unfold So Ll Sn;rw[List.take_length]
theorem vE{e:Int×Int}(h:(Mm m i)[k]?=some e):So m use c i (k+1)=So m use c i k++if use e.2.toNat then 32::(Lib.itoa e.1++58::Lib.itoa (c e.2.toNat))else []:=by
 obtain⟨hk,he⟩:=Qj.1 h;unfold So uC;rw[Qc hk,List.filter_append,Qt,he];unfold rO;rw[List.flatMap_append];cases hu:use e.2.toNat <;> simp[hu,edT]
theorem cp{m:Kj}{use:Nat->Bool}{c:Nat->Int}{i:Nat}(hc:∀k,-9223372036854775808<=c k/\c k<=9223372036854775807)(ho:-9223372036854775808<=No m i/\No m i<=9223372036854775807)(he:∀e∈Mm m i,-9223372036854775808<=e.1/\e.1<=9223372036854775807) :
  ∀k≤(Mm m i).length,(So m use c i k).length<=43+44*k
 |0,_=>by
  rw[vD];have h1:=Lib.itoa_length_le (c i) (hc i).1 (hc i).2;have h2:=Lib.itoa_length_le (No m i) ho.1 ho.2;simp only[Qe,Qu];omega
 |k+1,hk=>by
  have ih:=cp (use:=use) hc ho he k (by omega);have hg:=Qa (l:=Mm m i) (i:=k) (by omega);rw[vE hg];have h1:=Lib.itoa_length_le ((Mm m i)[k]).1 (he _ (Qg _)).1 (he _ (Qg _)).2;have h2:=Lib.itoa_length_le (c ((Mm m i)[k]).2.toNat) (hc _).1 (hc _).2;split
  .simp only[Qe,Qu];omega
  simp only[Qe,Xu];omega
theorem qfB{P:Program}{w':World}{n:String}(h:w.var? P n=some cs)(hb:Below w.heap.size w w'):w'.var? P n=some cs:=by
 unfold World.var? at h |-;cases hg:P.globalNamed n with
 |none=>simp[hg]at h
 |some g =>
  simp only[hg,Option.bind_some]at h |-;have Jl:g<w.heap.size:=by
   rcases Nat.lt_or_ge g w.heap.size with h'|h'
   .exact h'
   simp[Array.getElem?_eq_none h']at h
  rw[hb.block g Jl];exact h
structure Tabs(w:World):Prop where
 tab : Lib.TabIs Tryz.prog w "internal/strconv.uint64pow10" .u64 Lib.pow10Tab
 syn : ∃tp p, w.var? Tryz.prog "strconv.ErrSyntax" = some #[.iface tp p]
 rng : ∃tp p, w.var? Tryz.prog "strconv.ErrRange" = some #[.iface tp p]
theorem qbG(w:World)(k:Nat)(os:Array Obj):Below w.heap.size w (Sort.grow (w.drewN k) os) :=
 ⟨rfl,rfl,rfl,by simp[Sort.grow,World.drewN],fun i hi=>by
  show (w.heap++os)[i]?=_
  rw[Array.getElem?_append_left hi]⟩
abbrev Ei:=Int×Wd×Int
def byI(l:Wd):List Int:=l.map fun c=>(c.toNat:Int)
def Ed(rows:List Ei)(w:Wd):Int:=rows.foldl (fun o r=>if r.2.1=w/\o<0 then r.2.2 else o) (-1)
def Ee(F:List Wd)(w:Wd):List (Int×Int):=(F.zipIdx.filter fun p=>decide (p.1≠[]/\p.1.dropLast=w)).map fun p=>((p.1.getLastD 0).toNat,(p.2:Int))
def Dh(rows:List Ei)(F:List Wd):Kj:=F.map fun w=>(Ed rows w,Ee F w)
def Ce(a b:Wd):Prop:=a.length<b.length\/a.length=b.length/\a<b
structure Df(rows:List Ei)(F:List Wd):Prop where
 mem:∀w,w∈F↔w=[]\/∃r∈rows,w <+: r.2.1
 asc:F.Pairwise Ce
theorem It(a:Wd):¬ Ce a a:=by
 rintro (h|⟨_,h⟩)
 .omega
 exact List.lt_irrefl _ h
theorem uB{a b:Wd}(h:Ce a b):¬ Ce b a:=by
 rintro (h2|⟨h3,h2⟩)
 .rcases h with h|⟨h,_⟩ <;> omega
 rcases h with h|⟨_,h⟩
 .omega
 exact List.lt_asymm h h2
theorem dJ{rows:List Ei}(h:Df rows F):F[0]?=some []:=by
 obtain⟨i,hi,e⟩:=Qz ((h.mem []).2 (.inl rfl));by_cases h0:i=0
 .subst h0;rw[Qa hi,e]
 exfalso;have:=List.pairwise_iff_getElem.1 h.asc 0 i (by omega) hi (by omega);rw[e]at this;rcases this with h2|⟨h2,h3⟩
 .simp at h2
 exact absurd h3 (List.not_lt_nil _)
theorem zX{rows:List Ei}{G:List Wd}(h:Df rows F)(h2:Df rows G):F=G:=by
 have key:∀(F G:List Wd),F.Pairwise Ce->G.Pairwise Ce->(∀w,w∈F↔w∈G)->F=G:=by
  intro F
  induction F with
  |nil =>
   intro G _ _ hm;cases G with
   |nil=>rfl
   |cons a r=>exact absurd ((hm a).2 (Xi ..)) (by simp)
  |cons a r ih =>
   intro G hF hG hm;cases G with
   |nil=>exact absurd ((hm a).1 (Xi ..)) (by simp)
   |cons b s =>
    obtain⟨p1,q1⟩:=Qx.1 hF;obtain⟨p2,q2⟩:=Qx.1 hG;have Bg:a=b:=by
     rcases List.mem_cons.1 ((hm a).1 (Xi ..))with e|e
     .exact e
     rcases List.mem_cons.1 ((hm b).2 (Xi ..))with e2|e2
     .exact e2.symm
     exact absurd (p1 b e2) (uB (p2 a e))
    subst Bg;congr 1;refine ih s q1 q2 fun e=>⟨fun he=>?_,fun he=>?_⟩
    .rcases List.mem_cons.1 ((hm e).1 (Xj _ he))with e2|e2
     .subst e2;exact absurd (p1 e he) (It e)
     exact e2
    rcases List.mem_cons.1 ((hm e).2 (Xj _ he))with e2|e2
    .subst e2;exact absurd (p2 e he) (It e)
    exact e2
 exact key F G h.asc h2.asc fun w=>by rw[h.mem,h2.mem]
theorem cZ{w:Wd}{t n:Int}:(t,n)∈Ee F w↔∃(c:UInt8)(j:Nat),F[j]?=some (w++[c])/\t=(c.toNat:Int)/\n=(j:Int):=by
 unfold Ee;simp only[Xa,Qw,Yk,Prod.mk.injEq];constructor
 .rintro⟨⟨x,j⟩,⟨h1,h2,h3⟩,rfl,rfl⟩;have hj:=List.mem_zipIdx_iff_getElem?.1 h1;simp only at hj h2 h3 |-;refine⟨x.getLastD 0,j,?_,rfl,rfl⟩;rw[hj,<-h3];obtain⟨y,rfl⟩:∃y:Wd×UInt8,x=y.1++[y.2]:=⟨(x.dropLast,x.getLast h2),(List.dropLast_concat_getLast h2).symm⟩;simp
 rintro⟨c,j,h1,rfl,rfl⟩;exact⟨(w++[c],j),⟨List.mem_zipIdx_iff_getElem?.2 h1,by simp,by simp⟩,by simp,rfl⟩
theorem za{w:Wd}{a b:UInt8}(h:Ce (w++[a]) (w++[b])):a<b:=by
 rcases h with h|⟨-,h⟩
 .simp at h
 induction w with
 |nil =>
  simp only[List.nil_append]at h;rcases List.cons_lt_cons_iff.1 h with h|⟨_,h⟩
  .exact h
  exact absurd h (List.not_lt_nil _)
 |cons x r ih =>
  simp only[List.cons_append]at h;rcases List.cons_lt_cons_iff.1 h with h|⟨_,h⟩
  .exact absurd h (by simp)
  exact ih h
theorem qhG{rows:List Ei}(h:Df rows F)(w:Wd):(Ee F w).Pairwise fun a b=>a.1<b.1:=by
 unfold Ee;rw[List.pairwise_map];have h1:F.zipIdx.Pairwise fun a b=>Ce a.1 b.1:=by
  have:=h.asc;rw[<-List.zipIdx_map_fst 0 F]at this;exact List.pairwise_map.1 this
 refine (List.Pairwise.filter _ h1).imp_of_mem ?_;intro a b ha hb Bg;simp only[Qw,Yk]at ha hb;obtain⟨_,jZ,mY⟩:=ha;obtain⟨_,hb1,Jd⟩:=hb;have ea:a.1=w++[a.1.getLastD 0]:=by
  obtain⟨y,hy⟩:∃y:Wd×UInt8,a.1=y.1++[y.2]:=⟨(a.1.dropLast,a.1.getLast jZ),(List.dropLast_concat_getLast jZ).symm⟩;rw[<-mY,hy];simp
 have eb:b.1=w++[b.1.getLastD 0]:=by
  obtain⟨y,hy⟩:∃y:Wd×UInt8,b.1=y.1++[y.2]:=⟨(b.1.dropLast,b.1.getLast hb1),(List.dropLast_concat_getLast hb1).symm⟩;rw[<-Jd,hy];simp
 rw[ea,eb]at Bg;have:=UInt8.lt_iff_toNat_lt.1 (za Bg);omega
theorem nQ{rows:List Ei}(h:∀r∈rows,0<=r.2.2)(w:Wd):Ed rows w=(match rows.find? fun r=>decide (r.2.1=w)with|some r=>r.2.2|none=>-1):=by
 unfold Ed;have stay:∀(rows:List Ei)(o:Int),0<=o->rows.foldl (fun o r=>if r.2.1=w/\o<0 then r.2.2 else o) o=o:=by
  intro rows
  induction rows with
  |nil=>intro o _;rfl
  |cons r l ih =>
   intro o ho;rw[List.foldl_cons,if_neg (by omega)];exact ih o ho
 induction rows with
 |nil=>rfl
 |cons r l ih =>
  rw[List.foldl_cons];by_cases he:r.2.1=w
  .rw[if_pos ⟨he,by omega⟩,List.find?_cons_of_pos (by simp[he]),stay l _ (h r (Xi ..))]
  rw[if_neg (fun h2=>he h2.1),List.find?_cons_of_neg (by simp[he])];exact ih fun x hx=>h x (Xj _ hx)
theorem qnV{rows:List Ei}(h:∀r∈rows,0<=r.2.2)(w:Wd):-1<=Ed rows w:=by
 rw[nQ h];split
 .rename_i r hr;have:=h r (List.mem_of_find?_eq_some hr);omega
 omega
theorem Rm{rows:List Ei}{w:Wd}(h:F[k]?=some w):No (Dh rows F) k=Ed rows w/\Mm (Dh rows F) k=Ee F w:=by
 unfold No Mm Dh;rw[Qb,Qv,h];exact⟨rfl,rfl⟩
theorem Eb(rows:List Ei)(F:List Wd):(Dh rows F).length=F.length:=by simp[Dh]
theorem ay{rows:List Ei}(hF:Df rows F)(h:∀r∈rows,0<=r.2.2):Wz (Dh rows F):=by
 have fN:∀k<(Dh rows F).length,∃w,F[k]?=some w:=fun k hk=>by rw[Eb]at hk;exact⟨_,Qa hk⟩
 refine⟨?_,fun k hk=>?_,fun k hk e he=>?_,fun k hk=>?_⟩
 .have:=(Qj.1 (dJ hF)).1;intro e;have h2:=Eb rows F;rw[e]at h2;simp at h2;omega
 .obtain⟨w,hw⟩:=fN k hk;rw[(Rm hw).1];exact qnV h w
 .obtain⟨w,hw⟩:=fN k hk;rw[(Rm hw).2]at he;obtain⟨c,j,h1,h2,h3⟩:=cZ.1 he;have:=(Qj.1 h1).1;rw[Eb];omega
 obtain⟨w,hw⟩:=fN k hk;rw[(Rm hw).2];exact qhG hF w
theorem eH{rows:List Ei}(hF:Df rows F)(hb:∀r∈rows,∀c∈r.2.1,c.toNat<n):∀k<(Dh rows F).length,∀e∈Mm (Dh rows F) k,e.1<(n:Int):=by
 intro k hk e he;rw[Eb]at hk;rw[(Rm (Qa hk)).2]at he;obtain⟨c,j,h1,h2,h3⟩:=cZ.1 he;have hm:=(hF.mem _).1 (Qp h1);rcases hm with hm|⟨r,hr,hp⟩
 .simp at hm
 have:=hb r hr c (hp.subset (by simp));omega
theorem ze{rows:List Ei}(hF:Df rows F)(h:∀r∈rows,0<=r.2.2):Uy (Dh rows F) 9223372036854775807=true :=
 jB (ay hF h) fun k hk e he=>by
  have:=eH hF (n:=256) (fun r _ c _=>c.toNat_lt) k hk e he;omega
theorem qfF{rows:List Ei}(hF:Df rows F)(h:∀r∈rows,0<=r.2.2)(l:Wd):Md (Dh rows F) 0 (byI l)=Ed rows l:=by
 have hg:=ay hF h;have key:∀(l:Wd)(k:Nat)(w:Wd),F[k]?=some w->Md (Dh rows F) k (byI l)=if w++l∈F then Ed rows (w++l)else -1:=by
  intro l
  induction l with
  |nil =>
   intro k w hw;rw[List.append_nil,if_pos (Qp hw)];exact (Rm hw).1
  |cons c r ih =>
   intro k w hw;have hk:k<(Dh rows F).length:=by rw[Eb];exact (Qj.1 hw).1
   show Md _ k ((c.toNat:Int)::byI r)=_;rw[Wb];cases hs:Di (Dh rows F) k (c.toNat:Int)with
   |some j =>
    have he:=(Wh hg hk _ j).1 hs;rw[(Rm hw).2]at he;obtain⟨c',j',h1,h2,h3⟩:=cZ.1 he;have hc:c'=c:=by
     refine UInt8.toNat_inj.1 ?_;omega
    subst hc;have hj:j'=j:=by omega
    subst hj;simp only;rw[ih j' _ h1];simp
   |none =>
    simp only;rw[if_neg];intro hm;have h1:w++[c]∈F:=by
     rcases (hF.mem _).1 hm with h1|⟨x,hx,hp⟩
     .simp at h1
     refine (hF.mem _).2 (.inr ⟨x,hx,(List.IsPrefix.trans ?_ hp)⟩);exact⟨r,by simp⟩
    obtain⟨j,hj⟩:=List.mem_iff_getElem?.1 h1;have:Di (Dh rows F) k (c.toNat:Int)=some j:=(Wh hg hk _ j).2 (by rw[(Rm hw).2];exact cZ.2 ⟨c,j,hj,rfl,rfl⟩);rw[hs]at this;cases this
 rw[key l 0 [] (dJ hF)];rw[List.nil_append];by_cases hm:l∈F
 .rw[if_pos hm]
 rw[if_neg hm,nQ h];split
 .rename_i r hr;have h1:=List.mem_of_find?_eq_some hr;have h2:=List.find?_some hr;simp only[Yk]at h2;exact absurd ((hF.mem l).2 (.inr ⟨r,h1,by rw[h2];exact List.prefix_refl _⟩)) hm
 rfl
theorem Hy[DecidableEq α](l:List (α×Value))(k:α)(v:Value)(x:α):Nt (Ue l k v) x=if x=k then some v else Nt l x:=by
 induction l with
 |nil =>
  unfold Ue Nt;by_cases h:x=k
  .subst h;simp
  rw[if_neg h];have h2:¬ k=x:=fun e=>h e.symm;simp[h2]
 |cons a r ih =>
  unfold Ue;by_cases h1:a.1=k
  .rw[if_pos h1];unfold Nt;rw[List.find?_cons,List.find?_cons];by_cases h:x=k
   .subst h;simp
   rw[if_neg h];have h2:¬ k=x:=fun e=>h e.symm;have h3:¬ a.1=x:=fun e=>h (e.symm.trans h1);simp[h2,h3]
  rw[if_neg h1];unfold Nt at ih |-;rw[List.find?_cons,List.find?_cons];by_cases h:a.1=x
  .have h2:¬ x=k:=fun e=>h1 (h.trans e);simp[h,h2]
  simp only[h,decide_false];exact ih
def atF(ts:List Wd)(i:Nat)(w:Wd):Option Value:=if w∈ts.take i then some (.int .i64 (ts.idxOf w))else if w∈ts then some (.int .i64 0)else none
theorem Ov(hn:ts.Nodup){w:Wd}(h:ts[i]?=some w):ts.idxOf w=i:=by
 obtain⟨hi,rfl⟩:=Qj.1 h;exact hn.idxOf_getElem i hi
theorem qsE(hn:ts.Nodup){w:Wd}(h:ts[i]?=some w)(x:Wd):atF ts (i+1) x=if x=w then some (.int .i64 i)else atF ts i x:=by
 obtain⟨hi,e⟩:=Qj.1 h;unfold atF;rw[Qc hi,e];simp only[Qh,Qi];by_cases hx:x=w
 .subst hx;rw[if_pos (.inr rfl),if_pos rfl,Ov hn h]
 rw[if_neg hx];simp[hx]
theorem qyL{w:Wd}(h:w∈ts.take i):atF ts i w=some (.int .i64 (ts.idxOf w)):=by
 unfold atF;rw[if_pos h]
def AtR(κ:Wd->Value)(W:World)(g:Nat)(ts:List Wd)(i:Nat):Prop:=∃l,Mb κ W g l/\∀w,Nt l w=atF ts i w
theorem zY{rows:List Ei}(h:Df rows ts)(hx:ts[i]?=some x)(hne:x≠[]):∃j,j<i/\ts[j]?=some x.dropLast:=by
 have hl:0<x.length:=Qy.2 hne;have hm:x.dropLast∈ts:=by
  rw[h.mem];rcases (h.mem x).1 (Qp hx)with e|⟨r,hr,hp⟩
  .exact absurd e hne
  exact .inr ⟨r,hr,(List.dropLast_prefix x).trans hp⟩
 obtain⟨j,hj⟩:=List.getElem?_of_mem hm;refine⟨j,?_,hj⟩;obtain⟨a1,a2⟩:=Qj.1 hx;obtain⟨b1,b2⟩:=Qj.1 hj;have hp:=List.pairwise_iff_getElem.1 h.asc;rcases Nat.lt_trichotomy j i with Jl|he|Jl
 .exact Jl
 .subst he;rw[a2]at b2;have:=congrArg List.length b2;rw[List.length_dropLast]at this;omega
 have:=hp i j a1 b1 Jl;rw[a2,b2]at this;rcases this with h2|⟨h2,_⟩ <;> rw[List.length_dropLast]at h2 <;> omega
theorem qaO{rows:List Ei}(h:Df rows ts){N:Nat}(hw:∀r∈rows,r.2.1.length<=N)(hx:ts[i]?=some x):x.length<=N:=by
 rcases (h.mem x).1 (Qp hx)with rfl|⟨r,hr,hp⟩
 .simp
 exact Yd hp.length_le (hw r hr)
theorem qhH(w:Wd)(ts:List Wd):Ee (ts.take 0) w=[]:=rfl
theorem oC(h:ts[i]?=some x)(w:Wd):Ee (ts.take (i+1)) w=Ee (ts.take i) w++if x≠[]/\x.dropLast=w then [(((x.getLastD 0).toNat:Int),(i:Int))]else []:=by
 obtain⟨hi,e⟩:=Qj.1 h;unfold Ee;rw[Qc hi,List.zipIdx_append,List.filter_append,Qt,e];congr 1;have hl:(ts.take i).length=i:=by rw[Qq];omega
 simp only[List.zipIdx_cons,List.zipIdx_nil,hl,Yr];by_cases hc:x≠[]/\x.dropLast=w
 .rw[if_pos hc];simp[hc]
 rw[if_neg hc,List.filter_cons,if_neg (by simpa using hc)];rfl
theorem qhF(h:ts[i]?=some []):(ts.map fun w=>Ee (ts.take (i+1)) w)=ts.map fun w=>Ee (ts.take i) w:=by
 apply List.map_congr_left;intro w _;rw[oC h];simp
theorem qoW(hn:ts.Nodup){p:Wd}(h:ts[i]?=some x)(hx:x≠[])(hp:x.dropLast=p)(hj:ts[j]?=some p) :
  (ts.map fun w=>Ee (ts.take (i+1)) w)=(ts.map fun w=>Ee (ts.take i) w).set j (Ee (ts.take i) p++[(((x.getLastD 0).toNat:Int),(i:Int))]):=by
 apply List.ext_getElem?;intro k;rw[Xw,Qv,Qv,Qk];by_cases hk:j=k
 .subst hk;rw[if_pos rfl,if_pos (Qj.1 hj).1,hj,Option.map_some,oC h,if_pos ⟨hx,hp⟩]
 rw[if_neg hk];cases hw:ts[k]? with
 |none=>rfl
 |some w =>
  rw[Option.map_some,Option.map_some,oC h,if_neg,List.append_nil];rintro⟨_,e⟩;rw[hp]at e;subst e;have h1:=Ov hn hj;have h2:=Ov hn hw;omega
theorem ec(F:List Wd)(w:Wd):(Ee F w).length<=F.length:=by
 unfold Ee;rw[Qk];refine Yd (List.length_filter_le _ _) ?_;rw[List.length_zipIdx];exact Yb _
def Ba(w:Wd)(o:Int)(x:Ei×Wd):Int:=if x.2=w/\x.2=x.1.2.1/\o<0 then x.1.2.2 else o
def cz(pre:List (Ei×Wd))(w:Wd):Int:=pre.foldl (Ba w) (-1)
theorem Z_(pre:List (Ei×Wd))(x:Ei×Wd)(w:Wd):cz (pre++[x]) w=Ba w (cz pre w) x:=by
 unfold cz;rw[List.foldl_append];rfl
theorem qp(r:Ei)(w:Wd)(o:Int):((List.range (r.2.1.length+1)).map fun k=>(r,r.2.1.take k)).foldl (Ba w) o=if r.2.1=w/\o<0 then r.2.2 else o:=by
 have stay:∀(l:List Nat)(o:Int),(∀k∈l,k<r.2.1.length)->(l.map fun k=>(r,r.2.1.take k)).foldl (Ba w) o=o:=by
  intro l
  induction l with
  |nil=>intro o _;rfl
  |cons k l ih =>
   intro o hk;rw[List.map_cons,List.foldl_cons];have h1:Ba w o (r,r.2.1.take k)=o:=by
    unfold Ba;rw[if_neg];rintro⟨_,h2,_⟩;have:=congrArg List.length h2;simp only[Qq]at this;have:=hk k (Xi ..);omega
   rw[h1];exact ih o fun k qM=>hk k (Xj _ qM)
 rw[List.range_succ,Qt,List.foldl_append,stay _ _ (fun k hk=>Ya.1 hk)];show Ba w o (r,r.2.1.take r.2.1.length)=_;unfold Ba;simp only[List.take_length,true_and]
theorem qgM(rows:List Ei)(w:Wd):cz (rows.flatMap fun r=>(List.range (r.2.1.length+1)).map fun k=>(r,r.2.1.take k)) w=Ed rows w:=by
 unfold cz Ed;generalize (-1:Int)=o
 induction rows generalizing o with
 |nil=>rfl
 |cons r l ih =>
  rw[List.flatMap_cons,List.foldl_append,qp,List.foldl_cons];exact ih _
def rD(ts:List Wd)(pre:List (Ei×Wd))(k:Nat):Int:=cz pre (ts.getD k [])
theorem qgK(hn:ts.Nodup){x:Ei×Wd}(hj:ts[j]?=some x.2)(pre:List (Ei×Wd))(hk:k<ts.length):rD ts (pre++[x]) k=if k=j/\x.2=x.1.2.1/\rD ts pre j<0 then x.1.2.2 else rD ts pre k:=by
 unfold rD;rw[Z_];have hg:ts.getD k []=ts[k]:=by rw[Qb,Qa hk];rfl
 have hgj:ts.getD j []=x.2:=by rw[Qb,hj];rfl
 rw[hg,hgj];unfold Ba;have he:x.2=ts[k]↔k=j:=by
  constructor
  .intro h;have h1:=Ov hn hj;have h2:=Ov hn (i:=k) (w:=x.2) (by rw[Qa hk,h]);omega
  rintro rfl;rw[Qa hk]at hj;injection hj with hj;exact hj.symm
 by_cases hkj:k=j
 .subst hkj;have h1:=he.2 rfl;rw[<-h1];simp
 have h1:¬ x.2=ts[k]:=fun h=>hkj (he.1 h);simp[h1,hkj]
theorem qnU(ts:List Wd)(k:Nat):rD ts [] k=-1:=rfl
theorem qr(rows:List Ei)(w:Wd):Ed rows w=-1\/∃r∈rows,Ed rows w=r.2.2:=by
 unfold Ed
 suffices h:∀(l:List Ei)(o:Int),l.foldl (fun o r=>if r.2.1=w/\o<0 then r.2.2 else o) o=o\/∃r∈l,l.foldl (fun o r=>if r.2.1=w/\o<0 then r.2.2 else o) o=r.2.2 from h rows (-1)
 intro l
 induction l with
 |nil=>intro o;exact .inl rfl
 |cons r l ih =>
  intro o;rw[List.foldl_cons];by_cases hc:r.2.1=w/\o<0
  .rw[if_pos hc];rcases ih r.2.2 with h|⟨r',h1,h2⟩
   .exact .inr ⟨r,Xi ..,h⟩
   exact .inr ⟨r',Xj _ h1,h2⟩
  rw[if_neg hc];rcases ih o with h|⟨r',h1,h2⟩
  .exact .inl h
  exact .inr ⟨r',Xj _ h1,h2⟩
open Go.RowKit Go.Sort
theorem bY:Dg Tryz.prog 22 9 1 16 (.string ⟨#[]⟩):=Gh (by kernel_rfl) (by kernel_rfl) rfl (by omega)
def ml(w:World)(xs:List Wd)(e:Ending)(w':World):Prop:=∃v',e=.returned v'/\w'.ownsRow w.heap.size 9 1 v' xs.length (Zx xs)/\Below w.heap.size w w'
theorem oU(A:Option Addr)(c:Nat)(xs:List Wd)(w:World)(h:Je eW w w.heap.size (.slice A xs.length c) xs)(hb:xs.length*16<=140737488355328) :
  Calls Tryz.prog 74 #[.slice A xs.length c] w (ml w xs):=by
 cases A with
 |none =>
  have hx:xs=[]:=by
   rcases Nat.eq_zero_or_pos xs.length with h0|h0
   .exact Xx h0
   obtain⟨b,off,e,_⟩:=h.wd (k:=0) h0;cases e
  subst hx;refine (Tryz.slices_Clone_string_nil 0 c w).mono ?_;rintro e w' ⟨rfl,rfl⟩;exact⟨_,rfl,Za _ _ _ _,Xr _ _⟩
 |some a =>
  rcases Nat.eq_zero_or_pos xs.length with h0|h0
  .have hx:xs=[]:=Xx h0;subst hx;refine (Tryz.slices_Clone_string_zero a c w).mono ?_;rintro e w' ⟨v',rfl,hown,_,tg⟩;exact⟨v',rfl,hown,tg⟩
  obtain⟨b,off,e,_,_,_⟩:=h.wd (k:=0) h0;injection e with e;subst e;have:=Tryz.slices_Clone_string b off xs.length c (xs.map fun x=>(⟨x.toArray⟩:ByteArray)) w (by simp) hb (fun j hj=>by
   have aU:j<xs.length:=by simpa using hj
   obtain⟨b',zsS,e,_,_,hc⟩:=h.wd aU
   injection e with e
   injection e with e1 e2
   subst e1 e2
   rw[hc,Qb,Qv,Qa aU]
   rfl)
  refine Calls.mono this ?_;rintro e w' ⟨v',rfl,hown,_,tg⟩;refine⟨v',rfl,?_,tg⟩;rw[show ((xs.map fun x=>(⟨x.toArray⟩:ByteArray)).take xs.length).map Value.string=Zx xs by rw[Qd (by simp)];simp[Zx]]at hown;exact hown
def qsL(w:World)(base:Nat)(v:Value)(xs:List Wd)(e:Ending)(w':World):Prop:=e=.returned (.tuple #[])/\w'.ownsRow base 9 1 v xs.length (Zx (xs.mergeSort fun x y=>decide (x<=y)))/\w.grownBy w' v.ownBlock
theorem pb(base:Nat)(v:Value)(xs:List Wd)(w:World)(h:w.ownsRow base 9 1 v xs.length (Zx xs))(hn:xs.length<4611686018427387904) :
  Calls Tryz.prog 75 #[v] w (qsL w base v xs):=by
 rcases h.2 with ⟨rfl,h0⟩|⟨g,cap,cur,rfl,hbase,hb,h1,h2,h3,h4⟩
 .have hx:xs=[]:=Xx h0;subst hx;refine (Tryz.slices_Sort_string_none none 0 w).mono ?_;rintro e w' ⟨rfl,rfl⟩;exact⟨rfl,by have:=Za w' base 9 1;simpa[Zx]using this,rfl,rfl,rfl,Yb _,fun _ _ _=>rfl⟩
 rw[Ys]at h4;have:=Tryz.slices_Sort_string g 0 cap xs w (holds_of_block hb h4) (gl hb) hn;refine Calls.mono this ?_;rintro e w' ⟨rfl,n,os,rfl⟩;exact⟨rfl,ownsRow_sorted (by simp) hbase hb h1 h2 h3,grownBy_sorted _⟩
theorem qaZ(xs:List Wd):(Lib.compact xs).length<=xs.length:=by
 unfold Lib.compact Lib.compactUpTo;rw[Qk];exact Yd (List.length_filter_le _ _) (by simp)
def qkY(w:World)(base:Nat)(v:Value)(xs:List Wd)(e:Ending)(w':World):Prop:=∃v',e=.returned v'/\w'.ownsRow base 9 1 v' (Lib.compact xs).length (Zx (Lib.compact xs))/\w.grownBy w' v.ownBlock
theorem vd(base:Nat)(v:Value)(xs:List Wd)(w:World)(h:w.ownsRow base 9 1 v xs.length (Zx xs))(hn:xs.length<4611686018427387904) :
  Calls Tryz.prog 259 #[v] w (qkY w base v xs):=by
 rcases h.2 with ⟨rfl,h0⟩|⟨g,cap,cur,rfl,hbase,hb,h1,h2,h3,h4⟩
 .have hx:xs=[]:=Xx h0;subst hx;refine (Tryz.slices_Compact_string_empty none 0 w).mono ?_;rintro e w' ⟨rfl,rfl⟩;exact⟨_,rfl,Za _ _ _ _,rfl,rfl,rfl,Yb _,fun _ _ _=>rfl⟩
 rw[Ys]at h4;have:=Tryz.slices_Compact_string g 0 cap xs w (holds_of_block hb h4) (by omega) h1;refine Calls.mono this ?_;rintro e w' ⟨rfl,q,rfl⟩;have hle:=qaZ xs;have Ox:=grownBy_sorted (w:=w) (g:=g) (n:=q) (os:=#[]) (Lib.compact xs++List.replicate (xs.length-(Lib.compact xs).length) []).toArray;have hhp:=heap_sorted (n:=q) (os:=#[]) (Lib.compact xs++List.replicate (xs.length-(Lib.compact xs).length) []).toArray hb;rw[grow_empty]at Ox hhp;refine⟨_,rfl,⟨by simp[Zx],.inr ⟨g,cap,_,rfl,hbase,hhp,by omega,h2,by simp[putCells,h3],?_⟩⟩,Ox⟩;have ht:=take_putCells cur (Lib.compact xs++List.replicate (xs.length-(Lib.compact xs).length) []) (by rw[Qe,Qr,h3];omega);rw[Ys];have e1:(putCells encStr 0 (Lib.compact xs++List.replicate (xs.length-(Lib.compact xs).length) []).toArray cur).toList.take (Lib.compact xs).length=((putCells encStr 0 (Lib.compact xs++List.replicate (xs.length-(Lib.compact xs).length) []).toArray cur).toList.take (Lib.compact xs++List.replicate (xs.length-(Lib.compact xs).length) []).length).take (Lib.compact xs).length:=by
  rw[List.take_take,Nat.min_eq_left (by simp)]
 rw[e1,ht,Qt];exact List.take_left' (by simp)
def zbR(w:World)(l:List Wd)(e:Ending)(w':World):Prop:=∃v',e=.returned v'/\w'.ownsRow w.heap.size 9 1 v' (Mk l).length (Zx (Mk l))/\Below w.heap.size w w'
theorem sY(A:Option Addr)(c:Nat)(xs:List Wd)(w:World)(h:Je eW w w.heap.size (.slice A xs.length c) xs)(hb:xs.length*16<=140737488355328) :
  Calls Tryz.prog 217 #[.slice A xs.length c] w (zbR w xs):=by
 have HC:=Lh (oU A c xs w h hb);obtain⟨n,hn⟩:=Xe xs.length;rw[<-hn]at HC |-;have HB:=Lh (show xs.length<4611686018427387904 by omega);clear h hn hb;go_enter Tryz.func217,Tryz.ntmps217;go_wp2_with fail;refine HC.o.mono ?_;rintro e w1 ⟨v1,rfl,h1,hb1⟩;have HB1:=Lh hb1;have HS:=Lh (pb _ v1 xs w1 h1 HB.o);obtain⟨A1,c1,rfl,_⟩:=Zp h1;have HO1:=Lh h1;clear h1 hb1;go_wp2_with fail;refine HS.o.mono ?_;rintro e w2 ⟨rfl,h2,bP⟩;have HB2:=Lh (Zr HB1.o bP HO1.o (Yb _) HB1.o.size);have Hn:(xs.mergeSort fun x y=>decide (x<=y)).length=xs.length:=by simp
 rw[<-Hn]at h2;have pG:=Lh (vd _ _ _ w2 h2 (by rw[Hn];exact HB.o));have HO2:=Lh h2;rw[Hn]at pG HO2;clear h2 bP Hn HS HO1 HB1;go_wp2_with fail;refine pG.o.mono ?_;rintro e w3 ⟨v3,rfl,h3,oF⟩;have HB3:=Lh (Zr HB2.o oF HO2.o (Yb _) HB2.o.size);have HO3:=Lh h3;obtain⟨A3,c3,rfl,_⟩:=Zp h3;clear h3 oF pG HO2 HB2;go_wp2;go_ret;exact⟨_,rfl,HO3.o,HB3.o⟩
end Go.Proofs.YtmaojnmnbpomeaaGreatDoor
