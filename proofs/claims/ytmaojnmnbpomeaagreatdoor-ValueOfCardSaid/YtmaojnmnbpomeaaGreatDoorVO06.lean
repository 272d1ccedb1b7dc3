/- A part. -/
import Derived.Test.YtmaojnmnbpomeaaGreatDoorVO05
import Derived.Deep.OwnRows
import Derived.Test.YtmaojnmnbpomeaaGreatDoorVOSeat
import Derived.Deep.DeepCutAuto
import Derived.Lib.ItoaLen
import Derived.Shelf.Strconv.ErrVarAll
import Derived.Sort.OwnSorted
set_option maxRecDepth 100000
set_option maxHeartbeats 64000000
namespace Go.Proofs.YtmaojnmnbpomeaaGreatDoor
def Rg(rs:Zq)(n:Nat):Prop:=∀ a r,(a,r)∈rs->0<=a/\a<n/\∀ s∈r,s<n
def Ux(s:Zu):Prop:=∀(a:Nat)(x:List Wd),s[a]? = some x->pW x
theorem Ux.getD{s:Zu}(h:Ux s)(a:Nat):pW (s.getD a []):=by
 rw[Qb];cases e:s[a]? with
 |none=>exact List.Pairwise.nil
 |some x=>exact h a x e
theorem Ux.set{s:Zu}(h:Ux s)(a:Nat){x:List Wd}(hx:pW x):Ux (s.set a x):=by
 intro b y hy;rw[Xu] at hy;split at hy
 ·split at hy
  ·injection hy with hy;subst hy;exact hx
  ·cases hy
 ·exact h b y hy
theorem Ux.replicate(n:Nat):Ux (List.replicate n []):=by
 intro b y hy;rw[Xg] at hy;split at hy
 ·injection hy with hy;subst hy;exact List.Pairwise.nil
 ·cases hy
theorem Fu(a b:List Wd):pW (Kt a b):=Bd _
theorem Bt{a b:List Wd}{x:Wd}:x∈Kt a b↔x∈a\/x∈b:=by unfold Kt;rw[Dw,Qh]
theorem eA(s:Zu)(a:Nat):s.set a (s.getD a [])=s:=by
 apply List.ext_getElem?;intro i;rw[Xu];split
 ·rename_i h;subst h;split
  ·rename_i hl;rw[Qb,Qa hl];rfl
  ·rename_i hl;rw[Xf (by omega)]
 ·rfl
structure Cl(rs:Zq)(n k:Nat)(s:Zu):Prop where
 len:s.length=n
 asc:Ux s
 sound:bR rs k s
theorem uK(rs:Zq)(n k:Nat):Cl rs n k (List.replicate n []):=⟨by simp,Ux.replicate n,fun a s h x hx=>by
 rw[Xg] at h
 split at h
 ·injection h with h;subst h;cases hx
 ·cases h⟩
theorem qgS{rs:Zq}{n k:Nat}{s s':Zu}{g:Bool}{r:Int×List Int}(hr:r∈rs)(hw:Rg rs n)(h:Cl rs n k s)(e:Et k s r=some (s',g)):Cl rs n k s':=by
 unfold Et at e;cases h1:lM s k r.2 with
 |none=>rw[h1] at e;cases e
 |some x =>
  rw[h1,Option.bind_some] at e;split at e
  ·injection e with e;injection e with e e2;subst e;refine⟨by rw[Qm];exact h.len,h.asc.set _ (Fu _ _),fun a s1 Ea y hy=>?_⟩;rw[Xu] at Ea;split at Ea
   ·rename_i ha;split at Ea
    ·injection Ea with Ea;subst Ea ha;rcases Bt.1 hy with hy | hy
     ·rw[Qb] at hy;cases e3:s[r.1.toNat]? with
      |none=>rw[e3] at hy;cases hy
      |some z=>rw[e3] at hy;exact h.sound _ _ e3 y hy
     ·obtain⟨u,hu,rfl⟩:=zS h.sound h1 hy;refine⟨r.2,u,?_,hu,rfl⟩;rw[Int.toNat_of_nonneg (hw r.1 r.2 hr).1];exact hr
    ·cases Ea
   ·exact h.sound _ _ Ea y hy
  ·cases e
theorem sD{rs:Zq}{n k:Nat}(hw:Rg rs n):∀(l:Zq)(p q:Zu×Bool),(∀ r∈l,r∈rs)->Cl rs n k p.1->Fy k l p=some q->Cl rs n k q.1
 |[],p,q,_,h,e=>by injection e with e;subst e;exact h
 |r::l,p,q,hl,h,e=>by
  simp only[Fy] at e;cases h1:Et k p.1 r with
  |none=>rw[h1] at e;cases e
  |some t =>
   rw[h1,Option.bind_some] at e;exact sD hw l (t.1,p.2||t.2) q (fun r hr=>hl r (by simp[hr])) (qgS (g:=t.2) (hl r (by simp)) hw h h1) e
theorem qm{k:Int}{s s':Zu}{r:Int×List Int}(ha:Ux s)(e:Et k s r=some (s',false)):s'=s/\∃ x,lM s k r.2=some x/\∀ y∈x,y∈s.getD r.1.toNat []:=by
 unfold Et at e;cases h1:lM s k r.2 with
 |none=>rw[h1] at e;cases e
 |some x =>
  rw[h1,Option.bind_some] at e;split at e
  ·injection e with e;injection e with e e2;have hle:=of_decide_eq_false e2;obtain⟨g1,g2⟩:=(cD (a:=s.getD r.1.toNat []) (b:=x) (ha.getD _)).2 (Nat.le_of_not_lt hle);refine⟨?_,x,rfl,g2⟩;rw[<-e];show s.set _ (Uy _)=s;rw[g1,eA]
  ·cases e
theorem iQ{k:Int}:∀(l:Zq)(s s':Zu)(g:Bool),Ux s->Fy k l (s,g)=some (s',false)->g=false/\s'=s/\∀ r∈l,∃ x,lM s k r.2=some x/\∀ y∈x,y∈s.getD r.1.toNat []
 |[],s,s',g,_,e=>by
  injection e with e;injection e with e1 e2;exact⟨e2,e1.symm,fun r hr=>by cases hr⟩
 |r::l,s,s',g,ha,e=>by
  simp only[Fy] at e;cases h1:Et k s r with
  |none=>rw[h1] at e;cases e
  |some t =>
   rw[h1,Option.bind_some] at e;obtain⟨t1,t2⟩:=t;cases t2 with
   |true =>
    exfalso;rw[Bool.or_true] at e;have:∀(l:Zq)(p:Zu)(q:Zu×Bool),Fy k l (p,true)=some q->q.2=true:=by
     intro l
     induction l with
     |nil=>intro p q e;injection e with e;subst e;rfl
     |cons r l ih =>
      intro p q e;simp only[Fy] at e;cases h:Et k p r with
      |none=>rw[h] at e;cases e
      |some t=>rw[h,Option.bind_some,Bool.true_or] at e;exact ih _ _ e
    have:=this _ _ _ e;cases this
   |false =>
    rw[Bool.or_false] at e;obtain⟨rfl,x,hx,hs⟩:=qm ha h1;obtain⟨hg,rfl,h2⟩:=iQ l _ s' g ha e;refine⟨hg,rfl,fun r' xU=>?_⟩;rcases List.mem_cons.1 xU with rfl | xU
    ·exact⟨x,hx,hs⟩
    ·exact h2 r' xU
theorem Fq.full{rs:Zq}{n k:Nat}(hw:Rg rs n){s:Zu}(h:Fq k rs n (some s)):Cl rs n k s/\kK rs k s:=by
 obtain⟨h1,t,h2,h3⟩:=RoundsTo.inv (Cl rs n k) (fun s s' g hs e=>sD hw rs (s,false) (s',g) (fun _ h=>h) hs e) h (uK rs n k) s rfl;refine⟨h1,?_⟩;obtain⟨_,rfl,h4⟩:=iQ rs t s false h2.asc h3;intro a r hr ha;obtain⟨x,hx,hs⟩:=h4 (a,r) hr;have hl:a.toNat<s.length:=by rw[h1.len];have:=(hw a r hr).2.1;omega
 refine⟨x,s[a.toNat],hx,Qa hl,fun y hy=>?_⟩;have:=hs y hy
 rwa [Qb,Qa hl] at this
def jb(rs:Zq)(k:Nat)(fol:Zu):Prop:=∀(a:Nat)(s:List Wd),fol[a]? = some s->∀ x∈s,∃ v,Fol rs a v/\x=v.take k
theorem jb.getD{rs:Zq}{k:Nat}{fol:Zu}(h:jb rs k fol){a:Nat}{x:Wd}(hx:x∈fol.getD a []):∃ v,Fol rs a v/\x=v.take k:=by
 rw[Qb] at hx;cases e:fol[a]? with
 |none=>rw[e] at hx;cases hx
 |some s=>rw[e] at hx;exact h _ _ e x hx
theorem eX{rs:Zq}{k:Nat}{sets fol:Zu}(hs:bR rs k sets)(ho:jb rs k fol){r:Int×List Int}{at_:Int}{out:List Wd}(h:Kg sets fol k r at_=some out){z:Wd}(hz:z∈out) :
  ∃ u v,Der rs (r.2.drop (at_+1).toNat) u/\Fol rs r.1 v/\z=(u++v).take k:=by
 unfold Kg at h;split at h
 ·cases h
 ·rename_i hg;cases h1:lM sets k (r.2.drop (at_+1).toNat) with
  |none=>rw[h1] at h;cases h
  |some x =>
   rw[h1,Option.bind_some] at h;obtain⟨p,hp,q,hq,rfl⟩:=(Fm h).1 hz;obtain⟨u,hu,rfl⟩:=zS hs h1 hp;obtain⟨v,hv,rfl⟩:=ho.getD hq;rw[Int.toNat_of_nonneg (by omega)] at hv;exact⟨u,v,hu,hv,by simp only[Yw];rw[Lg]⟩
theorem jU{rs:Zq}{k:Nat}{sets fol:Zu}(hc:kK rs k sets){r:Int×List Int}{at_:Int}{out:List Wd}(h:Kg sets fol k r at_=some out){u v:Wd}(hu:Der rs (r.2.drop (at_+1).toNat) u)(hv:v.take k∈fol.getD r.1.toNat []) :
  (u++v).take k∈out:=by
 unfold Kg at h;split at h
 ·cases h
 ·cases h1:lM sets k (r.2.drop (at_+1).toNat) with
  |none=>rw[h1] at h;cases h
  |some x =>
   rw[h1,Option.bind_some] at h;exact (Fm h).2 ⟨u.take k,qlM hc hu h1,v.take k,hv,by simp only[Yw];rw[Lg]⟩
structure Hc(rs:Zq)(n k:Nat)(s:Zu):Prop where
 len:s.length=n
 asc:Ux s
 sound:jb rs k s
 start:[]∈s.getD 0 []
theorem ic{rs:Zq}{n k:Nat}(hn:0<n):Hc rs n k ((List.replicate n []).set 0 [[]]):=by
 refine⟨by simp,(Ux.replicate n).set 0 (by simp),fun a s h x hx=>?_,?_⟩
 ·rw[Xu] at h;split at h
  ·rename_i ha;split at h
   ·injection h with h;subst h ha;rw[Qi] at hx;subst hx;exact⟨[],.start,by simp⟩
   ·cases h
  ·rw[Xg] at h;split at h
   ·injection h with h;subst h;cases hx
   ·cases h
 ·rw[Qb,Xu];simp[hn]
theorem L_{r:List Int}{at_:Nat}(h:at_<r.length):r=r.take at_++r.getD at_ 0::r.drop (at_+1):=by
 rw[Qb,Qa h];simp
theorem lh{rs:Zq}{n k:Nat}(hn:0<n){sets:Zu}(hs:bR rs k sets){r:Int×List Int}(hr:r∈rs){at_:Nat}(qi:at_<r.2.length){p:El}(h:Hc rs n k p.fol):Hc rs n k (Vr sets k r at_ p).fol:=by
 unfold Vr;cases h1:Kg sets p.fol k r at_ with
 |none=>exact h
 |some x =>
  simp only;split
  ·exact h
  ·rename_i Dh;refine⟨by simp only[Qm];exact h.len,h.asc.set _ (Fu _ _),fun a s Ea y hy=>?_,?_⟩
   ·simp only[Xu] at Ea;split at Ea
    ·rename_i ha;split at Ea
     ·injection Ea with Ea;subst Ea ha;rcases Bt.1 hy with hy | hy
      ·exact h.sound.getD hy
      ·obtain⟨u,v,hu,hv,rfl⟩:=eX hs h.sound h1 hy;refine⟨u++v,?_,rfl⟩;rw[Int.toNat_of_nonneg (by omega)];rw[show ((at_:Int)+1).toNat=at_+1 by omega] at hu;exact .step (a:=r.1) (r:=r.2) hr (L_ qi) (by omega) hu hv
     ·cases Ea
    ·exact h.sound _ _ Ea y hy
   ·simp only[Qb,Xu];split
    ·rename_i ha;rw[if_pos (by rw[h.len];omega)];simp only[Option.getD_some];refine Bt.2 (.inl ?_);rw[ha];simpa[Qb] using h.start
    ·simpa[Qb] using h.start
theorem iI{rs:Zq}{n k:Nat}(hn:0<n){sets:Zu}(hs:bR rs k sets){r:Int×List Int}(hr:r∈rs):∀(m at_:Nat)(p:El),at_+m<=r.2.length->Hc rs n k p.fol->Hc rs n k (Vs sets k r m at_ p).fol
 |0,_,p,_,h=>h
 |m+1,at_,p,hm,h=>iI hn hs hr m (at_+1) _ (by omega) (lh hn hs hr (by omega) h)
theorem dY{rs:Zq}{n k:Nat}(hn:0<n){sets:Zu}(hs:bR rs k sets):∀(l:Zq)(p:El),(∀ r∈l,r∈rs)->Hc rs n k p.fol->Hc rs n k (Wb sets k l p).fol
 |[],p,_,h=>h
 |r::l,p,hl,h=>dY hn hs l _ (fun r hr=>hl r (by simp[hr])) (iI hn hs (hl r (by simp)) _ _ _ (by omega) h)
def kA(p:El):Prop:=p.grown=false/\p.limit=false
theorem dX{sets:Zu}{k:Int}{r:Int×List Int}{at_:Nat}{p:El}(h:kA (Vr sets k r at_ p)):kA p:=by
 unfold Vr at h;cases h1:Kg sets p.fol k r at_ with
 |none=>rw[h1] at h;cases h.2
 |some x =>
  rw[h1] at h;simp only at h;split at h
  ·exact h
  ·obtain⟨h2,h3⟩:=h;simp only[Yl] at h2 h3;exact⟨h2.1,h3.1⟩
theorem Bj{sets:Zu}{k:Int}{r:Int×List Int}:∀(m at_:Nat)(p:El),kA (Vs sets k r m at_ p)->kA p
 |0,_,_,h=>h
 |m+1,at_,_,h=>dX (Bj m (at_+1) _ h)
theorem Hh{sets:Zu}{k:Int}:∀(l:Zq)(p:El),kA (Wb sets k l p)->kA p
 |[],_,h=>h
 |_::l,_,h=>Bj _ _ _ (Hh l _ h)
def iz(sets fol:Zu)(k:Int)(r:Int×List Int)(at_:Nat):Prop:=∃ x,Kg sets fol k r at_=some x/\(0<=r.2.getD at_ 0->∀ y∈x,y∈fol.getD (r.2.getD at_ 0).toNat [])
theorem wY{sets:Zu}{k:Int}{r:Int×List Int}{at_:Nat}{p:El}(ha:Ux p.fol)(h:kA (Vr sets k r at_ p)):Vr sets k r at_ p=p/\iz sets p.fol k r at_:=by
 have hq:=dX h;unfold Vr at h |-;cases h1:Kg sets p.fol k r at_ with
 |none=>rw[h1] at h;cases h.2
 |some x =>
  rw[h1] at h;simp only at h |-;split at h
  ·rename_i tS;exact⟨if_pos tS,x,h1,fun h0=>absurd tS (by omega)⟩
  ·rename_i Dh;rw[if_neg Dh];obtain⟨h2,h3⟩:=h;simp only[Yl,Yj] at h2 h3;obtain⟨g1,g2⟩:=(cD (a:=p.fol.getD (r.2.getD at_ 0).toNat []) (b:=x) (ha.getD _)).2 (Nat.le_of_not_lt h2.2);refine⟨?_,x,h1,fun _=>g2⟩;obtain⟨f,g,l⟩:=p;obtain⟨e1,e2⟩:=hq;simp only at e1 e2 g1 h2 h3 |-;subst e1 e2;show El.mk (f.set _ (Uy _)) _ _=_;unfold Kt;rw[g1,eA];unfold Kt at h2 h3;rw[g1] at h3;simp only[Yr,El.mk.injEq,true_and,Yj,Nat.lt_irrefl,not_false_eq_true];exact h3.2
theorem aN{sets:Zu}{k:Int}{r:Int×List Int}:∀(m at_:Nat)(p:El),Ux p.fol->kA (Vs sets k r m at_ p)->Vs sets k r m at_ p=p/\∀ i,at_<=i->i<at_+m->iz sets p.fol k r i
 |0,_,_,_,h=>⟨rfl,fun i h1 h2=>by omega⟩
 |m+1,at_,p,ha,h=>by
  simp only[Vs] at h |-;obtain⟨e1,e2⟩:=wY ha (Bj m (at_+1) _ h);rw[e1] at h |-;obtain⟨e3,e4⟩:=aN m (at_+1) p ha h;refine⟨e3,fun i h1 h2=>?_⟩;rcases Nat.eq_or_lt_of_le h1 with rfl | h1
  ·exact e2
  ·exact e4 i h1 (by omega)
theorem Hg{sets:Zu}{k:Int}:∀(l:Zq)(p:El),Ux p.fol->kA (Wb sets k l p)->Wb sets k l p=p/\∀ r∈l,∀ i,i<r.2.length->iz sets p.fol k r i
 |[],_,_,h=>⟨rfl,fun r hr=>by cases hr⟩
 |r::l,p,ha,h=>by
  simp only[Wb] at h |-;obtain⟨e1,e2⟩:=aN _ _ _ ha (Hh l _ h);rw[e1] at h |-;obtain⟨e3,e4⟩:=Hg l p ha h;refine⟨e3,fun r' xU i hi=>?_⟩;rcases List.mem_cons.1 xU with rfl | xU
  ·exact e2 i (by omega) (by omega)
  ·exact e4 r' xU i hi
theorem Du.full{rs:Zq}{n k:Nat}(hn:0<n){sets:Zu}(hs:bR rs k sets)(hc:kK rs k sets){fol:Zu}(h:Du sets k rs n (some fol)) :
  Hc rs n k fol/\∀(b:Int)(v:Wd),0<=b->b<n->Fol rs b v->v.take k∈fol.getD b.toNat []:=by
 obtain⟨h1,t,h2,h3⟩:=RoundsTo.inv (Hc rs n k) (fun s s' g hi e=>by
  unfold Gy at e
  simp only at e
  split at e
  ·cases e
  ·injection e with e
   injection e with e1 e2
   rw[<-e1]
   exact dY hn hs rs ⟨s,false,false⟩ (fun _ h=>h) hi) h (ic hn) fol rfl
 refine⟨h1,?_⟩;unfold Gy at h3;simp only at h3;split at h3
 ·cases h3
 ·rename_i hlim;injection h3 with h3;injection h3 with h3 h4;obtain⟨e1,e2⟩:=Hg rs ⟨t,false,false⟩ h2.asc ⟨h4,by simpa using hlim⟩;rw[e1] at h3;simp only at h3;subst h3;have key:∀ b v,Fol rs b v->v.take k∈t.getD b.toNat []:=by
   intro b v hf
   induction hf with
   |start=>simpa using h2.start
   |@step a r l1 b l2 u v hr e hb hd hf ih =>
    subst e;obtain⟨x,hx,Mq⟩:=e2 (a,l1++b::l2) hr l1.length (by simp);have qi:(l1++b::l2).getD l1.length 0=b:=by simp
    simp only[qi] at Mq;refine Mq hb _ (jU hc hx ?_ ih);simp only[show ((l1.length:Int)+1).toNat=l1.length+1 by omega];simpa using hd
  exact fun b v _ _ hf=>key b v hf
theorem gR{sets fol:Zu}{k:Int}:∀(l:Zq)(out:Zu),Mo sets fol k l=some out->out.length=l.length/\∀(i:Nat)(r:Int×List Int),l[i]? = some r->∃ x,out[i]? = some x/\Kg sets fol k r (-1)=some x
 |[],out,h=>by injection h with h;subst h;exact⟨rfl,fun i r h=>by simp at h⟩
 |r::l,out,h=>by
  simp only[Mo] at h;cases h1:Kg sets fol k r (-1) with
  |none=>rw[h1] at h;cases h
  |some x =>
   rw[h1,Option.bind_some] at h;cases h2:Mo sets fol k l with
   |none=>rw[h2] at h;cases h
   |some o =>
    rw[h2] at h;injection h with h;subst h;obtain⟨e1,e2⟩:=gR l o h2;refine⟨by simp[e1],fun i r' xU=>?_⟩;cases i with
    |zero=>simp only[List.getElem?_cons_zero,Option.some.injEq] at xU;subst xU;exact⟨x,by simp,h1⟩
    |succ i=>simpa using e2 i r' (by simpa using xU)
def jw(rs:Zq)(k:Nat)(r:Int×List Int)(z:Wd):Prop:=∃ u v,Der rs r.2 u/\Fol rs r.1 v/\z=(u++v).take k
structure vQ(rs:Zq)(n k:Nat)(out:Zu):Prop where
 len:out.length=rs.length
 mean:∀(i:Nat)(r:Int×List Int)(x:List Wd),rs[i]? = some r->out[i]? = some x->pW x/\∀ z,z∈x↔jw rs k r z
theorem sn{sets fol:Zu}{k:Int}{r:Int×List Int}{at_:Int}{x:List Wd}(h:Kg sets fol k r at_=some x):pW x:=by
 unfold Kg at h;split at h
 ·cases h
 ·cases h1:lM sets k (r.2.drop (at_+1).toNat) with
  |none=>rw[h1] at h;cases h
  |some y=>rw[h1,Option.bind_some] at h;exact qpA h
theorem zfW{rs:Zq}{n k:Nat}(hn:0<n)(hw:Rg rs n){sets fol out:Zu}(h1:Fq k rs n (some sets))(h2:Du sets k rs n (some fol))(h3:Mo sets fol k rs=some out):vQ rs n k out:=by
 obtain⟨a1,a2⟩:=h1.full hw;obtain⟨b1,b2⟩:=h2.full hn a1.sound a2;obtain⟨c1,c2⟩:=gR rs out h3;refine⟨c1,fun i r x hr hx=>?_⟩;obtain⟨y,hy,hb⟩:=c2 i r hr;rw[hx] at hy;injection hy with hy;subst hy;refine⟨sn hb,fun z=>⟨fun hz=>?_,fun hz=>?_⟩⟩
 ·obtain⟨u,v,hu,hv,e⟩:=eX a1.sound b1.sound hb hz;exact⟨u,v,by simpa using hu,hv,e⟩
 ·obtain⟨u,v,hu,hv,rfl⟩:=hz;have hm:(r.1,r.2)∈rs:=Qp hr;have:=hw r.1 r.2 hm;exact jU a2 hb (by simpa using hu) (b2 r.1 v this.1 this.2.1 hv)
def qiD:Nat->List Wd
 |0=>[[]]
 |n+1=>[]::(qiD n).flatMap fun w=>[0::w,1::w,2::w]
def aC(w:Wd):Prop:=w.length<=4/\∀ c∈w,c.toNat<3
theorem ov:∀(n:Nat)(w:Wd),w.length<=n->(∀ c∈w,c.toNat<3)->w∈qiD n
 |0,[],_,_=>by simp[qiD]
 |0,c::w,h,_=>by simp at h
 |n+1,[],_,_=>by simp[qiD]
 |n+1,c::w,h,hc=>by
  have ih:=ov n w (by simpa using h) (fun c hc'=>hc c (by simp[hc']));have h3:=hc c (by simp);simp only[qiD,List.mem_cons,Xt];right;refine⟨w,ih,?_⟩;have:c=0\/c=1\/c=2:=by
   have e:c=UInt8.ofNat c.toNat:=by simp
   have:c.toNat=0\/c.toNat=1\/c.toNat=2:=by omega
   rcases this with h | h | h <;> rw[h] at e <;> simp[e]
  rcases this with rfl | rfl | rfl <;> simp
theorem zbU:(qiD 4).length=121:=rfl
theorem qbV{l:List Wd}(hn:l.Nodup)(h:∀ w∈l,aC w):l.length<=121:=by
 rw[<-zbU];exact hn.length_le_of_subset fun w hw=>ov 4 w (h w hw).1 (h w hw).2
def Fk(s:Zu):Prop:=∀(a:Nat)(x:List Wd),s[a]? = some x->∀ w∈x,aC w
theorem rz{k:Int}(hk:k<=4){a b:List Wd}(ha:∀ w∈a,aC w)(hb:∀ w∈b,aC w):∃ o,Eb k a b=some o/\∀ w∈o,aC w:=by
 have hf:∀ w∈Tp k a b,aC w:=by
  intro w hw;obtain⟨x,hx,y,hy,rfl⟩:=Dz.1 hw;refine⟨by rw[Qq];omega,fun c hc=>?_⟩;rcases Qh.1 (List.mem_of_mem_take hc) with h | h
  ·exact (ha x hx).2 c h
  ·exact (hb y hy).2 c h
 have h:=qbV (Bd (Tp k a b)).nodup fun w hw=>hf w (Dw.1 hw);refine⟨Uy (Tp k a b),?_,fun w hw=>hf w (Dw.1 hw)⟩;unfold Eb;rw[if_pos (by omega)]
def zdZ(rs:Zq):Prop:=∀ a r,(a,r)∈rs->∀ s∈r,-3<=s
theorem qzP{s:Int}(h1:s<0)(h2:-3<=s):(tb s).toNat<3:=by
 unfold tb;rw[UInt8.toNat_ofNat'];omega
theorem sZ{k:Int}(hk:k<=4){sets:Zu}(hs:Fk sets):∀(syms:List Int)(acc:List Wd),(∀ s∈syms,-3<=s/\s<sets.length)->(∀ w∈acc,aC w)->∃ o,Ng sets k acc syms=some o/\∀ w∈o,aC w
 |[],acc,_,ha=>⟨acc,rfl,ha⟩
 |s::l,acc,hl,ha=>by
  obtain⟨h1,h2⟩:=hl s (by simp);have ho:∃ x,Rn sets s=some x/\∀ w∈x,aC w:=by
   unfold Rn;split
   ·rename_i tS;rw[if_pos (by omega)];refine⟨_,rfl,fun w hw=>?_⟩;rw[Qi] at hw;subst hw;exact⟨by simp,fun c hc=>by rw[Qi] at hc;subst hc;exact qzP tS h1⟩
   ·have hl:s.toNat<sets.length:=by omega
    exact⟨sets[s.toNat],Qa hl,hs _ _ (Qa hl)⟩
  obtain⟨x,hx,hxf⟩:=ho;obtain⟨o,ho,hof⟩:=rz hk ha hxf;obtain⟨z,hz,hzf⟩:=sZ hk hs l o (fun s h=>hl s (by simp[h])) hof;exact⟨z,by simp only[Ng,hx,Option.bind_some,ho,hz],hzf⟩
theorem qbU:∀ w∈([[]]:List Wd),aC w:=fun w hw=>by rw[Qi] at hw;subst hw;exact⟨by simp,fun c hc=>by cases hc⟩
theorem qaX{k:Int}(hk:k<=4){sets:Zu}(hs:Fk sets){syms:List Int}(h:∀ s∈syms,-3<=s/\s<sets.length):∃ o,lM sets k syms=some o/\∀ w∈o,aC w:=sZ hk hs syms [[]] h qbU
theorem Fk.getD{s:Zu}(h:Fk s)(a:Nat):∀ w∈s.getD a [],aC w:=by
 rw[Qb];cases e:s[a]? with
 |none=>intro w hw;cases hw
 |some x=>exact h a x e
theorem Fk.set{s:Zu}(h:Fk s)(a:Nat){x:List Wd}(hx:∀ w∈x,aC w):Fk (s.set a x):=by
 intro b y hy;rw[Xu] at hy;split at hy
 ·split at hy
  ·injection hy with hy;subst hy;exact hx
  ·cases hy
 ·exact h b y hy
theorem Fk.replicate(n:Nat):Fk (List.replicate n []):=by
 intro b y hy;rw[Xg] at hy;split at hy
 ·injection hy with hy;subst hy;intro w hw;cases hw
 ·cases hy
theorem yS{a b:List Wd}(ha:∀ w∈a,aC w)(hb:∀ w∈b,aC w):(∀ w∈Kt a b,aC w)/\(Kt a b).length<=121:=by
 have h:∀ w∈Kt a b,aC w:=fun w hw=>(Bt.1 hw).elim (ha w) (hb w);exact⟨h,qbV (Fu a b).nodup h⟩
theorem qgT{k:Int}(hk:k<=4){s:Zu}(hs:Fk s){r:Int×List Int}(hr:∀ x∈r.2,-3<=x/\x<s.length):∃ q,Et k s r=some q/\Fk q.1/\q.1.length=s.length:=by
 obtain⟨o,ho,hof⟩:=qaX hk hs hr;obtain⟨u1,u2⟩:=yS (hs.getD r.1.toNat) hof;unfold Et;rw[ho,Option.bind_some,if_pos (by omega)];exact⟨_,rfl,hs.set _ u1,by simp⟩
theorem sE{k:Int}(hk:k<=4){n:Nat}:∀(l:Zq)(p:Zu×Bool),(∀ r∈l,∀ x∈r.2,-3<=x/\x<n)->Fk p.1->p.1.length=n->∃ q,Fy k l p=some q/\Fk q.1/\q.1.length=n
 |[],p,_,hs,hl=>⟨p,rfl,hs,hl⟩
 |r::l,p,hr,hs,hl=>by
  obtain⟨q,hq,h1,h2⟩:=qgT hk hs (r:=r) (fun x hx=>by rw[hl];exact hr r (by simp) x hx);obtain⟨z,hz,h3,h4⟩:=sE hk l (q.1,p.2||q.2) (fun r h=>hr r (by simp[h])) h1 (by rw[h2,hl]);exact⟨z,by simp only[Fy,hq,Option.bind_some,hz],h3,h4⟩
theorem RoundsTo.never{σ:Type}{f:σ->Option (σ×Bool)}(P:σ->Prop)(hp:∀ s,P s->∃ q,f s=some q/\P q.1){s:σ}{o:Option σ}(h:RoundsTo f s o):P s->∃ s',o=some s'/\P s':=by
 induction h with
 |fail e=>intro h;obtain⟨q,hq,_⟩:=hp _ h;rw[e] at hq;cases hq
 |done e=>intro h;obtain⟨q,hq,h1⟩:=hp _ h;rw[e] at hq;injection hq with hq;subst hq;exact⟨_,rfl,h1⟩
 |more e _ ih=>intro h;obtain⟨q,hq,h1⟩:=hp _ h;rw[e] at hq;injection hq with hq;subst hq;exact ih h1
theorem Fq.few{rs:Zq}{n:Nat}{k:Int}(hk:k<=4)(hw:Rg rs n)(hr:zdZ rs){o:Option Zu}(h:Fq k rs n o):∃ s,o=some s/\Fk s/\s.length=n :=
 RoundsTo.never (fun s=>Fk s/\s.length=n) (fun s ⟨h1,h2⟩=>sE hk rs (s,false) (fun r hm x hx=>⟨hr r.1 r.2 hm x hx,(hw r.1 r.2 hm).2.2 x hx⟩) h1 h2) h ⟨Fk.replicate n,by simp⟩
theorem oU{k:Int}(hk:k<=4){sets fol:Zu}(hs:Fk sets)(hf:Fk fol){r:Int×List Int}{at_:Int}(h1:-1<=at_)(h2:at_<r.2.length)(h3:0<=r.1/\r.1<fol.length)(h4:∀ x∈r.2,-3<=x/\x<sets.length):∃ o,Kg sets fol k r at_=some o/\∀ w∈o,aC w:=by
 unfold Kg;rw[if_neg (by omega)];obtain⟨x,hx,hxf⟩:=qaX hk hs (syms:=r.2.drop (at_+1).toNat) (fun s h=>h4 s (List.mem_of_mem_drop h));rw[hx,Option.bind_some];exact rz hk hxf (hf.getD _)
theorem li{k:Int}(hk:k<=4){sets:Zu}(hs:Fk sets){r:Int×List Int}{n at_:Nat}{p:El}(hf:Fk p.fol)(hl:p.fol.length=n)(h2:at_<r.2.length)(h3:0<=r.1/\r.1<n)(h4:∀ x∈r.2,-3<=x/\x<sets.length) :
  Fk (Vr sets k r at_ p).fol/\(Vr sets k r at_ p).fol.length=n/\(Vr sets k r at_ p).limit=p.limit:=by
 obtain⟨x,hx,hxf⟩:=oU hk hs hf (r:=r) (at_:=at_) (by omega) (by omega) (by rw[hl];exact h3) h4;unfold Vr;rw[hx];simp only;split
 ·exact⟨hf,hl,rfl⟩
 ·obtain⟨u1,u2⟩:=yS (hf.getD (r.2.getD at_ 0).toNat) hxf;exact⟨hf.set _ u1,by simpa using hl,by rw[show decide (4096<(Kt (p.fol.getD (r.2.getD at_ 0).toNat []) x).length)=false from Yu (by omega),Bool.or_false]⟩
theorem iJ{k:Int}(hk:k<=4){sets:Zu}(hs:Fk sets){r:Int×List Int}{n:Nat}(h3:0<=r.1/\r.1<n)(h4:∀ x∈r.2,-3<=x/\x<sets.length):∀(m at_:Nat)(p:El),Fk p.fol->p.fol.length=n->at_+m<=r.2.length ->
  Fk (Vs sets k r m at_ p).fol/\(Vs sets k r m at_ p).fol.length=n/\(Vs sets k r m at_ p).limit=p.limit
 |0,_,p,hf,hl,_=>⟨hf,hl,rfl⟩
 |m+1,at_,p,hf,hl,hm=>by
  obtain⟨a1,a2,a3⟩:=li hk hs hf hl (r:=r) (at_:=at_) (by omega) h3 h4;obtain⟨b1,b2,b3⟩:=iJ hk hs h3 h4 m (at_+1) _ a1 a2 (by omega);exact⟨b1,b2,b3.trans a3⟩
theorem dZ{k:Int}(hk:k<=4){sets:Zu}(hs:Fk sets){n:Nat}:∀(l:Zq)(p:El),(∀ r∈l,(0<=r.1/\r.1<n)/\∀ x∈r.2,-3<=x/\x<sets.length)->Fk p.fol->p.fol.length=n ->
  Fk (Wb sets k l p).fol/\(Wb sets k l p).fol.length=n/\(Wb sets k l p).limit=p.limit
 |[],p,_,hf,hl=>⟨hf,hl,rfl⟩
 |r::l,p,h,hf,hl=>by
  obtain⟨a1,a2,a3⟩:=iJ hk hs (h r (by simp)).1 (h r (by simp)).2 r.2.length 0 p hf hl (by omega);obtain⟨b1,b2,b3⟩:=dZ hk hs l _ (fun r hr=>h r (by simp[hr])) a1 a2;exact⟨b1,b2,b3.trans a3⟩
theorem Du.few{rs:Zq}{n:Nat}{k:Int}(hk:k<=4)(hw:Rg rs n)(hr:zdZ rs){sets:Zu}(hs:Fk sets)(Uv:sets.length=n){o:Option Zu}(h:Du sets k rs n o):∃ s,o=some s/\Fk s/\s.length=n :=
 RoundsTo.never (fun s=>Fk s/\s.length=n) (fun s ⟨h1,h2⟩=>by
  obtain⟨a1,a2,a3⟩:=dZ hk hs rs ⟨s,false,false⟩ (fun r hm=>⟨⟨(hw r.1 r.2 hm).1,(hw r.1 r.2 hm).2.1⟩,fun x hx=>⟨hr r.1 r.2 hm x hx,by rw[Uv];exact (hw r.1 r.2 hm).2.2 x hx⟩⟩) h1 h2
  exact⟨_,by unfold Gy;simp only[a3];rfl,a1,a2⟩) h ⟨(Fk.replicate n).set 0 qbU,by simp⟩
theorem vJ{k:Int}(hk:k<=4){sets fol:Zu}(hs:Fk sets)(hf:Fk fol):∀(l:Zq),(∀ r∈l,(0<=r.1/\r.1<fol.length)/\∀ x∈r.2,-3<=x/\x<sets.length)->∃ o,Mo sets fol k l=some o
 |[],_=>⟨[],rfl⟩
 |r::l,h=>by
  obtain⟨x,hx,_⟩:=oU hk hs hf (r:=r) (at_:=-1) (by omega) (by omega) (h r (by simp)).1 (h r (by simp)).2;obtain⟨o,ho⟩:=vJ hk hs hf l (fun r hr=>h r (by simp[hr]));exact⟨x::o,by simp only[Mo,hx,Option.bind_some,ho,Option.map_some]⟩
def Jm(P:List Bool)(r:Int×List Int):List Bool:=if r.2.all (fun s=>decide (s<0)||P.getD s.toNat false) then P.set r.1.toNat true else P
def Kq{σ:Type}(f:σ->Int×List Int->σ)(rs:Zq):Nat->σ->σ
 |0,s=>s
 |n+1,s=>Kq f rs n (rs.foldl f s)
def Jz(rs:Zq)(n:Nat):List Bool:=Kq Jm rs (n+1) (List.replicate n false)
def Zv(R:List Bool)(left:Int)(s:Int):List Bool:=if R.getD left.toNat false&&decide (0<=s) then R.set s.toNat true else R
def Kc(R:List Bool)(r:Int×List Int):List Bool:=r.2.foldl (fun R s=>Zv R r.1 s) R
def Vk(rs:Zq)(n:Nat):List Bool:=Kq Kc rs (n+1) ((List.replicate n false).set 0 true)
def Fh(rs:Zq)(t:Nat):Bool:=rs.any fun r=>r.2.any fun s=>decide (s=-1 - (t:Int))
def wellE(n m:Nat)(rs:Zq):Int:=if (Jz rs n).all id then (if (Vk rs n).all id&&(List.range m).all (Fh rs) then 0 else 17) else 18
theorem De{σ:Type}{f:σ->Int×List Int->σ}{rs:Zq}(I:σ->Prop)(h:∀ s r,r∈rs->I s->I (f s r)):∀(n:Nat)(s:σ),I s->I (Kq f rs n s)
 |0,_,hs=>hs
 |n+1,s,hs=>De I h n _ (by
  have:∀(l:Zq)(s:σ),(∀ r∈l,r∈rs)->I s->I (l.foldl f s):=by
   intro l
   induction l with
   |nil=>intro s _ hs;exact hs
   |cons r l ih=>intro s hl hs;exact ih _ (fun r hr=>hl r (by simp[hr])) (h _ _ (hl r (by simp)) hs)
  exact this rs s (fun _ h=>h) hs)
theorem Ez{P:List Bool}{i j:Nat}(h:(P.set i true)[j]? = some true):(j=i)\/P[j]? = some true:=by
 rw[Xu] at h;split at h
 ·rename_i e;exact .inl e.symm
 ·exact .inr h
def vP(rs:Zq)(a:Int):Prop:=∃ r u,(a,r)∈rs/\Der rs r u
theorem Po{rs:Zq}:∀(l:List Int),(∀ s∈l,s<0\/vP rs s)->(∀ a r,(a,r)∈rs->0<=a)->∃ u,Der rs l u
 |[],_,_=>⟨[],.nil⟩
 |s::l,h,hw=>by
  obtain⟨v,hv⟩:=Po l (fun s hs=>h s (by simp[hs])) hw;rcases h s (by simp) with hs | ⟨r,u,hr,hu⟩
  ·exact⟨_,.term hs hv⟩
  ·exact⟨_,.nont (hw s r hr) hr hu hv⟩
structure qN(rs:Zq)(n:Nat)(P:List Bool):Prop where
 len:P.length=n
 sound:∀ a:Nat,P[a]? = some true->vP rs a
theorem ez{rs:Zq}{n:Nat}(hw:Rg rs n){P:List Bool}{r:Int×List Int}(hr:r∈rs)(h:qN rs n P):qN rs n (Jm P r):=by
 unfold Jm;split
 ·rename_i Vj;refine⟨by rw[Qm];exact h.len,fun a ha=>?_⟩;rcases Ez ha with rfl | ha
  ·rw[Int.toNat_of_nonneg (hw r.1 r.2 hr).1];obtain⟨u,hu⟩:=Po (rs:=rs) r.2 (fun s hs=>by
    have:=Xp.1 Vj s hs
    simp only[Ys,Yi] at this
    rcases this with h1 | h1
    ·exact .inl h1
    ·rcases Int.lt_or_le s 0 with h0 | h0
     ·exact .inl h0
     ·right
      rw[Qb] at h1
      cases e:P[s.toNat]? with
      |none=>rw[e] at h1;cases h1
      |some b =>
       rw[e] at h1
       simp only[Option.getD_some] at h1
       subst h1
       have:=h.sound _ e
       rwa [Int.toNat_of_nonneg h0] at this) (fun a r h=>(hw a r h).1)
   exact⟨r.2,u,hr,hu⟩
  ·exact h.sound a ha
 ·exact h
theorem Bn{rs:Zq}{n:Nat}(hw:Rg rs n):qN rs n (Jz rs n) :=
 De (qN rs n) (fun _ _ hr h=>ez hw hr h) _ _ ⟨by simp,fun a ha=>by
  rw[Xg] at ha
  split at ha
  ·cases ha
  ·cases ha⟩
def r_(rs:Zq)(a:Int):Prop:=∃ v,Fol rs a v
structure Cg(rs:Zq)(n:Nat)(R:List Bool):Prop where
 len:R.length=n
 sound:∀ a:Nat,R[a]? = some true->r_ rs a
theorem xK{rs:Zq}{n:Nat}(hw:Rg rs n)(hp:∀ a,0<=a->a<(n:Int)->vP rs a){R:List Bool}{r:Int×List Int}(hr:r∈rs)(h:Cg rs n R):Cg rs n (Kc R r):=by
 unfold Kc;have:∀(l2 l1:List Int)(R:List Bool),r.2=l1++l2->Cg rs n R->Cg rs n (l2.foldl (fun R s=>Zv R r.1 s) R):=by
  intro l2
  induction l2 with
  |nil=>intro l1 R _ h;exact h
  |cons s l2 ih =>
   intro l1 R e h;refine ih (l1++[s]) _ (by simp[e]) ?_;show Cg rs n (Zv R r.1 s);unfold Zv;split
   ·rename_i hc;simp only[Yk,Yi] at hc;refine⟨by rw[Qm];exact h.len,fun a ha=>?_⟩;rcases Ez ha with rfl | ha
    ·obtain⟨u,hu⟩:=Po (rs:=rs) l2 (fun x hx=>by
      rcases Int.lt_or_le x 0 with h0 | h0
      ·exact .inl h0
      ·exact .inr (hp x h0 ((hw r.1 r.2 hr).2.2 x (by rw[e];simp[hx])))) (fun a r h=>(hw a r h).1)
     have h1:=hc.1;rw[Qb] at h1;cases e2:R[r.1.toNat]? with
     |none=>rw[e2] at h1;cases h1
     |some b =>
      rw[e2] at h1;simp only[Option.getD_some] at h1;subst h1;obtain⟨v,hv⟩:=h.sound _ e2;rw[Int.toNat_of_nonneg (hw r.1 r.2 hr).1] at hv;rw[Int.toNat_of_nonneg hc.2];exact⟨_,.step (a:=r.1) (r:=r.2) hr e hc.2 hu hv⟩
    ·exact h.sound a ha
   ·exact h
 exact this r.2 [] R rfl h
theorem nR{rs:Zq}{n:Nat}(hw:Rg rs n)(hp:∀ a,0<=a->a<(n:Int)->vP rs a):Cg rs n (Vk rs n) :=
 De (Cg rs n) (fun _ _ hr h=>xK hw hp hr h) _ _ ⟨by simp,fun a ha=>by
  rcases Ez ha with rfl | ha
  ·exact⟨[],.start⟩
  ·rw[Xg] at ha
   split at ha <;> cases ha⟩
theorem qL{P:List Bool}(h:P.all id=true){a:Nat}(ha:a<P.length):P[a]? = some true:=by
 rw[Qa ha];exact congrArg some (Xp.1 h _ (Qg ha))
theorem qjX{n m:Nat}{rs:Zq}(hw:Rg rs n)(h:wellE n m rs=0):∀ a,0<=a->a<(n:Int)->vP rs a/\r_ rs a:=by
 unfold wellE at h;split at h
 ·rename_i h1;split at h
  ·rename_i h2;have hp:∀ a,0<=a->a<(n:Int)->vP rs a:=by
    intro a h0 hn;have:=(Bn hw).sound a.toNat (qL h1 (by rw[(Bn hw).len];omega))
    rwa [Int.toNat_of_nonneg h0] at this
   intro a h0 hn;refine⟨hp a h0 hn,?_⟩;have h3:=(Yk _ _ ▸ h2).1;have:=(nR hw hp).sound a.toNat (qL h3 (by rw[(nR hw hp).len];omega))
   rwa [Int.toNat_of_nonneg h0] at this
  ·cases h
 ·cases h
open Go.RowKit
def eW:Lf Wd:=zuK Mc fun l=>⟨l.toArray⟩
abbrev wv(x:Wd):Value:=.string ⟨x.toArray⟩
theorem qI{w:World}{B:Nat}{cs:List Value}{x:Wd}(h:eW.rep w B cs x):cs=[wv x]/\x.length<=maxLen:=by
 obtain⟨h1,h2⟩:=h;exact⟨h1,by simpa[ByteArray.size] using h2⟩
theorem qyK{w:World}{B:Nat}{x:Wd}(h:x.length<=maxLen):eW.rep w B [wv x] x:=⟨rfl,by simpa[ByteArray.size] using h⟩
def aB(xs:List Wd):Prop:=∀ x∈xs,x.length<=maxLen
def Zp(xs:List Wd):List Value:=xs.map wv
theorem ie:∀(xs:List Wd),(xs.map fun x=>[wv x]).flatten=Zp xs
 |[]=>rfl
 |x::l=>by rw[List.map_cons,List.flatten_cons,ie l];rfl
theorem Fr(xs:List Wd):(Zp xs).length=xs.length:=by simp[Zp]
theorem fD(xs:List Wd):∀ u∈Zp xs,u.oneCell'=true:=by
 intro u hu;obtain⟨x,_,rfl⟩:=Xa.1 hu;rfl
section
variable {w w':World} {B:Nat} {v:Value} {xs:List Wd}
theorem Jb.fits(h:Jb eW w B v xs):aB xs:=by
 obtain⟨A,c,css,e,h1,h2,h3,h4,h5⟩:=h;intro x hx;obtain⟨i,hi,rfl⟩:=Qz hx;exact (qI (h5 i _ _ (Qa (by omega)) (Qa hi))).2
theorem In{A:Option Addr}{c:Nat}(hf:aB xs)(hr:Rd w B A (Zp xs))(h1:xs.length<=c)(h2:c<=maxLen):Jb eW w B (.slice A xs.length c) xs:=by
 refine⟨A,c,xs.map fun x=>[wv x],rfl,h1,h2,by simp,?_,fun i cs x hc hx=>?_⟩
 ·rw[ie];exact hr
 ·rw[Qv,hx] at hc;injection hc with hc;subst hc;exact qyK (hf x (Qp hx))
theorem Jb.rdW{A:Option Addr}{n c:Nat}(h:Jb eW w B (.slice A n c) xs):Rd w B A (Zp xs):=by
 obtain⟨A,c,css,e,h1,h2,h3,h4,h5⟩:=h;injection e with e1 e2 e3;subst e1;have:css.flatten=Zp xs:=by
  have e:css=xs.map fun x=>[wv x]:=by
   apply List.ext_getElem?;intro i;rw[Qv];by_cases hi:i<xs.length
   ·rw[Qa (by omega),Qa hi,Option.map_some];rw[(qI (h5 i _ _ (Qa (by omega)) (Qa hi))).1]
   ·rw[Xf (by omega),Xf (by omega)];rfl
  rw[e,ie]
 rw[<-this];exact h4
theorem Jb.wd{A:Option Addr}{n c:Nat}(h:Jb eW w B (.slice A n c) xs){k:Nat}(hk:k<xs.length):∃ b off,A=some ⟨b,off,none⟩/\n<=c/\b<B/\w.cell? ⟨b,off+k,none⟩=some (wv xs[k]):=by
 obtain⟨b,off,cs,e,h1,h2,h3,h4⟩:=h.get hk (by decide);obtain⟨rfl,_⟩:=qI h3;have:=h4 0 _ rfl;simp only[show eW.size=1 from rfl,Yq,Yo] at this;exact⟨b,off,e,h1,h2,this⟩
theorem Tz{base:Nat}{t:TypeId}(hf:aB xs)(h:w.ownsRow base t 1 v xs.length (Zp xs)):Jb eW w w.heap.size v xs:=by
 obtain⟨A,c,rfl,h1,h2⟩:=Zk h;exact In hf (Rd.of_own h) h1 h2
end
theorem qoN{a b:List Wd}(ha:aB a)(hb:aB b):aB (a++b):=fun x hx=>(Qh.1 hx).elim (ha x) (hb x)
theorem aI(x y:Wd):(⟨x.toArray⟩:ByteArray)++⟨y.toArray⟩=⟨(x++y).toArray⟩:=by
 apply ByteArray.ext;simp
theorem Sf(x:Wd):(⟨x.toArray⟩:ByteArray).size=x.length:=by simp[ByteArray.size]
theorem pX(x:Wd)(n:Nat):(⟨x.toArray⟩:ByteArray).extract 0 n=⟨(x.take n).toArray⟩:=by
 apply ByteArray.ext;simp
theorem qxF(x y:Wd):((⟨x.toArray⟩:ByteArray)==⟨y.toArray⟩)=decide (x=y):=by
 rw[Gh];rw[decide_eq_decide];constructor
 ·intro h;injection h with h;simpa using h.symm
 ·rintro rfl;rfl
theorem Vo{w:World}{S:Nat}{v:Value}{t:TypeId}(h:w.heap[S]? = some (.cells #[v] t (0,0))):w.cell? ⟨S,0,none⟩=some v:=by rw[Za w S 0 _ _ _ h];rfl
theorem tE(z:Value)(n:Nat):madeCells #[z] n=(List.replicate n z).toArray:=by
 apply Array.ext
 ·simp[madeCells]
 ·intro i h1 h2;simp[madeCells,Nat.mod_one]
theorem ph(n:Nat)(hn:n<=1048576)(w:World):(Instr.makeSlice 61 (.int .i64 (n:Int)) (.int .i64 (n:Int))).run Tryz.prog w=.ok (.slice (some ⟨w.heap.size,0,none⟩) n n) (w.alloc (.cells (List.replicate n (Value.int .i64 0)).toArray 3)):=by
 rw[<-tE];exact run_make_row' 61 3 (.int .i64 0) 8 Tryz.underlying61 (by kernel_rfl) rfl .i64 .i64 n (by omega) (by omega) w
theorem mP(n:Nat)(hn:n<=1048576)(w:World):(Instr.makeSlice 70 (.int .i64 (n:Int)) (.int .i64 (n:Int))).run Tryz.prog w=.ok (.slice (some ⟨w.heap.size,0,none⟩) n n) (w.alloc (.cells (List.replicate n (Value.bool false)).toArray 4)):=by
 rw[<-tE];exact run_make_row' 70 4 (.bool false) 1 Tryz.underlying70 (by kernel_rfl) rfl .i64 .i64 n (by omega) (by omega) w
theorem yY(n:Nat)(hn:n<=1048576)(w:World):(Instr.makeSlice 76 (.int .i64 (n:Int)) (.int .i64 (n:Int))).run Tryz.prog w=.ok (.slice (some ⟨w.heap.size,0,none⟩) n n) (w.alloc (.cells (List.replicate n (Value.slice none 0 0)).toArray 22)):=by
 rw[<-tE];exact run_make_row' 76 22 (.slice none 0 0) 24 Tryz.underlying76 (by kernel_rfl) rfl .i64 .i64 n (by omega) (by omega) w
def Ut(x:Int)(n m:Nat):List Value:=List.replicate m (Value.int .i64 x)++List.replicate (n - m) (Value.int .i64 0)
theorem qj{x:Int}{n m:Nat}(h:m<=n):(Ut x n m).length=n:=by simp[Ut];omega
theorem qk{x:Int}{n m j:Nat}(h:j<m):(Ut x n m)[j]? = some (Value.int .i64 x):=by
 unfold Ut;rw[Qo (by simpa using h)];simp[h]
theorem bE{x:Int}{n m q:Nat}:(Ut x n m).take m++List.replicate q (Value.int .i64 x)++(Ut x n m).drop (m+q)=Ut x n (m+q):=by
 unfold Ut;have e1:(List.replicate m (Value.int .i64 x)++List.replicate (n - m) (Value.int .i64 0)).take m=List.replicate m (Value.int .i64 x):=List.take_left' (by simp);have e2:(List.replicate m (Value.int .i64 x)++List.replicate (n - m) (Value.int .i64 0)).drop (m+q)=List.replicate (n - (m+q)) (Value.int .i64 0):=by
  rw[List.drop_append];simp;omega
 rw[e1,e2,List.replicate_append_replicate]
theorem qhO{w:World}{g m n q:Nat}{x:Int}(hg:w.heap[g]? = some (.cells (Ut x n m).toArray 3 (0,0)))(hmn:m<=n)(hq:q=min m (n - m))(cd cs:Nat) :
  (Builtin.copy_ #[61,61] 3 #[.slice (some ⟨g,m,none⟩) (n - m) cd,.slice (some ⟨g,0,none⟩) m cs]).run Tryz.prog w=.ok (.int .i64 q) (w.setRow g (Ut x n (m+q)).toArray):=by
 show _=Result.ok (goInt (q:Int)) _;have:=run_copy_row (P:=Tryz.prog) w 61 61 3 3 g m (n - m) cd ⟨g,0,none⟩ m cs (Ut x n m).toArray 3 (List.replicate q (Value.int .i64 x)) Tryz.underlying61 (by kernel_rfl) hg (by rw[Qr,hq]) (fun j v hv=>by
  rw[Xg] at hv
  split at hv
  ·injection hv with hv
   subst hv
   rw[Addr.add_lit,Yp,Za w g j _ _ _ hg,<-Array.getElem?_toList]
   exact qk (by omega)
  ·cases hv) (by rw[Qr,List.size_toArray,qj hmn];omega) (fun v hv=>by obtain⟨_,rfl⟩:=List.mem_replicate.1 hv;rfl)
 rw[Qr] at this;rw[<-bE];exact this
def zjX(w:World)(x:Int)(n:Nat)(e:Ending)(w':World):Prop:=∃ g,e=.returned (.slice (some ⟨g,0,none⟩) n n)/\w'.heap[g]? = some (.cells (List.replicate n (Value.int .i64 x)).toArray 3 (0,0))/\w.heap.size<=g/\Below w.heap.size w w'
theorem xg(b c:Nat)(x:Int)(n:Nat)(w:World)(hc:w.cell? ⟨b,0,none⟩=some (.int .i64 x))(h1:1<=n)(h2:n<=1048576) :
  Calls Tryz.prog 196 #[.slice (some ⟨b,0,none⟩) 1 c,.int .i64 n] w (zjX w x n):=by
 have hb:=Zi w _ hc;simp only at hb;have zlA:=Lh (Tryz.bits_Mul 1 n (by omega) (by omega) w);have e1:((1*n/18446744073709551616:Nat):Int)=0:=by omega
 have e2:((1*n%18446744073709551616:Nat):Int)=n:=by omega
 rw[e1,e2] at zlA;have bA:=ph n h2 w;have hcp:(Builtin.copy_ #[61,61] 3 #[.slice (some ⟨w.heap.size,0,none⟩) n n,.slice (some ⟨b,0,none⟩) 1 c]).run Tryz.prog (w.alloc (.cells (List.replicate n (Value.int .i64 0)).toArray 3))=.ok (.int .i64 1) (w.alloc (.cells (Ut x n 1).toArray 3)):=by
  have:=run_copy_row (P:=Tryz.prog) (w.alloc (.cells (List.replicate n (Value.int .i64 0)).toArray 3)) 61 61 3 3 w.heap.size 0 n n ⟨b,0,none⟩ 1 c (List.replicate n (Value.int .i64 0)).toArray 3 [.int .i64 x] Tryz.underlying61 (by kernel_rfl) (Xn w _) (by rw[Qf];exact (Nat.min_eq_left h1).symm) (fun j v hv=>by
   match j,hv with
   |0,hv =>
    injection hv with hv
    subst hv
    rw[Addr.add_lit,Yp]
    exact ((Xr w.heap.size w).alloc (Xz _) _).cell hb |>.trans hc
   |j+1,hv=>simp at hv) (by simp;omega) (fun v hv=>by rw[Qi] at hv;subst hv;rfl)
  rw[this,dz];have:=bE (x:=x) (n:=n) (m:=0) (q:=1);simp only[Ut,List.replicate_zero,List.nil_append,Nat.sub_zero,Yp] at this;simp only[Ut,Yp];rw[show ([Value.int .i64 x]:List Value).length=1 from rfl,show ([Value.int .i64 x]:List Value)=List.replicate 1 (Value.int .i64 x) from rfl,this];rfl
 clear e1 e2;obtain⟨src,zgO⟩:=Xe (List.replicate n (Value.int .i64 0));rw[<-zgO] at bA hcp;clear zgO;obtain⟨w2,xS⟩:=Xe (w.alloc (.cells (Ut x n 1).toArray 3));rw[<-xS] at hcp;have HG2:=Lh (show w2.heap[w.heap.size]? = some (.cells (Ut x n 1).toArray 3 (0,0)) by rw[xS];exact Xn w _);have HB2:=Lh (show Below w.heap.size w w2 by rw[xS];exact (Xr w.heap.size w).alloc (Xz _) _);clear xS;go_enter Tryz.func196,Tryz.ntmps196;go_wp2_with fail;refine zlA.o.mono ?_;rintro e w1 ⟨rfl,rfl⟩;go_wp2_with fail;go_loopw [8] (fun v8 wr=>∃ m:Nat,1<=m/\m<=n/\v8=.int .i64 m/\Hid (wr.heap[w1.heap.size]? = some (.cells (Ut x n m).toArray 3 (0,0)))/\Hid (Below w1.heap.size w1 wr)) (fun v8 _=>n - (intOf v8).toNat);exact⟨1,by omega,h1,rfl,HG2.o,HB2.o⟩;clear HG2 HB2;obtain⟨m,jF,hm2,rfl,HG,HB⟩:=hrel;by_cases Jo:m<n
 ·have zsQ:=qhO (w:=wr.drew) HG.o hm2 rfl (n - m) n;obtain⟨q,hq⟩:=Xe (min m (n - m));rw[<-hq] at zsQ;have HQ:=Lh hq;have hmq:(m:Int)+(q:Int)<=1048576:=by omega
  clear hq hcp;go_wp2_with fail;refine Text.wt (by kernel_rfl) fun Q' hQ'=>?_;go_wp2;refine⟨by rfl,?_⟩;have kH:=Lh (Zf wr.drew w1.heap.size _ (Ut x n (m+q)).toArray _ (0,0) HG.o);have HB3:=Lh (Zg HB.o.drew (Xz _) (Ut x n (m+q)).toArray);go_wp2;exact⟨⟨m+q,by omega,by have:=HQ.o;omega,by go_num,kH.o,HB3.o⟩,by have:=HQ.o;simp[intOf];omega⟩
 ·have hmn:m=n:=by omega
  subst hmn;go_wp2_with fail;go_ret;refine⟨w1.heap.size,rfl,?_,Xz _,HB.o⟩;have:=HG.o;unfold Ut at this;simpa using this
theorem eG(v:Value)(m:v_)(w:World)(hv:Jb Jn w w.heap.size v m) :
  Calls Tryz.prog 98 #[v] w fun e w'=>e=.returned (.bool (Uj m 9223372036854775807))/\Below w.heap.size w w':=by
 have HS:=Lh (qY v 9223372036854775807 m w hv);go_enter Tryz.func98,Tryz.ntmps98;go_wp2_with fail;refine HS.o.mono ?_;rintro e w' ⟨rfl,hb⟩;go_wp2_with fail;go_ret;exact⟨rfl,hb⟩
theorem af(z:Value)(n:Nat):madeCells #[z] n=(List.replicate n z).toArray:=by
 apply Array.ext
 ·simp[madeCells]
 ·intro i h1 h2;simp[madeCells,Nat.mod_one]
theorem i_(n:Nat)(hn:n<=2199023255552)(w:World):(Instr.makeSlice 70 (.int .i64 (n:Int)) (.int .i64 (n:Int))).run Tryz.prog w=.ok (.slice (some ⟨w.heap.size,0,none⟩) n n) (w.alloc (.cells ((List.replicate n false).map Value.bool).toArray 4)):=by
 rw[List.map_replicate,<-af];exact run_make_row' 70 4 (.bool false) 1 Tryz.underlying70 (by kernel_rfl) rfl .i64 .i64 n (by omega) (by omega) w
section
variable (w:World) (o0 o1 o2 o3:Obj)
theorem al3:((((w.alloc o0).alloc o1).alloc o2).alloc o3).drew.heap[w.heap.size+1+1+1]? = some o3:=by
 have:=Xn (((w.alloc o0).alloc o1).alloc o2) o3;rw[Xs,Xs,Xs] at this;exact this
theorem al2:((((w.alloc o0).alloc o1).alloc o2).alloc o3).drew.heap[w.heap.size+1+1]? = some o2:=by
 have:=Xn ((w.alloc o0).alloc o1) o2;rw[Xs,Xs] at this;exact (Zc _ _ _ (by simp only[Xs];omega)).trans this
theorem al1:((((w.alloc o0).alloc o1).alloc o2).alloc o3).drew.heap[w.heap.size+1]? = some o1:=by
 have:=Xn (w.alloc o0) o1;rw[Xs] at this;exact (Zc _ _ _ (by simp only[Xs];omega)).trans ((Zc _ _ _ (by simp only[Xs];omega)).trans this)
theorem al0:((((w.alloc o0).alloc o1).alloc o2).alloc o3).drew.heap[w.heap.size]? = some o0 :=
 (Zc _ _ _ (by simp only[Xs];omega)).trans ((Zc _ _ _ (by simp only[Xs];omega)).trans ((Zc _ _ _ (by simp only[Xs];omega)).trans (Xn w o0)))
theorem alB{w0:World}(h:Below w0.heap.size w0 w):Below w0.heap.size w0 ((((w.alloc o0).alloc o1).alloc o2).alloc o3).drew:=by
 have:=h.size;exact ((((h.alloc this _).alloc (by simp only[Xs];omega) _).alloc (by simp only[Xs];omega) _).alloc (by simp only[Xs];omega) _).drew
end
structure zbW(w W:World)(n b3 b4 x1 x2:Nat):Prop where
 h3:W.heap[b3]? = some (.cells #[.slice (some ⟨x1,0,none⟩) n n] 70 (0,0))
 h4:W.heap[b4]? = some (.cells #[.slice (some ⟨x2,0,none⟩) n n] 70 (0,0))
 k3:w.heap.size<=b3
 k4:w.heap.size<=b4
 j1:w.heap.size<=x1
 j2:w.heap.size<=x2
 nb:b3≠b4
 nx:x1≠x2
theorem qzN{w W:World}{n b3 b4 x1 x2:Nat}(h3:W.heap[b3]? = some (.cells #[.slice (some ⟨x1,0,none⟩) n n] 70 (0,0)))(h4:W.heap[b4]? = some (.cells #[.slice (some ⟨x2,0,none⟩) n n] 70 (0,0)))
  (Ta:Ko W x1 (List.replicate n false)) (Hn:Ko W x2 (List.replicate n false)) (hb:Below w.heap.size w W) (hk:w.heap.size<=b3/\w.heap.size<=b4/\w.heap.size<=x1/\w.heap.size<=x2/\b3≠b4/\x1≠x2) :
  ∃ x1 x2,zbW w W n b3 b4 x1 x2/\Ko W x1 (List.replicate n false)/\Ko W x2 (List.replicate n false)/\Below w.heap.size w W:=⟨x1,x2,⟨h3,h4,hk.1,hk.2.1,hk.2.2.1,hk.2.2.2.1,hk.2.2.2.2.1,hk.2.2.2.2.2⟩,Ta,Hn,hb⟩
structure Rh(w W:World)(n b3 b4 x1 x2:Nat)(M1 M2:List Bool):Prop where
 two:zbW w W n b3 b4 x1 x2
 m1:Ko W x1 M1
 m2:Ko W x2 M2
 l1:M1.length=n
 l2:M2.length=n
 bel:Below w.heap.size w W
section
variable {w W W':World} {n b3 b4 x1 x2:Nat} {M1 M2:List Bool}
theorem Rh.c3(h:Rh w W n b3 b4 x1 x2 M1 M2):W.cell? ⟨b3,0,none⟩=some (.slice (some ⟨x1,0,none⟩) n n):=Xc h.two.h3 rfl
theorem Rh.c4(h:Rh w W n b3 b4 x1 x2 M1 M2):W.cell? ⟨b4,0,none⟩=some (.slice (some ⟨x2,0,none⟩) n n):=Xc h.two.h4 rfl
theorem mO{b x:Nat}{cs:Array Value}{t:TypeId}{M:List Bool}(h:W.heap[b]? = some (.cells cs t (0,0)))(hx:Ko W x M)(ht:t≠4):b≠x:=by
 rintro rfl;have h3:=h.symm.trans hx;injection h3 with h3;injection h3 with _ h3;exact ht h3
theorem Rh.alloc(h:Rh w W n b3 b4 x1 x2 M1 M2)(o:Obj):Rh w (W.alloc o) n b3 b4 x1 x2 M1 M2:=by
 obtain⟨⟨h3,h4,k3,k4,j1,j2,nb,nx⟩,m1,m2,l1,l2,hb⟩:=h;have key:∀{k:Nat}{o':Obj},W.heap[k]? = some o'->(W.alloc o).heap[k]? = some o':=fun hk=>(Zc _ _ _ (gl hk)).trans hk;exact⟨⟨key h3,key h4,k3,k4,j1,j2,nb,nx⟩,key m1,key m2,l1,l2,hb.alloc hb.size _⟩
theorem Rh.drew(h:Rh w W n b3 b4 x1 x2 M1 M2):Rh w W.drew n b3 b4 x1 x2 M1 M2 :=
 ⟨⟨h.two.h3,h.two.h4,h.two.k3,h.two.k4,h.two.j1,h.two.j2,h.two.nb,h.two.nx⟩,h.m1,h.m2,h.l1,h.l2,h.bel.drew⟩
theorem Rh.turn1(h:Rh w W n b3 b4 x1 x2 M1 M2)(hg:W.grownBy W' (some x1)){M:List Bool}(hm:Ko W' x1 M)(hl:M.length=n):Rh w W' n b3 b4 x1 x2 M M2:=by
 obtain⟨⟨h3,h4,k3,k4,j1,j2,nb,nx⟩,m1,m2,l1,l2,hb⟩:=h;have key:∀{k:Nat}{o':Obj},W.heap[k]? = some o'->k≠x1->W'.heap[k]? = some o':=fun hk hn=>(hg.block _ (gl hk) fun e=>hn (by injection e)).trans hk;exact⟨⟨key h3 (mO h3 m1 (by decide)),key h4 (mO h4 m1 (by decide)),k3,k4,j1,j2,nb,nx⟩,hm,key m2 (fun e=>nx e.symm),hl,l2,hb.trans ⟨hg.os,hg.tape,hg.output,hg.size,fun k hk=>hg.block k (Yb hk hb.size) fun e=>by injection e with e;omega⟩⟩
theorem Rh.turn2(h:Rh w W n b3 b4 x1 x2 M1 M2)(hg:W.grownBy W' (some x2)){M:List Bool}(hm:Ko W' x2 M)(hl:M.length=n):Rh w W' n b3 b4 x1 x2 M1 M:=by
 obtain⟨⟨h3,h4,k3,k4,j1,j2,nb,nx⟩,m1,m2,l1,l2,hb⟩:=h;have key:∀{k:Nat}{o':Obj},W.heap[k]? = some o'->k≠x2->W'.heap[k]? = some o':=fun hk hn=>(hg.block _ (gl hk) fun e=>hn (by injection e)).trans hk;exact⟨⟨key h3 (mO h3 m2 (by decide)),key h4 (mO h4 m2 (by decide)),k3,k4,j1,j2,nb,nx⟩,key m1 nx,hm,l1,hl,hb.trans ⟨hg.os,hg.tape,hg.output,hg.size,fun k hk=>hg.block k (Yb hk hb.size) fun e=>by injection e with e;omega⟩⟩
theorem Rh.set1(h:Rh w W n b3 b4 x1 x2 M1 M2)(k:Nat)(b:Bool):Rh w (W.setCell ⟨x1,k,none⟩ (.bool b)) n b3 b4 x1 x2 (M1.set k b) M2:=h.turn1 (bH _ _ _ _) (h.m1.set k b) (by rw[Qm];exact h.l1)
theorem Rh.set2(h:Rh w W n b3 b4 x1 x2 M1 M2)(k:Nat)(b:Bool):Rh w (W.setCell ⟨x2,k,none⟩ (.bool b)) n b3 b4 x1 x2 M1 (M2.set k b):=h.turn2 (bH _ _ _ _) (h.m2.set k b) (by rw[Qm];exact h.l2)
end
def Sh(m:Kf)(n i:Nat):List Bool:=Iy n fun k=>decide (k<i)&&decide (0<=Nd m k)
theorem dp(m:Kf)(n:Nat):Sh m n 0=List.replicate n false:=by
 rw[<-uX];exact jT fun k _=>by simp
theorem dq(m:Kf)(n i:Nat):(Sh m n i).set i (decide (0<=Nd m i))=Sh m n (i+1):=by
 unfold Sh;rw[uW];refine jT fun k _=>?_;by_cases h:k=i
 ·subst h;simp
 ·have:decide (k<i+1)=decide (k<i):=by rw[decide_eq_decide];omega
  rw[if_neg h,this]
def Tj(M1 M2:List Bool)(n i:Nat):List Bool:=Iy n fun k=>Ff M1 k&&(!decide (k<i)||Ff M2 k)
theorem sh{M1:List Bool}(M2:List Bool){n:Nat}(h:M1.length=n):Tj M1 M2 n 0=M1:=by
 unfold Tj;simp only[Nat.not_lt_zero,decide_false,Bool.not_false,Bool.true_or,Bool.and_true];exact qhW h
theorem si(M1 M2:List Bool)(n i:Nat):(Tj M1 M2 n i).set i (Ff M1 i&&Ff M2 i)=Tj M1 M2 n (i+1):=by
 unfold Tj;rw[uW];refine jT fun k _=>?_;by_cases h:k=i
 ·subst h;simp
 ·have:decide (k<i+1)=decide (k<i):=by rw[decide_eq_decide];omega
  rw[if_neg h,this]
theorem qhU{M1 M2:List Bool}{n i:Nat}(h:i<n):Ff (Tj M1 M2 n i) i=Ff M1 i:=by
 unfold Tj;rw[At];simp[h]
def zjS(m:Kf)(w:World)(n:Nat)(e:Ending)(w':World):Prop:=∃ x,e=.returned (.slice (some ⟨x,0,none⟩) n n)/\Ko w' x (Iy n (Kb m))/\w.heap.size<=x/\Below w.heap.size w w'
theorem yv{m:Kf}(hg:Wh m){W0:World}{x b7 b3:Nat}(h7:W0.cell? ⟨b7,0,none⟩=some (.func (.func 160) #[] #[]))(h3:W0.cell? ⟨b3,0,none⟩=some (.slice (some ⟨x,0,none⟩) m.length m.length))(n7:b7≠x)(n3:b3≠x) :
  qpZ 162 #[.pointer (some ⟨b7,0,none⟩),.pointer (some ⟨b3,0,none⟩)] x true m W0:=by
 intro M i e W Co hx hl hi he;have hto:=hg.tos i hi e he;have h:=di x b7 b3 M i e.2.toNat W hx (Co.cell h7 (fun e=>n7 (by injection e))) (by rw[hl];exact Co.cell h3 (fun e=>n3 (by injection e))) (by omega) (by omega);rw[show ((e.2.toNat:Nat):Int)=e.2 by omega] at h;exact h
theorem yu{m:Kf}(hg:Wh m){W0:World}{x b7 b3:Nat}(h7:W0.cell? ⟨b7,0,none⟩=some (.func (.func 160) #[] #[]))(h3:W0.cell? ⟨b3,0,none⟩=some (.slice (some ⟨x,0,none⟩) m.length m.length))(n7:b7≠x)(n3:b3≠x) :
  qpZ 163 #[.pointer (some ⟨b7,0,none⟩),.pointer (some ⟨b3,0,none⟩)] x false m W0:=by
 intro M i e W Co hx hl hi he;have hto:=hg.tos i hi e he;have h:=dh x b7 b3 M i e.2.toNat W hx (Co.cell h7 (fun e=>n7 (by injection e))) (by rw[hl];exact Co.cell h3 (fun e=>n3 (by injection e))) (by omega) (by omega);rw[show ((e.2.toNat:Nat):Int)=e.2 by omega] at h;exact h
def qqD(m:Kf)(M:List Bool):Prop:=Ff M 0=true/\∀ k,Ff M k=true->Oa m k
def qqC(m:Kf)(M:List Bool):Prop:=(∀ k<m.length,0<=Nd m k->Ff M k=true)/\∀ k,Ff M k=true->jY m k
theorem qfP{m:Kf}(hg:Wh m)(M:List Bool)(i:Nat)(e:Int×Int)(he:e∈Md m i)(h:qqD m M)(hs:Ff M (rM true i e)=true):qqD m (M.set (Ls true i e) true):=by
 refine⟨jW h.1,fun k hk=>?_⟩;rcases qbY hk with rfl | hk
 ·exact Bm hg (h.2 i hs) he
 ·exact h.2 k hk
theorem qfO{m:Kf}(hg:Wh m)(M:List Bool)(i:Nat)(e:Int×Int)(hi:i<m.length)(he:e∈Md m i)(h:qqC m M)(hs:Ff M (rM false i e)=true):qqC m (M.set (Ls false i e) true):=by
 refine⟨fun k hk ho=>jW (h.1 k hk ho),fun k hk=>?_⟩;rcases qbY hk with rfl | hk
 ·exact vi hg hi he (h.2 _ hs)
 ·exact h.2 k hk
theorem zp{m:Kf}{n:Nat}(hp:0<n):qqD m ((List.replicate n false).set 0 true):=by
 rw[<-uX,uW];refine⟨by rw[At];simp[hp],fun k hk=>?_⟩;rw[At] at hk;simp at hk;obtain⟨_,rfl⟩:=hk;exact Bl m
theorem zo{m:Kf}{n:Nat}(hn:n=m.length):qqC m (Sh m n n):=by
 subst hn;unfold Sh;refine⟨fun k hk ho=>by rw[At];simp[hk,ho],fun k hk=>?_⟩;rw[At] at hk;simp at hk;exact qdG hk.2
theorem qpC{m:Kf}(hg:Wh m){n:Nat}(hn:n=m.length){M1 M2:List Bool}(i1:qqD m M1)(s1:∀ j<m.length,jZ true M1 j (Md m j))(i2:qqC m M2)(s2:∀ j<m.length,jZ false M2 j (Md m j)):Tj M1 M2 n n=Iy n (Kb m):=by
 unfold Tj;refine jT fun k hk=>?_;rw[Bool.eq_iff_iff,Eo,Yt hk];simp only[Bool.not_true,Yr,Yk];rw[mq hg i1.1 i1.2 s1,ky hg i2.1 i2.2 s2 (by omega)];exact Iff.rfl
theorem uz(v:Value)(m:v_)(w:World)(hv:Jb Jn w w.heap.size v m)(oE:Uj m 9223372036854775807=true)(hl:m.length<=2199023255552) :
  Calls Tryz.prog 99 #[v] w (zjS m w m.length):=by
 have HR:=Lh (eG v m w hv);rw[oE] at HR;obtain⟨A,c,rfl,hc1,hc2⟩:=hv.form;unfold maxLen at hc2;have HV:=Lh hv;have HG:=Lh (Ft oE);clear hv oE;obtain⟨n,hn⟩:=Xe m.length;have HN:=Lh hn;rw[<-hn] at hc1 HV hl HR |-;clear hn;go_enter Tryz.func99,Tryz.ntmps99;go_wp2_with fail;refine HR.o.mono ?_;rintro e w1 ⟨rfl,hb1⟩;have HB1:=Lh hb1;clear hb1;go_wp2_with fail
 go_cut [3,4] (fun v3 v4 wx=>∃ b3 b4:Nat,v3=.pointer (some ⟨b3,0,none⟩)/\v4=.pointer (some ⟨b4,0,none⟩)/\Hid (∃ x1 x2,zbW w wx n b3 b4 x1 x2/\Ko wx x1 (List.replicate n false)/\Ko wx x2 (List.replicate n false)/\Below w.heap.size w wx))
 case first =>
  have bA:=i_ n hl
  go_region_with (fail)
  all_goals (go_wp2;go_meet)
  all_goals
   have hz:=HB1.o.size;refine⟨_,_,rfl,rfl,?_⟩;apply qzN
   ·first | exact al0 _ _ _ _ _ | exact al1 _ _ _ _ _ | exact al2 _ _ _ _ _ | exact al3 _ _ _ _ _
   ·first | exact al0 _ _ _ _ _ | exact al1 _ _ _ _ _ | exact al2 _ _ _ _ _ | exact al3 _ _ _ _ _
   ·first | exact (al0 _ _ _ _ _).trans (by simp) | exact (al1 _ _ _ _ _).trans (by simp) | exact (al2 _ _ _ _ _).trans (by simp) | exact (al3 _ _ _ _ _).trans (by simp)
   ·first | exact (al0 _ _ _ _ _).trans (by simp) | exact (al1 _ _ _ _ _).trans (by simp) | exact (al2 _ _ _ _ _).trans (by simp) | exact (al3 _ _ _ _ _).trans (by simp)
   ·exact alB _ _ _ _ _ HB1.o
   ·omega
 case rest =>
  obtain⟨b3,b4,rfl,rfl,⟨x1,x2,h2,Ta,Hn,Wu⟩⟩:=hcut;have HS:Hid (Rh w wc n b3 b4 x1 x2 (List.replicate n false) (List.replicate n false)):=⟨h2,Ta,Hn,Qr,Qr,Wu⟩;have HJ:Hid (w.heap.size<=x1/\w.heap.size<=x2):=⟨h2.j1,h2.j2⟩;clear Ta Hn Wu h2 HB1;generalize wc=wx at *;have Dh:0<n:=by rw[HN.o];exact Qy.2 HG.o.some
  have c3:=HS.o.c3;obtain⟨c0,cf⟩:=HS.o.m1.at_ (k:=0) (by rw[HS.o.l1];exact Dh);have HS1:=Lt (Rh w (wx.setCell ⟨x1,0,none⟩ (.bool true)) n b3 b4 x1 x2 ((List.replicate n false).set 0 true) (Sh m n 0)) (by rw[dp];exact HS.o.set1 0 true);have HVK:=Lh (fun(W:World)(h:Below w.heap.size w W)=>HV.o.below h);clear HS;obtain⟨Ma,hMa⟩:=Xe ((List.replicate n false).set 0 true);have HMA:=Lh hMa;rw[<-hMa] at HS1;clear hMa;go_wp2_with fail;go_loopw [22] (fun v22 wr=>∃ i:Nat,i<=n/\v22=.int .i64 i/\Hid (Rh w wr n b3 b4 x1 x2 Ma (Sh m n i))) (fun v22 _=>n - (intOf v22).toNat);exact⟨0,by omega,rfl,HS1.o⟩;clear HS1 c3 c0 cf;obtain⟨i,hi,rfl,HS⟩:=hrel;by_cases Jo:i<n
  ·have Vq:i<m.length:=by rw[<-HN.o];exact Jo
   obtain⟨ba,oa,cs,rfl,-,hba,Zt,Zj⟩:=(HVK.o wr HS.o.bel).get Vq (by decide);obtain⟨u,rfl,hu,Sr,Fn⟩:=Mi Zt;obtain⟨A4,e4,rfl,oM,oL⟩:=hu.form;have d0:=Zj 0 _ rfl;have d1:=Zj 1 _ rfl;clear Zj Zt hu;simp only[show Jn.size=2 from rfl,Yo,<-Yv] at d0 d1;have zkW:=Lh (Bq Vq);obtain⟨so,hso⟩:=Xe (m[i].1);rw[<-hso] at d0 zkW Sr Fn;clear hso;have HS2:=Lh (HS.o.alloc (.cells #[.int .i64 so,.slice A4 m[i].2.length e4] 118));have HS3:=Lt (Rh w ((wr.alloc (.cells #[.int .i64 so,.slice A4 m[i].2.length e4] 118)).setCell ⟨x2,i,none⟩ (.bool (decide (0<=so)))) n b3 b4 x1 x2 Ma (Sh m n (i+1))) (by
    have:=HS2.o.set2 i (decide (0<=Nd m i))
    rw[dq,zkW.o] at this
    exact this)
   have c4:=HS2.o.c4;obtain⟨g0,gf⟩:=HS2.o.m2.at_ (k:=i) (by rw[HS2.o.l2];exact Jo);clear HS HS2;go_wp2_with fail;go_roundw;exact⟨i+1,by omega,by go_num,HS3.o⟩;simp[intOf];omega
  ·have Mq:i=n:=by omega
   subst Mq;have ug:=Lh (HS.o.alloc (.cells #[.func (.func 160) #[] #[]] 202));have HB7:=Lh (Xn wr (.cells #[.func (.func 160) #[] #[]] 202));have c3:=ug.o.c3;have c4:=ug.o.c4;have Ta:x1<wr.heap.size:=(gl HS.o.m1);have Hn:x2<wr.heap.size:=(gl HS.o.m2);have HN3:Hid (b3≠x1/\b4≠x2):=⟨mO HS.o.two.h3 HS.o.m1 (by decide),mO HS.o.two.h4 HS.o.m2 (by decide)⟩;clear HS HR;go_wp2_with fail;generalize wr.alloc (.cells #[.func (.func 160) #[] #[]] 202)=wy at *;generalize wr.heap.size=b7 at *;have h7:wy.cell? ⟨b7,0,none⟩=some (.func (.func 160) #[] #[]):=Xc HB7.o rfl;have HJ1:=HJ.o;have HSP:=Lh (nI 162 #[.pointer (some ⟨b7,0,none⟩),.pointer (some ⟨b3,0,none⟩)] x1 true (qqD m) (.slice A i c) m w.heap.size Ma wy (HVK.o wy ug.o.bel) HJ1.1 ug.o.bel.size HG.o (fun _ _=>by kernel_rfl) ug.o.m1 (by rw[ug.o.l1];exact HN.o) (by rw[HMA.o];exact zp Dh) (fun M i e _ he h _ hs=>qfP HG.o M i e he h hs) (yv HG.o h7 (by rw[<-HN.o];exact c3) (by omega) HN3.o.1));rw[<-HN.o] at HSP;clear c3 c4;refine HSP.o.mono ?_;rintro e w2 ⟨M1,rfl,aE,hm2,Pj,hi2,Le⟩;have pA:=Lh (ug.o.turn1 aE hm2 (by rw[HN.o];exact Pj));have HI1:=Lh hi2;have HS1:=Lh Le;have h7':w2.cell? ⟨b7,0,none⟩=some (.func (.func 160) #[] #[]):=aE.cell h7 (fun e=>by simp only[Option.some.injEq] at e;omega);clear h7 aE hm2 Pj hi2 Le ug HB7 HSP;have c4:=pA.o.c4;go_wp2_with fail;have HSP:=Lh (nI 163 #[.pointer (some ⟨b7,0,none⟩),.pointer (some ⟨b4,0,none⟩)] x2 false (qqC m) (.slice A i c) m w.heap.size (Sh m i i) w2 (HVK.o w2 pA.o.bel) HJ1.2 pA.o.bel.size HG.o (fun _ _=>by kernel_rfl) pA.o.m2 (by rw[pA.o.l2];exact HN.o) (zo HN.o) (fun M i e hi he h _ hs=>qfO HG.o M i e hi he h hs) (yu HG.o h7' (by rw[<-HN.o];exact c4) (by omega) HN3.o.2));rw[<-HN.o] at HSP;clear c4;refine HSP.o.mono ?_;rintro e w3 ⟨M2,rfl,aE,hm2,Pj,hi2,Le⟩;have HSC:=Lh (pA.o.turn2 aE hm2 (by rw[HN.o];exact Pj));have HI2:=Lh hi2;have HS2:=Lh Le;clear h7' aE hm2 Pj hi2 Le pA HSP;have c3:=HSC.o.c3;go_wp2_with fail;have HSC0:=Lt (Rh w w3 i b3 b4 x1 x2 (Tj M1 M2 i 0) M2) (by rw[sh M2 HSC.o.l1];exact HSC.o);clear HSC c3;go_loopw [44] (fun v44 wr=>∃ k:Nat,k<=i/\v44=.int .i64 k/\Hid (Rh w wr i b3 b4 x1 x2 (Tj M1 M2 i k) M2)) (fun v44 _=>i - (intOf v44).toNat);exact⟨0,by omega,rfl,HSC0.o⟩;clear HSC0;obtain⟨k,hk,rfl,HS⟩:=hrel;have c3:=HS.o.c3;have c4:=HS.o.c4;by_cases hlk:k<i
   ·obtain⟨g0,gf⟩:=HS.o.m1.at_ (k:=k) (by rw[HS.o.l1];exact hlk);rw[qhU hlk] at g0;obtain⟨g1,-⟩:=HS.o.m2.at_ (k:=k) (by rw[HS.o.l2];exact hlk);have HNX:=Lt (Rh w (wr.setCell ⟨x1,k,none⟩ (.bool (Ff M1 k&&Ff M2 k))) i b3 b4 x1 x2 (Tj M1 M2 i (k+1)) M2) (by rw[<-si];exact HS.o.set1 _ _);clear HS;obtain⟨a,ha⟩:=Xe (Ff M1 k);obtain⟨b,hb⟩:=Xe (Ff M2 k);rw[<-ha] at g0 HNX;rw[<-hb] at g1 HNX;clear ha hb;obtain⟨r,hr⟩:=Xe ((a&&b));rw[<-hr] at HNX;go_wp2_with fail;cases a <;> cases b <;> cases hr
    all_goals
     refine Text.wt (by kernel_rfl) fun Q' hQ'=>?_;go_wp2_with fail;refine⟨by rfl,?_⟩;go_wp2;go_roundw;exact⟨k+1,by omega,by go_num,HNX.o.drew⟩;simp[intOf];omega
   ·have X_:k=i:=by omega
    subst X_;go_wp2_with fail;go_ret;have:=HS.o;rw[qpC HG.o HN.o HI1.o HS1.o HI2.o HS2.o] at this;exact⟨x1,rfl,this.m1,HJ1.1,this.bel⟩
theorem Ap(acc:Nat)(b:UInt8)(r:List UInt8):Lib.decFrom acc (b::r)=(Lib.digitVal b).bind fun d=>Lib.decFrom (acc*10+d) r:=by
 rw[Lib.decFrom];cases Lib.digitVal b <;> rfl
theorem uP(x y:List UInt8):∀(acc:Nat),Lib.decFrom acc (x++y)=(Lib.decFrom acc x).bind fun m=>Lib.decFrom m y:=by
 induction x with
 |nil=>intro acc;rfl
 |cons a x ih =>
  intro acc;rw[List.cons_append,Ap,Ap];cases Lib.digitVal a with
  |none=>rfl
  |some d=>exact ih _
theorem bM(d:Nat)(h:d<10):Lib.digitVal (UInt8.ofNat (48+d))=some d:=by
 have h1:(UInt8.ofNat (48+d)).toNat=48+d:=by
  rw[UInt8.toNat_ofNat'];omega
 unfold Lib.digitVal;rw[h1,if_pos (by omega)];congr 1;omega
theorem Cd(u:Nat):Lib.decFrom 0 (Lib.decDigits u)=some u:=by
 induction u using Nat.strongRecOn with
 |_ u ih =>
  rw[Lib.decDigits];split
  ·rename_i h;rw[Ap,bM u h,Option.bind_some,Lib.decFrom,Nat.zero_mul,Yp]
  ·rename_i h;rw[uP,ih (u/10) (by omega),Option.bind_some,Ap,bM (u%10) (by omega),Option.bind_some,Lib.decFrom];congr 1;omega
theorem Iw(u:Nat):∀ b∈Lib.decDigits u,48<=b.toNat/\b.toNat<=57:=fun b hb=>by
 obtain⟨k,hk⟩:=List.mem_iff_getElem?.1 hb;obtain⟨d,hd⟩:=Lib.digit_of_decFrom _ 0 u (Cd u) k b hk;unfold Lib.digitVal at hd;split at hd
 ·assumption
 ·cases hd
theorem qfK(n:Int):∀ c∈Lib.itoa n,c=45\/(48<=c.toNat/\c.toNat<=57):=by
 intro c hc;unfold Lib.itoa at hc;split at hc
 ·rcases List.mem_cons.1 hc with e | hc
  ·exact .inl e
  ·exact .inr (Iw _ c hc)
 ·exact .inr (Iw _ c hc)
theorem eQ{a b:Nat}(h:Lib.decDigits a=Lib.decDigits b):a=b:=by
 have h1:=Cd a;rw[h,Cd b] at h1;injection h1 with h1;exact h1.symm
theorem jB{a b:Int}(h:Lib.itoa a=Lib.itoa b):a=b:=by
 have hno:∀(u v:Nat),Lib.decDigits u≠45::Lib.decDigits v:=by
  intro u v e;have:=Iw u 45 (by rw[e];exact Xh ..);exact absurd this.1 (by decide)
 unfold Lib.itoa at h;split at h <;> split at h
 ·injection h with _ h;have:=eQ h;omega
 ·exact absurd h.symm (hno _ _)
 ·exact absurd h (hno _ _)
 ·have:=eQ h;omega
theorem fm(n:Int)(s:UInt8)(h1:s≠45)(h2:s.toNat<48\/57<s.toNat):s∉Lib.itoa n:=by
 intro h;rcases qfK n s h with e | e
 ·exact h1 e
 ·omega
theorem jP{s:UInt8}:∀{A B T U:List UInt8},s∉A->s∉B->(T=[]\/∃ r,T=s::r)->(U=[]\/∃ r,U=s::r)->A++T=B++U->A=B/\T=U
 |[],[],_,_,_,_,_,_,h=>⟨rfl,h⟩
 |[],b::B,T,U,_,hB,hT,_,h=>by
  exfalso;rcases hT with rfl | ⟨r,rfl⟩
  ·simp at h
  ·simp only[List.nil_append,List.cons_append] at h;injection h with h1 _;exact hB (by rw[h1];exact Xh ..)
 |a::A,[],T,U,hA,_,_,hU,h=>by
  exfalso;rcases hU with rfl | ⟨r,rfl⟩
  ·simp at h
  ·simp only[List.nil_append,List.cons_append] at h;injection h with h1 _;exact hA (by rw[<-h1];exact Xh ..)
 |a::A,b::B,T,U,hA,hB,hT,hU,h=>by
  simp only[List.cons_append] at h;injection h with h1 h2;obtain⟨e1,e2⟩:=jP (fun hm=>hA (Xi _ hm)) (fun hm=>hB (Xi _ hm)) hT hU h2;exact⟨by rw[h1,e1],e2⟩
def edT(e:Int×Int):List UInt8:=32::(Lib.itoa e.1++58::Lib.itoa e.2)
def pP(l:List (Int×Int)):List UInt8:=l.flatMap edT
def rQ(s:Int×Int×List (Int×Int)):List UInt8:=Lib.itoa s.1++32::(Lib.itoa s.2.1++pP s.2.2)
theorem dC(l:List (Int×Int)):pP l=[]\/∃ r,pP l=32::r:=by
 cases l with
 |nil=>exact .inl rfl
 |cons e r=>exact .inr ⟨_,rfl⟩
theorem rf:∀{l k:List (Int×Int)},pP l=pP k->l=k
 |[],[],_=>rfl
 |[],e::r,h=>by simp[pP,edT] at h
 |e::r,[],h=>by simp[pP,edT] at h
 |e::r,d::s,h=>by
  have h1:∀(x:Int×Int)(l:List (Int×Int)),pP (x::l)=32::(Lib.itoa x.1++58::(Lib.itoa x.2++pP l)):=fun x l=>by simp[pP,edT]
  rw[h1,h1] at h;injection h with _ h;have n58:∀ n,(58:UInt8)∉Lib.itoa n:=fun n=>fm n 58 (by decide) (by decide);have n32:∀ n,(32:UInt8)∉Lib.itoa n:=fun n=>fm n 32 (by decide) (by decide);obtain⟨e1,e2⟩:=jP (n58 _) (n58 _) (.inr ⟨_,rfl⟩) (.inr ⟨_,rfl⟩) h;injection e2 with _ e2;obtain⟨e3,e4⟩:=jP (n32 _) (n32 _) (dC r) (dC s) e2;rw[show e=d from Prod.ext (jB e1) (jB e3),rf e4]
theorem qdP{s t:Int×Int×List (Int×Int)}(h:rQ s=rQ t):s=t:=by
 unfold rQ at h;have n32:∀ n,(32:UInt8)∉Lib.itoa n:=fun n=>fm n 32 (by decide) (by decide);obtain⟨e1,e2⟩:=jP (n32 _) (n32 _) (.inr ⟨_,rfl⟩) (.inr ⟨_,rfl⟩) h;injection e2 with _ e2;obtain⟨e3,e4⟩:=jP (n32 _) (n32 _) (dC _) (dC _) e2;exact Prod.ext (jB e1) (Prod.ext (jB e3) (rf e4))
theorem qlU{α:Type}{l:List α}(h:l.Nodup){i j:Nat}(hi:i<l.length)(hj:j<l.length)(e:l[i]=l[j]):i=j:=by
 have hp:=List.pairwise_iff_getElem.1 h;rcases Nat.lt_trichotomy i j with Jo | he | Jo
 ·exact absurd e (hp i j hi hj Jo)
 ·exact he
 ·exact absurd e.symm (hp j i hj hi Jo)
structure Px(m:Kf)(use:Nat->Bool)(c c':Nat->Int)(K:Nat):Prop where
 neg:∀ i<m.length,use i=false->c' i=-1
 eq:∀ i<m.length,∀ j<m.length,use i=true->use j=true->(c' i=c' j↔Rr m use c i=Rr m use c j)
 lo:∀ i<m.length,use i=true->∃ v<K,c' i=((v:Nat):Int)
 onto:∀ v<K,∃ i<m.length,use i=true/\c' i=((v:Nat):Int)
def wG(m:Kf)(use:Nat->Bool)(c:Nat->Int):Prop:=∀ i<m.length,∀ j<m.length,use i=true->use j=true->Gj m i j->c i=c j
theorem Px.coarse{m:Kf}(hg:Wh m){use:Nat->Bool}(hu:Ly m use){c c':Nat->Int}{K:Nat}(h:Px m use c c' K)(hc:wG m use c):wG m use c' :=
 fun i hi j hj ui uj ha=>(h.eq i hi j hj ui uj).2 (n_ hg hu hc hi hj ui uj ha)
theorem Px.more{m:Kf}(hg:Wh m){use:Nat->Bool}(hu:Ly m use){b c c':Nat->Int}{J K:Nat}(h1:Px m use b c J)(h2:Px m use c c' K)(hb:wG m use b) :
  J<=K/\(K=J->∀ i<m.length,∀ j<m.length,use i=true->use j=true->(c' i=c' j↔Gj m i j)):=by
 have Zt:∀ v,∃ i:Nat,v<K->i<m.length/\use i=true/\c' i=((v:Nat):Int):=by
  intro v;by_cases hv:v<K
  ·obtain⟨i,h3,h4,h5⟩:=h2.onto v hv;exact⟨i,fun _=>⟨h3,h4,h5⟩⟩
  ·exact⟨0,fun h=>absurd h hv⟩
 have hch:∃ rep:Nat->Nat,∀ v<K,rep v<m.length/\use (rep v)=true/\c' (rep v)=((v:Nat):Int):=⟨fun v=>Classical.choose (Zt v),fun v hv=>Classical.choose_spec (Zt v) hv⟩;obtain⟨rep,hr⟩:=hch;have quG:∀ i<m.length,∀ j<m.length,use i=true->use j=true->c' i=c' j->c i=c j:=by
  intro i hi j hj ui uj e;have:=(h2.eq i hi j hj ui uj).1 e;simp only[Rr,Prod.mk.injEq] at this;exact this.1
 obtain⟨L,hL⟩:=Xe ((List.range K).map fun v=>(c (rep v)).toNat);have hLl:L.length=K:=by rw[hL];simp
 have ziL:∀ k<J,k∈L:=by
  intro k hk;obtain⟨i,hi,ui,e⟩:=h1.onto k hk;obtain⟨v,hv,e2⟩:=h2.lo i hi ui;obtain⟨r1,r2,r3⟩:=hr v hv;have:=quG (rep v) r1 i hi r2 ui (by rw[r3,e2]);rw[hL];exact Xa.2 ⟨v,Xy.2 hv,by rw[this,e];simp⟩
 refine⟨by rw[<-hLl];exact mK J L ziL,fun hKJ=>?_⟩;have Id:=oQ J L (by omega) ziL;have Bz:∀ i<m.length,∀ j<m.length,use i=true->use j=true->c i=c j->c' i=c' j:=by
  intro i hi j hj ui uj e;obtain⟨v,hv,e2⟩:=h2.lo i hi ui;obtain⟨u,hu',e3⟩:=h2.lo j hj uj;obtain⟨r1,r2,r3⟩:=hr v hv;obtain⟨s1,s2,s3⟩:=hr u hu';have k1:=quG (rep v) r1 i hi r2 ui (by rw[r3,e2]);have k2:=quG (rep u) s1 j hj s2 uj (by rw[s3,e3]);have hv':v<L.length:=by omega
  have zqS:u<L.length:=by omega
  have:L[v]=L[u]:=by
   subst hL;simp only[List.getElem_map,List.getElem_range];rw[k1,k2,e]
  rw[e2,e3,qlU Id hv' zqS this]
 intro i hi j hj ui uj;have hst:=du hg hu (c:=c) fun i hi j hj ui uj e=>(h2.eq i hi j hj ui uj).1 (Bz i hi j hj ui uj e);constructor
 ·intro e l;exact hst l i j hi hj ui uj (quG i hi j hj ui uj e)
 ·intro ha;exact h2.coarse hg hu (h1.coarse hg hu hb) i hi j hj ui uj ha
abbrev dI:=List UInt8
def Pm(l:List dI):List dI:=l.foldl (fun F w=>if w∈F then F else F++[w]) []
theorem rd(l:List dI)(w:dI):Pm (l++[w])=if w∈Pm l then Pm l else Pm l++[w]:=by
 unfold Pm;rw[List.foldl_append];rfl
theorem mG(l:List dI):(Pm l).Nodup/\(∀ w,w∈Pm l↔w∈l)/\(Pm l).length<=l.length:=by
 have key:∀(l F:List dI),F.Nodup->(l.foldl (fun F w=>if w∈F then F else F++[w]) F).Nodup/\(∀ w,w∈l.foldl (fun F w=>if w∈F then F else F++[w]) F↔w∈F\/w∈l)/\(l.foldl (fun F w=>if w∈F then F else F++[w]) F).length<=l.length+F.length:=by
  intro l
  induction l with
  |nil=>intro F hF;exact⟨hF,by simp,by simp⟩
  |cons a r ih =>
   intro F hF;rw[List.foldl_cons];by_cases ha:a∈F
   ·rw[if_pos ha];obtain⟨h1,h2,h3⟩:=ih F hF;refine⟨h1,fun w=>?_,by rw[Qu];omega⟩;rw[h2,List.mem_cons];constructor
    ·rintro (h | h)
     ·exact .inl h
     ·exact .inr (.inr h)
    ·rintro (h | rfl | h)
     ·exact .inl h
     ·exact .inl ha
     ·exact .inr h
   ·rw[if_neg ha];obtain⟨h1,h2,h3⟩:=ih (F++[a]) (List.nodup_append.2 ⟨hF,by simp,fun x hx y hy=>by simp at hy;subst hy;rintro rfl;exact ha hx⟩);refine⟨h1,fun w=>?_,by rw[Qe,Qf] at h3;rw[Qu];omega⟩;rw[h2,Qh,Qi,List.mem_cons];constructor
    ·rintro ((h | rfl) | h)
     ·exact .inl h
     ·exact .inr (.inl rfl)
     ·exact .inr (.inr h)
    ·rintro (h | rfl | h)
     ·exact .inl (.inl h)
     ·exact .inl (.inr rfl)
     ·exact .inr h
 obtain⟨h1,h2,h3⟩:=key l [] List.nodup_nil;exact⟨h1,fun w=>by rw[<-show (w∈([]:List dI)\/w∈l)↔w∈l by simp];exact h2 w,h3⟩
def Io(m:Kf)(use:Nat->Bool)(c:Nat->Int)(k:Nat):dI:=rQ (Rr m use c k)
def lu(m:Kf)(use:Nat->Bool)(c:Nat->Int)(i:Nat):List dI:=((List.range i).filter use).map (Io m use c)
theorem zA(m:Kf)(use:Nat->Bool)(c:Nat->Int)(i:Nat):lu m use c (i+1)=lu m use c i++if use i then [Io m use c i] else []:=by
 unfold lu;rw[List.range_succ,List.filter_append,Qt];congr 1;cases h:use i <;> simp[h]
theorem qkT{m:Kf}{use:Nat->Bool}{c:Nat->Int}{i:Nat}{t:dI}:t∈lu m use c i↔∃ k<i,use k=true/\Io m use c k=t:=by
 unfold lu;simp only[Xa,Qw,Xy];constructor
 ·rintro⟨k,⟨h1,h2⟩,h3⟩;exact⟨k,h1,h2,h3⟩
 ·rintro⟨k,h1,h2,h3⟩;exact⟨k,⟨h1,h2⟩,h3⟩
theorem qkU(m:Kf)(use:Nat->Bool)(c:Nat->Int)(i:Nat):(lu m use c i).length<=i:=by
 unfold lu;rw[Qk];refine Ya (List.length_filter_le _ _) ?_;rw[List.length_range];exact Xz _
def Tf(m:Kf)(use:Nat->Bool)(c:Nat->Int)(i:Nat):List dI:=Pm (lu m use c i)
theorem qaR(m:Kf)(use:Nat->Bool)(c:Nat->Int)(i:Nat):(Tf m use c i).length<=i:=Ya (mG _).2.2 (qkU m use c i)
theorem lw{m:Kf}{use:Nat->Bool}{c:Nat->Int}{i:Nat}(h:use i=false):Tf m use c (i+1)=Tf m use c i:=by
 unfold Tf;rw[zA,h];simp
theorem iM{m:Kf}{use:Nat->Bool}{c:Nat->Int}{i:Nat}(h:use i=true):Tf m use c (i+1)=if Io m use c i∈Tf m use c i then Tf m use c i else Tf m use c i++[Io m use c i]:=by
 unfold Tf;rw[zA,h,if_pos rfl,rd]
theorem dy{m:Kf}{use:Nat->Bool}{c:Nat->Int}{i:Nat}{t:dI}:t∈Tf m use c i↔∃ k<i,use k=true/\Io m use c k=t:=by
 unfold Tf;rw[(mG _).2.1,qkT]
def Th(m:Kf)(use:Nat->Bool)(c:Nat->Int)(i k:Nat):Int:=if use k then (((Tf m use c i).idxOf (Io m use c k):Nat):Int) else -1
theorem qfU{l:List dI}{w:dI}(h:w∈l)(r:List dI):(l++r).idxOf w=l.idxOf w:=by
 rw[List.idxOf_append,if_pos h]
theorem aa{m:Kf}{use:Nat->Bool}{c:Nat->Int}{i k:Nat}(hk:k<i):Th m use c (i+1) k=Th m use c i k:=by
 unfold Th;cases hu:use k with
 |false=>rfl
 |true =>
  simp only[if_true];have hm:Io m use c k∈Tf m use c i:=dy.2 ⟨k,hk,hu,rfl⟩;cases hi:use i with
  |false=>rw[lw hi]
  |true =>
   rw[iM hi];by_cases h:Io m use c i∈Tf m use c i
   ·rw[if_pos h]
   ·rw[if_neg h,qfU hm]
theorem qbE{m:Kf}{use:Nat->Bool}{c:Nat->Int}{i:Nat}(hu:use i=true):Th m use c (i+1) i=if Io m use c i∈Tf m use c i then (((Tf m use c i).idxOf (Io m use c i):Nat):Int) else ((Tf m use c i).length:Int):=by
 unfold Th;rw[hu,if_pos rfl,iM hu];by_cases h:Io m use c i∈Tf m use c i
 ·rw[if_pos h,if_pos h]
 ·rw[if_neg h,if_neg h,List.idxOf_append,if_neg h];simp
theorem qbC{m:Kf}{use:Nat->Bool}{c:Nat->Int}{i k:Nat}(hu:use k=false):Th m use c i k=-1:=by
 unfold Th;rw[hu];rfl
theorem qmQ{l:List dI}{a b:dI}(ha:a∈l)(h:l.idxOf a=l.idxOf b):a=b:=by
 have h1:=List.idxOf_lt_length_of_mem ha;have h2:l[l.idxOf a]=a:=List.getElem_idxOf h1;have h3:l.idxOf b<l.length:=by rw[<-h];exact h1
 have h4:l[l.idxOf b]=b:=List.getElem_idxOf h3;rw[<-h2,<-h4];congr 1
theorem mh(m:Kf)(use:Nat->Bool)(c:Nat->Int):Px m use c (Th m use c m.length) (Tf m use c m.length).length:=by
 have Uz:∀ i<m.length,use i=true->Io m use c i∈Tf m use c m.length:=fun i hi ui=>dy.2 ⟨i,hi,ui,rfl⟩;refine⟨fun i _ hu=>qbC hu,fun i hi j hj ui uj=>?_,fun i hi ui=>?_,fun v hv=>?_⟩
 ·unfold Th;rw[ui,uj];simp only[if_true];constructor
  ·intro h;have h2:Io m use c i=Io m use c j:=qmQ (Uz i hi ui) (by exact_mod_cast h);exact qdP h2
  ·intro h;unfold Io;rw[h]
 ·refine⟨_,List.idxOf_lt_length_of_mem (Uz i hi ui),?_⟩;unfold Th;rw[ui];rfl
 ·obtain⟨k,hk,uk,iA⟩:=dy.1 (Qg hv);refine⟨k,hk,uk,?_⟩;unfold Th;rw[uk,if_pos rfl,iA];have Id:(Tf m use c m.length).Nodup:=(mG _).1;rw[Id.idxOf_getElem v hv]
def cB(m:Kf)(use:Nat->Bool)(c:Nat->Int)(bx:Int):Prop:=(bx=-1/\∀ i<m.length,c i=-1)\/∃ b J,bx=((J:Nat):Int)/\Px m use b c J/\wG m use b
theorem cB.coarse{m:Kf}(hg:Wh m){use:Nat->Bool}(hu:Ly m use){c:Nat->Int}{bx:Int}(h:cB m use c bx):wG m use c:=by
 rcases h with ⟨_,h⟩ | ⟨b,J,_,h1,h2⟩
 ·intro i hi j hj _ _ _;rw[h i hi,h j hj]
 ·exact h1.coarse hg hu h2
theorem cB.next{m:Kf}(hg:Wh m){use:Nat->Bool}(hu:Ly m use){c:Nat->Int}{bx:Int}(h:cB m use c bx):cB m use (Th m use c m.length) ((Tf m use c m.length).length:Int):=.inr ⟨c,_,rfl,mh m use c,h.coarse hg hu⟩
theorem cB.more{m:Kf}(hg:Wh m){use:Nat->Bool}(hu:Ly m use){c:Nat->Int}{bx:Int}(h:cB m use c bx):bx<=(Tf m use c m.length).length/\(((Tf m use c m.length).length:Int)=bx->∀ i<m.length,∀ j<m.length,use i=true->use j=true->(Th m use c m.length i=Th m use c m.length j↔Gj m i j)):=by
 rcases h with ⟨h1,_⟩ | ⟨b,J,h0,h1,h2⟩
 ·exact⟨by omega,fun h=>by omega⟩
 ·obtain⟨h3,h4⟩:=h1.more hg hu (mh m use c) h2;exact⟨by omega,fun h=>h4 (by omega)⟩
def Rs(m:Kf)(use:Nat->Bool)(c:Nat->Int)(i k:Nat):dI:=rQ (c i,Nd m i,(((Md m i).take k).filter fun e=>use e.2.toNat).map fun e=>(e.1,c e.2.toNat))
theorem sP(m:Kf)(use:Nat->Bool)(c:Nat->Int)(i:Nat):Rs m use c i 0=Lib.itoa (c i)++32::Lib.itoa (Nd m i):=by
 unfold Rs rQ pP;simp
theorem qeC(m:Kf)(use:Nat->Bool)(c:Nat->Int)(i:Nat):Rs m use c i (Md m i).length=Io m use c i:=by
 unfold Rs Io Rr;rw[List.take_length]
theorem sQ{m:Kf}{use:Nat->Bool}{c:Nat->Int}{i k:Nat}{e:Int×Int}(h:(Md m i)[k]? = some e):Rs m use c i (k+1)=Rs m use c i k++if use e.2.toNat then 32::(Lib.itoa e.1++58::Lib.itoa (c e.2.toNat)) else []:=by
 obtain⟨hk,he⟩:=Qj.1 h;unfold Rs rQ;rw[Qc hk,List.filter_append,Qt,he];unfold pP;rw[List.flatMap_append];cases hu:use e.2.toNat <;> simp[hu,edT]
theorem zL{m:Kf}{use:Nat->Bool}{c:Nat->Int}{i:Nat}(hc:∀ k,-9223372036854775808<=c k/\c k<=9223372036854775807)(ho:-9223372036854775808<=Nd m i/\Nd m i<=9223372036854775807)(he:∀ e∈Md m i,-9223372036854775808<=e.1/\e.1<=9223372036854775807) :
  ∀ k≤(Md m i).length,(Rs m use c i k).length<=43+44*k
 |0,_=>by
  rw[sP];have h1:=Lib.itoa_length_le (c i) (hc i).1 (hc i).2;have h2:=Lib.itoa_length_le (Nd m i) ho.1 ho.2;simp only[Qe,Qu];omega
 |k+1,hk=>by
  have ih:=zL (use:=use) hc ho he k (by omega);have hg:=Qa (l:=Md m i) (i:=k) (by omega);rw[sQ hg];have h1:=Lib.itoa_length_le ((Md m i)[k]).1 (he _ (Qg _)).1 (he _ (Qg _)).2;have h2:=Lib.itoa_length_le (c ((Md m i)[k]).2.toNat) (hc _).1 (hc _).2;split
  ·simp only[Qe,Qu];omega
  ·simp only[Qe,List.length_nil];omega
theorem qcW{P:Program}{w w':World}{n:String}{cs:Array Value}(h:w.var? P n=some cs)(hb:Below w.heap.size w w'):w'.var? P n=some cs:=by
 unfold World.var? at h |-;cases hg:P.globalNamed n with
 |none=>simp[hg] at h
 |some g =>
  simp only[hg,Option.bind_some] at h |-;have Jo:g<w.heap.size:=by
   rcases Nat.lt_or_ge g w.heap.size with h' | h'
   ·exact h'
   ·simp[Array.getElem?_eq_none h'] at h
  rw[hb.block g Jo];exact h
structure Tabs(w:World):Prop where
 tab : Lib.TabIs Tryz.prog w "internal/strconv.uint64pow10" .u64 Lib.pow10Tab
 syn : ∃ tp p, w.var? Tryz.prog "strconv.ErrSyntax" = some #[.iface tp p]
 rng : ∃ tp p, w.var? Tryz.prog "strconv.ErrRange" = some #[.iface tp p]
theorem j_(w:World)(k:Nat)(os:Array Obj):Below w.heap.size w (Sort.grow (w.drewN k) os) :=
 ⟨rfl,rfl,rfl,by simp[Sort.grow,World.drewN],fun i hi=>by
  show (w.heap++os)[i]? = _
  rw[Array.getElem?_append_left hi]⟩
abbrev Dt:=Int×Wd×Int
def byI(l:Wd):List Int:=l.map fun c=>(c.toNat:Int)
def Do(rows:List Dt)(w:Wd):Int:=rows.foldl (fun o r=>if r.2.1=w/\o<0 then r.2.2 else o) (-1)
def Dp(F:List Wd)(w:Wd):List (Int×Int):=(F.zipIdx.filter fun p=>decide (p.1≠[]/\p.1.dropLast=w)).map fun p=>((p.1.getLastD 0).toNat,(p.2:Int))
def Nx(rows:List Dt)(F:List Wd):Kf:=F.map fun w=>(Do rows w,Dp F w)
def Bk(a b:Wd):Prop:=a.length<b.length\/a.length=b.length/\a<b
structure Nw(rows:List Dt)(F:List Wd):Prop where
 mem:∀ w,w∈F↔w=[]\/∃ r∈rows,w <+: r.2.1
 asc:F.Pairwise Bk
theorem Cw(a:Wd):¬ Bk a a:=by
 rintro (h | ⟨_,h⟩)
 ·omega
 ·exact List.lt_irrefl _ h
theorem rP{a b:Wd}(h:Bk a b):¬ Bk b a:=by
 rintro (h2 | ⟨h3,h2⟩)
 ·rcases h with h | ⟨h,_⟩ <;> omega
 ·rcases h with h | ⟨_,h⟩
  ·omega
  ·exact List.lt_asymm h h2
theorem bI{rows:List Dt}{F:List Wd}(h:Nw rows F):F[0]? = some []:=by
 obtain⟨i,hi,e⟩:=Qz ((h.mem []).2 (.inl rfl));by_cases h0:i=0
 ·subst h0;rw[Qa hi,e]
 ·exfalso;have:=List.pairwise_iff_getElem.1 h.asc 0 i (by omega) hi (by omega);rw[e] at this;rcases this with h2 | ⟨h2,h3⟩
  ·simp at h2
  ·exact absurd h3 (List.not_lt_nil _)
theorem yC{rows:List Dt}{F G:List Wd}(h:Nw rows F)(h2:Nw rows G):F=G:=by
 have key:∀(F G:List Wd),F.Pairwise Bk->G.Pairwise Bk->(∀ w,w∈F↔w∈G)->F=G:=by
  intro F
  induction F with
  |nil =>
   intro G _ _ hm;cases G with
   |nil=>rfl
   |cons a r=>exact absurd ((hm a).2 (Xh ..)) (by simp)
  |cons a r ih =>
   intro G hF hG hm;cases G with
   |nil=>exact absurd ((hm a).1 (Xh ..)) (by simp)
   |cons b s =>
    obtain⟨p1,q1⟩:=Qx.1 hF;obtain⟨p2,q2⟩:=Qx.1 hG;have Aj:a=b:=by
     rcases List.mem_cons.1 ((hm a).1 (Xh ..)) with e | e
     ·exact e
     ·rcases List.mem_cons.1 ((hm b).2 (Xh ..)) with e2 | e2
      ·exact e2.symm
      ·exact absurd (p1 b e2) (rP (p2 a e))
    subst Aj;congr 1;refine ih s q1 q2 fun e=>⟨fun he=>?_,fun he=>?_⟩
    ·rcases List.mem_cons.1 ((hm e).1 (Xi _ he)) with e2 | e2
     ·subst e2;exact absurd (p1 e he) (Cw e)
     ·exact e2
    ·rcases List.mem_cons.1 ((hm e).2 (Xi _ he)) with e2 | e2
     ·subst e2;exact absurd (p2 e he) (Cw e)
     ·exact e2
 exact key F G h.asc h2.asc fun w=>by rw[h.mem,h2.mem]
theorem aY{F:List Wd}{w:Wd}{t n:Int}:(t,n)∈Dp F w↔∃(c:UInt8)(j:Nat),F[j]? = some (w++[c])/\t=(c.toNat:Int)/\n=(j:Int):=by
 unfold Dp;simp only[Xa,Qw,Yi,Prod.mk.injEq];constructor
 ·rintro⟨⟨x,j⟩,⟨h1,h2,h3⟩,rfl,rfl⟩;have hj:=List.mem_zipIdx_iff_getElem?.1 h1;simp only at hj h2 h3 |-;refine⟨x.getLastD 0,j,?_,rfl,rfl⟩;rw[hj,<-h3];obtain⟨y,rfl⟩:∃ y:Wd×UInt8,x=y.1++[y.2]:=⟨(x.dropLast,x.getLast h2),(List.dropLast_concat_getLast h2).symm⟩;simp
 ·rintro⟨c,j,h1,rfl,rfl⟩;exact⟨(w++[c],j),⟨List.mem_zipIdx_iff_getElem?.2 h1,by simp,by simp⟩,by simp,rfl⟩
theorem uu{w:Wd}{a b:UInt8}(h:Bk (w++[a]) (w++[b])):a<b:=by
 rcases h with h | ⟨-,h⟩
 ·simp at h
 ·induction w with
  |nil =>
   simp only[List.nil_append] at h;rcases List.cons_lt_cons_iff.1 h with h | ⟨_,h⟩
   ·exact h
   ·exact absurd h (List.not_lt_nil _)
  |cons x r ih =>
   simp only[List.cons_append] at h;rcases List.cons_lt_cons_iff.1 h with h | ⟨_,h⟩
   ·exact absurd h (by simp)
   ·exact ih h
theorem qfG{rows:List Dt}{F:List Wd}(h:Nw rows F)(w:Wd):(Dp F w).Pairwise fun a b=>a.1<b.1:=by
 unfold Dp;rw[List.pairwise_map];have h1:F.zipIdx.Pairwise fun a b=>Bk a.1 b.1:=by
  have:=h.asc;rw[<-List.zipIdx_map_fst 0 F] at this;exact List.pairwise_map.1 this
 refine (List.Pairwise.filter _ h1).imp_of_mem ?_;intro a b ha hb Aj;simp only[Qw,Yi] at ha hb;obtain⟨_,kP,oN⟩:=ha;obtain⟨_,hb1,Zy⟩:=hb;have ea:a.1=w++[a.1.getLastD 0]:=by
  obtain⟨y,hy⟩:∃ y:Wd×UInt8,a.1=y.1++[y.2]:=⟨(a.1.dropLast,a.1.getLast kP),(List.dropLast_concat_getLast kP).symm⟩;rw[<-oN,hy];simp
 have eb:b.1=w++[b.1.getLastD 0]:=by
  obtain⟨y,hy⟩:∃ y:Wd×UInt8,b.1=y.1++[y.2]:=⟨(b.1.dropLast,b.1.getLast hb1),(List.dropLast_concat_getLast hb1).symm⟩;rw[<-Zy,hy];simp
 rw[ea,eb] at Aj;have:=UInt8.lt_iff_toNat_lt.1 (uu Aj);omega
theorem lI{rows:List Dt}(h:∀ r∈rows,0<=r.2.2)(w:Wd):Do rows w=(match rows.find? fun r=>decide (r.2.1=w) with | some r=>r.2.2 | none=>-1):=by
 unfold Do;have stay:∀(rows:List Dt)(o:Int),0<=o->rows.foldl (fun o r=>if r.2.1=w/\o<0 then r.2.2 else o) o=o:=by
  intro rows
  induction rows with
  |nil=>intro o _;rfl
  |cons r l ih =>
   intro o ho;rw[List.foldl_cons,if_neg (by omega)];exact ih o ho
 induction rows with
 |nil=>rfl
 |cons r l ih =>
  rw[List.foldl_cons];by_cases he:r.2.1=w
  ·rw[if_pos ⟨he,by omega⟩,List.find?_cons_of_pos (by simp[he]),stay l _ (h r (Xh ..))]
  ·rw[if_neg (fun h2=>he h2.1),List.find?_cons_of_neg (by simp[he])];exact ih fun x hx=>h x (Xi _ hx)
theorem qlJ{rows:List Dt}(h:∀ r∈rows,0<=r.2.2)(w:Wd):-1<=Do rows w:=by
 rw[lI h];split
 ·rename_i r hr;have:=h r (List.mem_of_find?_eq_some hr);omega
 ·omega
theorem Gp{rows:List Dt}{F:List Wd}{k:Nat}{w:Wd}(h:F[k]? = some w):Nd (Nx rows F) k=Do rows w/\Md (Nx rows F) k=Dp F w:=by
 unfold Nd Md Nx;rw[Qb,Qv,h];exact⟨rfl,rfl⟩
theorem Dm(rows:List Dt)(F:List Wd):(Nx rows F).length=F.length:=by simp[Nx]
theorem yV{rows:List Dt}{F:List Wd}(hF:Nw rows F)(h:∀ r∈rows,0<=r.2.2):Wh (Nx rows F):=by
 have dQ:∀ k<(Nx rows F).length,∃ w,F[k]? = some w:=fun k hk=>by rw[Dm] at hk;exact⟨_,Qa hk⟩
 refine⟨?_,fun k hk=>?_,fun k hk e he=>?_,fun k hk=>?_⟩
 ·have:=(Qj.1 (bI hF)).1;intro e;have h2:=Dm rows F;rw[e] at h2;simp at h2;omega
 ·obtain⟨w,hw⟩:=dQ k hk;rw[(Gp hw).1];exact qlJ h w
 ·obtain⟨w,hw⟩:=dQ k hk;rw[(Gp hw).2] at he;obtain⟨c,j,h1,h2,h3⟩:=aY.1 he;have:=(Qj.1 h1).1;rw[Dm];omega
 ·obtain⟨w,hw⟩:=dQ k hk;rw[(Gp hw).2];exact qfG hF w
theorem cE{rows:List Dt}{F:List Wd}(hF:Nw rows F){n:Nat}(hb:∀ r∈rows,∀ c∈r.2.1,c.toNat<n):∀ k<(Nx rows F).length,∀ e∈Md (Nx rows F) k,e.1<(n:Int):=by
 intro k hk e he;rw[Dm] at hk;rw[(Gp (Qa hk)).2] at he;obtain⟨c,j,h1,h2,h3⟩:=aY.1 he;have hm:=(hF.mem _).1 (Qp h1);rcases hm with hm | ⟨r,hr,hp⟩
 ·simp at hm
 ·have:=hb r hr c (hp.subset (by simp));omega
theorem vb{rows:List Dt}{F:List Wd}(hF:Nw rows F)(h:∀ r∈rows,0<=r.2.2):Uj (Nx rows F) 9223372036854775807=true :=
 gG (yV hF h) fun k hk e he=>by
  have:=cE hF (n:=256) (fun r _ c _=>c.toNat_lt) k hk e he;omega
theorem qdA{rows:List Dt}{F:List Wd}(hF:Nw rows F)(h:∀ r∈rows,0<=r.2.2)(l:Wd):Uq (Nx rows F) 0 (byI l)=Do rows l:=by
 have hg:=yV hF h;have key:∀(l:Wd)(k:Nat)(w:Wd),F[k]? = some w->Uq (Nx rows F) k (byI l)=if w++l∈F then Do rows (w++l) else -1:=by
  intro l
  induction l with
  |nil =>
   intro k w hw;rw[List.append_nil,if_pos (Qp hw)];exact (Gp hw).1
  |cons c r ih =>
   intro k w hw;have hk:k<(Nx rows F).length:=by rw[Dm];exact (Qj.1 hw).1
   show Uq _ k ((c.toNat:Int)::byI r)=_;rw[Vv];cases hs:Ny (Nx rows F) k (c.toNat:Int) with
   |some j =>
    have he:=(Wa hg hk _ j).1 hs;rw[(Gp hw).2] at he;obtain⟨c',j',h1,h2,h3⟩:=aY.1 he;have hc:c'=c:=by
     refine UInt8.toNat_inj.1 ?_;omega
    subst hc;have hj:j'=j:=by omega
    subst hj;simp only;rw[ih j' _ h1];simp
   |none =>
    simp only;rw[if_neg];intro hm;have h1:w++[c]∈F:=by
     rcases (hF.mem _).1 hm with h1 | ⟨x,hx,hp⟩
     ·simp at h1
     ·refine (hF.mem _).2 (.inr ⟨x,hx,(List.IsPrefix.trans ?_ hp)⟩);exact⟨r,by simp⟩
    obtain⟨j,hj⟩:=List.mem_iff_getElem?.1 h1;have:Ny (Nx rows F) k (c.toNat:Int)=some j:=(Wa hg hk _ j).2 (by rw[(Gp hw).2];exact aY.2 ⟨c,j,hj,rfl,rfl⟩);rw[hs] at this;cases this
 rw[key l 0 [] (bI hF)];rw[List.nil_append];by_cases hm:l∈F
 ·rw[if_pos hm]
 ·rw[if_neg hm,lI h];split
  ·rename_i r hr;have h1:=List.mem_of_find?_eq_some hr;have h2:=List.find?_some hr;simp only[Yi] at h2;exact absurd ((hF.mem l).2 (.inr ⟨r,h1,by rw[h2];exact List.prefix_refl _⟩)) hm
  ·rfl
theorem Ps{α:Type}[DecidableEq α](l:List (α×Value))(k:α)(v:Value)(x:α):Ni (Wm l k v) x=if x=k then some v else Ni l x:=by
 induction l with
 |nil =>
  unfold Wm Ni;by_cases h:x=k
  ·subst h;simp
  ·rw[if_neg h];have h2:¬ k=x:=fun e=>h e.symm;simp[h2]
 |cons a r ih =>
  unfold Wm;by_cases h1:a.1=k
  ·rw[if_pos h1];unfold Ni;rw[List.find?_cons,List.find?_cons];by_cases h:x=k
   ·subst h;simp
   ·rw[if_neg h];have h2:¬ k=x:=fun e=>h e.symm;have h3:¬ a.1=x:=fun e=>h (e.symm.trans h1);simp[h2,h3]
  ·rw[if_neg h1];unfold Ni at ih |-;rw[List.find?_cons,List.find?_cons];by_cases h:a.1=x
   ·have h2:¬ x=k:=fun e=>h1 (h.trans e);simp[h,h2]
   ·simp only[h,decide_false];exact ih
def atF(ts:List Wd)(i:Nat)(w:Wd):Option Value:=if w∈ts.take i then some (.int .i64 (ts.idxOf w)) else if w∈ts then some (.int .i64 0) else none
theorem Lq{ts:List Wd}(hn:ts.Nodup){i:Nat}{w:Wd}(h:ts[i]? = some w):ts.idxOf w=i:=by
 obtain⟨hi,rfl⟩:=Qj.1 h;exact hn.idxOf_getElem i hi
theorem qpO{ts:List Wd}(hn:ts.Nodup){i:Nat}{w:Wd}(h:ts[i]? = some w)(x:Wd):atF ts (i+1) x=if x=w then some (.int .i64 i) else atF ts i x:=by
 obtain⟨hi,e⟩:=Qj.1 h;unfold atF;rw[Qc hi,e];simp only[Qh,Qi];by_cases hx:x=w
 ·subst hx;rw[if_pos (.inr rfl),if_pos rfl,Lq hn h]
 ·rw[if_neg hx];simp[hx]
theorem qvY{ts:List Wd}{i:Nat}{w:Wd}(h:w∈ts.take i):atF ts i w=some (.int .i64 (ts.idxOf w)):=by
 unfold atF;rw[if_pos h]
def AtR(κ:Wd->Value)(W:World)(g:Nat)(ts:List Wd)(i:Nat):Prop:=∃ l,Uo κ W g l/\∀ w,Ni l w=atF ts i w
theorem yD{rows:List Dt}{ts:List Wd}(h:Nw rows ts){i:Nat}{x:Wd}(hx:ts[i]? = some x)(hne:x≠[]):∃ j,j<i/\ts[j]? = some x.dropLast:=by
 have hl:0<x.length:=Qy.2 hne;have hm:x.dropLast∈ts:=by
  rw[h.mem];rcases (h.mem x).1 (Qp hx) with e | ⟨r,hr,hp⟩
  ·exact absurd e hne
  ·exact .inr ⟨r,hr,(List.dropLast_prefix x).trans hp⟩
 obtain⟨j,hj⟩:=List.getElem?_of_mem hm;refine⟨j,?_,hj⟩;obtain⟨a1,a2⟩:=Qj.1 hx;obtain⟨b1,b2⟩:=Qj.1 hj;have hp:=List.pairwise_iff_getElem.1 h.asc;rcases Nat.lt_trichotomy j i with Jo | he | Jo
 ·exact Jo
 ·subst he;rw[a2] at b2;have:=congrArg List.length b2;rw[List.length_dropLast] at this;omega
 ·have:=hp i j a1 b1 Jo;rw[a2,b2] at this;rcases this with h2 | ⟨h2,_⟩ <;> rw[List.length_dropLast] at h2 <;> omega
theorem R_{rows:List Dt}{ts:List Wd}(h:Nw rows ts){N:Nat}(hw:∀ r∈rows,r.2.1.length<=N){i:Nat}{x:Wd}(hx:ts[i]? = some x):x.length<=N:=by
 rcases (h.mem x).1 (Qp hx) with rfl | ⟨r,hr,hp⟩
 ·simp
 ·exact Ya hp.length_le (hw r hr)
theorem qfH(w:Wd)(ts:List Wd):Dp (ts.take 0) w=[]:=rfl
theorem lW{ts:List Wd}{i:Nat}{x:Wd}(h:ts[i]? = some x)(w:Wd):Dp (ts.take (i+1)) w=Dp (ts.take i) w++if x≠[]/\x.dropLast=w then [(((x.getLastD 0).toNat:Int),(i:Int))] else []:=by
 obtain⟨hi,e⟩:=Qj.1 h;unfold Dp;rw[Qc hi,List.zipIdx_append,List.filter_append,Qt,e];congr 1;have hl:(ts.take i).length=i:=by rw[Qq];omega
 simp only[List.zipIdx_cons,List.zipIdx_nil,hl,Yp];by_cases hc:x≠[]/\x.dropLast=w
 ·rw[if_pos hc];simp[hc]
 ·rw[if_neg hc,List.filter_cons,if_neg (by simpa using hc)];rfl
theorem qfF{ts:List Wd}{i:Nat}(h:ts[i]? = some []):(ts.map fun w=>Dp (ts.take (i+1)) w)=ts.map fun w=>Dp (ts.take i) w:=by
 apply List.map_congr_left;intro w _;rw[lW h];simp
theorem qmL{ts:List Wd}(hn:ts.Nodup){i j:Nat}{x p:Wd}(h:ts[i]? = some x)(hx:x≠[])(hp:x.dropLast=p)(hj:ts[j]? = some p) :
  (ts.map fun w=>Dp (ts.take (i+1)) w)=(ts.map fun w=>Dp (ts.take i) w).set j (Dp (ts.take i) p++[(((x.getLastD 0).toNat:Int),(i:Int))]):=by
 apply List.ext_getElem?;intro k;rw[Xu,Qv,Qv,Qk];by_cases hk:j=k
 ·subst hk;rw[if_pos rfl,if_pos (Qj.1 hj).1,hj,Option.map_some,lW h,if_pos ⟨hx,hp⟩]
 ·rw[if_neg hk];cases hw:ts[k]? with
  |none=>rfl
  |some w =>
   rw[Option.map_some,Option.map_some,lW h,if_neg,List.append_nil];rintro⟨_,e⟩;rw[hp] at e;subst e;have h1:=Lq hn hj;have h2:=Lq hn hw;omega
theorem aq(F:List Wd)(w:Wd):(Dp F w).length<=F.length:=by
 unfold Dp;rw[Qk];refine Ya (List.length_filter_le _ _) ?_;rw[List.length_zipIdx];exact Xz _
def Ad(w:Wd)(o:Int)(x:Dt×Wd):Int:=if x.2=w/\x.2=x.1.2.1/\o<0 then x.1.2.2 else o
def zO(pre:List (Dt×Wd))(w:Wd):Int:=pre.foldl (Ad w) (-1)
theorem yb(pre:List (Dt×Wd))(x:Dt×Wd)(w:Wd):zO (pre++[x]) w=Ad w (zO pre w) x:=by
 unfold zO;rw[List.foldl_append];rfl
theorem nu(r:Dt)(w:Wd)(o:Int):((List.range (r.2.1.length+1)).map fun k=>(r,r.2.1.take k)).foldl (Ad w) o=if r.2.1=w/\o<0 then r.2.2 else o:=by
 have stay:∀(l:List Nat)(o:Int),(∀ k∈l,k<r.2.1.length)->(l.map fun k=>(r,r.2.1.take k)).foldl (Ad w) o=o:=by
  intro l
  induction l with
  |nil=>intro o _;rfl
  |cons k l ih =>
   intro o hk;rw[List.map_cons,List.foldl_cons];have h1:Ad w o (r,r.2.1.take k)=o:=by
    unfold Ad;rw[if_neg];rintro⟨_,h2,_⟩;have:=congrArg List.length h2;simp only[Qq] at this;have:=hk k (Xh ..);omega
   rw[h1];exact ih o fun k oK=>hk k (Xi _ oK)
 rw[List.range_succ,Qt,List.foldl_append,stay _ _ (fun k hk=>Xy.1 hk)];show Ad w o (r,r.2.1.take r.2.1.length)=_;unfold Ad;simp only[List.take_length,true_and]
theorem qeJ(rows:List Dt)(w:Wd):zO (rows.flatMap fun r=>(List.range (r.2.1.length+1)).map fun k=>(r,r.2.1.take k)) w=Do rows w:=by
 unfold zO Do;generalize (-1:Int)=o
 induction rows generalizing o with
 |nil=>rfl
 |cons r l ih =>
  rw[List.flatMap_cons,List.foldl_append,nu,List.foldl_cons];exact ih _
def pG(ts:List Wd)(pre:List (Dt×Wd))(k:Nat):Int:=zO pre (ts.getD k [])
theorem qeH{ts:List Wd}(hn:ts.Nodup){j:Nat}{x:Dt×Wd}(hj:ts[j]? = some x.2)(pre:List (Dt×Wd)){k:Nat}(hk:k<ts.length):pG ts (pre++[x]) k=if k=j/\x.2=x.1.2.1/\pG ts pre j<0 then x.1.2.2 else pG ts pre k:=by
 unfold pG;rw[yb];have hg:ts.getD k []=ts[k]:=by rw[Qb,Qa hk];rfl
 have hgj:ts.getD j []=x.2:=by rw[Qb,hj];rfl
 rw[hg,hgj];unfold Ad;have he:x.2=ts[k]↔k=j:=by
  constructor
  ·intro h;have h1:=Lq hn hj;have h2:=Lq hn (i:=k) (w:=x.2) (by rw[Qa hk,h]);omega
  ·rintro rfl;rw[Qa hk] at hj;injection hj with hj;exact hj.symm
 by_cases hkj:k=j
 ·subst hkj;have h1:=he.2 rfl;rw[<-h1];simp
 ·have h1:¬ x.2=ts[k]:=fun h=>hkj (he.1 h);simp[h1,hkj]
theorem qlI(ts:List Wd)(k:Nat):pG ts [] k=-1:=rfl
theorem nv(rows:List Dt)(w:Wd):Do rows w=-1\/∃ r∈rows,Do rows w=r.2.2:=by
 unfold Do
 suffices h:∀(l:List Dt)(o:Int),l.foldl (fun o r=>if r.2.1=w/\o<0 then r.2.2 else o) o=o\/∃ r∈l,l.foldl (fun o r=>if r.2.1=w/\o<0 then r.2.2 else o) o=r.2.2 from h rows (-1)
 intro l
 induction l with
 |nil=>intro o;exact .inl rfl
 |cons r l ih =>
  intro o;rw[List.foldl_cons];by_cases hc:r.2.1=w/\o<0
  ·rw[if_pos hc];rcases ih r.2.2 with h | ⟨r',h1,h2⟩
   ·exact .inr ⟨r,Xh ..,h⟩
   ·exact .inr ⟨r',Xi _ h1,h2⟩
  ·rw[if_neg hc];rcases ih o with h | ⟨r',h1,h2⟩
   ·exact .inl h
   ·exact .inr ⟨r',Xi _ h1,h2⟩
open Go.RowKit Go.Sort
theorem aM:Ev Tryz.prog 22 9 1 16 (.string ⟨#[]⟩):=Sv (by kernel_rfl) (by kernel_rfl) rfl (by omega)
def jt(w:World)(xs:List Wd)(e:Ending)(w':World):Prop:=∃ v',e=.returned v'/\w'.ownsRow w.heap.size 9 1 v' xs.length (Zp xs)/\Below w.heap.size w w'
theorem mL(A:Option Addr)(c:Nat)(xs:List Wd)(w:World)(h:Jb eW w w.heap.size (.slice A xs.length c) xs)(hb:xs.length*16<=140737488355328) :
  Calls Tryz.prog 74 #[.slice A xs.length c] w (jt w xs):=by
 cases A with
 |none =>
  have hx:xs=[]:=by
   rcases Nat.eq_zero_or_pos xs.length with h0 | h0
   ·exact Xv h0
   ·obtain⟨b,off,e,_⟩:=h.wd (k:=0) h0;cases e
  subst hx;refine (Tryz.slices_Clone_string_nil 0 c w).mono ?_;rintro e w' ⟨rfl,rfl⟩;exact⟨_,rfl,Yx _ _ _ _,Xr _ _⟩
 |some a =>
  rcases Nat.eq_zero_or_pos xs.length with h0 | h0
  ·have hx:xs=[]:=Xv h0;subst hx;refine (Tryz.slices_Clone_string_zero a c w).mono ?_;rintro e w' ⟨v',rfl,hown,_,qg⟩;exact⟨v',rfl,hown,qg⟩
  ·obtain⟨b,off,e,_,_,_⟩:=h.wd (k:=0) h0;injection e with e;subst e;have:=Tryz.slices_Clone_string b off xs.length c (xs.map fun x=>(⟨x.toArray⟩:ByteArray)) w (by simp) hb (fun j hj=>by
    have Hp:j<xs.length:=by simpa using hj
    obtain⟨b',zqB,e,_,_,hc⟩:=h.wd Hp
    injection e with e
    injection e with e1 e2
    subst e1 e2
    rw[hc,Qb,Qv,Qa Hp]
    rfl)
   refine Calls.mono this ?_;rintro e w' ⟨v',rfl,hown,_,qg⟩;refine⟨v',rfl,?_,qg⟩;rw[show ((xs.map fun x=>(⟨x.toArray⟩:ByteArray)).take xs.length).map Value.string=Zp xs by rw[Qd (by simp)];simp[Zp]] at hown;exact hown
def qpX(w:World)(base:Nat)(v:Value)(xs:List Wd)(e:Ending)(w':World):Prop:=e=.returned (.tuple #[])/\w'.ownsRow base 9 1 v xs.length (Zp (xs.mergeSort fun x y=>decide (x<=y)))/\w.grownBy w' v.ownBlock
theorem lp(base:Nat)(v:Value)(xs:List Wd)(w:World)(h:w.ownsRow base 9 1 v xs.length (Zp xs))(hn:xs.length<4611686018427387904) :
  Calls Tryz.prog 75 #[v] w (qpX w base v xs):=by
 rcases h.2 with ⟨rfl,h0⟩ | ⟨g,cap,cur,rfl,hbase,hb,h1,h2,h3,h4⟩
 ·have hx:xs=[]:=Xv h0;subst hx;refine (Tryz.slices_Sort_string_none none 0 w).mono ?_;rintro e w' ⟨rfl,rfl⟩;exact⟨rfl,by have:=Yx w' base 9 1;simpa[Zp] using this,rfl,rfl,rfl,Xz _,fun _ _ _=>rfl⟩
 ·rw[Yq] at h4;have:=Tryz.slices_Sort_string g 0 cap xs w (holds_of_block hb h4) (gl hb) hn;refine Calls.mono this ?_;rintro e w' ⟨rfl,n,os,rfl⟩;exact⟨rfl,ownsRow_sorted (by simp) hbase hb h1 h2 h3,grownBy_sorted _⟩
theorem a_(xs:List Wd):(Lib.compact xs).length<=xs.length:=by
 unfold Lib.compact Lib.compactUpTo;rw[Qk];exact Ya (List.length_filter_le _ _) (by simp)
def qiS(w:World)(base:Nat)(v:Value)(xs:List Wd)(e:Ending)(w':World):Prop:=∃ v',e=.returned v'/\w'.ownsRow base 9 1 v' (Lib.compact xs).length (Zp (Lib.compact xs))/\w.grownBy w' v.ownBlock
theorem ro(base:Nat)(v:Value)(xs:List Wd)(w:World)(h:w.ownsRow base 9 1 v xs.length (Zp xs))(hn:xs.length<4611686018427387904) :
  Calls Tryz.prog 259 #[v] w (qiS w base v xs):=by
 rcases h.2 with ⟨rfl,h0⟩ | ⟨g,cap,cur,rfl,hbase,hb,h1,h2,h3,h4⟩
 ·have hx:xs=[]:=Xv h0;subst hx;refine (Tryz.slices_Compact_string_empty none 0 w).mono ?_;rintro e w' ⟨rfl,rfl⟩;exact⟨_,rfl,Yx _ _ _ _,rfl,rfl,rfl,Xz _,fun _ _ _=>rfl⟩
 ·rw[Yq] at h4;have:=Tryz.slices_Compact_string g 0 cap xs w (holds_of_block hb h4) (by omega) h1;refine Calls.mono this ?_;rintro e w' ⟨rfl,q,rfl⟩;have hle:=a_ xs;have Co:=grownBy_sorted (w:=w) (g:=g) (n:=q) (os:=#[]) (Lib.compact xs++List.replicate (xs.length - (Lib.compact xs).length) []).toArray;have hhp:=heap_sorted (n:=q) (os:=#[]) (Lib.compact xs++List.replicate (xs.length - (Lib.compact xs).length) []).toArray hb;rw[grow_empty] at Co hhp;refine⟨_,rfl,⟨by simp[Zp],.inr ⟨g,cap,_,rfl,hbase,hhp,by omega,h2,by simp[putCells,h3],?_⟩⟩,Co⟩;have ht:=take_putCells cur (Lib.compact xs++List.replicate (xs.length - (Lib.compact xs).length) []) (by rw[Qe,Qr,h3];omega);rw[Yq];have e1:(putCells encStr 0 (Lib.compact xs++List.replicate (xs.length - (Lib.compact xs).length) []).toArray cur).toList.take (Lib.compact xs).length=((putCells encStr 0 (Lib.compact xs++List.replicate (xs.length - (Lib.compact xs).length) []).toArray cur).toList.take (Lib.compact xs++List.replicate (xs.length - (Lib.compact xs).length) []).length).take (Lib.compact xs).length:=by
   rw[List.take_take,Nat.min_eq_left (by simp)]
  rw[e1,ht,Qt];exact List.take_left' (by simp)
def qyN(w:World)(l:List Wd)(e:Ending)(w':World):Prop:=∃ v',e=.returned v'/\w'.ownsRow w.heap.size 9 1 v' (Uy l).length (Zp (Uy l))/\Below w.heap.size w w'
theorem qU(A:Option Addr)(c:Nat)(xs:List Wd)(w:World)(h:Jb eW w w.heap.size (.slice A xs.length c) xs)(hb:xs.length*16<=140737488355328) :
  Calls Tryz.prog 217 #[.slice A xs.length c] w (qyN w xs):=by
 have HC:=Lh (mL A c xs w h hb);obtain⟨n,hn⟩:=Xe xs.length;rw[<-hn] at HC |-;have HB:=Lh (show xs.length<4611686018427387904 by omega);clear h hn hb;go_enter Tryz.func217,Tryz.ntmps217;go_wp2_with fail;refine HC.o.mono ?_;rintro e w1 ⟨v1,rfl,h1,hb1⟩;have HB1:=Lh hb1;have HS:=Lh (lp _ v1 xs w1 h1 HB.o);obtain⟨A1,c1,rfl,_⟩:=Zk h1;have HO1:=Lh h1;clear h1 hb1;go_wp2_with fail;refine HS.o.mono ?_;rintro e w2 ⟨rfl,h2,aE⟩;have HB2:=Lh (Zr HB1.o aE HO1.o (Xz _) HB1.o.size);have Pj:(xs.mergeSort fun x y=>decide (x<=y)).length=xs.length:=by simp
 rw[<-Pj] at h2;have nA:=Lh (ro _ _ _ w2 h2 (by rw[Pj];exact HB.o));have HO2:=Lh h2;rw[Pj] at nA HO2;clear h2 aE Pj HS HO1 HB1;go_wp2_with fail;refine nA.o.mono ?_;rintro e w3 ⟨v3,rfl,h3,mA⟩;have HB3:=Lh (Zr HB2.o mA HO2.o (Xz _) HB2.o.size);have HO3:=Lh h3;obtain⟨A3,c3,rfl,_⟩:=Zk h3;clear h3 mA nA HO2 HB2;go_wp2_with fail;go_ret;exact⟨_,rfl,HO3.o,HB3.o⟩
end Go.Proofs.YtmaojnmnbpomeaaGreatDoor
