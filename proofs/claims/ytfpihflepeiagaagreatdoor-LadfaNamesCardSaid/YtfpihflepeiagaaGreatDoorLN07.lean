/- Texts of this proof joined: FirstW2, WellW, OwnL, Conv. -/
import Derived.Test.YtfpihflepeiagaaGreatDoorLN06
import Derived.Test.YtfpihflepeiagaaGreatDoorLN01
import Derived.Laws.IdiomStrings
namespace Go.Proofs.YtfpihflepeiagaaGreatDoor

def WellG (rs:RuleL) (n:Nat):Prop:=∀ a r,(a,r)∈rs→0≤a∧a<n∧∀ s∈r,s<n
def AllAsc (s:Sets):Prop:=∀ (a:Nat) (x:List Wd),s[a]? = some x→Asc x
theorem AllAsc.getD {s:Sets} (h:AllAsc s) (a:Nat):Asc (s.getD a []):=by
 rw[List.getD_eq_getElem?_getD]
 cases e:s[a]? with
 |none=>exact List.Pairwise.nil
 |some x=>exact h a x e
theorem AllAsc.set {s:Sets} (h:AllAsc s) (a:Nat) {x:List Wd} (hx:Asc x):AllAsc (s.set a x):=by
 intro b y hy
 rw[List.getElem?_set] at hy
 split at hy
 ·split at hy
  ·injection hy with hy;subst hy;exact hx
  ·cases hy
 ·exact h b y hy
theorem AllAsc.replicate (n:Nat):AllAsc (List.replicate n []):=by
 intro b y hy
 rw[List.getElem?_replicate] at hy
 split at hy
 ·injection hy with hy;subst hy;exact List.Pairwise.nil
 ·cases hy
theorem unionW_asc (a b:List Wd):Asc (unionW a b):=setOf_asc _
theorem mem_unionW {a b:List Wd} {x:Wd}:x∈unionW a b↔x∈a∨x∈b:=by unfold unionW;rw[mem_setOf,List.mem_append]
theorem set_getD_self (s:Sets) (a:Nat):s.set a (s.getD a [])=s:=by
 apply List.ext_getElem?
 intro i
 rw[List.getElem?_set]
 split
 ·rename_i h
  subst h
  split
  ·rename_i hl
   rw[List.getD_eq_getElem?_getD,List.getElem?_eq_getElem hl];rfl
  ·rename_i hl
   rw[List.getElem?_eq_none (by omega)]
 ·rfl

structure FirstInv (rs:RuleL) (n k:Nat) (s:Sets):Prop where
 len:s.length=n
 asc:AllAsc s
 sound:SoundF rs k s
theorem firstInv_start (rs:RuleL) (n k:Nat):FirstInv rs n k (List.replicate n []):=⟨by simp,AllAsc.replicate n,fun a s h x hx=>by
 rw[List.getElem?_replicate] at h
 split at h
 ·injection h with h;subst h;cases hx
 ·cases h⟩
theorem growW_inv {rs:RuleL} {n k:Nat} {s s':Sets} {g:Bool} {r:Int×List Int} (hr:r∈rs) (hw:WellG rs n) (h:FirstInv rs n k s) (e:growW k s r=some (s',g)):FirstInv rs n k s':=by
 unfold growW at e
 cases h1:ofW s k r.2 with
 |none=>rw[h1] at e;cases e
 |some x =>
  rw[h1,Option.bind_some] at e
  split at e
  ·injection e with e
   injection e with e e2
   subst e
   refine⟨by rw[List.length_set];exact h.len,h.asc.set _ (unionW_asc _ _),fun a s1 hs1 y hy=>?_⟩
   rw[List.getElem?_set] at hs1
   split at hs1
   ·rename_i ha
    split at hs1
    ·injection hs1 with hs1
     subst hs1 ha
     rcases mem_unionW.1 hy with hy | hy
     ·rw[List.getD_eq_getElem?_getD] at hy
      cases e3:s[r.1.toNat]? with
      |none=>rw[e3] at hy;cases hy
      |some z=>rw[e3] at hy;exact h.sound _ _ e3 y hy
     ·obtain⟨u,hu,rfl⟩:=ofW_sound h.sound h1 hy
      refine⟨r.2,u,?_,hu,rfl⟩
      rw[Int.toNat_of_nonneg (hw r.1 r.2 hr).1]
      exact hr
    ·cases hs1
   ·exact h.sound _ _ hs1 y hy
  ·cases e
theorem roundW_inv {rs:RuleL} {n k:Nat} (hw:WellG rs n):∀ (l:RuleL) (p q:Sets×Bool),(∀ r∈l,r∈rs)→FirstInv rs n k p.1→roundW k l p=some q→FirstInv rs n k q.1
 |[],p,q,_,h,e=>by injection e with e;subst e;exact h
 |r :: l,p,q,hl,h,e=>by
  simp only[roundW] at e
  cases h1:growW k p.1 r with
  |none=>rw[h1] at e;cases e
  |some t =>
   rw[h1,Option.bind_some] at e
   exact roundW_inv hw l (t.1,p.2||t.2) q (fun r hr=>hl r (by simp[hr])) (growW_inv (g:=t.2) (hl r (by simp)) hw h h1) e
theorem growW_still {k:Int} {s s':Sets} {r:Int×List Int} (ha:AllAsc s) (e:growW k s r=some (s',false)):s'=s∧∃ x,ofW s k r.2=some x∧∀ y∈x,y∈s.getD r.1.toNat []:=by
 unfold growW at e
 cases h1:ofW s k r.2 with
 |none=>rw[h1] at e;cases e
 |some x =>
  rw[h1,Option.bind_some] at e
  split at e
  ·injection e with e
   injection e with e e2
   have hle:=of_decide_eq_false e2
   obtain⟨g1,g2⟩:=(union_len (a:=s.getD r.1.toNat []) (b:=x) (ha.getD _)).2 (Nat.le_of_not_lt hle)
   refine⟨?_,x,rfl,g2⟩
   rw[←e]
   show s.set _ (setOf _)=s
   rw[g1,set_getD_self]
  ·cases e
theorem roundW_still {k:Int}:∀ (l:RuleL) (s s':Sets) (g:Bool),AllAsc s→roundW k l (s,g)=some (s',false)→g=false∧s'=s∧∀ r∈l,∃ x,ofW s k r.2=some x∧∀ y∈x,y∈s.getD r.1.toNat []
 |[],s,s',g,_,e=>by
  injection e with e
  injection e with e1 e2
  exact⟨e2,e1.symm,fun r hr=>by cases hr⟩
 |r :: l,s,s',g,ha,e=>by
  simp only[roundW] at e
  cases h1:growW k s r with
  |none=>rw[h1] at e;cases e
  |some t =>
   rw[h1,Option.bind_some] at e
   obtain⟨t1,t2⟩:=t
   cases t2 with
   |true =>
    exfalso
    rw[Bool.or_true] at e
    have:∀ (l:RuleL) (p:Sets) (q:Sets×Bool),roundW k l (p,true)=some q→q.2=true:=by
     intro l
     induction l with
     |nil=>intro p q e;injection e with e;subst e;rfl
     |cons r l ih =>
      intro p q e
      simp only[roundW] at e
      cases h:growW k p r with
      |none=>rw[h] at e;cases e
      |some t=>rw[h,Option.bind_some,Bool.true_or] at e;exact ih _ _ e
    have:=this _ _ _ e
    cases this
   |false =>
    rw[Bool.or_false] at e
    obtain⟨rfl,x,hx,hs⟩:=growW_still ha h1
    obtain⟨hg,rfl,h2⟩:=roundW_still l _ s' g ha e
    refine⟨hg,rfl,fun r' hr'=>?_⟩
    rcases List.mem_cons.1 hr' with rfl | hr'
    ·exact⟨x,hx,hs⟩
    ·exact h2 r' hr'
theorem FirstTo.full {rs:RuleL} {n k:Nat} (hw:WellG rs n) {s:Sets} (h:FirstTo k rs n (some s)):FirstInv rs n k s∧ClosedF rs k s:=by
 obtain⟨h1,t,h2,h3⟩:=RoundsTo.inv (FirstInv rs n k) (fun s s' g hs e=>roundW_inv hw rs (s,false) (s',g) (fun _ h=>h) hs e) h (firstInv_start rs n k) s rfl
 refine⟨h1,?_⟩
 obtain⟨_,rfl,h4⟩:=roundW_still rs t s false h2.asc h3
 intro a r hr ha
 obtain⟨x,hx,hs⟩:=h4 (a,r) hr
 have hl:a.toNat<s.length:=by rw[h1.len];have:=(hw a r hr).2.1;omega
 refine⟨x,s[a.toNat],hx,List.getElem?_eq_getElem hl,fun y hy=>?_⟩
 have:=hs y hy
 rwa [List.getD_eq_getElem?_getD,List.getElem?_eq_getElem hl] at this

def SoundO (rs:RuleL) (k:Nat) (fol:Sets):Prop:=∀ (a:Nat) (s:List Wd),fol[a]? = some s→∀ x∈s,∃ v,Fol rs a v∧x=v.take k
theorem SoundO.getD {rs:RuleL} {k:Nat} {fol:Sets} (h:SoundO rs k fol) {a:Nat} {x:Wd} (hx:x∈fol.getD a []):∃ v,Fol rs a v∧x=v.take k:=by
 rw[List.getD_eq_getElem?_getD] at hx
 cases e:fol[a]? with
 |none=>rw[e] at hx;cases hx
 |some s=>rw[e] at hx;exact h _ _ e x hx
theorem behindW_sound {rs:RuleL} {k:Nat} {sets fol:Sets} (hs:SoundF rs k sets) (ho:SoundO rs k fol) {r:Int×List Int} {at_:Int} {out:List Wd} (h:behindW sets fol k r at_=some out) {z:Wd} (hz:z∈out) :
  ∃ u v,Der rs (r.2.drop (at_+1).toNat) u∧Fol rs r.1 v∧z=(u++v).take k:=by
 unfold behindW at h
 split at h
 ·cases h
 ·rename_i hg
  cases h1:ofW sets k (r.2.drop (at_+1).toNat) with
  |none=>rw[h1] at h;cases h
  |some x =>
   rw[h1,Option.bind_some] at h
   obtain⟨p,hp,q,hq,rfl⟩:=(mem_catW h).1 hz
   obtain⟨u,hu,rfl⟩:=ofW_sound hs h1 hp
   obtain⟨v,hv,rfl⟩:=ho.getD hq
   rw[Int.toNat_of_nonneg (by omega)] at hv
   exact⟨u,v,hu,hv,by simp only[Int.toNat_natCast];rw[take_cat]⟩
theorem behindW_full {rs:RuleL} {k:Nat} {sets fol:Sets} (hc:ClosedF rs k sets) {r:Int×List Int} {at_:Int} {out:List Wd} (h:behindW sets fol k r at_=some out) {u v:Wd} (hu:Der rs (r.2.drop (at_+1).toNat) u) (hv:v.take k∈fol.getD r.1.toNat []) :
  (u++v).take k∈out:=by
 unfold behindW at h
 split at h
 ·cases h
 ·cases h1:ofW sets k (r.2.drop (at_+1).toNat) with
  |none=>rw[h1] at h;cases h
  |some x =>
   rw[h1,Option.bind_some] at h
   exact (mem_catW h).2 ⟨u.take k,ofW_full hc hu h1,v.take k,hv,by simp only[Int.toNat_natCast];rw[take_cat]⟩
structure FolInv (rs:RuleL) (n k:Nat) (s:Sets):Prop where
 len:s.length=n
 asc:AllAsc s
 sound:SoundO rs k s
 start:[]∈s.getD 0 []
theorem folInv_start {rs:RuleL} {n k:Nat} (hn:0<n):FolInv rs n k ((List.replicate n []).set 0 [[]]):=by
 refine⟨by simp,(AllAsc.replicate n).set 0 (by simp),fun a s h x hx=>?_,?_⟩
 ·rw[List.getElem?_set] at h
  split at h
  ·rename_i ha
   split at h
   ·injection h with h
    subst h ha
    rw[List.mem_singleton] at hx
    subst hx
    exact⟨[],.start,by simp⟩
   ·cases h
  ·rw[List.getElem?_replicate] at h
   split at h
   ·injection h with h;subst h;cases hx
   ·cases h
 ·rw[List.getD_eq_getElem?_getD,List.getElem?_set]
  simp[hn]
theorem drop_place {r:List Int} {at_:Nat} (h:at_<r.length):r=r.take at_++r.getD at_ 0 :: r.drop (at_+1):=by
 rw[List.getD_eq_getElem?_getD,List.getElem?_eq_getElem h]
 simp
theorem spreadW_inv {rs:RuleL} {n k:Nat} (hn:0<n) {sets:Sets} (hs:SoundF rs k sets) {r:Int×List Int} (hr:r∈rs) {at_:Nat} (hat:at_<r.2.length) {p:FolS} (h:FolInv rs n k p.fol):FolInv rs n k (spreadW sets k r at_ p).fol:=by
 unfold spreadW
 cases h1:behindW sets p.fol k r at_ with
 |none=>exact h
 |some x =>
  simp only
  split
  ·exact h
  ·rename_i hpos
   refine⟨by simp only[List.length_set];exact h.len,h.asc.set _ (unionW_asc _ _),fun a s hs1 y hy=>?_,?_⟩
   ·simp only[List.getElem?_set] at hs1
    split at hs1
    ·rename_i ha
     split at hs1
     ·injection hs1 with hs1
      subst hs1 ha
      rcases mem_unionW.1 hy with hy | hy
      ·exact h.sound.getD hy
      ·obtain⟨u,v,hu,hv,rfl⟩:=behindW_sound hs h.sound h1 hy
       refine⟨u++v,?_,rfl⟩
       rw[Int.toNat_of_nonneg (by omega)]
       rw[show ((at_:Int)+1).toNat=at_+1 by omega] at hu
       exact .step (a:=r.1) (r:=r.2) hr (drop_place hat) (by omega) hu hv
     ·cases hs1
    ·exact h.sound _ _ hs1 y hy
   ·simp only[List.getD_eq_getElem?_getD,List.getElem?_set]
    split
    ·rename_i ha
     rw[if_pos (by rw[h.len];omega)]
     simp only[Option.getD_some]
     refine mem_unionW.2 (.inl ?_)
     rw[ha]
     simpa[List.getD_eq_getElem?_getD] using h.start
    ·simpa[List.getD_eq_getElem?_getD] using h.start
theorem spreadsW_inv {rs:RuleL} {n k:Nat} (hn:0<n) {sets:Sets} (hs:SoundF rs k sets) {r:Int×List Int} (hr:r∈rs):∀ (m at_:Nat) (p:FolS),at_+m≤r.2.length→FolInv rs n k p.fol→FolInv rs n k (spreadsW sets k r m at_ p).fol
 |0,_,p,_,h=>h
 |m+1,at_,p,hm,h=>spreadsW_inv hn hs hr m (at_+1) _ (by omega) (spreadW_inv hn hs hr (by omega) h)
theorem spreadAll_inv {rs:RuleL} {n k:Nat} (hn:0<n) {sets:Sets} (hs:SoundF rs k sets):∀ (l:RuleL) (p:FolS),(∀ r∈l,r∈rs)→FolInv rs n k p.fol→FolInv rs n k (spreadAll sets k l p).fol
 |[],p,_,h=>h
 |r :: l,p,hl,h=>spreadAll_inv hn hs l _ (fun r hr=>hl r (by simp[hr])) (spreadsW_inv hn hs (hl r (by simp)) _ _ _ (by omega) h)
def Quiet (p:FolS):Prop:=p.grown=false∧p.limit=false
theorem spreadW_quiet {sets:Sets} {k:Int} {r:Int×List Int} {at_:Nat} {p:FolS} (h:Quiet (spreadW sets k r at_ p)):Quiet p:=by
 unfold spreadW at h
 cases h1:behindW sets p.fol k r at_ with
 |none=>rw[h1] at h;cases h.2
 |some x =>
  rw[h1] at h
  simp only at h
  split at h
  ·exact h
  ·obtain⟨h2,h3⟩:=h
   simp only[Bool.or_eq_false_iff] at h2 h3
   exact⟨h2.1,h3.1⟩
theorem spreadsW_quiet {sets:Sets} {k:Int} {r:Int×List Int}:∀ (m at_:Nat) (p:FolS),Quiet (spreadsW sets k r m at_ p)→Quiet p
 |0,_,_,h=>h
 |m+1,at_,_,h=>spreadW_quiet (spreadsW_quiet m (at_+1) _ h)
theorem spreadAll_quiet {sets:Sets} {k:Int}:∀ (l:RuleL) (p:FolS),Quiet (spreadAll sets k l p)→Quiet p
 |[],_,h=>h
 |_ :: l,_,h=>spreadsW_quiet _ _ _ (spreadAll_quiet l _ h)
def StillAt (sets fol:Sets) (k:Int) (r:Int×List Int) (at_:Nat):Prop:=∃ x,behindW sets fol k r at_=some x∧(0≤r.2.getD at_ 0→∀ y∈x,y∈fol.getD (r.2.getD at_ 0).toNat [])
theorem spreadW_still {sets:Sets} {k:Int} {r:Int×List Int} {at_:Nat} {p:FolS} (ha:AllAsc p.fol) (h:Quiet (spreadW sets k r at_ p)):spreadW sets k r at_ p=p∧StillAt sets p.fol k r at_:=by
 have hq:=spreadW_quiet h
 unfold spreadW at h ⊢
 cases h1:behindW sets p.fol k r at_ with
 |none=>rw[h1] at h;cases h.2
 |some x =>
  rw[h1] at h
  simp only at h ⊢
  split at h
  ·rename_i hneg
   exact⟨if_pos hneg,x,h1,fun h0=>absurd hneg (by omega)⟩
  ·rename_i hpos
   rw[if_neg hpos]
   obtain⟨h2,h3⟩:=h
   simp only[Bool.or_eq_false_iff,decide_eq_false_iff_not] at h2 h3
   obtain⟨g1,g2⟩:=(union_len (a:=p.fol.getD (r.2.getD at_ 0).toNat []) (b:=x) (ha.getD _)).2 (Nat.le_of_not_lt h2.2)
   refine⟨?_,x,h1,fun _=>g2⟩
   obtain⟨f,g,l⟩:=p
   obtain⟨e1,e2⟩:=hq
   simp only at e1 e2 g1 h2 h3 ⊢
   subst e1 e2
   show FolS.mk (f.set _ (setOf _)) _ _=_
   unfold unionW
   rw[g1,set_getD_self]
   unfold unionW at h2 h3
   rw[g1] at h3
   simp only[Bool.false_or,FolS.mk.injEq,true_and,decide_eq_false_iff_not,Nat.lt_irrefl,not_false_eq_true]
   exact h3.2
theorem spreadsW_still {sets:Sets} {k:Int} {r:Int×List Int}:∀ (m at_:Nat) (p:FolS),AllAsc p.fol→Quiet (spreadsW sets k r m at_ p)→spreadsW sets k r m at_ p=p∧∀ i,at_≤i→i<at_+m→StillAt sets p.fol k r i
 |0,_,_,_,h=>⟨rfl,fun i h1 h2=>by omega⟩
 |m+1,at_,p,ha,h=>by
  simp only[spreadsW] at h ⊢
  obtain⟨e1,e2⟩:=spreadW_still ha (spreadsW_quiet m (at_+1) _ h)
  rw[e1] at h ⊢
  obtain⟨e3,e4⟩:=spreadsW_still m (at_+1) p ha h
  refine⟨e3,fun i h1 h2=>?_⟩
  rcases Nat.eq_or_lt_of_le h1 with rfl | h1
  ·exact e2
  ·exact e4 i h1 (by omega)
theorem spreadAll_still {sets:Sets} {k:Int}:∀ (l:RuleL) (p:FolS),AllAsc p.fol→Quiet (spreadAll sets k l p)→spreadAll sets k l p=p∧∀ r∈l,∀ i,i<r.2.length→StillAt sets p.fol k r i
 |[],_,_,h=>⟨rfl,fun r hr=>by cases hr⟩
 |r :: l,p,ha,h=>by
  simp only[spreadAll] at h ⊢
  obtain⟨e1,e2⟩:=spreadsW_still _ _ _ ha (spreadAll_quiet l _ h)
  rw[e1] at h ⊢
  obtain⟨e3,e4⟩:=spreadAll_still l p ha h
  refine⟨e3,fun r' hr' i hi=>?_⟩
  rcases List.mem_cons.1 hr' with rfl | hr'
  ·exact e2 i (by omega) (by omega)
  ·exact e4 r' hr' i hi
theorem FollowTo.full {rs:RuleL} {n k:Nat} (hn:0<n) {sets:Sets} (hs:SoundF rs k sets) (hc:ClosedF rs k sets) {fol:Sets} (h:FollowTo sets k rs n (some fol)) :
  FolInv rs n k fol∧∀ (b:Int) (v:Wd),0≤b→b<n→Fol rs b v→v.take k∈fol.getD b.toNat []:=by
 obtain⟨h1,t,h2,h3⟩:=RoundsTo.inv (FolInv rs n k) (fun s s' g hi e=>by
  unfold folRound at e
  simp only at e
  split at e
  ·cases e
  ·injection e with e
   injection e with e1 e2
   rw[←e1]
   exact spreadAll_inv hn hs rs ⟨s,false,false⟩ (fun _ h=>h) hi) h (folInv_start hn) fol rfl
 refine⟨h1,?_⟩
 unfold folRound at h3
 simp only at h3
 split at h3
 ·cases h3
 ·rename_i hlim
  injection h3 with h3
  injection h3 with h3 h4
  obtain⟨e1,e2⟩:=spreadAll_still rs ⟨t,false,false⟩ h2.asc ⟨h4,by simpa using hlim⟩
  rw[e1] at h3
  simp only at h3
  subst h3
  have key:∀ b v,Fol rs b v→v.take k∈t.getD b.toNat []:=by
   intro b v hf
   induction hf with
   |start=>simpa using h2.start
   |@step a r l1 b l2 u v hr e hb hd hf ih =>
    subst e
    obtain⟨x,hx,hin⟩:=e2 (a,l1++b :: l2) hr l1.length (by simp)
    have hat:(l1++b :: l2).getD l1.length 0=b:=by simp[List.getD_eq_getElem?_getD]
    simp only[hat] at hin
    refine hin hb _ (behindW_full hc hx ?_ ih)
    simp only[show ((l1.length:Int)+1).toNat=l1.length+1 by omega]
    simpa using hd
  exact fun b v _ _ hf=>key b v hf

theorem aheadW_get {sets fol:Sets} {k:Int}:∀ (l:RuleL) (out:Sets),aheadW sets fol k l=some out→out.length=l.length∧∀ (i:Nat) (r:Int×List Int),l[i]? = some r→∃ x,out[i]? = some x∧behindW sets fol k r (-1)=some x
 |[],out,h=>by injection h with h;subst h;exact⟨rfl,fun i r h=>by simp at h⟩
 |r :: l,out,h=>by
  simp only[aheadW] at h
  cases h1:behindW sets fol k r (-1) with
  |none=>rw[h1] at h;cases h
  |some x =>
   rw[h1,Option.bind_some] at h
   cases h2:aheadW sets fol k l with
   |none=>rw[h2] at h;cases h
   |some o =>
    rw[h2] at h
    injection h with h
    subst h
    obtain⟨e1,e2⟩:=aheadW_get l o h2
    refine⟨by simp[e1],fun i r' hr'=>?_⟩
    cases i with
    |zero=>simp only[List.getElem?_cons_zero,Option.some.injEq] at hr';subst hr';exact⟨x,by simp,h1⟩
    |succ i=>simpa using e2 i r' (by simpa using hr')
def AheadD (rs:RuleL) (k:Nat) (r:Int×List Int) (z:Wd):Prop:=∃ u v,Der rs r.2 u∧Fol rs r.1 v∧z=(u++v).take k
structure MadeG (rs:RuleL) (n k:Nat) (out:Sets):Prop where
 len:out.length=rs.length
 mean:∀ (i:Nat) (r:Int×List Int) (x:List Wd),rs[i]? = some r→out[i]? = some x→Asc x∧∀ z,z∈x↔AheadD rs k r z
theorem behindW_asc {sets fol:Sets} {k:Int} {r:Int×List Int} {at_:Int} {x:List Wd} (h:behindW sets fol k r at_=some x):Asc x:=by
 unfold behindW at h
 split at h
 ·cases h
 ·cases h1:ofW sets k (r.2.drop (at_+1).toNat) with
  |none=>rw[h1] at h;cases h
  |some y=>rw[h1,Option.bind_some] at h;exact catW_asc h
theorem madeG {rs:RuleL} {n k:Nat} (hn:0<n) (hw:WellG rs n) {sets fol out:Sets} (h1:FirstTo k rs n (some sets)) (h2:FollowTo sets k rs n (some fol)) (h3:aheadW sets fol k rs=some out):MadeG rs n k out:=by
 obtain⟨a1,a2⟩:=h1.full hw
 obtain⟨b1,b2⟩:=h2.full hn a1.sound a2
 obtain⟨c1,c2⟩:=aheadW_get rs out h3
 refine⟨c1,fun i r x hr hx=>?_⟩
 obtain⟨y,hy,hb⟩:=c2 i r hr
 rw[hx] at hy
 injection hy with hy
 subst hy
 refine⟨behindW_asc hb,fun z=>⟨fun hz=>?_,fun hz=>?_⟩⟩
 ·obtain⟨u,v,hu,hv,e⟩:=behindW_sound a1.sound b1.sound hb hz
  exact⟨u,v,by simpa using hu,hv,e⟩
 ·obtain⟨u,v,hu,hv,rfl⟩:=hz
  have hm:(r.1,r.2)∈rs:=List.mem_of_getElem? hr
  have:=hw r.1 r.2 hm
  exact behindW_full a2 hb (by simpa using hu) (b2 r.1 v this.1 this.2.1 hv)

def allW:Nat→List Wd
 |0=>[[]]
 |n+1=>[] :: (allW n).flatMap fun w=>[0 :: w,1 :: w,2 :: w]
def FewW (w:Wd):Prop:=w.length≤4∧∀ c∈w,c.toNat<3
theorem mem_allW:∀ (n:Nat) (w:Wd),w.length≤n→(∀ c∈w,c.toNat<3)→w∈allW n
 |0,[],_,_=>by simp[allW]
 |0,c :: w,h,_=>by simp at h
 |n+1,[],_,_=>by simp[allW]
 |n+1,c :: w,h,hc=>by
  have ih:=mem_allW n w (by simpa using h) (fun c hc'=>hc c (by simp[hc']))
  have h3:=hc c (by simp)
  simp only[allW,List.mem_cons,List.mem_flatMap]
  right
  refine⟨w,ih,?_⟩
  have:c=0∨c=1∨c=2:=by
   have e:c=UInt8.ofNat c.toNat:=by simp
   have:c.toNat=0∨c.toNat=1∨c.toNat=2:=by omega
   rcases this with h | h | h <;> rw[h] at e <;> simp[e]
  rcases this with rfl | rfl | rfl <;> simp
theorem allW_4:(allW 4).length=121:=rfl
theorem few_len {l:List Wd} (hn:l.Nodup) (h:∀ w∈l,FewW w):l.length≤121:=by
 rw[←allW_4]
 exact hn.length_le_of_subset fun w hw=>mem_allW 4 w (h w hw).1 (h w hw).2
def FewS (s:Sets):Prop:=∀ (a:Nat) (x:List Wd),s[a]? = some x→∀ w∈x,FewW w
theorem catW_few {k:Int} (hk:k≤4) {a b:List Wd} (ha:∀ w∈a,FewW w) (hb:∀ w∈b,FewW w):∃ o,catW k a b=some o∧∀ w∈o,FewW w:=by
 have hf:∀ w∈prodW k a b,FewW w:=by
  intro w hw
  obtain⟨x,hx,y,hy,rfl⟩:=mem_prodW.1 hw
  refine⟨by rw[List.length_take];omega,fun c hc=>?_⟩
  rcases List.mem_append.1 (List.mem_of_mem_take hc) with h | h
  ·exact (ha x hx).2 c h
  ·exact (hb y hy).2 c h
 have h:=few_len (setOf_asc (prodW k a b)).nodup fun w hw=>hf w (mem_setOf.1 hw)
 refine⟨setOf (prodW k a b),?_,fun w hw=>hf w (mem_setOf.1 hw)⟩
 unfold catW
 rw[if_pos (by omega)]
def FewR (rs:RuleL):Prop:=∀ a r,(a,r)∈rs→∀ s∈r,-3≤s
theorem tb_few {s:Int} (h1:s<0) (h2:-3≤s):(tb s).toNat<3:=by
 unfold tb
 rw[UInt8.toNat_ofNat']
 omega
theorem ofFrom_few {k:Int} (hk:k≤4) {sets:Sets} (hs:FewS sets):∀ (syms:List Int) (acc:List Wd),(∀ s∈syms,-3≤s∧s<sets.length)→(∀ w∈acc,FewW w)→∃ o,ofFrom sets k acc syms=some o∧∀ w∈o,FewW w
 |[],acc,_,ha=>⟨acc,rfl,ha⟩
 |s :: l,acc,hl,ha=>by
  obtain⟨h1,h2⟩:=hl s (by simp)
  have ho:∃ x,oneW sets s=some x∧∀ w∈x,FewW w:=by
   unfold oneW
   split
   ·rename_i hneg
    rw[if_pos (by omega)]
    refine⟨_,rfl,fun w hw=>?_⟩
    rw[List.mem_singleton] at hw
    subst hw
    exact⟨by simp,fun c hc=>by rw[List.mem_singleton] at hc;subst hc;exact tb_few hneg h1⟩
   ·have hl:s.toNat<sets.length:=by omega
    exact⟨sets[s.toNat],List.getElem?_eq_getElem hl,hs _ _ (List.getElem?_eq_getElem hl)⟩
  obtain⟨x,hx,hxf⟩:=ho
  obtain⟨o,ho,hof⟩:=catW_few hk ha hxf
  obtain⟨z,hz,hzf⟩:=ofFrom_few hk hs l o (fun s h=>hl s (by simp[h])) hof
  exact⟨z,by simp only[ofFrom,hx,Option.bind_some,ho,hz],hzf⟩
theorem few_nil:∀ w∈([[]]:List Wd),FewW w:=fun w hw=>by rw[List.mem_singleton] at hw;subst hw;exact⟨by simp,fun c hc=>by cases hc⟩
theorem ofW_few {k:Int} (hk:k≤4) {sets:Sets} (hs:FewS sets) {syms:List Int} (h:∀ s∈syms,-3≤s∧s<sets.length):∃ o,ofW sets k syms=some o∧∀ w∈o,FewW w:=ofFrom_few hk hs syms [[]] h few_nil
theorem FewS.getD {s:Sets} (h:FewS s) (a:Nat):∀ w∈s.getD a [],FewW w:=by
 rw[List.getD_eq_getElem?_getD]
 cases e:s[a]? with
 |none=>intro w hw;cases hw
 |some x=>exact h a x e
theorem FewS.set {s:Sets} (h:FewS s) (a:Nat) {x:List Wd} (hx:∀ w∈x,FewW w):FewS (s.set a x):=by
 intro b y hy
 rw[List.getElem?_set] at hy
 split at hy
 ·split at hy
  ·injection hy with hy;subst hy;exact hx
  ·cases hy
 ·exact h b y hy
theorem FewS.replicate (n:Nat):FewS (List.replicate n []):=by
 intro b y hy
 rw[List.getElem?_replicate] at hy
 split at hy
 ·injection hy with hy;subst hy;intro w hw;cases hw
 ·cases hy
theorem union_few {a b:List Wd} (ha:∀ w∈a,FewW w) (hb:∀ w∈b,FewW w):(∀ w∈unionW a b,FewW w)∧(unionW a b).length≤121:=by
 have h:∀ w∈unionW a b,FewW w:=fun w hw=>(mem_unionW.1 hw).elim (ha w) (hb w)
 exact⟨h,few_len (unionW_asc a b).nodup h⟩
theorem growW_few {k:Int} (hk:k≤4) {s:Sets} (hs:FewS s) {r:Int×List Int} (hr:∀ x∈r.2,-3≤x∧x<s.length):∃ q,growW k s r=some q∧FewS q.1∧q.1.length=s.length:=by
 obtain⟨o,ho,hof⟩:=ofW_few hk hs hr
 obtain⟨u1,u2⟩:=union_few (hs.getD r.1.toNat) hof
 unfold growW
 rw[ho,Option.bind_some,if_pos (by omega)]
 exact⟨_,rfl,hs.set _ u1,by simp⟩
theorem roundW_few {k:Int} (hk:k≤4) {n:Nat}:∀ (l:RuleL) (p:Sets×Bool),(∀ r∈l,∀ x∈r.2,-3≤x∧x<n)→FewS p.1→p.1.length=n→∃ q,roundW k l p=some q∧FewS q.1∧q.1.length=n
 |[],p,_,hs,hl=>⟨p,rfl,hs,hl⟩
 |r :: l,p,hr,hs,hl=>by
  obtain⟨q,hq,h1,h2⟩:=growW_few hk hs (r:=r) (fun x hx=>by rw[hl];exact hr r (by simp) x hx)
  obtain⟨z,hz,h3,h4⟩:=roundW_few hk l (q.1,p.2||q.2) (fun r h=>hr r (by simp[h])) h1 (by rw[h2,hl])
  exact⟨z,by simp only[roundW,hq,Option.bind_some,hz],h3,h4⟩
theorem RoundsTo.never {σ:Type} {f:σ→Option (σ×Bool)} (P:σ→Prop) (hp:∀ s,P s→∃ q,f s=some q∧P q.1) {s:σ} {o:Option σ} (h:RoundsTo f s o):P s→∃ s',o=some s'∧P s':=by
 induction h with
 |fail e=>intro h;obtain⟨q,hq,_⟩:=hp _ h;rw[e] at hq;cases hq
 |done e=>intro h;obtain⟨q,hq,h1⟩:=hp _ h;rw[e] at hq;injection hq with hq;subst hq;exact⟨_,rfl,h1⟩
 |more e _ ih=>intro h;obtain⟨q,hq,h1⟩:=hp _ h;rw[e] at hq;injection hq with hq;subst hq;exact ih h1
theorem FirstTo.few {rs:RuleL} {n:Nat} {k:Int} (hk:k≤4) (hw:WellG rs n) (hr:FewR rs) {o:Option Sets} (h:FirstTo k rs n o):∃ s,o=some s∧FewS s∧s.length=n :=
 RoundsTo.never (fun s=>FewS s∧s.length=n) (fun s ⟨h1,h2⟩=>roundW_few hk rs (s,false) (fun r hm x hx=>⟨hr r.1 r.2 hm x hx,(hw r.1 r.2 hm).2.2 x hx⟩) h1 h2) h ⟨FewS.replicate n,by simp⟩
theorem behindW_few {k:Int} (hk:k≤4) {sets fol:Sets} (hs:FewS sets) (hf:FewS fol) {r:Int×List Int} {at_:Int} (h1:-1≤at_) (h2:at_<r.2.length) (h3:0≤r.1∧r.1<fol.length) (h4:∀ x∈r.2,-3≤x∧x<sets.length):∃ o,behindW sets fol k r at_=some o∧∀ w∈o,FewW w:=by
 unfold behindW
 rw[if_neg (by omega)]
 obtain⟨x,hx,hxf⟩:=ofW_few hk hs (syms:=r.2.drop (at_+1).toNat) (fun s h=>h4 s (List.mem_of_mem_drop h))
 rw[hx,Option.bind_some]
 exact catW_few hk hxf (hf.getD _)
theorem spreadW_few {k:Int} (hk:k≤4) {sets:Sets} (hs:FewS sets) {r:Int×List Int} {n at_:Nat} {p:FolS} (hf:FewS p.fol) (hl:p.fol.length=n) (h2:at_<r.2.length) (h3:0≤r.1∧r.1<n) (h4:∀ x∈r.2,-3≤x∧x<sets.length) :
  FewS (spreadW sets k r at_ p).fol∧(spreadW sets k r at_ p).fol.length=n∧(spreadW sets k r at_ p).limit=p.limit:=by
 obtain⟨x,hx,hxf⟩:=behindW_few hk hs hf (r:=r) (at_:=at_) (by omega) (by omega) (by rw[hl];exact h3) h4
 unfold spreadW
 rw[hx]
 simp only
 split
 ·exact⟨hf,hl,rfl⟩
 ·obtain⟨u1,u2⟩:=union_few (hf.getD (r.2.getD at_ 0).toNat) hxf
  exact⟨hf.set _ u1,by simpa using hl,by rw[show decide (4096<(unionW (p.fol.getD (r.2.getD at_ 0).toNat []) x).length)=false from decide_eq_false (by omega),Bool.or_false]⟩
theorem spreadsW_few {k:Int} (hk:k≤4) {sets:Sets} (hs:FewS sets) {r:Int×List Int} {n:Nat} (h3:0≤r.1∧r.1<n) (h4:∀ x∈r.2,-3≤x∧x<sets.length):∀ (m at_:Nat) (p:FolS),FewS p.fol→p.fol.length=n→at_+m≤r.2.length →
  FewS (spreadsW sets k r m at_ p).fol∧(spreadsW sets k r m at_ p).fol.length=n∧(spreadsW sets k r m at_ p).limit=p.limit
 |0,_,p,hf,hl,_=>⟨hf,hl,rfl⟩
 |m+1,at_,p,hf,hl,hm=>by
  obtain⟨a1,a2,a3⟩:=spreadW_few hk hs hf hl (r:=r) (at_:=at_) (by omega) h3 h4
  obtain⟨b1,b2,b3⟩:=spreadsW_few hk hs h3 h4 m (at_+1) _ a1 a2 (by omega)
  exact⟨b1,b2,b3.trans a3⟩
theorem spreadAll_few {k:Int} (hk:k≤4) {sets:Sets} (hs:FewS sets) {n:Nat}:∀ (l:RuleL) (p:FolS),(∀ r∈l,(0≤r.1∧r.1<n)∧∀ x∈r.2,-3≤x∧x<sets.length)→FewS p.fol→p.fol.length=n →
  FewS (spreadAll sets k l p).fol∧(spreadAll sets k l p).fol.length=n∧(spreadAll sets k l p).limit=p.limit
 |[],p,_,hf,hl=>⟨hf,hl,rfl⟩
 |r :: l,p,h,hf,hl=>by
  obtain⟨a1,a2,a3⟩:=spreadsW_few hk hs (h r (by simp)).1 (h r (by simp)).2 r.2.length 0 p hf hl (by omega)
  obtain⟨b1,b2,b3⟩:=spreadAll_few hk hs l _ (fun r hr=>h r (by simp[hr])) a1 a2
  exact⟨b1,b2,b3.trans a3⟩
theorem FollowTo.few {rs:RuleL} {n:Nat} {k:Int} (hk:k≤4) (hw:WellG rs n) (hr:FewR rs) {sets:Sets} (hs:FewS sets) (hsl:sets.length=n) {o:Option Sets} (h:FollowTo sets k rs n o):∃ s,o=some s∧FewS s∧s.length=n :=
 RoundsTo.never (fun s=>FewS s∧s.length=n) (fun s ⟨h1,h2⟩=>by
  obtain⟨a1,a2,a3⟩:=spreadAll_few hk hs rs ⟨s,false,false⟩ (fun r hm=>⟨⟨(hw r.1 r.2 hm).1,(hw r.1 r.2 hm).2.1⟩,fun x hx=>⟨hr r.1 r.2 hm x hx,by rw[hsl];exact (hw r.1 r.2 hm).2.2 x hx⟩⟩) h1 h2
  exact⟨_,by unfold folRound;simp only[a3];rfl,a1,a2⟩) h ⟨(FewS.replicate n).set 0 few_nil,by simp⟩
theorem aheadW_few {k:Int} (hk:k≤4) {sets fol:Sets} (hs:FewS sets) (hf:FewS fol):∀ (l:RuleL),(∀ r∈l,(0≤r.1∧r.1<fol.length)∧∀ x∈r.2,-3≤x∧x<sets.length)→∃ o,aheadW sets fol k l=some o
 |[],_=>⟨[],rfl⟩
 |r :: l,h=>by
  obtain⟨x,hx,_⟩:=behindW_few hk hs hf (r:=r) (at_:=-1) (by omega) (by omega) (h r (by simp)).1 (h r (by simp)).2
  obtain⟨o,ho⟩:=aheadW_few hk hs hf l (fun r hr=>h r (by simp[hr]))
  exact⟨x :: o,by simp only[aheadW,hx,Option.bind_some,ho,Option.map_some]⟩
end Go.Proofs.YtfpihflepeiagaaGreatDoor
namespace Go.Proofs.YtfpihflepeiagaaGreatDoor

def prodStep (P:List Bool) (r:Int×List Int):List Bool:=if r.2.all (fun s=>decide (s<0)||P.getD s.toNat false) then P.set r.1.toNat true else P
def roundsOf {σ:Type} (f:σ→Int×List Int→σ) (rs:RuleL):Nat→σ→σ
 |0,s=>s
 |n+1,s=>roundsOf f rs n (rs.foldl f s)
def productive (rs:RuleL) (n:Nat):List Bool:=roundsOf prodStep rs (n+1) (List.replicate n false)
def reachSym (R:List Bool) (left:Int) (s:Int):List Bool:=if R.getD left.toNat false&&decide (0≤s) then R.set s.toNat true else R
def reachStep (R:List Bool) (r:Int×List Int):List Bool:=r.2.foldl (fun R s=>reachSym R r.1 s) R
def reached (rs:RuleL) (n:Nat):List Bool:=roundsOf reachStep rs (n+1) ((List.replicate n false).set 0 true)
def usedT (rs:RuleL) (t:Nat):Bool:=rs.any fun r=>r.2.any fun s=>decide (s=-1 - (t:Int))
def wellE (n m:Nat) (rs:RuleL):Int:=if (productive rs n).all id then (if (reached rs n).all id&&(List.range m).all (usedT rs) then 0 else 17) else 18
theorem roundsOf_inv {σ:Type} {f:σ→Int×List Int→σ} {rs:RuleL} (I:σ→Prop) (h:∀ s r,r∈rs→I s→I (f s r)):∀ (n:Nat) (s:σ),I s→I (roundsOf f rs n s)
 |0,_,hs=>hs
 |n+1,s,hs=>roundsOf_inv I h n _ (by
  have:∀ (l:RuleL) (s:σ),(∀ r∈l,r∈rs)→I s→I (l.foldl f s):=by
   intro l
   induction l with
   |nil=>intro s _ hs;exact hs
   |cons r l ih=>intro s hl hs;exact ih _ (fun r hr=>hl r (by simp[hr])) (h _ _ (hl r (by simp)) hs)
  exact this rs s (fun _ h=>h) hs)
theorem set_true_get {P:List Bool} {i j:Nat} (h:(P.set i true)[j]? = some true):(j=i)∨P[j]? = some true:=by
 rw[List.getElem?_set] at h
 split at h
 ·rename_i e;exact .inl e.symm
 ·exact .inr h
def Makes (rs:RuleL) (a:Int):Prop:=∃ r u,(a,r)∈rs∧Der rs r u
theorem der_of_makes {rs:RuleL}:∀ (l:List Int),(∀ s∈l,s<0∨Makes rs s)→(∀ a r,(a,r)∈rs→0≤a)→∃ u,Der rs l u
 |[],_,_=>⟨[],.nil⟩
 |s :: l,h,hw=>by
  obtain⟨v,hv⟩:=der_of_makes l (fun s hs=>h s (by simp[hs])) hw
  rcases h s (by simp) with hs | ⟨r,u,hr,hu⟩
  ·exact⟨_,.term hs hv⟩
  ·exact⟨_,.nont (hw s r hr) hr hu hv⟩
structure ProdInv (rs:RuleL) (n:Nat) (P:List Bool):Prop where
 len:P.length=n
 sound:∀ a:Nat,P[a]? = some true→Makes rs a
theorem prodStep_inv {rs:RuleL} {n:Nat} (hw:WellG rs n) {P:List Bool} {r:Int×List Int} (hr:r∈rs) (h:ProdInv rs n P):ProdInv rs n (prodStep P r):=by
 unfold prodStep
 split
 ·rename_i hall
  refine⟨by rw[List.length_set];exact h.len,fun a ha=>?_⟩
  rcases set_true_get ha with rfl | ha
  ·rw[Int.toNat_of_nonneg (hw r.1 r.2 hr).1]
   obtain⟨u,hu⟩:=der_of_makes (rs:=rs) r.2 (fun s hs=>by
    have:=List.all_eq_true.1 hall s hs
    simp only[Bool.or_eq_true,decide_eq_true_eq] at this
    rcases this with h1 | h1
    ·exact .inl h1
    ·rcases Int.lt_or_le s 0 with h0 | h0
     ·exact .inl h0
     ·right
      rw[List.getD_eq_getElem?_getD] at h1
      cases e:P[s.toNat]? with
      |none=>rw[e] at h1;cases h1
      |some b =>
       rw[e] at h1
       simp only[Option.getD_some] at h1
       subst h1
       have:=h.sound _ e
       rwa [Int.toNat_of_nonneg h0] at this) (fun a r h=>(hw a r h).1)
   exact⟨r.2,u,hr,hu⟩
  ·exact h.sound a ha
 ·exact h
theorem productive_inv {rs:RuleL} {n:Nat} (hw:WellG rs n):ProdInv rs n (productive rs n) :=
 roundsOf_inv (ProdInv rs n) (fun _ _ hr h=>prodStep_inv hw hr h) _ _ ⟨by simp,fun a ha=>by
  rw[List.getElem?_replicate] at ha
  split at ha
  ·cases ha
  ·cases ha⟩
def Stands (rs:RuleL) (a:Int):Prop:=∃ v,Fol rs a v
structure ReachInv (rs:RuleL) (n:Nat) (R:List Bool):Prop where
 len:R.length=n
 sound:∀ a:Nat,R[a]? = some true→Stands rs a
theorem reachStep_inv {rs:RuleL} {n:Nat} (hw:WellG rs n) (hp:∀ a,0≤a→a<(n:Int)→Makes rs a) {R:List Bool} {r:Int×List Int} (hr:r∈rs) (h:ReachInv rs n R):ReachInv rs n (reachStep R r):=by
 unfold reachStep
 have:∀ (l2 l1:List Int) (R:List Bool),r.2=l1++l2→ReachInv rs n R→ReachInv rs n (l2.foldl (fun R s=>reachSym R r.1 s) R):=by
  intro l2
  induction l2 with
  |nil=>intro l1 R _ h;exact h
  |cons s l2 ih =>
   intro l1 R e h
   refine ih (l1++[s]) _ (by simp[e]) ?_
   show ReachInv rs n (reachSym R r.1 s)
   unfold reachSym
   split
   ·rename_i hc
    simp only[Bool.and_eq_true,decide_eq_true_eq] at hc
    refine⟨by rw[List.length_set];exact h.len,fun a ha=>?_⟩
    rcases set_true_get ha with rfl | ha
    ·obtain⟨u,hu⟩:=der_of_makes (rs:=rs) l2 (fun x hx=>by
      rcases Int.lt_or_le x 0 with h0 | h0
      ·exact .inl h0
      ·exact .inr (hp x h0 ((hw r.1 r.2 hr).2.2 x (by rw[e];simp[hx])))) (fun a r h=>(hw a r h).1)
     have h1:=hc.1
     rw[List.getD_eq_getElem?_getD] at h1
     cases e2:R[r.1.toNat]? with
     |none=>rw[e2] at h1;cases h1
     |some b =>
      rw[e2] at h1
      simp only[Option.getD_some] at h1
      subst h1
      obtain⟨v,hv⟩:=h.sound _ e2
      rw[Int.toNat_of_nonneg (hw r.1 r.2 hr).1] at hv
      rw[Int.toNat_of_nonneg hc.2]
      exact⟨_,.step (a:=r.1) (r:=r.2) hr e hc.2 hu hv⟩
    ·exact h.sound a ha
   ·exact h
 exact this r.2 [] R rfl h
theorem reached_inv {rs:RuleL} {n:Nat} (hw:WellG rs n) (hp:∀ a,0≤a→a<(n:Int)→Makes rs a):ReachInv rs n (reached rs n) :=
 roundsOf_inv (ReachInv rs n) (fun _ _ hr h=>reachStep_inv hw hp hr h) _ _ ⟨by simp,fun a ha=>by
  rcases set_true_get ha with rfl | ha
  ·exact⟨[],.start⟩
  ·rw[List.getElem?_replicate] at ha
   split at ha <;> cases ha⟩
theorem all_get {P:List Bool} (h:P.all id=true) {a:Nat} (ha:a<P.length):P[a]? = some true:=by
 rw[List.getElem?_eq_getElem ha]
 exact congrArg some (List.all_eq_true.1 h _ (List.getElem_mem ha))
theorem wellE_ok {n m:Nat} {rs:RuleL} (hw:WellG rs n) (h:wellE n m rs=0):∀ a,0≤a→a<(n:Int)→Makes rs a∧Stands rs a:=by
 unfold wellE at h
 split at h
 ·rename_i h1
  split at h
  ·rename_i h2
   have hp:∀ a,0≤a→a<(n:Int)→Makes rs a:=by
    intro a h0 hn
    have:=(productive_inv hw).sound a.toNat (all_get h1 (by rw[(productive_inv hw).len];omega))
    rwa [Int.toNat_of_nonneg h0] at this
   intro a h0 hn
   refine⟨hp a h0 hn,?_⟩
   have h3:=(Bool.and_eq_true _ _ ▸ h2).1
   have:=(reached_inv hw hp).sound a.toNat (all_get h3 (by rw[(reached_inv hw hp).len];omega))
   rwa [Int.toNat_of_nonneg h0] at this
  ·cases h
 ·cases h
end Go.Proofs.YtfpihflepeiagaaGreatDoor
namespace Go.Proofs.YtfpihflepeiagaaGreatDoor
open Go.RowKit

def Away (w w':World) (B:Nat) (r:Option Nat):Prop:=∀ p:Addr,p.block<B→some p.block≠r→w'.cell? p=w.cell? p
theorem Away.refl (w:World) (B:Nat) (r:Option Nat):Away w w B r:=fun _ _ _=>rfl
def OwnL {α:Type} (E:Elt α) (w:World) (base:Nat) (t:TypeId) (v:Value) (xs:List α):Prop :=
 ∃ css:List (List Value),w.ownsRow base t E.size v xs.length css.flatten∧css.length=xs.length∧∀ (i:Nat) (cs:List Value) (x:α),css[i]? = some cs→xs[i]? = some x→∀ w',Away w w' w.heap.size v.ownBlock→E.rep w' w.heap.size cs x
section
variable {α:Type} {E:Elt α} {w w' w1:World} {base:Nat} {t:TypeId} {v v1:Value} {xs:List α}
theorem OwnL.nil (w:World) (base:Nat) (t:TypeId):OwnL E w base t (.slice none 0 0) []:=⟨[],World.ownsRow_nil _ _ _ _,rfl,fun i cs x h=>by simp at h⟩
theorem OwnL.form (h:OwnL E w base t v xs):∃ A c,v=.slice A xs.length c∧xs.length≤c∧c≤maxLen:=by
 obtain⟨css,h1,_⟩:=h
 exact own_form h1
theorem OwnL.sl (h:OwnL E w base t v xs):SlR E w w.heap.size v xs:=by
 obtain⟨css,h1,h2,h3⟩:=h
 obtain⟨A,c,rfl,ha,hb⟩:=own_form h1
 exact⟨A,c,css,rfl,ha,hb,h2,Rd.of_own h1,fun i cs x hc hx=>h3 i cs x hc hx w (Away.refl _ _ _)⟩
theorem OwnL.later (h:OwnL E w base t v xs) (hb:Below w.heap.size w w1):OwnL E w1 base t v xs:=by
 obtain⟨css,h1,h2,h3⟩:=h
 refine⟨css,own_below h1 hb,h2,fun i cs x hc hx w' ha=>E.more (h3 i cs x hc hx w' fun p hp hn=>?_) hb.size⟩
 rw[ha p (Nat.lt_of_lt_of_le hp hb.size) hn,hb.cell hp]
theorem OwnL.snoc {css:List (List Value)} {cs:List Value} {x:α} (h2:css.length=xs.length) (h3:∀ (i:Nat) (cs:List Value) (x:α),css[i]? = some cs→xs[i]? = some x→∀ w',Away w w' w.heap.size v.ownBlock→E.rep w' w.heap.size cs x)
  (hx:∀ w',Away w w' w.heap.size v.ownBlock→E.rep w' w.heap.size cs x) (ho:w1.ownsRow base t E.size v1 (xs.length+1) (css.flatten++cs)) (hg:w.grownBy w1 v.ownBlock) (hv:v1.ownBlock=v.ownBlock∨v1.ownBlock=some w.heap.size) :
  OwnL E w1 base t v1 (xs++[x]):=by
 have key:∀ w',Away w1 w' w1.heap.size v1.ownBlock→Away w w' w.heap.size v.ownBlock:=fun w' ha p hp hn=>by
  rw[ha p (Nat.lt_of_lt_of_le hp hg.size) ?_]
  ·have hb:=hg.block p.block hp hn
   exact World.cell?_of_block (w:=w) hb
  ·rcases hv with e | e
   ·rw[e];exact hn
   ·rw[e]
    intro e2
    injection e2 with e2
    omega
 refine⟨css++[cs],?_,by simp[h2],fun i cs' x' hc hx' w' ha=>?_⟩
 ·rw[List.flatten_append,List.length_append]
  simpa using ho
 ·by_cases hi:i<xs.length
  ·rw[List.getElem?_append_left (by omega)] at hc hx'
   exact E.more (h3 i cs' x' hc hx' w' (key w' ha)) hg.size
  ·have hil:i=xs.length:=by
    have h4:=(List.getElem?_eq_some_iff.1 hx').1
    rw[List.length_append,List.length_singleton] at h4
    omega
   subst hil
   rw[←h2,List.getElem?_append_right (Nat.le_refl _),Nat.sub_self] at hc
   rw[List.getElem?_append_right (Nat.le_refl _),Nat.sub_self] at hx'
   injection hc with hc
   injection hx' with hx'
   subst hc hx'
   exact E.more (hx w' (key w' ha)) hg.size
end
theorem own_not2 {w:World} {base:Nat} {e e':TypeId} {size n:Nat} {v:Value} {xs:List Value} {g:Nat} {cs:Array Value} {fr:Nat×Nat} (h:w.ownsRow base e size v n xs) (hg:w.heap[g]? = some (.cells cs e' fr)) (hne:e'≠e):v.ownBlock≠some g:=by
 rcases h.2 with ⟨rfl,_⟩ | ⟨g',cap,cur,rfl,_,hh,_⟩
 ·simp[Value.ownBlock]
 ·intro he
  have:g'=g:=by simpa[Value.ownBlock] using he
  subst this
  rw[hg] at hh
  injection hh with hh
  injection hh with _ h2
  exact hne h2
theorem own_some2 {w:World} {base:Nat} {e:TypeId} {size:Nat} {v:Value} {n:Nat} {xs:List Value} (h:w.ownsRow base e size v n xs) (hn:0<n):∃ g cap,v=.slice (some ⟨g,0,none⟩) n cap:=by
 rcases h.2 with ⟨_,h0⟩ | ⟨g,cap,cur,hv,_⟩
 ·omega
 ·exact⟨g,cap,hv⟩
end Go.Proofs.YtfpihflepeiagaaGreatDoor
namespace Go.Proofs.YtfpihflepeiagaaGreatDoor
open Go.RowKit

theorem bytesRow_take (s:ByteArray) (c:Nat):∀ (j:Nat) (u:Value),(bcells s.data.toList)[j]? = some u→(bytesRow s c)[j]? = some u:=by
 intro j u hu
 have hj:j<s.data.size:=by
  have:=(List.getElem?_eq_some_iff.1 hu).1
  rw[bcells_length] at this
  simpa using this
 rw[bytesRow_at s c j hj]
 unfold bcells at hu
 rw[List.getElem?_map,List.getElem?_eq_getElem (by simpa using hj)] at hu
 simpa[bcell] using hu
theorem conv_own {P:Program} (w:World) (src dst e:TypeId) (s:ByteArray) (hs:P.underlying src=some .string) (hd:P.underlying dst=some (.slice e)) (he:P.underlying e=some (.int .u8)) :
  ∃ w' c,(convert src dst (.string s)).run P w=.ok (.slice (some ⟨w.heap.size,0,none⟩) s.size c) w'∧Below w.heap.size w w'∧w'.heap.size=w.heap.size+1∧Rd w' (w.heap.size+1) (some ⟨w.heap.size,0,none⟩) (bcells s.data.toList):=by
 refine⟨_,_,run_bytes_of_string w src dst e s hs hd he,((Below.refl _ _).drew).alloc (Nat.le_refl _) _,by simp,?_⟩
 have hcell:=Rd.row (w:=w.drew.alloc (.cells (bytesRow s (grownCap w s.size 0 e)) e ((bytesRow s (grownCap w s.size 0 e)).size,(bytesRow s (grownCap w s.size 0 e)).size+1))) (B:=w.heap.size+1) (g:=w.heap.size) (heap_alloc_new w.drew _) (Nat.lt_succ_self _)
 intro hne
 obtain⟨b,off,e1,hb,hc⟩:=hcell (by
  intro e1
  cases hl:bcells s.data.toList with
  |nil=>exact hne hl
  |cons u r =>
   have:=bytesRow_take s (grownCap w s.size 0 e) 0 u (by rw[hl];rfl)
   rw[←Array.getElem?_toList,e1] at this
   cases this)
 refine⟨b,off,e1,hb,fun j u hu=>hc j u ?_⟩
 rw[Array.getElem?_toList]
 exact bytesRow_take s _ j u hu
theorem Rd.fut {w w':World} {B B' N:Nat} {A:Option Addr} {xs:List Value} (h:Rd w B A xs) (hb:Below N w w') (h1:B≤N) (h2:B≤B'):Rd w' B' A xs:=(h.below (hb.mono h1)).more h2
end Go.Proofs.YtfpihflepeiagaaGreatDoor
