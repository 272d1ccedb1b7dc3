/- Texts of this proof joined: TabW2, Rf20a, Rf20b. -/
import Derived.Test.YtfpihflepeiagaaGreatDoorLN10
import Derived.Test.YtfpihflepeiagaaGreatDoorLN08
import Derived.Test.YtfpihflepeiagaaGreatDoorLN04
import Derived.Deep.LoopGhost
namespace Go.Proofs.YtfpihflepeiagaaGreatDoor

theorem putO_sound {rs:RuleL} {w:Wd} {k:Int} {O:Nat→Nat→Bool} (ho:SoundW rs w k O) {a p:Nat} (hp:p≤w.length) (h:∃ v,Fol rs (a:Int) v∧Mt w k (w.drop p) v):SoundW rs w k (putO O a p):=by
 intro a' p' he
 simp only[putO,Bool.or_eq_true,Bool.and_eq_true,decide_eq_true_eq] at he
 rcases he with he | ⟨rfl,rfl⟩
 ·exact ho a' p' he
 ·exact⟨hp,h⟩
theorem folS_sound {rs:RuleL} {n:Nat} {w:Wd} {T:TabD} {k:Int} (hw:WellG rs n) (h:SoundT rs w T) (hm:∀ a,0≤a→a<(n:Int)→Makes rs a∧Stands rs a) {r:Int×List Int} (hr:r∈rs) {s:Nat} (hs:s<r.2.length) {o:(Nat→Nat→Bool)×Bool} (ho:SoundW rs w k o.1):SoundW rs w k (folS w T k r o s).1:=by
 unfold folS
 split
 ·exact ho
 ·rename_i hpos
  refine foldl_inv (fun o:(Nat→Nat→Bool)×Bool=>SoundW rs w k o.1) _ _ (fun o p hp ho=>?_) ho
  have hp:p≤w.length:=by have:=List.mem_range.1 hp;omega
  unfold folP
  split
  ·rename_i hc
   have hl:=hw r.1 r.2 hr
   have hleft:((r.1.toNat:Nat):Int)=r.1:=Int.toNat_of_nonneg hl.1
   obtain⟨u,v,hu,hv,hmt⟩:=behindL_sound h (fun a r h=>(hw a r h).1) ho hp (right:=r.2.drop (s+1)) (fun x hx=>by
    rcases Int.lt_or_le x 0 with h0 | h0
    ·exact .inl h0
    ·exact .inr (hm x h0 (hl.2.2 x (List.mem_of_mem_drop hx))).1) (by rw[hleft];exact (hm r.1 hl.1 hl.2.1).2) hc.2
   refine putO_sound ho hp ⟨u++v,?_,hmt⟩
   rw[Int.toNat_of_nonneg (by omega)]
   rw[hleft] at hv
   exact .step (a:=r.1) (r:=r.2) hr (drop_place hs) (by omega) hu hv
  ·exact ho
def ClosedO (w:Wd) (T:TabD) (k:Int) (r:Int×List Int) (O:Nat→Nat→Bool) (s:Nat):Prop:=0≤r.2.getD s 0→∀ p,p≤w.length→behindL w T k (r.2.drop (s+1)) (O r.1.toNat) p=true→O (r.2.getD s 0).toNat p=true
theorem folP_still {w:Wd} {T:TabD} {k:Int} {a:Nat} {left:Int} {right:List Int} {o:(Nat→Nat→Bool)×Bool} {p:Nat} (h:(folP w T k a left right o p).2=false):o.2=false∧(folP w T k a left right o p).1=o.1∧(behindL w T k right (o.1 left.toNat) p=true→o.1 a p=true):=by
 unfold folP at h ⊢
 split at h
 ·cases h
 ·rename_i hc
  rw[if_neg hc]
  refine⟨h,rfl,fun hb=>?_⟩
  cases hO:o.1 a p with
  |true=>rfl
  |false=>exact absurd ⟨hO,hb⟩ hc
theorem folS_still {w:Wd} {T:TabD} {k:Int} {r:Int×List Int} {o:(Nat→Nat→Bool)×Bool} {s:Nat} (h:(folS w T k r o s).2=false):o.2=false∧(folS w T k r o s).1=o.1∧ClosedO w T k r o.1 s:=by
 unfold folS at h ⊢
 split at h
 ·rename_i hneg
  rw[if_pos hneg]
  exact⟨h,rfl,fun h0=>absurd hneg (by omega)⟩
 ·rename_i hpos
  rw[if_neg hpos]
  obtain⟨g1,g2,g3⟩:=fold_still (fun O p=>behindL w T k (r.2.drop (s+1)) (O r.1.toNat) p=true→O (r.2.getD s 0).toNat p=true) (f:=folP w T k (r.2.getD s 0).toNat r.1 (r.2.drop (s+1))) (fun t x h=>(folP_still h).1) (fun t x h=>(folP_still h).2) (List.range (w.length+1)) o h
  exact⟨g1,g2,fun _ p hp=>g3 p (List.mem_range.2 (by omega))⟩
theorem foldl_ge {β:Type} {f:(Nat→Nat→Bool)×Bool→β→(Nat→Nat→Bool)×Bool} (hf:∀ o x a p,o.1 a p=true→(f o x).1 a p=true):∀ (l:List β) (o:(Nat→Nat→Bool)×Bool) (a p:Nat),o.1 a p=true→(l.foldl f o).1 a p=true
 |[],_,_,_,h=>h
 |x :: l,o,a,p,h=>foldl_ge hf l (f o x) a p (hf o x a p h)
theorem folP_ge {w:Wd} {T:TabD} {k:Int} {a:Nat} {left:Int} {right:List Int} (o:(Nat→Nat→Bool)×Bool) (x a' p':Nat) (h:o.1 a' p'=true):(folP w T k a left right o x).1 a' p'=true:=by
 unfold folP
 split
 ·simp only[putO,h,Bool.true_or]
 ·exact h
theorem folS_ge {w:Wd} {T:TabD} {k:Int} {r:Int×List Int} (o:(Nat→Nat→Bool)×Bool) (x a' p':Nat) (h:o.1 a' p'=true):(folS w T k r o x).1 a' p'=true:=by
 unfold folS
 split
 ·exact h
 ·exact foldl_ge folP_ge _ _ _ _ h
theorem FolTo.full {rs:RuleL} {n:Nat} {w:Wd} {T:TabD} {k:Int} (hn:0<n) (hw:WellG rs n) (hS:WellS rs) (h:SoundT rs w T) (hc:ClosedT rs w T) (hm:∀ a,0≤a→a<(n:Int)→Makes rs a∧Stands rs a) {O:Nat→Nat→Bool} (hO:FolTo w T k rs n O) :
  SoundW rs w k O∧∀ b v,Fol rs b v→∀ p,p≤w.length→Mt w k (w.drop p) v→O b.toNat p=true:=by
 obtain⟨⟨h1,h1'⟩,t,⟨_,ht0⟩,h3⟩:=RoundsTo.inv (fun O=>SoundW rs w k O∧O 0 w.length=true) (fun s s' g hi e=>by
  unfold passO at e
  injection e with e
  have a1:=foldl_inv (fun o:(Nat→Nat→Bool)×Bool=>SoundW rs w k o.1) (f:=folR w T k) rs (s,false) (fun o r hr ho=>foldl_inv (fun o:(Nat→Nat→Bool)×Bool=>SoundW rs w k o.1) _ _ (fun o s hs ho=>folS_sound hw h hm hr (List.mem_range.1 hs) ho) ho) hi.1
  have a2:=foldl_ge (f:=folR w T k) (fun o r a p h=>foldl_ge folS_ge _ _ _ _ h) rs (s,false) 0 w.length hi.2
  rw[e] at a1 a2
  exact⟨a1,a2⟩) hO ⟨fun a p he=>by
   simp only[folStart,Bool.and_eq_true,Bool.or_eq_true,decide_eq_true_eq] at he
   obtain⟨⟨ha,rfl⟩,hk⟩:=he
   refine⟨Nat.le_refl _,?_⟩
   rcases hk with hk | rfl
   ·obtain⟨v,hv⟩:=(hm (a:Int) (by omega) (by omega)).2
    exact⟨v,hv,by unfold Mt;rw[if_pos hk];simp⟩
   ·exact⟨[],.start,by unfold Mt;split <;> simp⟩,by simp[folStart,hn]⟩ O rfl
 refine⟨h1,?_⟩
 unfold passO at h3
 injection h3 with h3
 obtain⟨_,g2,g3⟩:=fold_still (fun O r=>∀ s,s<r.2.length→ClosedO w T k r O s) (f:=folR w T k) (fun o r h=>(fold_still (ClosedO w T k r) (f:=folS w T k r) (fun t x h=>(folS_still h).1) (fun t x h=>(folS_still h).2) _ o h).1)
  (fun o r h=>by
   obtain⟨_,b2,b3⟩:=fold_still (ClosedO w T k r) (f:=folS w T k r) (fun t x h=>(folS_still h).1) (fun t x h=>(folS_still h).2) (List.range r.2.length) o h
   exact⟨b2,fun s hs=>b3 s (List.mem_range.2 hs)⟩) rs (t,false) (by rw[h3])
 rw[h3] at g2
 simp only at g2 g3
 subst g2
 intro b v hf
 induction hf with
 |start =>
  intro p hp hmt
  have:p=w.length:=by
   unfold Mt at hmt
   split at hmt
   ·have:=hmt.length_le
    simp at this
    omega
   ·have:=congrArg List.length hmt
    simp at this
    omega
  subst this
  exact h1'
 |@step a r l1 b l2 u v hr e hb hd hf ih =>
  intro p hp hmt
  subst e
  have hat:(l1++b :: l2).getD l1.length 0=b:=by simp[List.getD_eq_getElem?_getD]
  have hdrop:(l1++b :: l2).drop (l1.length+1)=l2:=by simp
  have:=g3 (a,l1++b :: l2) hr l1.length (by simp)
  unfold ClosedO at this
  simp only[hat,hdrop] at this
  refine this hb p hp (behindL_full hc hS (fun s hs=>hS a _ hr s (by simp[hs])) hp hd ?_ hmt)
  exact ih
theorem aheadB_iff {rs:RuleL} {n:Nat} {w:Wd} {T:TabD} {k:Nat} (hn:0<n) (hw:WellG rs n) (hS:WellS rs) (hm:∀ a,0≤a→a<(n:Int)→Makes rs a∧Stands rs a) (hT:TabTo w rs n T) {O:Nat→Nat→Bool} (hO:FolTo w T k rs n O) {r:Int×List Int} (hr:r∈rs) :
  aheadB w T k O r=true↔AheadD rs k r w:=by
 obtain⟨h,hc⟩:=hT.full hw (fun a h0 h1=>(hm a h0 h1).1)
 obtain⟨h1,h2⟩:=hO.full hn hw hS h hc hm
 have hl:=hw r.1 r.2 hr
 have hleft:((r.1.toNat:Nat):Int)=r.1:=Int.toNat_of_nonneg hl.1
 have key:(w.length≤k)→∀ v:Wd,Mt w (k:Int) w v↔w=v.take k:=by
  intro hk v
  unfold Mt
  split
  ·rename_i e
   have e:w.length=k:=by omega
   rw[List.prefix_iff_eq_take,e]
  ·rename_i e
   constructor
   ·intro h;rw[←h,List.take_of_length_le hk]
   ·intro h
    have:=congrArg List.length h
    rw[List.length_take] at this
    rw[List.take_of_length_le (by omega)] at h
    exact h
 unfold aheadB AheadD
 rw[Bool.and_eq_true,decide_eq_true_eq]
 constructor
 ·rintro⟨hk,hb⟩
  obtain⟨u,v,hu,hv,hmt⟩:=behindL_sound h (fun a r h=>(hw a r h).1) h1 (Nat.zero_le _) (fun x hx=>by
   rcases Int.lt_or_le x 0 with h0 | h0
   ·exact .inl h0
   ·exact .inr (hm x h0 (hl.2.2 x hx)).1) (by rw[hleft];exact (hm r.1 hl.1 hl.2.1).2) hb
  rw[hleft] at hv
  exact⟨u,v,hu,hv,(key (by omega) _).1 (by simpa using hmt)⟩
 ·rintro⟨u,v,hu,hv,e⟩
  have hk:w.length≤k:=by rw[e,List.length_take];omega
  refine⟨by omega,behindL_full hc hS (fun s hs=>hS r.1 r.2 hr s hs) (Nat.zero_le _) hu (fun q hq hmt=>h2 r.1 v hv q hq hmt) ?_⟩
  simpa using (key hk _).2 e
end Go.Proofs.YtfpihflepeiagaaGreatDoor
namespace Go.Proofs.YtfpihflepeiagaaGreatDoor
open Go.RowKit

def bl (L:Nat) (f:Nat→Bool):List Bool:=(List.range (L+1)).map f
theorem bl_len (L:Nat) (f:Nat→Bool):(bl L f).length=L+1:=by simp[bl]
theorem bl_get {L:Nat} {f:Nat→Bool} {k:Nat} (h:k≤L):(bl L f)[k]? = some (f k):=by
 unfold bl
 rw[List.getElem?_map,List.getElem?_range (by omega)]
 rfl
theorem bl_at {L:Nat} {f:Nat→Bool} {k:Nat} (h:k≤L) (hk:k<(bl L f).length):(bl L f)[k]=f k:=by
 have:=bl_get (f:=f) h
 rw[List.getElem?_eq_getElem hk] at this
 injection this
theorem bl_ext {L:Nat} {f g:Nat→Bool} (h:∀ k,k≤L→f k=g k):bl L f=bl L g:=by
 unfold bl
 apply List.map_congr_left
 intro k hk
 exact h k (by have:=List.mem_range.1 hk;omega)
theorem bl_set {L:Nat} {f:Nat→Bool} {q:Nat}:(bl L f).set q true=bl L (fun x=>f x||decide (x=q)):=by
 apply List.ext_getElem?
 intro i
 rw[List.getElem?_set]
 by_cases hi:i≤L
 ·rw[bl_get hi,bl_get hi]
  split
  ·rename_i e
   subst e
   rw[if_pos (by rw[bl_len];omega)]
   simp
  ·rename_i e
   rw[show decide (i=q)=false by simp;omega,Bool.or_false]
 ·have h1:(bl L f)[i]? = none:=List.getElem?_eq_none (by rw[bl_len];omega)
  have h2:∀ g,(bl L g)[i]? = none:=fun g=>List.getElem?_eq_none (by rw[bl_len];omega)
  rw[h1,h2]
  split
  ·rename_i e
   rw[if_neg (by rw[bl_len];omega)]
  ·rfl
theorem moveTo_bl (w:Wd) (E:Nat→Nat→Nat→Bool) (s:Int) (now:List Bool) (P:Nat):moveTo w E s now P=bl w.length (fun q=>(List.range P).any fun p=>now.getD p false&&leads w E s p q):=rfl
theorem move_step {w:Wd} {E:Nat→Nat→Nat→Bool} {s:Int} {now:List Bool} {P:Nat} (h:now.getD P false=false):moveTo w E s now (P+1)=moveTo w E s now P:=by
 rw[moveTo_bl,moveTo_bl]
 apply bl_ext
 intro q _
 rw[List.range_succ,List.any_append]
 simp only[List.any_cons,List.any_nil,h,Bool.false_and,Bool.or_false]
theorem move_skip {w:Wd} {E:Nat→Nat→Nat→Bool} {s:Int} {now:List Bool} {P:Nat} (hs:s<0) (h:isAt w s P=false):moveTo w E s now (P+1)=moveTo w E s now P:=by
 rw[moveTo_bl,moveTo_bl]
 apply bl_ext
 intro q _
 rw[List.range_succ,List.any_append]
 simp only[List.any_cons,List.any_nil,leads,if_pos hs,h,Bool.false_and,Bool.and_false,Bool.or_false]
theorem move_term {w:Wd} {E:Nat→Nat→Nat→Bool} {s:Int} {now:List Bool} {P:Nat} (hs:s<0) (hn:now.getD P false=true) (h:isAt w s P=true):moveTo w E s now (P+1)=(moveTo w E s now P).set (P+1) true:=by
 rw[moveTo_bl,moveTo_bl,bl_set]
 apply bl_ext
 intro q _
 rw[List.range_succ,List.any_append]
 simp only[List.any_cons,List.any_nil,Bool.or_false]
 rw[hn]
 unfold leads
 rw[if_pos hs,h]
 simp
def moveQ (w:Wd) (E:Nat→Nat→Nat→Bool) (s:Int) (now:List Bool) (P m:Nat):List Bool:=bl w.length fun q=>((List.range P).any fun p=>now.getD p false&&leads w E s p q)||(decide (P≤q)&&decide (q<m)&&E s.toNat P q)
theorem moveQ_zero {w:Wd} {E:Nat→Nat→Nat→Bool} {s:Int} {now:List Bool} {P:Nat}:moveQ w E s now P P=moveTo w E s now P:=by
 rw[moveTo_bl]
 apply bl_ext
 intro q _
 rw[show (decide (P≤q)&&decide (q<P))=false by rw[Bool.and_eq_false_iff];simp;omega,Bool.false_and,Bool.or_false]
theorem moveQ_no {w:Wd} {E:Nat→Nat→Nat→Bool} {s:Int} {now:List Bool} {P m:Nat} (h:E s.toNat P m=false):moveQ w E s now P (m+1)=moveQ w E s now P m:=by
 apply bl_ext
 intro q _
 congr 1
 by_cases e:q=m
 ·subst e;simp[h]
 ·rw[show decide (q<m+1)=decide (q<m) by rw[decide_eq_decide];omega]
theorem moveQ_yes {w:Wd} {E:Nat→Nat→Nat→Bool} {s:Int} {now:List Bool} {P m:Nat} (hm:P≤m) (h:E s.toNat P m=true):moveQ w E s now P (m+1)=(moveQ w E s now P m).set m true:=by
 unfold moveQ
 rw[bl_set]
 apply bl_ext
 intro q _
 rw[Bool.or_assoc]
 congr 1
 by_cases e:q=m
 ·subst e;simp[h,hm]
 ·rw[show decide (q<m+1)=decide (q<m) by rw[decide_eq_decide];omega,show decide (q=m)=false by simpa using e,Bool.or_false]
theorem moveQ_end {w:Wd} {E:Nat→Nat→Nat→Bool} {s:Int} {now:List Bool} {P:Nat} (hs:¬ s<0) (hn:now.getD P false=true):moveQ w E s now P (w.length+1)=moveTo w E s now (P+1):=by
 rw[moveTo_bl]
 apply bl_ext
 intro q hq
 rw[List.range_succ,List.any_append]
 congr 1
 simp only[List.any_cons,List.any_nil,Bool.or_false]
 rw[hn]
 unfold leads
 rw[if_neg hs,show decide (q<w.length+1)=true by simp;omega]
 simp
section
variable {w:World} {B:Nat} {A:Option Addr} {n c:Nat}
theorem SlR.boolAt {l:List Bool} (h:SlR eBool w B (.slice A n c) l) {k:Nat} (hk:k<l.length):∃ b off,A=some ⟨b,off,none⟩∧n≤c∧b<B∧w.cell? ⟨b,off+k,none⟩=some (.bool l[k]):=by
 obtain⟨b,off,cs,h1,h2,h3,h4,h5⟩:=h.get hk (by decide)
 have h4':cs=[.bool l[k]]:=h4
 subst h4'
 have:=h5 0 _ rfl
 simp only[show eBool.size=1 from rfl,Nat.mul_one,Nat.add_zero] at this
 exact⟨b,off,h1,h2,h3,this⟩
theorem SlR.slAt {α:Type} {E:Elt α} {xs:List (List α)} (h:SlR (eSl E) w B (.slice A n c) xs) {k:Nat} (hk:k<xs.length):∃ b off A2 c2,A=some ⟨b,off,none⟩∧n≤c∧b<B∧w.cell? ⟨b,off+k,none⟩=some (.slice A2 xs[k].length c2)∧xs[k].length≤c2∧c2≤maxLen∧SlR E w B (.slice A2 xs[k].length c2) xs[k]:=by
 obtain⟨b,off,cs,h1,h2,h3,h4,h5⟩:=h.get hk (show 0<(eSl E).size from Nat.one_pos)
 obtain⟨v,rfl,hs⟩:=h4
 obtain⟨A2,c2,rfl,h6,h7⟩:=hs.form
 have:=h5 0 _ rfl
 simp only[show (eSl E).size=1 from rfl,Nat.mul_one,Nat.add_zero] at this
 exact⟨b,off,A2,c2,h1,h2,h3,this,h6,h7,hs⟩
end
abbrev tabV (A1 A2 A3:Option Addr) (n m q c1 c2 c3:Nat) (wd:Wd) (AE:Option Addr) (ce:Nat) (AF:Option Addr) (cf:Nat):Value:=.agg #[.slice A1 n c1,.slice A2 m c2,.slice A3 q c3,wv wd,.slice AE n ce,.slice AF n cf]
def cubeL (n L:Nat) (E:Nat→Nat→Nat→Bool):List (List (List Bool)):=(List.range n).map fun a=>(List.range (L+1)).map fun p=>bl L (E a p)
def sqL (n L:Nat) (F:Nat→Nat→Bool):List (List Bool):=(List.range n).map fun a=>bl L (F a)
structure TabR (w:World) (B:Nat) (AE:Option Addr) (ce:Nat) (AF:Option Addr) (cf n L:Nat) (T:TabD):Prop where
 ex:SlR (eSl (eSl eBool)) w B (.slice AE n ce) (cubeL n L T.E)
 fr:SlR (eSl eBool) w B (.slice AF n cf) (sqL n L T.F)
theorem sq_at {w:World} {B:Nat} {AF:Option Addr} {cf n L:Nat} {F:Nat→Nat→Bool} (h:SlR (eSl eBool) w B (.slice AF n cf) (sqL n L F)) {a p:Nat} (ha:a<n) (hp:p≤L) :
  ∃ b1 o1 b2 o2 c2,AF=some ⟨b1,o1,none⟩∧n≤cf∧L+1≤c2∧w.cell? ⟨b1,o1+a,none⟩=some (.slice (some ⟨b2,o2,none⟩) (L+1) c2)∧w.cell? ⟨b2,o2+p,none⟩=some (.bool (F a p))∧SlR eBool w B (.slice (some ⟨b2,o2,none⟩) (L+1) c2) (bl L (F a)):=by
 have hk:a<(sqL n L F).length:=by simp[sqL];exact ha
 have hxa:(sqL n L F)[a]=bl L (F a):=by simp[sqL]
 obtain⟨b1,o1,A2,c2,h1,h2,_,h3,h4,h5,h6⟩:=h.slAt hk
 rw[hxa] at h3 h4 h6
 rw[bl_len] at h3 h4 h6
 obtain⟨b2,o2,rfl,_,_,h7⟩:=h6.boolAt (k:=p) (by rw[bl_len];omega)
 rw[bl_at hp] at h7
 exact⟨b1,o1,b2,o2,c2,h1,h2,h4,h3,h7,h6⟩
section
variable {w w':World} {B B' N:Nat} {AE AF:Option Addr} {ce cf n L:Nat} {T:TabD}
theorem TabR.fut (h:TabR w B AE ce AF cf n L T) (hb:Below N w w') (h1:B≤N) (h2:B≤B'):TabR w' B' AE ce AF cf n L T:=⟨h.ex.fut hb h1 h2,h.fr.fut hb h1 h2⟩
theorem TabR.at_ (h:TabR w B AE ce AF cf n L T) {a p q:Nat} (ha:a<n) (hp:p≤L) (hq:q≤L) :
  ∃ b1 o1 b2 o2 c2 b3 o3 c3,AE=some ⟨b1,o1,none⟩∧n≤ce∧L+1≤c2∧L+1≤c3∧w.cell? ⟨b1,o1+a,none⟩=some (.slice (some ⟨b2,o2,none⟩) (L+1) c2)∧w.cell? ⟨b2,o2+p,none⟩=some (.slice (some ⟨b3,o3,none⟩) (L+1) c3)∧w.cell? ⟨b3,o3+q,none⟩=some (.bool (T.E a p q)):=by
 have hk:a<(cubeL n L T.E).length:=by simp[cubeL];exact ha
 have hxa:(cubeL n L T.E)[a]=sqL (L+1) L (T.E a):=by simp[cubeL,sqL]
 obtain⟨b1,o1,A2,c2,h1,h2,_,h3,h4,h5,h6⟩:=h.ex.slAt hk
 rw[hxa] at h3 h4 h6
 have hl:(sqL (L+1) L (T.E a)).length=L+1:=by simp[sqL]
 rw[hl] at h3 h4 h6
 obtain⟨b2,o2,b3,o3,c3,rfl,_,h7,h8,h9,_⟩:=sq_at h6 (a:=p) (p:=q) (by omega) hq
 exact⟨b1,o1,b2,o2,c2,b3,o3,c3,h1,h2,h4,h7,h3,h8,h9⟩
end
set_option maxRecDepth 100000 in
set_option maxHeartbeats 16000000 in
theorem move_any {A1 A2 A3 AE AF An:Option Addr} {n m q c1 c2 c3 ce cf cn:Nat} {T:TabD} (wd:Wd) (s:Int) (now:List Bool) (w:World) (hT:TabR w w.heap.size AE ce AF cf n wd.length T) (hnow:SlR eBool w w.heap.size (.slice An (wd.length+1) cn) now) (hs:s<(n:Int)) (hs2:-256≤s) (hL:wd.length≤4096) (_hn:n≤4096) :
  Calls Tryz.prog 73 #[tabV A1 A2 A3 n m q c1 c2 c3 wd AE ce AF cf,.int .i64 s,.slice An (wd.length+1) cn] w (OwnBools w (moveL wd T.E now s)):=by
 have hbx:=(Below.refl w.heap.size w).alloc (Nat.le_refl _) (.cells #[.slice A1 n c1,.slice A2 m c2,.slice A3 q c3,wv wd,.slice AE n ce,.slice AF n cf] 66)
 have HK:=Lib.hid (Go.heap_alloc_new w (.cells #[.slice A1 n c1,.slice A2 m c2,.slice A3 q c3,wv wd,.slice AE n ce,.slice AF n cf] 66))
 have HZ:=Lib.hid (World.size_alloc w (.cells #[.slice A1 n c1,.slice A2 m c2,.slice A3 q c3,wv wd,.slice AE n ce,.slice AF n cf] 66))
 have HBX:=Lib.hid hbx
 have HT:=Lib.hid (hT.fut (B':=w.heap.size+1) hbx (Nat.le_refl _) (by omega))
 have HN:=Lib.hid (hnow.fut (B':=w.heap.size+1) hbx (Nat.le_refl _) (by omega))
 have HNL:=Lib.hid hnow.n_eq
 have hcn:=hnow.n_le
 obtain⟨X,hX⟩:∃ X:ByteArray,X=⟨wd.toArray⟩:=⟨_,rfl⟩
 have hXs:X.size=wd.length:=by rw[hX];rfl
 have HXB:=Lib.hid (show ∀ p (h:p<wd.length),bat X p=(wd[p].toNat:Int) from fun p h=>by subst hX;exact bat_list _ _ h)
 unfold tabV
 rw[show wv wd=Value.string X by rw[hX]] at hbx HK HZ HBX HT HN ⊢
 have HCELL:Hid (∀ (w2:World),w2.heap[w.heap.size]? = some (.cells #[.slice A1 n c1,.slice A2 m c2,.slice A3 q c3,.string X,.slice AE n ce,.slice AF n cf] 66 (0,0))→w2.cell? ⟨w.heap.size,3,none⟩=some (.string X)∧w2.cell? ⟨w.heap.size,4,none⟩=some (.slice AE n ce)):=fun w2 hk=>⟨by rw[cell_of_row _ _ _ _ _ _ hk];rfl,by rw[cell_of_row _ _ _ _ _ _ hk];rfl⟩
 have HAT:=Lib.hid (show ∀ p,isAt wd s p=(decide (p<wd.length)&&decide (bat X p=-1 - s)) from fun p=>by
  unfold isAt
  by_cases h:p<wd.length
  ·rw[HXB.out p h,List.getD_eq_getElem?_getD,List.getElem?_eq_getElem h];rfl
  ·simp[h])
 have HMV:=Lib.hid (show moveL wd T.E now s=moveTo wd T.E s now (wd.length+1) from rfl)
 have HML:=Lib.hid (show ∀ P,(moveTo wd T.E s now P).length=wd.length+1 from fun P=>bl_len _ _)
 have HQL:=Lib.hid (show ∀ P m,(moveQ wd T.E s now P m).length=wd.length+1 from fun P m=>bl_len _ _)
 have HZR:=Lib.hid (show moveTo wd T.E s now 0=List.replicate (wd.length+1) false from by
  rw[moveTo_bl]
  apply List.ext_getElem?
  intro i
  by_cases hi:i≤wd.length
  ·rw[bl_get hi,List.getElem?_replicate,if_pos (by omega)];rfl
  ·rw[List.getElem?_eq_none (by rw[bl_len];omega),List.getElem?_eq_none (by simp;omega)])
 have HQE:=Lib.hid (show ∀ P,¬ s<0→now.getD P false=true→moveQ wd T.E s now P (wd.length+1)=moveTo wd T.E s now (P+1) from fun P=>moveQ_end)
 obtain⟨L,hLL⟩:∃ L,L=wd.length:=⟨_,rfl⟩
 rw[←hLL] at hXs HAT HMV HML HQL HZR HQE HNL HT HN hcn hL ⊢
 clear hX hLL hT hnow hbx HXB
 have hmk:(Instr.makeSlice 60 (.int .i64 ((L:Int)+1)) (.int .i64 ((L:Int)+1))).run Tryz.prog (w.alloc (.cells #[.slice A1 n c1,.slice A2 m c2,.slice A3 q c3,.string X,.slice AE n ce,.slice AF n cf] 66))=_:=bool_make (L+1) (by omega) (w.alloc (.cells #[.slice A1 n c1,.slice A2 m c2,.slice A3 q c3,.string X,.slice AE n ce,.slice AF n cf] 66))
 rw[World.size_alloc] at hmk
 have HK2:=Lib.hid (Go.heap_alloc_new (w.alloc (.cells #[.slice A1 n c1,.slice A2 m c2,.slice A3 q c3,.string X,.slice AE n ce,.slice AF n cf] 66)) (.cells (List.replicate (L+1) (Value.bool false)).toArray 4))
 rw[World.size_alloc] at HK2
 have HB2:=Lib.hid ((Below.refl (w.heap.size+1) (w.alloc (.cells #[.slice A1 n c1,.slice A2 m c2,.slice A3 q c3,.string X,.slice AE n ce,.slice AF n cf] 66))).alloc (Nat.le_of_eq (World.size_alloc _ _).symm) (.cells (List.replicate (L+1) (Value.bool false)).toArray 4))
 obtain⟨w2,hw2⟩:∃ w2,w2=(w.alloc (.cells #[.slice A1 n c1,.slice A2 m c2,.slice A3 q c3,.string X,.slice AE n ce,.slice AF n cf] 66)).alloc (.cells (List.replicate (L+1) (Value.bool false)).toArray 4):=⟨_,rfl⟩
 rw[←hw2] at hmk HK2 HB2
 clear hw2
 go_enter Tryz.func73,Tryz.ntmps73
 go_wp2_with fail
 generalize w.alloc (.cells #[.slice A1 n c1,.slice A2 m c2,.slice A3 q c3,.string X,.slice AE n ce,.slice AF n cf] 66)=w1 at *
 have HR2:=Lib.hid (show w2.heap[w.heap.size+1]? = some (.cells (bcellsB (moveTo wd T.E s now 0)).toArray 4 (0,0)) by rw[HK2.out,HZR.out];simp[bcellsB])
 clear hmk HK2
 go_loopg [9] (L+1) (fun left v9 wr=>∃ (P:Nat),P≤L+1∧L+1 - P≤left∧v9=.int .i64 P∧Hid (wr.heap[w.heap.size+1]? = some (.cells (bcellsB (moveTo wd T.E s now P)).toArray 4 (0,0)))∧Hid (Below (w.heap.size+1) w1 wr))
 case atStart=>exact⟨0,by omega,by omega,rfl,HR2.out,HB2.out⟩
 case round =>
  clear HR2 HB2
  obtain⟨P,hP,hleft,rfl,HR,HB⟩:=hrel
  obtain⟨gas,hgas⟩:∃ gas,gas=gk:=⟨_,rfl⟩
  rw[←hgas] at hleft
  have HGK:=Lib.hid hgas
  clear hgas
  generalize wr=wo at *
  obtain⟨y3,y4⟩:=HCELL.out wo ((HB.out.block w.heap.size (by omega)).trans HK.out)
  by_cases hlt:P<L+1
  ·have hdi:decide ((P:Int)≤(L:Int))=true:=by rw[decide_eq_true_eq];omega
   have hPn:P<now.length:=by rw[←HNL.out];exact hlt
   obtain⟨b1,o1,rfl,hcn1,-,hcw⟩:=(HN.out.below HB.out).boolAt hPn
   have HGD:=Lib.hid (show now.getD P false=now[P] by rw[List.getD_eq_getElem?_getD,List.getElem?_eq_getElem hPn];rfl)
   obtain⟨bp,hbp⟩:∃ bp,bp=now[P]:=⟨_,rfl⟩
   rw[←hbp] at hcw HGD
   clear hbp hPn
   cases bp with
   |false =>
    have HR2:=Lib.hid (show wo.heap[w.heap.size+1]? = some (.cells (bcellsB (moveTo wd T.E s now (P+1))).toArray 4 (0,0)) by rw[move_step HGD.out];exact HR.out)
    go_wp2_with fail
    go_roundg (gas - 1)
    case measure=>have:=HGK.out;omega
    case rel=>exact⟨P+1,by omega,by omega,by go_num,HR2.out,HB.out⟩
   |true =>
    by_cases hs0:s<0
    ·have hds:decide (s<0)=true:=by simpa using hs0
     have HS0:=Lib.hid hs0
     by_cases hPL:P<L
     ·have hdp:decide ((P:Int)<(L:Int))=true:=by rw[decide_eq_true_eq];omega
      have hbt:=bat_get X
      have hbd:=bat_bd X P
      by_cases hq:bat X P=-1 - s
      ·have hq1:(bat X P==-1 - s)=true:=by simpa using hq
       have HA:=Lib.hid (show isAt wd s P=true by rw[HAT.out];simp[hPL,hq])
       have hP1:P+1<(moveTo wd T.E s now P).length:=by rw[HML.out];omega
       have cT:=bool_row_get HR.out hP1
       have fT:wo.frozen? ⟨w.heap.size+1,P+1,none⟩=false:=by simp[World.frozen?,HR.out]
       have HR3:=Lib.hid (bool_row_set HR.out (k:=P+1) true)
       rw[←move_term HS0.out HGD.out HA.out] at HR3
       have HB3:=Lib.hid (Below.setCell (p:=⟨w.heap.size+1,P+1,none⟩) HB.out (Nat.le_refl _) (.bool true))
       obtain⟨bt,hbt2⟩:∃ bt,bt=(moveTo wd T.E s now P)[P+1]:=⟨_,rfl⟩
       rw[←hbt2] at cT
       clear hbt2 hP1 hq
       go_wp2_with fail
       go_roundg (gas - 1)
       case measure=>have:=HGK.out;omega
       case rel=>exact⟨P+1,by omega,by omega,by go_num,HR3.out,HB3.out⟩
      ·have hq1:(bat X P==-1 - s)=false:=by simpa using hq
       have HA:=Lib.hid (show isAt wd s P=false by rw[HAT.out];simp[hq])
       have HR2:=Lib.hid (show wo.heap[w.heap.size+1]? = some (.cells (bcellsB (moveTo wd T.E s now (P+1))).toArray 4 (0,0)) by rw[move_skip HS0.out HA.out];exact HR.out)
       clear hq
       go_wp2_with fail
       go_roundg (gas - 1)
       case measure=>have:=HGK.out;omega
       case rel=>exact⟨P+1,by omega,by omega,by go_num,HR2.out,HB.out⟩
     ·have hdp:decide ((P:Int)<(L:Int))=false:=by rw[decide_eq_false_iff_not];omega
      have HA:=Lib.hid (show isAt wd s P=false by rw[HAT.out];simp[hPL])
      have HR2:=Lib.hid (show wo.heap[w.heap.size+1]? = some (.cells (bcellsB (moveTo wd T.E s now (P+1))).toArray 4 (0,0)) by rw[move_skip HS0.out HA.out];exact HR.out)
      go_wp2_with fail
      go_roundg (gas - 1)
      case measure=>have:=HGK.out;omega
      case rel=>exact⟨P+1,by omega,by omega,by go_num,HR2.out,HB.out⟩
    ·have hds:decide (s<0)=false:=by simpa using hs0
     have HQ0:=Lib.hid (show wo.heap[w.heap.size+1]? = some (.cells (bcellsB (moveQ wd T.E s now P P)).toArray 4 (0,0)) by rw[moveQ_zero];exact HR.out)
     have HQF:=Lib.hid (HQE.out P (by omega) HGD.out)
     obtain⟨t,rfl⟩:∃ t:Nat,s=(t:Int):=⟨s.toNat,by omega⟩
     have htn:t<n:=by omega
     go_wp2_with fail
     go_loopg [10] (L+1) (fun lf2 v10 wt=>∃ (Q:Nat),P≤Q∧Q≤L+1∧L+1 - Q≤lf2∧v10=.int .i64 Q∧Hid (wt.heap[w.heap.size+1]? = some (.cells (bcellsB (moveQ wd T.E t now P Q)).toArray 4 (0,0)))∧Hid (Below (w.heap.size+1) w1 wt))
     case atStart=>exact⟨P,by omega,by omega,by omega,rfl,HQ0.out,HB.out⟩
     case round =>
      clear HR HB HQ0 y3 y4 hcw
      obtain⟨Q,hPQ,hQ,hlf2,rfl,HR,HB⟩:=hrel
      obtain⟨y3,y4⟩:=HCELL.out wr ((HB.out.block w.heap.size (by omega)).trans HK.out)
      by_cases hQL:Q<L+1
      ·have hdq:decide ((Q:Int)≤(L:Int))=true:=by rw[decide_eq_true_eq];omega
       obtain⟨b4,o4,b5,o5,c5,b6,o6,c6,rfl,e1,e2,e3,z1,z2,z3⟩:=(HT.out.fut (B':=w.heap.size+1) HB.out (Nat.le_refl _) (Nat.le_refl _)).at_ (a:=t) (p:=P) (q:=Q) htn (by omega) (by omega)
       obtain⟨be,hbe⟩:∃ be,be=T.E t P Q:=⟨_,rfl⟩
       rw[←hbe] at z3
       have HBE:=Lib.hid hbe
       clear hbe
       cases be with
       |false =>
        have HR2:=Lib.hid (show wr.heap[w.heap.size+1]? = some (.cells (bcellsB (moveQ wd T.E t now P (Q+1))).toArray 4 (0,0)) by rw[moveQ_no (by rw[Int.toNat_natCast];exact HBE.out.symm)];exact HR.out)
        go_wp2_with fail
        go_roundg (gk - 1)
        case measure=>omega
        case rel=>exact⟨Q+1,by omega,by omega,by omega,by go_num,HR2.out,HB.out⟩
       |true =>
        have hQ1:Q<(moveQ wd T.E t now P Q).length:=by rw[HQL.out];exact hQL
        have cT:=bool_row_get HR.out hQ1
        have fT:wr.frozen? ⟨w.heap.size+1,Q,none⟩=false:=by simp[World.frozen?,HR.out]
        have HR3:=Lib.hid (bool_row_set HR.out (k:=Q) true)
        rw[←moveQ_yes hPQ (by rw[Int.toNat_natCast];exact HBE.out.symm)] at HR3
        have HB3:=Lib.hid (Below.setCell (p:=⟨w.heap.size+1,Q,none⟩) HB.out (Nat.le_refl _) (.bool true))
        obtain⟨bt,hbt2⟩:∃ bt,bt=(moveQ wd T.E t now P Q)[Q]:=⟨_,rfl⟩
        rw[←hbt2] at cT
        clear hbt2 hQ1
        go_wp2_with fail
        go_roundg (gk - 1)
        case measure=>omega
        case rel=>exact⟨Q+1,by omega,by omega,by omega,by go_num,HR3.out,HB3.out⟩
      ·have hdq:decide ((Q:Int)≤(L:Int))=false:=by rw[decide_eq_false_iff_not];omega
       have HR2:=Lib.hid (show wr.heap[w.heap.size+1]? = some (.cells (bcellsB (moveTo wd T.E t now (P+1))).toArray 4 (0,0)) by rw[←HQF.out,show L+1=Q by omega];exact HR.out)
       go_wp2_with fail
       go_roundg (gas - 1)
       case measure=>have:=HGK.out;omega
       case rel=>exact⟨P+1,by omega,by omega,by go_num,HR2.out,HB.out⟩
  ·have hdi:decide ((P:Int)≤(L:Int))=false:=by rw[decide_eq_false_iff_not];omega
   have HE:=Lib.hid (show moveTo wd T.E s now P=moveL wd T.E now s by rw[HMV.out,show P=L+1 by omega])
   go_wp2_with fail
   go_ret
   refine⟨w.heap.size+1,?_,?_,Nat.le_succ _,HBX.out.trans (HB.out.mono (Nat.le_succ _))⟩
   ·rw[HMV.out,HML.out];rfl
   ·rw[←HE.out];exact HR.out
end Go.Proofs.YtfpihflepeiagaaGreatDoor
namespace Go.Proofs.YtfpihflepeiagaaGreatDoor
open Go.RowKit

theorem oneAt_len (L a:Nat):(oneAt L a).length=L+1:=by simp[oneAt]
theorem moveL_len (w:Wd) (E:Nat→Nat→Nat→Bool) (now:List Bool) (s:Int):(moveL w E now s).length=w.length+1:=bl_len _ _
theorem endsL_len (w:Wd) (E:Nat→Nat→Nat→Bool) (right:List Int) (a:Nat):(endsL w E right a).length=w.length+1:=by
 have h:∀ (l:List Int) (S:List Bool),S.length=w.length+1→(l.foldl (moveL w E) S).length=w.length+1:=by
  intro l
  induction l with
  |nil=>intro S hS;exact hS
  |cons s l ih=>intro S _;exact ih _ (moveL_len _ _ _ _)
 exact h right _ (oneAt_len _ _)
theorem rd_bools {w:World} {g:Nat} {l:List Bool} {n:Nat} (h:w.heap[g]? = some (.cells (bcellsB l).toArray 4 (0,0))) (hl:n=l.length) (hn:n≤maxLen):SlR eBool w w.heap.size (.slice (some ⟨g,0,none⟩) n n) l:=by
 subst hl
 refine⟨some ⟨g,0,none⟩,l.length,l.map fun b=>[Value.bool b],rfl,Nat.le_refl _,hn,by simp,?_,fun i cs x hc hx=>?_⟩
 ·have:(l.map fun b=>[Value.bool b]).flatten=bcellsB l:=by
   unfold bcellsB
   clear h hn
   induction l with
   |nil=>rfl
   |cons x l ih=>rw[List.map_cons,List.flatten_cons,ih];rfl
  rw[this]
  have h2:Rd w w.heap.size (some ⟨g,0,none⟩) (bcellsB l).toArray.toList:=Rd.row h (Array.getElem?_eq_some_iff.1 h).1
  exact h2
 ·rw[List.getElem?_map,hx] at hc
  injection hc with hc
  exact hc.symm
set_option maxRecDepth 100000 in
set_option maxHeartbeats 16000000 in
theorem ends_any {A1 A2 A3 AE AF Ar:Option Addr} {n m q c1 c2 c3 ce cf p cr:Nat} {T:TabD} (wd:Wd) (right:List Int) (at_:Nat) (w:World) (hT:TabR w w.heap.size AE ce AF cf n wd.length T) (hr:SlR eInt w w.heap.size (.slice Ar p cr) right) (hs:∀ s∈right,s<(n:Int)∧-256≤s) (ha:at_≤wd.length) (hL:wd.length≤4096) (hn:n≤4096) :
  Calls Tryz.prog 45 #[tabV A1 A2 A3 n m q c1 c2 c3 wd AE ce AF cf,.slice Ar p cr,.int .i64 at_] w (OwnBools w (endsL wd T.E right at_)):=by
 have HMV0:=Lib.hid (fun (s:Int) (now:List Bool) (w':World) (An:Option Addr) (cn:Nat) (hT:TabR w' w'.heap.size AE ce AF cf n wd.length T) (hnow:SlR eBool w' w'.heap.size (.slice An (wd.length+1) cn) now) (h1:s<(n:Int)) (h2:-256≤s)=>move_any (A1:=A1) (A2:=A2) (A3:=A3) (m:=m) (q:=q) (c1:=c1) (c2:=c2) (c3:=c3) wd s now w' hT hnow h1 h2 hL hn)
 have hbx:=(Below.refl w.heap.size w).alloc (Nat.le_refl _) (.cells #[.slice A1 n c1,.slice A2 m c2,.slice A3 q c3,wv wd,.slice AE n ce,.slice AF n cf] 66)
 have HK:=Lib.hid (Go.heap_alloc_new w (.cells #[.slice A1 n c1,.slice A2 m c2,.slice A3 q c3,wv wd,.slice AE n ce,.slice AF n cf] 66))
 have HZ:=Lib.hid (World.size_alloc w (.cells #[.slice A1 n c1,.slice A2 m c2,.slice A3 q c3,wv wd,.slice AE n ce,.slice AF n cf] 66))
 have HBX:=Lib.hid hbx
 have HT:=Lib.hid (hT.fut (B':=w.heap.size+1) hbx (Nat.le_refl _) (by omega))
 have HRT:=Lib.hid (hr.fut (B':=w.heap.size+1) hbx (Nat.le_refl _) (by omega))
 have HP:=Lib.hid hr.n_eq
 have hcr:=hr.n_le
 have HSS:=Lib.hid hs
 obtain⟨X,hX⟩:∃ X:ByteArray,X=⟨wd.toArray⟩:=⟨_,rfl⟩
 have hXs:X.size=wd.length:=by rw[hX];rfl
 unfold tabV at HMV0
 rw[show wv wd=Value.string X by rw[hX]] at hbx HK HZ HBX HT HRT
 have HMV:=Lib.hid (show ∀ (s:Int) (now:List Bool) (w':World) (An:Option Addr) (cn:Nat),TabR w' w'.heap.size AE ce AF cf n wd.length T→SlR eBool w' w'.heap.size (.slice An (wd.length+1) cn) now→s<(n:Int)→-256≤s→Calls Tryz.prog 73 #[.agg #[.slice A1 n c1,.slice A2 m c2,.slice A3 q c3,.string X,.slice AE n ce,.slice AF n cf],.int .i64 s,.slice An (wd.length+1) cn] w' (OwnBools w' (moveL wd T.E now s)) from fun s now w' An cn h1 h2 h3 h4=>by rw[hX];exact HMV0.out s now w' An cn h1 h2 h3 h4)
 unfold tabV
 rw[show wv wd=Value.string X by rw[hX]]
 have HCELL:Hid (∀ (w2:World),w2.heap[w.heap.size]? = some (.cells #[.slice A1 n c1,.slice A2 m c2,.slice A3 q c3,.string X,.slice AE n ce,.slice AF n cf] 66 (0,0))→w2.cell? ⟨w.heap.size,0,none⟩=some (.slice A1 n c1)∧w2.cell? ⟨w.heap.size,1,none⟩=some (.slice A2 m c2)∧w2.cell? ⟨w.heap.size,2,none⟩=some (.slice A3 q c3)∧w2.cell? ⟨w.heap.size,3,none⟩=some (.string X)∧w2.cell? ⟨w.heap.size,4,none⟩=some (.slice AE n ce)∧w2.cell? ⟨w.heap.size,5,none⟩=some (.slice AF n cf)):=fun w2 hk=>⟨by rw[cell_of_row _ _ _ _ _ _ hk];rfl,by rw[cell_of_row _ _ _ _ _ _ hk];rfl,by rw[cell_of_row _ _ _ _ _ _ hk];rfl,by rw[cell_of_row _ _ _ _ _ _ hk];rfl,by rw[cell_of_row _ _ _ _ _ _ hk];rfl,by rw[cell_of_row _ _ _ _ _ _ hk];rfl⟩
 have HST:=Lib.hid (show bcellsB (List.replicate (wd.length+1) false)=List.replicate (wd.length+1) (Value.bool false) by simp[bcellsB])
 have HON:=Lib.hid (show oneAt wd.length at_=(List.replicate (wd.length+1) false).set at_ true from rfl)
 have HOL:=Lib.hid (oneAt_len wd.length at_)
 have HML:=Lib.hid (show ∀ now s,(moveL wd T.E now s).length=wd.length+1 from fun now s=>moveL_len wd T.E now s)
 have HEL:=Lib.hid (show (endsL wd T.E right at_)=(endsL wd T.E right at_) from rfl)
 obtain⟨tot,htot⟩:∃ tot,tot=endsL wd T.E right at_:=⟨_,rfl⟩
 rw[←htot] at HEL ⊢
 have HTOT:=Lib.hid htot
 obtain⟨L,hLL⟩:∃ L,L=wd.length:=⟨_,rfl⟩
 rw[←hLL] at hXs HT HMV HST HON HOL HML hL ha
 have HLW:=Lib.hid hLL
 clear hX hLL hT hr hbx HMV0 hs htot HEL
 have hmk:(Instr.makeSlice 60 (.int .i64 ((L:Int)+1)) (.int .i64 ((L:Int)+1))).run Tryz.prog (w.alloc (.cells #[.slice A1 n c1,.slice A2 m c2,.slice A3 q c3,.string X,.slice AE n ce,.slice AF n cf] 66))=_:=bool_make (L+1) (by omega) (w.alloc (.cells #[.slice A1 n c1,.slice A2 m c2,.slice A3 q c3,.string X,.slice AE n ce,.slice AF n cf] 66))
 rw[World.size_alloc] at hmk
 have HK2:=Lib.hid (Go.heap_alloc_new (w.alloc (.cells #[.slice A1 n c1,.slice A2 m c2,.slice A3 q c3,.string X,.slice AE n ce,.slice AF n cf] 66)) (.cells (List.replicate (L+1) (Value.bool false)).toArray 4))
 rw[World.size_alloc] at HK2
 have HB2:=Lib.hid ((Below.refl (w.heap.size+1) (w.alloc (.cells #[.slice A1 n c1,.slice A2 m c2,.slice A3 q c3,.string X,.slice AE n ce,.slice AF n cf] 66))).alloc (Nat.le_of_eq (World.size_alloc _ _).symm) (.cells (List.replicate (L+1) (Value.bool false)).toArray 4))
 obtain⟨w2,hw2⟩:∃ w2,w2=(w.alloc (.cells #[.slice A1 n c1,.slice A2 m c2,.slice A3 q c3,.string X,.slice AE n ce,.slice AF n cf] 66)).alloc (.cells (List.replicate (L+1) (Value.bool false)).toArray 4):=⟨_,rfl⟩
 rw[←hw2] at hmk HK2 HB2
 rw[←HST.out] at HK2
 have c9:w2.cell? ⟨w.heap.size+1,at_,none⟩=some (.bool false):=by
  rw[bool_row_get HK2.out (by rw[List.length_replicate];omega)]
  simp
 have f9:w2.frozen? ⟨w.heap.size+1,at_,none⟩=false:=by simp[World.frozen?,HK2.out]
 have HR3:=Lib.hid (bool_row_set HK2.out (k:=at_) true)
 rw[←HON.out] at HR3
 have HB3:=Lib.hid (Below.setCell (p:=⟨w.heap.size+1,at_,none⟩) HB2.out (Nat.le_refl _) (.bool true))
 clear HK2 HB2 hw2
 obtain⟨d1,d2,d3,d4,d5,d6⟩:=HCELL.out _ HK.out
 go_enter Tryz.func45,Tryz.ntmps45
 go_wp2_with fail
 generalize w.alloc (.cells #[.slice A1 n c1,.slice A2 m c2,.slice A3 q c3,.string X,.slice AE n ce,.slice AF n cf] 66)=w1 at *
 clear hmk c9 f9 d1 d2 d3 d4 d5 d6
 have HTL:=Lib.hid (show tot.length=L+1 by rw[HTOT.out,endsL_len,HLW.out])
 have HTF:=Lib.hid (show tot=right.foldl (moveL wd T.E) (oneAt L at_) by rw[HTOT.out,HLW.out];rfl)
 go_loopg [7,8] p (fun left v7 v8 wr=>∃ (i g:Nat) (S:List Bool),i≤p∧p - i≤left∧v8=.int .i64 i∧v7=.slice (some ⟨g,0,none⟩) (L+1) (L+1)∧Hid (wr.heap[g]? = some (.cells (bcellsB S).toArray 4 (0,0)))∧Hid (S.length=L+1)∧Hid (w.heap.size+1≤g)∧Hid (tot=(right.drop i).foldl (moveL wd T.E) S)∧Hid (Below (w.heap.size+1) w1 wr))
 case atStart=>exact⟨0,w.heap.size+1,oneAt L at_,by omega,by omega,rfl,rfl,HR3.out,HOL.out,Nat.le_refl _,HTF.out,HB3.out⟩
 case round =>
  clear HR3 HB3
  obtain⟨i,g,S,hi,hleft,rfl,rfl,HR,HSL,HG,HF,HB⟩:=hrel
  obtain⟨d1,d2,d3,d4,d5,d6⟩:=HCELL.out wr ((HB.out.block w.heap.size (by omega)).trans HK.out)
  have HBS:=Lib.hid (show w.heap.size+1≤wr.heap.size by have:=HB.out.size;have:=HZ.out;omega)
  by_cases hip:i<p
  case pos =>
    have hil:i<right.length:=by rw[←HP.out];exact hip
    obtain⟨b4,o4,cs4,rfl,-,-,hrep4,hcell4⟩:=(HRT.out.below HB.out).get (k:=i) hil (by decide)
    obtain⟨rfl,hx1,hx2⟩:=hrep4
    have hc4:=hcell4 0 _ rfl
    simp only[show eInt.size=1 from rfl,Nat.mul_one,Nat.add_zero] at hc4
    have HDR:=Lib.hid (List.drop_eq_getElem_cons hil)
    obtain⟨hsn,hs2⟩:=HSS.out _ (List.getElem_mem hil)
    obtain⟨s,hse⟩:∃ s,s=right[i]:=⟨_,rfl⟩
    rw[←hse] at hc4 HDR hsn hs2 hx1 hx2
    have HCALL:=Lib.hid (fun w' (hb:Below wr.heap.size wr w')=>HMV.out s S w' (some ⟨g,0,none⟩) (L+1) (HT.out.fut (HB.out.trans (hb.mono HBS.out)) (Nat.le_refl _) (Nat.le_trans HBS.out hb.size)) ((rd_bools HR.out HSL.out.symm (by unfold maxLen;omega)).fut hb (Nat.le_refl _) hb.size) hsn hs2)
    clear hcell4 hse hil

    go_wp2_with fail
    refine Text.wp_grow [6] [0,4] [] (by kernel_rfl) (by kernel_rfl) ?_
    refine Text.wpS_seg 6 _ _ _ _ (by decide) (fun Q' hQ'=>?_)
    simp only[List.take_succ_cons,List.take_zero]
    go_wp2_with fail
    try simp only[Nat.zero_add,List.drop_succ_cons,List.drop_zero]
    refine Text.wpS_one (fun Q' hQ'=>?_)
    go_wp2_with fail
    refine (HCALL.out _ below_drew1).mono ?_
    rintro e w5 ⟨g5,rfl,hg5,hge5,hb5⟩
    rw[HML.out]
    have hb5':Below wr.heap.size wr w5:=below_drew1.trans hb5
    have HR5:=Lib.hid hg5
    have HG5:=Lib.hid (show w.heap.size+1≤g5 from Nat.le_trans HBS.out hge5)
    have HB5:=Lib.hid (HB.out.trans (hb5'.mono HBS.out))
    go_wp2_with fail
    refine⟨hb5,?_⟩
    refine Text.wpS_seg 1 _ _ _ _ (by decide) (fun Q' hQ'=>?_)
    simp only[List.take_succ_cons,List.take_zero]
    go_wp2_with fail
    refine⟨by rfl,?_,?_⟩
    ·exact⟨fun _=>⟨_,_,rfl,d1⟩,fun _=>⟨_,_,rfl,hc4⟩,trivial⟩
    clear hb5 hb5' hg5 hge5
    go_wp2_with fail
    go_roundg (gk - 1)
    case measure=>omega
    case rel=>exact⟨i+1,g5,moveL wd T.E S s,by omega,by omega,by go_num,rfl,HR5.out,HML.out _ _,HG5.out,by show _=_;rw[HF.out,HDR.out,List.foldl_cons],HB5.out⟩
  ·have HE:=Lib.hid (show tot=S by rw[HF.out,List.drop_eq_nil_of_le (by rw[←HP.out];omega)];rfl)
   go_wp2_with fail
   go_ret
   refine⟨g,?_,?_,by have:=HG.out;omega,HBX.out.trans (HB.out.mono (Nat.le_succ _))⟩
   ·rw[HTL.out];rfl
   ·rw[HE.out];exact HR.out
end Go.Proofs.YtfpihflepeiagaaGreatDoor
