/- Texts of this proof joined: NamesW, NamesW2, FirstW3, SetsM, First2. -/
import Derived.Test.YtfpihflepeiagaaGreatDoorLN16
import Derived.Test.YtfpihflepeiagaaGreatDoorLN08
import Derived.Test.YtfpihflepeiagaaGreatDoorLN09
namespace Go.Proofs.YtfpihflepeiagaaGreatDoor

def lvl (t:Nat):Nat→List Wd
 |0=>[[]]
 |n+1=>(lvl t n).flatMap fun w=>(List.range t).map fun c=>w++[UInt8.ofNat c]
def wordsW (t:Nat):Nat→List Wd
 |0=>[[]]
 |n+1=>wordsW t n++lvl t (n+1)
def OverW (t:Nat) (w:Wd):Prop:=∀ c∈w,c.toNat<t
theorem mem_lvl {t:Nat} (ht:t≤256):∀ (n:Nat) (w:Wd),w∈lvl t n↔w.length=n∧OverW t w
 |0,w=>by
  simp only[lvl,List.mem_singleton,List.length_eq_zero_iff]
  exact⟨fun h=>⟨h,by subst h;intro c hc;cases hc⟩,fun h=>h.1⟩
 |n+1,w=>by
  have ih:=mem_lvl ht n
  simp only[lvl,List.mem_flatMap,List.mem_map,List.mem_range]
  constructor
  ·rintro⟨v,hv,c,hc,rfl⟩
   obtain⟨h1,h2⟩:=(ih v).1 hv
   refine⟨by simp[h1],fun d hd=>?_⟩
   rcases List.mem_append.1 hd with hd | hd
   ·exact h2 d hd
   ·rw[List.mem_singleton] at hd
    subst hd
    rw[UInt8.toNat_ofNat']
    omega
  ·rintro⟨h1,h2⟩
   have hne:w≠[]:=by intro e;subst e;simp at h1
   refine⟨w.dropLast,(ih _).2 ⟨by rw[List.length_dropLast];omega,fun c hc=>h2 c (List.dropLast_subset w hc)⟩,(w.getLast hne).toNat,h2 _ (List.getLast_mem hne),?_⟩
   rw[UInt8.ofNat_toNat,List.dropLast_concat_getLast]
theorem mem_wordsW {t:Nat} (ht:t≤256):∀ (n:Nat) (w:Wd),w∈wordsW t n↔w.length≤n∧OverW t w
 |0,w=>by
  simp only[wordsW,List.mem_singleton,Nat.le_zero,List.length_eq_zero_iff]
  exact⟨fun h=>⟨h,by subst h;intro c hc;cases hc⟩,fun h=>h.1⟩
 |n+1,w=>by
  simp only[wordsW,List.mem_append]
  rw[mem_wordsW ht n w,mem_lvl ht (n+1) w]
  constructor
  ·rintro (⟨h1,h2⟩ | ⟨h1,h2⟩)
   ·exact⟨by omega,h2⟩
   ·exact⟨by omega,h2⟩
  ·rintro⟨h1,h2⟩
   rcases Nat.lt_or_ge w.length (n+1) with h | h
   ·exact .inl ⟨by omega,h2⟩
   ·exact .inr ⟨by omega,h2⟩
def WellT (rs:RuleL) (m:Nat):Prop:=∀ a r,(a,r)∈rs→∀ s∈r,-(m:Int)≤s
theorem der_over {rs:RuleL} {m:Nat} (hm:m≤256) (hT:WellT rs m) {l:List Int} {u:Wd} (h:Der rs l u):(∀ s∈l,-(m:Int)≤s)→OverW m u:=by
 induction h with
 |nil=>intro _ c hc;cases hc
 |@term s l w hs hd ih =>
  intro hl c hc
  rcases List.mem_cons.1 hc with rfl | hc
  ·have:=tb_to hs (by have:=hl s (by simp);omega)
   have h2:=hl s (by simp)
   omega
  ·exact ih (fun s h=>hl s (by simp[h])) c hc
 |@nont a l r u v ha hr h1 h2 ih1 ih2 =>
  intro hl c hc
  rcases List.mem_append.1 hc with hc | hc
  ·exact ih1 (hT a r hr) c hc
  ·exact ih2 (fun s h=>hl s (by simp[h])) c hc
theorem fol_over {rs:RuleL} {m:Nat} (hm:m≤256) (hT:WellT rs m) {a:Int} {v:Wd} (h:Fol rs a v):OverW m v:=by
 induction h with
 |start=>intro c hc;cases hc
 |@step a r l1 b l2 u v hr e hb hd hf ih =>
  intro c hc
  rcases List.mem_append.1 hc with hc | hc
  ·exact der_over hm hT hd (fun s hs=>hT a r hr s (by rw[e];simp[hs])) c hc
  ·exact ih c hc
theorem ahead_over {rs:RuleL} {m k:Nat} (hm:m≤256) (hT:WellT rs m) {r:Int×List Int} (hr:r∈rs) {z:Wd} (h:AheadD rs k r z):z.length≤k∧OverW m z:=by
 obtain⟨u,v,hu,hv,rfl⟩:=h
 refine⟨by rw[List.length_take];omega,fun c hc=>?_⟩
 rcases List.mem_append.1 (List.mem_of_mem_take hc) with hc | hc
 ·exact der_over hm hT hu (fun s hs=>hT r.1 r.2 hr s hs) c hc
 ·exact fol_over hm hT hv c hc
def matchW (rs:RuleL) (ah:Nat→Bool) (a:Int):List Nat:=(List.range rs.length).filter fun i=>decide ((rs.getD i (0,[])).1=a)&&ah i
theorem mem_matchW {rs:RuleL} {ah:Nat→Bool} {a:Int} {i:Nat}:i∈matchW rs ah a↔∃ r,rs[i]? = some r∧r.1=a∧ah i=true:=by
 unfold matchW
 simp only[List.mem_filter,List.mem_range,Bool.and_eq_true,decide_eq_true_eq,List.getD_eq_getElem?_getD]
 constructor
 ·rintro⟨h1,h2,h3⟩
  rw[List.getElem?_eq_getElem h1] at h2 ⊢
  exact⟨_,rfl,h2,h3⟩
 ·rintro⟨r,h1,h2,h3⟩
  have:=(List.getElem?_eq_some_iff.1 h1).1
  rw[h1]
  exact⟨this,h2,h3⟩
theorem matchW_lt (rs:RuleL) (ah:Nat→Bool) (a:Int):(matchW rs ah a).Pairwise (·<·):=List.Pairwise.filter _ List.pairwise_lt_range
def AhOk (rs:RuleL) (k:Nat) (ah:Wd→Nat→Bool) (w:Wd):Prop:=∀ (i:Nat) (r:Int×List Int),rs[i]? = some r→(ah w i=true↔AheadD rs k r w)
theorem pair_of_two {l:List Nat} (h:l.Pairwise (·<·)) (h2:2≤l.length):∃ a b,a∈l∧b∈l∧a<b:=by
 match l,h,h2 with
 |a :: b :: l,h,_=>exact⟨a,b,by simp,by simp,(List.pairwise_cons.1 h).1 b (by simp)⟩
theorem two_of_pair {l:List Nat} {a b:Nat} (ha:a∈l) (hb:b∈l) (hab:a<b):2≤l.length:=by
 match l with
 |[]=>cases ha
 |[x]=>rw[List.mem_singleton] at ha hb;omega
 |_ :: _ :: _=>simp
section
variable {rs:RuleL} {n m k:Nat} {sets:Sets} {ah:Wd→Nat→Bool}
theorem clash_nil (hm:m≤256) (hT:WellT rs m) (hM:MadeG rs n k sets) (hah:∀ w∈wordsW m k,AhOk rs k ah w) :
  clashW rs n sets=[]↔∀ a,a<n→∀ w∈wordsW m k,(matchW rs (ah w) (a:Int)).length≤1:=by
 constructor
 ·intro h a ha w hwd
  rcases Nat.lt_or_ge 1 (matchW rs (ah w) (a:Int)).length with h2 | h2
  ·exfalso
   obtain⟨i,j,hi,hj,hij⟩:=pair_of_two (matchW_lt rs (ah w) a) h2
   obtain⟨ri,h1,e1,t1⟩:=mem_matchW.1 hi
   obtain⟨rj,h3,e2,t2⟩:=mem_matchW.1 hj
   have hil:=(List.getElem?_eq_some_iff.1 h1).1
   have hjl:=(List.getElem?_eq_some_iff.1 h3).1
   have s1:sets[i]? = some (sets[i]'(by rw[hM.len];exact hil)):=List.getElem?_eq_getElem _
   have s2:sets[j]? = some (sets[j]'(by rw[hM.len];exact hjl)):=List.getElem?_eq_getElem _
   have m1:=((hM.mean i ri _ h1 s1).2 w).2 ((hah w hwd i ri h1).1 t1)
   have m2:=((hM.mean j rj _ h3 s2).2 w).2 ((hah w hwd j rj h3).1 t2)
   cases hc:commonW (sets.getD i []) (sets.getD j []) with
   |none =>
    have:=commonW_none hc w (by rw[List.getD_eq_getElem?_getD,s1];exact m1)
    exact this (by rw[List.getD_eq_getElem?_getD,s2];exact m2)
   |some z =>
    have:((a:Int),z,(i:Int),(j:Int))∈clashW rs n sets:=mem_clashW.2 ⟨i,j,ri,rj,z,h1,h3,hij,e1,e2,by simp only;omega,by simp only;omega,hc,rfl⟩
    rw[h] at this
    cases this
  ·exact h2
 ·intro h
  rw[List.eq_nil_iff_forall_not_mem]
  intro c hc
  obtain⟨i,j,ri,rj,w,h1,h2,hij,e1,e2,h0,hn,hcw,e⟩:=mem_clashW.1 hc
  obtain⟨m1,m2⟩:=commonW_some hcw
  have hil:=(List.getElem?_eq_some_iff.1 h1).1
  have hjl:=(List.getElem?_eq_some_iff.1 h2).1
  have s1:sets[i]? = some (sets[i]'(by rw[hM.len];exact hil)):=List.getElem?_eq_getElem _
  have s2:sets[j]? = some (sets[j]'(by rw[hM.len];exact hjl)):=List.getElem?_eq_getElem _
  rw[List.getD_eq_getElem?_getD,s1] at m1
  rw[List.getD_eq_getElem?_getD,s2] at m2
  have d1:=((hM.mean i ri _ h1 s1).2 w).1 m1
  have d2:=((hM.mean j rj _ h2 s2).2 w).1 m2
  have hwd:w∈wordsW m k:=(mem_wordsW hm k w).2 (ahead_over hm hT (List.mem_of_getElem? h1) d1)
  have:=h c.1.toNat (by omega) w hwd
  have ec:((c.1.toNat:Nat):Int)=c.1:=Int.toNat_of_nonneg h0
  rw[ec] at this
  have:=two_of_pair (l:=matchW rs (ah w) c.1) (mem_matchW.2 ⟨ri,h1,e1,(hah w hwd i ri h1).2 d1⟩) (mem_matchW.2 ⟨rj,h2,e2,(hah w hwd j rj h2).2 d2⟩) hij
  omega
theorem row_iff (hm:m≤256) (hT:WellT rs m) (hM:MadeG rs n k sets) (hah:∀ w∈wordsW m k,AhOk rs k ah w) {x:Row}:x∈rowsFrom 0 rs sets↔∃ i:Nat,x.2.2=(i:Int)∧x.2.1∈wordsW m k∧i∈matchW rs (ah x.2.1) x.1:=by
 rw[mem_rowsFrom 0 rs sets hM.len]
 constructor
 ·rintro⟨j,r,s,h1,h2,h3,h4,h5⟩
  have d:=((hM.mean j r s h1 h2).2 x.2.1).1 h4
  have hwd:x.2.1∈wordsW m k:=(mem_wordsW hm k _).2 (ahead_over hm hT (List.mem_of_getElem? h1) d)
  exact⟨j,by simpa using h5,hwd,mem_matchW.2 ⟨r,h1,h3.symm,(hah _ hwd j r h1).2 d⟩⟩
 ·rintro⟨i,h1,h2,h3⟩
  obtain⟨r,g1,g2,g3⟩:=mem_matchW.1 h3
  have hil:=(List.getElem?_eq_some_iff.1 g1).1
  have s1:sets[i]? = some (sets[i]'(by rw[hM.len];exact hil)):=List.getElem?_eq_getElem _
  exact⟨i,r,_,g1,s1,g2.symm,((hM.mean i r _ g1 s1).2 _).2 ((hah _ h2 i r g1).1 g3),by simpa using h1⟩
end
end Go.Proofs.YtfpihflepeiagaaGreatDoor
namespace Go.Proofs.YtfpihflepeiagaaGreatDoor

def keyOfRow (x:Row):Int×Wd:=(x.1,x.2.1)
theorem wd_tri (a b:Wd):a<b∨a=b∨b<a:=by
 rcases List.le_total a b with h | h
 ·rcases List.le_iff_lt_or_eq.1 h with h | h
  ·exact .inl h
  ·exact .inr (.inl h)
 ·rcases List.le_iff_lt_or_eq.1 h with h | h
  ·exact .inr (.inr h)
  ·exact .inr (.inl h.symm)
theorem rowLt_tri (a b:Row):rowLt a b∨keyOfRow a=keyOfRow b∨rowLt b a:=by
 unfold rowLt keyOfRow
 rcases Int.lt_trichotomy a.1 b.1 with h | h | h
 ·exact .inl (.inl h)
 ·rcases wd_tri a.2.1 b.2.1 with h2 | h2 | h2
  ·exact .inl (.inr ⟨h,h2⟩)
  ·exact .inr (.inl (by rw[h,h2]))
  ·exact .inr (.inr (.inr ⟨h.symm,h2⟩))
 ·exact .inr (.inr (.inl h))
theorem rowLt_irrefl {a b:Row} (h:rowLt a b):keyOfRow a≠keyOfRow b:=by
 intro e
 unfold keyOfRow at e
 injection e with e1 e2
 rcases h with h | ⟨_,h⟩
 ·omega
 ·rw[e2] at h;exact List.lt_irrefl _ h
theorem rowLt_trans {a b c:Row} (h1:rowLt a b) (h2:rowLt b c):rowLt a c:=by
 rcases h1 with h1 | ⟨e1,h1⟩
 ·rcases h2 with h2 | ⟨e2,_⟩
  ·exact .inl (by omega)
  ·exact .inl (by omega)
 ·rcases h2 with h2 | ⟨e2,h2⟩
  ·exact .inl (by omega)
  ·exact .inr ⟨by omega,List.lt_trans h1 h2⟩
section
variable {rs:RuleL} {n m k:Nat} {sets:Sets} {ah:Wd→Nat→Bool} {rows:List Row}
end
end Go.Proofs.YtfpihflepeiagaaGreatDoor
namespace Go.Proofs.YtfpihflepeiagaaGreatDoor

def ShortW (l:List Wd):Prop:=∀ x∈l,x.length≤4
def SetsB (s:Sets):Prop:=∀ (i:Nat) (x:List Wd),s[i]? = some x→ShortW x∧x.length≤4096
def tot:Sets→Nat
 |[]=>0
 |x :: s=>x.length+tot s
theorem tot_set:∀ (s:Sets) (a:Nat) (u:List Wd),a<s.length→tot (s.set a u)+(s.getD a []).length=tot s+u.length
 |[],a,u,h=>by simp at h
 |x :: s,0,u,_=>by simp[tot];omega
 |x :: s,a+1,u,h=>by
  have:=tot_set s a u (by simpa using h)
  simp only[List.set_cons_succ,tot,List.getD_cons_succ]
  omega
theorem tot_le:∀ (s:Sets),SetsB s→tot s≤4096*s.length
 |[],_=>by simp[tot]
 |x :: s,h=>by
  have ih:=tot_le s (fun i y hy=>h (i+1) y (by simpa using hy))
  have:=(h 0 x (by simp)).2
  simp only[tot,List.length_cons]
  omega
theorem catW_b {k:Nat} (hk:k≤4) {a b o:List Wd} (h:catW k a b=some o):ShortW o∧o.length≤4096:=by
 refine⟨fun z hz=>?_,?_⟩
 ·obtain⟨x,_,y,_,rfl⟩:=(mem_catW h).1 hz
  rw[List.length_take]
  simp
  omega
 ·unfold catW at h
  split at h
  ·injection h with h;subst h;assumption
  ·cases h
theorem ofFrom_b {k:Nat} (hk:k≤4) {sets:Sets}:∀ (syms:List Int) (acc out:List Wd),ShortW acc∧acc.length≤4096→ofFrom sets k acc syms=some out→ShortW out∧out.length≤4096
 |[],acc,out,ha,h=>by injection h with h;subst h;exact ha
 |s :: l,acc,out,_,h=>by
  simp only[ofFrom] at h
  cases h1:oneW sets s with
  |none=>rw[h1] at h;cases h
  |some x =>
   rw[h1,Option.bind_some] at h
   cases h2:catW (k:Int) acc x with
   |none=>rw[h2] at h;cases h
   |some o =>
    rw[h2,Option.bind_some] at h
    exact ofFrom_b hk l o out (catW_b hk h2) h
theorem ofW_b {k:Nat} (hk:k≤4) {sets:Sets} {syms:List Int} {out:List Wd} (h:ofW sets k syms=some out):ShortW out∧out.length≤4096 :=
 ofFrom_b hk syms [[]] out ⟨fun x hx=>by rw[List.mem_singleton] at hx;subst hx;simp,by simp⟩ h
theorem SetsB.getD {s:Sets} (h:SetsB s) (a:Nat):ShortW (s.getD a [])∧(s.getD a []).length≤4096:=by
 rw[List.getD_eq_getElem?_getD]
 cases e:s[a]? with
 |none=>exact⟨fun x hx=>(by cases hx),by simp⟩
 |some x=>exact h a x e
theorem SetsB.set {s:Sets} (h:SetsB s) (a:Nat) {u:List Wd} (hu:ShortW u∧u.length≤4096):SetsB (s.set a u):=by
 intro b y hy
 rw[List.getElem?_set] at hy
 split at hy
 ·split at hy
  ·injection hy with hy;subst hy;exact hu
  ·cases hy
 ·exact h b y hy
theorem SetsB.replicate (n:Nat):SetsB (List.replicate n []):=by
 intro b y hy
 rw[List.getElem?_replicate] at hy
 split at hy
 ·injection hy with hy;subst hy;exact⟨fun x hx=>(by cases hx),by simp⟩
 ·cases hy
theorem short_union {a b:List Wd} (ha:ShortW a) (hb:ShortW b):ShortW (unionW a b):=fun x hx=>(mem_unionW.1 hx).elim (ha x) (hb x)
theorem growW_b {k:Nat} (hk:k≤4) {s s':Sets} {g:Bool} {r:Int×List Int} (hs:SetsB s) (ha:AllAsc s) (hr:r.1.toNat<s.length) (e:growW k s r=some (s',g)) :
  SetsB s'∧AllAsc s'∧s'.length=s.length∧tot s≤tot s'∧(g=true→tot s<tot s'):=by
 unfold growW at e
 cases h1:ofW s k r.2 with
 |none=>rw[h1] at e;cases e
 |some x =>
  rw[h1,Option.bind_some] at e
  split at e
  ·rename_i hle
   injection e with e
   injection e with e e2
   subst e e2
   have h3:=tot_set s r.1.toNat (unionW (s.getD r.1.toNat []) x) hr
   have h4:=(union_len (b:=x) (ha.getD r.1.toNat)).1
   change (s.getD r.1.toNat []).length≤(unionW (s.getD r.1.toNat []) x).length at h4
   refine⟨hs.set _ ⟨short_union (hs.getD _).1 (ofW_b hk h1).1,hle⟩,ha.set _ (unionW_asc _ _),by simp,by omega,fun h=>?_⟩
   have:=of_decide_eq_true h
   omega
  ·cases e
end Go.Proofs.YtfpihflepeiagaaGreatDoor
namespace Go.Proofs.YtfpihflepeiagaaGreatDoor
open Go.RowKit

def Hi (lo e0:Nat) (w:World) (v:Value) (x:List Wd):Prop:=∀ w':World,(∀ p:Addr,(lo≤p.block∨p.block=e0)→p.block<w.heap.size→w'.cell? p=w.cell? p)→SlR eW w' w.heap.size v x
theorem Hi.nil (lo e0:Nat) (w:World):Hi lo e0 w (.slice none 0 0) []:=fun _ _=>SlR.nil_
theorem Hi.sl {lo e0:Nat} {w:World} {v:Value} {x:List Wd} (h:Hi lo e0 w v x):SlR eW w w.heap.size v x:=h w fun _ _ _=>rfl
theorem Hi.keep {lo e0:Nat} {w w1:World} {v:Value} {x:List Wd} (h:Hi lo e0 w v x) (hs:w.heap.size≤w1.heap.size) (hk:∀ p:Addr,(lo≤p.block∨p.block=e0)→p.block<w.heap.size→w1.cell? p=w.cell? p):Hi lo e0 w1 v x:=fun w' hw =>
 (h w' fun p h1 h2=>(hw p h1 (Nat.lt_of_lt_of_le h2 hs)).trans (hk p h1 h2)).more hs
theorem Hi.own {lo e0 base:Nat} {t:TypeId} {w:World} {v:Value} {x:List Wd} (hf:Fits x) (h:w.ownsRow base t 1 v x.length (wcells x)) (hb:lo≤base∨(base≤e0∧∀ b,v.ownBlock=some b→b=e0)):Hi lo e0 w v x:=fun w' hw=>by
 obtain⟨A,c,rfl,h1,h2⟩:=own_form h
 refine slW_of hf (fun hne=>?_) h1 h2
 obtain⟨b,off,e,hlt,hc⟩:=Rd.of_own h hne
 subst e
 have hge:base≤b:=by
  rcases h.2 with ⟨hn,_⟩ | ⟨g,cap,cur,hv,hg,_⟩
  ·injection hn with e1;cases e1
  ·injection hv with e1 _ _;injection e1 with e1;injection e1 with e1 _;omega
 refine⟨b,off,rfl,hlt,fun j u hu=>(hw _ (by
  show lo≤b∨b=e0
  rcases hb with hb | ⟨_,hb⟩
  ·omega
  ·rcases h.2 with ⟨hn,_⟩ | ⟨g,cap,cur,hv,hg,_⟩
   ·injection hn with e1;cases e1
   ·injection hv with e1 _ _
    injection e1 with e1
    injection e1 with e1 e2
    subst e1 e2
    exact .inr (hb _ rfl)) hlt).trans (hc j u hu)⟩
def RowHi (t:TypeId) (g lo e0:Nat) (w:World) (sets:Sets):Prop :=
 ∃ vs:List Value,w.heap[g]? = some (.cells vs.toArray t (0,0))∧vs.length=sets.length∧∀ (i:Nat) (v:Value) (x:List Wd),vs[i]? = some v→sets[i]? = some x→Hi lo e0 w v x
theorem RowHi.lt {t:TypeId} {g lo e0:Nat} {w:World} {sets:Sets} (h:RowHi t g lo e0 w sets):g<w.heap.size:=by
 obtain⟨vs,h1,_⟩:=h
 exact (Array.getElem?_eq_some_iff.1 h1).1
theorem RowHi.keep {t:TypeId} {g lo e0:Nat} {w w1:World} {sets:Sets} (h:RowHi t g lo e0 w sets) (hs:w.heap.size≤w1.heap.size) (hg:w1.heap[g]? = w.heap[g]?) (hk:∀ b,(lo≤b∨b=e0)→b<w.heap.size→w1.heap[b]? = w.heap[b]?):RowHi t g lo e0 w1 sets:=by
 obtain⟨vs,h1,h2,h3⟩:=h
 exact⟨vs,hg.trans h1,h2,fun i v x hv hx=>(h3 i v x hv hx).keep hs fun p hp hl=>World.cell?_of_block (hk p.block hp hl)⟩
theorem RowHi.below {t:TypeId} {g lo e0:Nat} {w w1:World} {sets:Sets} (h:RowHi t g lo e0 w sets) (hb:Below w.heap.size w w1):RowHi t g lo e0 w1 sets:=h.keep hb.size (hb.block g h.lt) fun b _ hl=>hb.block b hl
theorem RowHi.other {t:TypeId} {g lo e0:Nat} {w:World} {sets:Sets} (h:RowHi t g lo e0 w sets) {p:Addr} (v:Value) (h1:g≠p.block) (h2:p.block<lo) (h3:p.block≠e0):RowHi t g lo e0 (w.setCell p v) sets :=
 h.keep (by simp[World.setCell]) (Below.heap_setCell _ _ _ _ h1) fun b hb _=>Below.heap_setCell _ _ _ _ (by rcases hb with hb | hb <;> omega)
theorem RowHi.set {t:TypeId} {g lo e0:Nat} {w:World} {sets:Sets} (h:RowHi t g lo e0 w sets) (hlo:g<lo) (hge:g≠e0) {k:Nat} {v:Value} {x:List Wd} (hv:Hi lo e0 w v x):RowHi t g lo e0 (w.setCell ⟨g,k,none⟩ v) (sets.set k x):=by
 obtain⟨vs,h1,h2,h3⟩:=h
 have hkeep:∀ p:Addr,(lo≤p.block∨p.block=e0)→p.block<w.heap.size→(w.setCell ⟨g,k,none⟩ v).cell? p=w.cell? p:=fun p hp _=>World.cell?_of_block (Below.heap_setCell _ _ _ _ (by show p.block≠g;rcases hp with hp | hp <;> omega))
 refine⟨vs.set k v,?_,by rw[List.length_set,List.length_set,h2],fun i u y hu hy=>?_⟩
 ·simp only[World.setCell,Array.getElem?_modify,if_true,h1,Option.map_some]
  congr 2
  simp
 ·rw[List.getElem?_set] at hu hy
  by_cases e:k=i
  ·rw[if_pos e] at hu hy
   split at hu
   ·split at hy
    ·injection hu with hu
     injection hy with hy
     subst hu hy
     exact hv.keep (by simp[World.setCell]) hkeep
    ·cases hy
   ·cases hu
  ·rw[if_neg e] at hu hy
   exact (h3 i u y hu hy).keep (by simp[World.setCell]) hkeep
theorem RowHi.get {t:TypeId} {g lo e0:Nat} {w:World} {sets:Sets} (h:RowHi t g lo e0 w sets) {k:Nat} (hk:k<sets.length):∃ A c,w.cell? ⟨g,k,none⟩=some (.slice A sets[k].length c)∧sets[k].length≤c∧c≤maxLen∧Hi lo e0 w (.slice A sets[k].length c) sets[k]∧w.frozen? ⟨g,k,none⟩=false:=by
 obtain⟨vs,h1,h2,h3⟩:=h
 have hkv:k<vs.length:=by omega
 have hh:=h3 k _ _ (List.getElem?_eq_getElem hkv) (List.getElem?_eq_getElem hk)
 obtain⟨A,c,e,h4,h5⟩:=hh.sl.form
 refine⟨A,c,?_,h4,h5,by rw[←e];exact hh,by simp[World.frozen?,h1]⟩
 rw[cell_of_row w g k _ _ _ h1,←e]
 simp[hkv]
theorem RowHi.sl {t:TypeId} {g lo e0:Nat} {w:World} {sets:Sets} (h:RowHi t g lo e0 w sets) (hl:sets.length≤maxLen):SlR (eSl eW) w w.heap.size (.slice (some ⟨g,0,none⟩) sets.length sets.length) sets:=by
 have hlt:=h.lt
 obtain⟨vs,h1,h2,h3⟩:=h
 have hfl:(vs.map fun v=>[v]).flatten=vs:=by
  clear h1 h2 h3
  induction vs with
  |nil=>rfl
  |cons v l ih=>rw[List.map_cons,List.flatten_cons,ih];rfl
 refine⟨some ⟨g,0,none⟩,sets.length,vs.map fun v=>[v],rfl,Nat.le_refl _,hl,by simp[h2],?_,fun i cs x hc hx=>?_⟩
 ·rw[hfl]
  exact Rd.row h1 hlt
 ·rw[List.getElem?_map] at hc
  cases e:vs[i]? with
  |none=>rw[e] at hc;cases hc
  |some v =>
   rw[e] at hc
   injection hc with hc
   subst hc
   exact⟨v,rfl,(h3 i v x e hx).sl⟩
theorem RowHi.start {t:TypeId} {g lo e0:Nat} {w:World} {n:Nat} (h:w.heap[g]? = some (.cells (List.replicate n (Value.slice none 0 0)).toArray t (0,0))):RowHi t g lo e0 w (List.replicate n []) :=
 ⟨_,h,by simp,fun i v x hv hx=>by
  rw[List.getElem?_replicate] at hv hx
  split at hv
  ·rename_i hi
   rw[if_pos hi] at hx
   injection hv with hv
   injection hx with hx
   subst hv hx
   exact Hi.nil lo e0 w
  ·cases hv⟩
theorem slS_two {w:World} {g:Nat} {v1 v2:Value} {t:TypeId} {a b:List Wd} (h:w.heap[g]? = some (.cells #[v1,v2] t (0,0))) (h1:SlR eW w w.heap.size v1 a) (h2:SlR eW w w.heap.size v2 b):SlR (eSl eW) w w.heap.size (.slice (some ⟨g,0,none⟩) 2 2) [a,b]:=by
 refine⟨some ⟨g,0,none⟩,2,[[v1],[v2]],rfl,by simp,by unfold maxLen;omega,rfl,?_,fun i cs x hc hx=>?_⟩
 ·exact Rd.row h (Array.getElem?_eq_some_iff.1 h).1
 ·match i,hc,hx with
  |0,hc,hx=>injection hc with hc;injection hx with hx;subst hc hx;exact⟨v1,rfl,h1⟩
  |1,hc,hx=>injection hc with hc;injection hx with hx;subst hc hx;exact⟨v2,rfl,h2⟩
  |i+2,hc,hx=>simp at hc
end Go.Proofs.YtfpihflepeiagaaGreatDoor
namespace Go.Proofs.YtfpihflepeiagaaGreatDoor
open Go.RowKit Go.Sort

structure FirstSt (w:World) (g S K G lo C n k:Nat) (sets:Sets) (gr:Bool):Prop where
 row:RowHi 22 g lo lo w sets
 len:sets.length=n
 small:SetsB sets
 asc:AllAsc sets
 bS:w.heap[S]? = some (.cells #[.slice (some ⟨g,0,none⟩) n n] 81 (0,0))
 bK:w.heap[K]? = some (.cells #[.int .i64 k] 3 (0,0))
 bG:w.heap[G]? = some (.cells #[.bool gr] 4 (0,0))
 le:C≤g∧C≤S∧C≤G∧K<C∧g<lo∧S<lo∧G<lo∧lo≤w.heap.size∧g≠S∧g≠G∧S≠G
theorem FirstSt.below {w w':World} {g S K G lo C n k:Nat} {sets:Sets} {gr:Bool} (h:FirstSt w g S K G lo C n k sets gr) (hb:Below w.heap.size w w'):FirstSt w' g S K G lo C n k sets gr:=by
 obtain⟨l1,l2,l3,l4,l5,l6,l7,l8,l9⟩:=h.le
 exact⟨h.row.below hb,h.len,h.small,h.asc,(hb.block S (by omega)).trans h.bS,(hb.block K (by omega)).trans h.bK,(hb.block G (by omega)).trans h.bG,l1,l2,l3,l4,l5,l6,l7,Nat.le_trans l8 hb.size,l9⟩
theorem box_set {w:World} {G:Nat} {v u:Value} {t:TypeId} (h:w.heap[G]? = some (.cells #[v] t (0,0))):(w.setCell ⟨G,0,none⟩ u).heap[G]? = some (.cells #[u] t (0,0)):=by
 simp only[World.setCell,Array.getElem?_modify,if_true,h,Option.map_some]
 rfl
theorem FirstSt.setG {w:World} {g S K G lo C n k:Nat} {sets:Sets} {gr:Bool} (h:FirstSt w g S K G lo C n k sets gr) (b:Bool):FirstSt (w.setCell ⟨G,0,none⟩ (.bool b)) g S K G lo C n k sets b:=by
 obtain⟨l1,l2,l3,l4,l5,l6,l7,l8,l9,l10,l11⟩:=h.le
 exact⟨h.row.other _ l10 l7 (by show G≠lo;omega),h.len,h.small,h.asc,by rw[Below.heap_setCell _ _ _ _ (show S≠G from l11)];exact h.bS,by rw[Below.heap_setCell _ _ _ _ (show K≠G by omega)];exact h.bK,box_set h.bG,l1,l2,l3,l4,l5,l6,l7,by simpa[World.setCell] using l8,l9,l10,l11⟩
def GrowFTo (w:World) (g S K G lo C n k:Nat) (gr:Bool) (o:Option (Sets×Bool)) (e:Ending) (w':World):Prop :=
 Below C w w'∧match o with
 |none=>e=.returned (.bool false)
 |some (s',g')=>e=.returned (.bool true)∧FirstSt w' g S K G lo C n k s' (gr||g')
theorem fits_short {x:List Wd} (h:ShortW x):Fits x:=fun y hy=>by have:=h y hy;unfold maxLen;omega
set_option maxRecDepth 100000 in
set_option maxHeartbeats 8000000 in
theorem growF_any (w:World) (g S K G lo C n k N:Nat) (sets:Sets) (gr:Bool) (a:Nat) (r:List Int) (A:Option Addr) (q c:Nat) (h:FirstSt w g S K G lo C n k sets gr) (hk1:1≤k) (hk2:k≤4) (ha:a<n) (hn:n≤256) (hq:q=r.length) (hr:SlR eInt w N (.slice A q c) r) (hN:N≤w.heap.size) :
  Calls Tryz.prog 91 #[ruleV a A q c,.pointer (some ⟨S,0,none⟩),.pointer (some ⟨K,0,none⟩),.pointer (some ⟨G,0,none⟩)] w (GrowFTo w g S K G lo C n k gr (growW k sets ((a:Int),r))):=by
 have hbx:=(Below.refl w.heap.size w).alloc (Nat.le_refl _) (.cells #[.int .i64 a,.slice A q c] 55)
 have HH:=Lib.hid h
 have H1:=Lib.hid (h.below hbx)
 have HZ:=Lib.hid (World.size_alloc w (.cells #[.int .i64 a,.slice A q c] 55))
 have HK:=Lib.hid (Go.heap_alloc_new w (.cells #[.int .i64 a,.slice A q c] 55))
 have HBX:=Lib.hid hbx
 have HQ:=Lib.hid hq
 have hOF:=firstOf_any (some ⟨g,0,none⟩) A n c k sets r (w.alloc (.cells #[.int .i64 a,.slice A q c] 55)) hk1 hk2 (by have:=(h.below hbx).row.sl (by rw[h.len];unfold maxLen;omega);rw[h.len] at this ⊢;exact this) (by rw[←hq];exact hr.fut hbx hN (by rw[World.size_alloc];omega)) (fun i x hx=>by have:=h.small i x hx;exact⟨this.1,by omega⟩)
 rw[h.len,←hq] at hOF
 have HOF:=Lib.hid hOF
 clear h hbx hq hr hOF
 have cS:=cell0 HH.out.bS
 have cK:=cell0 HH.out.bK
 have lS:=(Array.getElem?_eq_some_iff.1 HH.out.bS).1
 have lK:=(Array.getElem?_eq_some_iff.1 HH.out.bK).1
 go_enter Tryz.func91,Tryz.ntmps91
 go_wp2_with fail
 clear cS cK lS lK
 generalize w.alloc (.cells #[.int .i64 a,.slice A q c] 55)=w1 at *
 refine HOF.out.mono ?_
 rintro e w2 ⟨hb2,he⟩
 have HB2:=Lib.hid (HBX.out.trans (hb2.mono (by rw[HZ.out];omega)))
 have HST2:=Lib.hid (H1.out.below hb2)
 have HK2:=Lib.hid ((hb2.block w.heap.size (by rw[HZ.out];omega)).trans HK.out)
 have hCw:C≤w.heap.size:=by have:=HH.out.le;omega
 cases ho:ofW sets k r with
 |none =>
  rw[ho] at he
  subst he
  have HG:=Lib.hid (show growW k sets ((a:Int),r)=none by unfold growW;simp only[ho];rfl)
  clear ho hb2
  go_wp2_with fail
  go_ret
  refine⟨HB2.out.mono hCw,?_⟩
  rw[HG.out]
  rfl
 |some x =>
  rw[ho] at he
  obtain⟨Ax,cx,rfl,hsx⟩:=he
  have HX:=Lib.hid (ofW_b hk2 ho)
  obtain⟨qx,hqx⟩:∃ qx,qx=x.length:=⟨_,rfl⟩
  rw[←hqx] at hsx ⊢
  have HSX:=Lib.hid hsx
  have HQX:=Lib.hid hqx
  have has:a<sets.length:=by rw[HST2.out.len];exact ha
  obtain⟨Ao,co,hco,ho1,ho2,hhi,hfz⟩:=HST2.out.row.get has
  have HOLD:=Lib.hid (show sets.getD a []=sets[a] by rw[List.getD_eq_getElem?_getD,List.getElem?_eq_getElem has];rfl)
  obtain⟨old,hold⟩:∃ old,old=sets[a]:=⟨_,rfl⟩
  rw[←hold] at hco ho1 hhi HOLD
  obtain⟨qo,hqo⟩:∃ qo,qo=old.length:=⟨_,rfl⟩
  rw[←hqo] at hco ho1 hhi
  have HHI:=Lib.hid hhi
  have HQO:=Lib.hid hqo
  have HGW:=Lib.hid (show growW k sets ((a:Int),r)=if (unionW old x).length≤4096 then some (sets.set a (unionW old x),decide (old.length<(unionW old x).length)) else none by
   unfold growW
   simp only[ho,Option.bind_some,Int.toNat_natCast,HOLD.out])
  have HOB:=Lib.hid (show ShortW old∧old.length≤4096 by rw[←HOLD.out];exact HST2.out.small.getD a)
  have cS:=cell0 HST2.out.bS
  have c0:w2.cell? ⟨w.heap.size,0,none⟩=some (.int .i64 a):=by rw[cell_of_row _ _ _ _ _ _ HK2.out];rfl
  have lS:=(Array.getElem?_eq_some_iff.1 HST2.out.bS).1
  have lG:=(Array.getElem?_eq_some_iff.1 HST2.out.bG).1
  have lg:=HST2.out.row.lt
  have lb:=(Array.getElem?_eq_some_iff.1 HK2.out).1
  clear ho hsx hqx hold has hqo hhi
  go_wp2_with fail
  have hb3:=(Below.refl w2.heap.size w2).alloc (Nat.le_refl _) (.cells #[.slice Ao qo co,.slice Ax qx cx] 22)
  have hst3:=HST2.out.below hb3
  have hk3:=Go.heap_alloc_new w2 (.cells #[.slice Ao qo co,.slice Ax qx cx] 22)
  have HU:=Lib.hid (union_any (some ⟨w2.heap.size,0,none⟩) 2 old x (w2.alloc (.cells #[.slice Ao qo co,.slice Ax qx cx] 22)) (slS_two hk3 (HHI.out.sl.fut hb3 (Nat.le_refl _) hb3.size) (HSX.out.fut hb3 (Nat.le_refl _) hb3.size)) (by have:=HOB.out.2;have:=HX.out.2;omega))
  have HB3:=Lib.hid hb3
  have HST3:=Lib.hid hst3
  clear hb3 hst3 hk3 cS c0 hco hfz lS lG lg lb
  generalize w2.alloc (.cells #[.slice Ao qo co,.slice Ax qx cx] 22)=w3 at *
  refine HU.out.mono ?_
  rintro e w4 ⟨v4,rfl,hown,hb4⟩
  have HST4:=Lib.hid (HST3.out.below hb4)
  have HB24:=Lib.hid (HB3.out.trans (hb4.mono HB3.out.size))
  have HK4:=Lib.hid ((HB24.out.block w.heap.size (Array.getElem?_eq_some_iff.1 HK2.out).1).trans HK2.out)
  have HB4:=Lib.hid (HB2.out.trans (HB24.out.mono HB2.out.size))
  have HUB:=Lib.hid (show ShortW (unionW old x) from short_union HOB.out.1 HX.out.1)
  have hown':w4.ownsRow w3.heap.size 9 1 v4 (unionW old x).length (wcells (unionW old x)):=hown
  have HHU:=Lib.hid (Hi.own (lo:=lo) (e0:=lo) (fits_short HUB.out) hown' (.inl (by have:=HST3.out.le;omega)))
  obtain⟨A4,c4,rfl,h41,h42⟩:=own_form hown'
  have HULE:=Lib.hid (show (unionW old x).length≤8192 by
   have:=setOf_le (old++x)
   rw[List.length_append] at this
   have h1:=HOB.out.2
   have h2:=HX.out.2
   unfold unionW
   omega)
  obtain⟨u,hu⟩:∃ u,u=unionW old x:=⟨_,rfl⟩
  rw[←hu] at HGW HUB HHU h41 HULE
  rw[←hu]
  have HUU:=Lib.hid hu
  clear hown hown' hb4 HU hu
  obtain⟨qu,hqu⟩:∃ qu,qu=u.length:=⟨_,rfl⟩
  rw[←hqu] at HGW HHU h41 HULE ⊢
  have HQU:=Lib.hid hqu
  rw[←HQO.out] at HGW
  clear hqu
  have hqu8:=HULE.out
  -- the row, the boxes in w4
  have has:a<sets.length:=by rw[HST4.out.len];exact ha
  obtain⟨Ao',co',hco',ho1',ho2',hhi',hfz'⟩:=HST4.out.row.get has
  have holdl:sets[a].length=qo:=by
   have:=HOLD.out
   rw[List.getD_eq_getElem?_getD,List.getElem?_eq_getElem has] at this
   rw[HQO.out,←this]
   rfl
  rw[holdl] at hco' ho1'
  have cS:=cell0 HST4.out.bS
  have cG:=cell0 HST4.out.bG
  have fG:w4.frozen? ⟨G,0,none⟩=false:=by simp[World.frozen?,HST4.out.bG]
  have c0:w4.cell? ⟨w.heap.size,0,none⟩=some (.int .i64 a):=by rw[cell_of_row _ _ _ _ _ _ HK4.out];rfl
  obtain⟨l1,l2,l3,l4,l5,l6,l7,l8,l9,l10,l11⟩:=HST4.out.le
  have hgb:G≠w.heap.size:=by have:=HH.out.le;omega
  have hgb2:g≠w.heap.size:=by have:=HH.out.le;omega
  clear hhi' holdl has
  -- behind both stores
  have HFIN:Hid (∀ (b:Bool) (w5:World),w5=(w4.setCell ⟨G,0,none⟩ (.bool b)).setCell ⟨g,a,none⟩ (.slice A4 qu c4)→qu≤4096→b=(gr||decide (qo<qu))→GrowFTo w g S K G lo C n k gr (growW k sets ((a:Int),r)) (.returned (.bool true)) w5):=by
   rintro b w5 rfl hle rfl
   have hG:(w4.setCell ⟨G,0,none⟩ (.bool (gr||decide (qo<qu)))).heap[G]? = some (.cells #[.bool (gr||decide (qo<qu))] 4 (0,0)):=by
    simp only[World.setCell,Array.getElem?_modify,if_true,HST4.out.bG,Option.map_some]
    rfl
   refine⟨((HB4.out.mono hCw).setCell l3 _).setCell l1 _,?_⟩
   rw[HGW.out,if_pos hle]
   refine⟨rfl,⟨(HST4.out.row.other _ l10 l7 (by show G≠lo;omega)).set l5 (by omega) (HHU.out.keep (by simp[World.setCell]) fun p hp _=>World.cell?_of_block (Below.heap_setCell _ _ _ _ (by show p.block≠G;rcases hp with hp | hp <;> omega))),by rw[List.length_set];exact HST4.out.len,HST4.out.small.set _ ⟨HUB.out,by rw[←HQU.out];exact hle⟩,HST4.out.asc.set _ (by rw[HUU.out];exact unionW_asc _ _),?_,?_,?_,l1,l2,l3,l4,l5,l6,l7,by simpa[World.setCell] using l8,l9,l10,l11⟩⟩
   ·rw[Below.heap_setCell _ _ _ _ (fun e=>l9 e.symm),Below.heap_setCell _ _ _ _ (show S≠G from l11)];exact HST4.out.bS
   ·rw[Below.heap_setCell _ _ _ _ (show K≠g by omega),Below.heap_setCell _ _ _ _ (show K≠G by omega)];exact HST4.out.bK
   ·rw[Below.heap_setCell _ _ _ _ (fun e=>l10 e.symm)];exact hG
  have HFIN2:Hid (∀ (b:Bool) (w5:World),w5=(w4.setCell ⟨G,0,none⟩ (.bool b)).setCell ⟨g,a,none⟩ (.slice A4 qu c4)→¬ qu≤4096→GrowFTo w g S K G lo C n k gr (growW k sets ((a:Int),r)) (.returned (.bool false)) w5):=by
   rintro b w5 rfl hle
   refine⟨((HB4.out.mono hCw).setCell l3 _).setCell l1 _,?_⟩
   rw[HGW.out,if_neg hle]
  have hans:n≤256:=hn
  cases gr with
  |true =>
   by_cases hle:qu≤4096
   ·have hld:decide ((qu:Int)≤4096)=true:=by rw[decide_eq_true_eq];omega
    go_wp2_with fail
    go_ret
    exact HFIN.out true _ rfl hle rfl
   ·have hld:decide ((qu:Int)≤4096)=false:=by rw[decide_eq_false_iff_not];omega
    go_wp2_with fail
    go_ret
    exact HFIN2.out true _ rfl hle
  |false =>
   by_cases hlt:qo<qu
   ·have hltd:decide (qo<qu)=true:=decide_eq_true hlt
    by_cases hle:qu≤4096
    ·have hld:decide ((qu:Int)≤4096)=true:=by rw[decide_eq_true_eq];omega
     go_wp2_with fail
     go_ret
     exact HFIN.out true _ rfl hle (by rw[hltd];rfl)
    ·have hld:decide ((qu:Int)≤4096)=false:=by rw[decide_eq_false_iff_not];omega
     go_wp2_with fail
     go_ret
     exact HFIN2.out true _ rfl hle
   ·have hltd:decide (qo<qu)=false:=decide_eq_false hlt
    have hle:qu≤4096:=by have:=HOB.out.2;have:=HQO.out;omega
    have hld:decide ((qu:Int)≤4096)=true:=by rw[decide_eq_true_eq];omega
    go_wp2_with fail
    go_ret
    exact HFIN.out false _ rfl hle (by rw[hltd];rfl)
end Go.Proofs.YtfpihflepeiagaaGreatDoor
