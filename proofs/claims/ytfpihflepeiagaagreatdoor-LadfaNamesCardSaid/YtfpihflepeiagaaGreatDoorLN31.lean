/- Texts of this proof joined: TrieP, OwnS, TrieNum, InvJ. -/
import Derived.Test.YtfpihflepeiagaaGreatDoorLN30
import Derived.Test.YtfpihflepeiagaaGreatDoorLN05
import Derived.Test.YtfpihflepeiagaaGreatDoorLN01
import Derived.Test.YtfpihflepeiagaaGreatDoorLN28
import Derived.Test.YtfpihflepeiagaaGreatDoorLN29
import Derived.Test.YtfpihflepeiagaaGreatDoorLN08
import Derived.Test.YtfpihflepeiagaaGreatDoorLN23
import Derived.Test.YtfpihflepeiagaaGreatDoorLN13
namespace Go.Proofs.YtfpihflepeiagaaGreatDoor

theorem assoc_setT {α:Type} [DecidableEq α] (l:List (α×Value)) (k:α) (v:Value) (x:α):assoc (assocSet l k v) x=if x=k then some v else assoc l x:=by
 induction l with
 |nil =>
  unfold assocSet assoc
  by_cases h:x=k
  ·subst h;simp
  ·rw[if_neg h]
   have h2:¬ k=x:=fun e=>h e.symm
   simp[h2]
 |cons a r ih =>
  unfold assocSet
  by_cases h1:a.1=k
  ·rw[if_pos h1]
   unfold assoc
   rw[List.find?_cons,List.find?_cons]
   by_cases h:x=k
   ·subst h
    simp
   ·rw[if_neg h]
    have h2:¬ k=x:=fun e=>h e.symm
    have h3:¬ a.1=x:=fun e=>h (e.symm.trans h1)
    simp[h2,h3]
  ·rw[if_neg h1]
   unfold assoc at ih ⊢
   rw[List.find?_cons,List.find?_cons]
   by_cases h:a.1=x
   ·have h2:¬ x=k:=fun e=>h1 (h.trans e)
    simp[h,h2]
   ·simp only[h,decide_false]
    exact ih
def atF (ts:List Wd) (i:Nat) (w:Wd):Option Value:=if w∈ts.take i then some (.int .i64 (ts.idxOf w)) else if w∈ts then some (.int .i64 0) else none
theorem idxOf_nd {ts:List Wd} (hn:ts.Nodup) {i:Nat} {w:Wd} (h:ts[i]? = some w):ts.idxOf w=i:=by
 obtain⟨hi,rfl⟩:=List.getElem?_eq_some_iff.1 h
 exact hn.idxOf_getElem i hi
theorem atF_succ {ts:List Wd} (hn:ts.Nodup) {i:Nat} {w:Wd} (h:ts[i]? = some w) (x:Wd):atF ts (i+1) x=if x=w then some (.int .i64 i) else atF ts i x:=by
 obtain⟨hi,e⟩:=List.getElem?_eq_some_iff.1 h
 unfold atF
 rw[List.take_succ_eq_append_getElem hi,e]
 simp only[List.mem_append,List.mem_singleton]
 by_cases hx:x=w
 ·subst hx
  rw[if_pos (.inr rfl),if_pos rfl,idxOf_nd hn h]
 ·rw[if_neg hx]
  simp[hx]
theorem atF_mem {ts:List Wd} {i:Nat} {w:Wd} (h:w∈ts.take i):atF ts i w=some (.int .i64 (ts.idxOf w)):=by
 unfold atF
 rw[if_pos h]
def AtR (κ:Wd→Value) (W:World) (g:Nat) (ts:List Wd) (i:Nat):Prop:=∃ l,MapR κ W g l∧∀ w,assoc l w=atF ts i w
theorem AtR.grown {κ:Wd→Value} {W W':World} {g:Nat} {ts:List Wd} {i:Nat} (h:AtR κ W g ts i) {row:Option Nat} (hg:W.grownBy W' row) (hne:some g≠row):AtR κ W' g ts i:=by
 obtain⟨l,h1,h2⟩:=h
 exact⟨l,h1.grown hg hne,h2⟩
theorem AtR.setCell {κ:Wd→Value} {W:World} {g:Nat} {ts:List Wd} {i:Nat} (h:AtR κ W g ts i) {p:Addr} (hp:g≠p.block) (v:Value):AtR κ (W.setCell p v) g ts i:=by
 obtain⟨l,h1,h2⟩:=h
 exact⟨l,h1.setCell hp,h2⟩
theorem fronts_parent {rows:List RowW} {ts:List Wd} (h:Fronts rows ts) {i:Nat} {x:Wd} (hx:ts[i]? = some x) (hne:x≠[]):∃ j,j<i∧ts[j]? = some x.dropLast:=by
 have hl:0<x.length:=List.length_pos_iff.2 hne
 have hm:x.dropLast∈ts:=by
  rw[h.mem]
  rcases (h.mem x).1 (List.mem_of_getElem? hx) with e | ⟨r,hr,hp⟩
  ·exact absurd e hne
  ·exact .inr ⟨r,hr,(List.dropLast_prefix x).trans hp⟩
 obtain⟨j,hj⟩:=List.getElem?_of_mem hm
 refine⟨j,?_,hj⟩
 obtain⟨a1,a2⟩:=List.getElem?_eq_some_iff.1 hx
 obtain⟨b1,b2⟩:=List.getElem?_eq_some_iff.1 hj
 have hp:=List.pairwise_iff_getElem.1 h.asc
 rcases Nat.lt_trichotomy j i with hlt | he | hlt
 ·exact hlt
 ·subst he
  rw[a2] at b2
  have:=congrArg List.length b2
  rw[List.length_dropLast] at this
  omega
 ·have:=hp i j a1 b1 hlt
  rw[a2,b2] at this
  rcases this with h2 | ⟨h2,_⟩ <;> rw[List.length_dropLast] at h2 <;> omega
theorem fronts_len {rows:List RowW} {ts:List Wd} (h:Fronts rows ts) {N:Nat} (hw:∀ r∈rows,r.2.1.length≤N) {i:Nat} {x:Wd} (hx:ts[i]? = some x):x.length≤N:=by
 rcases (h.mem x).1 (List.mem_of_getElem? hx) with rfl | ⟨r,hr,hp⟩
 ·simp
 ·exact Nat.le_trans hp.length_le (hw r hr)
theorem kids_none (w:Wd) (ts:List Wd):kidsT (ts.take 0) w=[]:=rfl
theorem kids_succ {ts:List Wd} {i:Nat} {x:Wd} (h:ts[i]? = some x) (w:Wd):kidsT (ts.take (i+1)) w=kidsT (ts.take i) w++if x≠[]∧x.dropLast=w then [(((x.getLastD 0).toNat:Int),(i:Int))] else []:=by
 obtain⟨hi,e⟩:=List.getElem?_eq_some_iff.1 h
 unfold kidsT
 rw[List.take_succ_eq_append_getElem hi,List.zipIdx_append,List.filter_append,List.map_append,e]
 congr 1
 have hl:(ts.take i).length=i:=by rw[List.length_take];omega
 simp only[List.zipIdx_cons,List.zipIdx_nil,hl,Nat.zero_add]
 by_cases hc:x≠[]∧x.dropLast=w
 ·rw[if_pos hc]
  simp[hc]
 ·rw[if_neg hc,List.filter_cons,if_neg (by simpa using hc)]
  rfl
theorem kids_root {ts:List Wd} {i:Nat} (h:ts[i]? = some []):(ts.map fun w=>kidsT (ts.take (i+1)) w)=ts.map fun w=>kidsT (ts.take i) w:=by
 apply List.map_congr_left
 intro w _
 rw[kids_succ h]
 simp
theorem kids_put {ts:List Wd} (hn:ts.Nodup) {i j:Nat} {x p:Wd} (h:ts[i]? = some x) (hx:x≠[]) (hp:x.dropLast=p) (hj:ts[j]? = some p) :
  (ts.map fun w=>kidsT (ts.take (i+1)) w)=(ts.map fun w=>kidsT (ts.take i) w).set j (kidsT (ts.take i) p++[(((x.getLastD 0).toNat:Int),(i:Int))]):=by
 apply List.ext_getElem?
 intro k
 rw[List.getElem?_set,List.getElem?_map,List.getElem?_map,List.length_map]
 by_cases hk:j=k
 ·subst hk
  rw[if_pos rfl,if_pos (List.getElem?_eq_some_iff.1 hj).1,hj,Option.map_some,kids_succ h,if_pos ⟨hx,hp⟩]
 ·rw[if_neg hk]
  cases hw:ts[k]? with
  |none=>rfl
  |some w =>
   rw[Option.map_some,Option.map_some,kids_succ h,if_neg,List.append_nil]
   rintro⟨_,e⟩
   rw[hp] at e
   subst e
   have h1:=idxOf_nd hn hj
   have h2:=idxOf_nd hn hw
   omega
theorem kidsT_len (F:List Wd) (w:Wd):(kidsT F w).length≤F.length:=by
 unfold kidsT
 rw[List.length_map]
 refine Nat.le_trans (List.length_filter_le _ _) ?_
 rw[List.length_zipIdx]
 exact Nat.le_refl _
def outStep (w:Wd) (o:Int) (x:RowW×Wd):Int:=if x.2=w∧x.2=x.1.2.1∧o<0 then x.1.2.2 else o
def outAt (pre:List (RowW×Wd)) (w:Wd):Int:=pre.foldl (outStep w) (-1)
theorem outAt_snoc (pre:List (RowW×Wd)) (x:RowW×Wd) (w:Wd):outAt (pre++[x]) w=outStep w (outAt pre w) x:=by
 unfold outAt
 rw[List.foldl_append]
 rfl
theorem outStep_row (r:RowW) (w:Wd) (o:Int):((List.range (r.2.1.length+1)).map fun k=>(r,r.2.1.take k)).foldl (outStep w) o=if r.2.1=w∧o<0 then r.2.2 else o:=by
 have stay:∀ (l:List Nat) (o:Int),(∀ k∈l,k<r.2.1.length)→(l.map fun k=>(r,r.2.1.take k)).foldl (outStep w) o=o:=by
  intro l
  induction l with
  |nil=>intro o _;rfl
  |cons k l ih =>
   intro o hk
   rw[List.map_cons,List.foldl_cons]
   have h1:outStep w o (r,r.2.1.take k)=o:=by
    unfold outStep
    rw[if_neg]
    rintro⟨_,h2,_⟩
    have:=congrArg List.length h2
    simp only[List.length_take] at this
    have:=hk k (List.mem_cons_self ..)
    omega
   rw[h1]
   exact ih o fun k hk'=>hk k (List.mem_cons_of_mem _ hk')
 rw[List.range_succ,List.map_append,List.foldl_append,stay _ _ (fun k hk=>List.mem_range.1 hk)]
 show outStep w o (r,r.2.1.take r.2.1.length)=_
 unfold outStep
 simp only[List.take_length,true_and]
theorem outAt_all (rows:List RowW) (w:Wd):outAt (rows.flatMap fun r=>(List.range (r.2.1.length+1)).map fun k=>(r,r.2.1.take k)) w=outOf rows w:=by
 unfold outAt outOf
 generalize (-1:Int)=o
 induction rows generalizing o with
 |nil=>rfl
 |cons r l ih =>
  rw[List.flatMap_cons,List.foldl_append,outStep_row,List.foldl_cons]
  exact ih _
def outR (ts:List Wd) (pre:List (RowW×Wd)) (k:Nat):Int:=outAt pre (ts.getD k [])
theorem outR_step {ts:List Wd} (hn:ts.Nodup) {j:Nat} {x:RowW×Wd} (hj:ts[j]? = some x.2) (pre:List (RowW×Wd)) {k:Nat} (hk:k<ts.length):outR ts (pre++[x]) k=if k=j∧x.2=x.1.2.1∧outR ts pre j<0 then x.1.2.2 else outR ts pre k:=by
 unfold outR
 rw[outAt_snoc]
 have hg:ts.getD k []=ts[k]:=by rw[List.getD_eq_getElem?_getD,List.getElem?_eq_getElem hk];rfl
 have hgj:ts.getD j []=x.2:=by rw[List.getD_eq_getElem?_getD,hj];rfl
 rw[hg,hgj]
 unfold outStep
 have he:x.2=ts[k]↔k=j:=by
  constructor
  ·intro h
   have h1:=idxOf_nd hn hj
   have h2:=idxOf_nd hn (i:=k) (w:=x.2) (by rw[List.getElem?_eq_getElem hk,h])
   omega
  ·rintro rfl
   rw[List.getElem?_eq_getElem hk] at hj
   injection hj with hj
   exact hj.symm
 by_cases hkj:k=j
 ·subst hkj
  have h1:=he.2 rfl
  rw[←h1]
  simp
 ·have h1:¬ x.2=ts[k]:=fun h=>hkj (he.1 h)
  simp[h1,hkj]
theorem outR_nil (ts:List Wd) (k:Nat):outR ts [] k=-1:=rfl
theorem outOf_cases (rows:List RowW) (w:Wd):outOf rows w=-1∨∃ r∈rows,outOf rows w=r.2.2:=by
 unfold outOf
 suffices h:∀ (l:List RowW) (o:Int),l.foldl (fun o r=>if r.2.1=w∧o<0 then r.2.2 else o) o=o∨∃ r∈l,l.foldl (fun o r=>if r.2.1=w∧o<0 then r.2.2 else o) o=r.2.2 from h rows (-1)
 intro l
 induction l with
 |nil=>intro o;exact .inl rfl
 |cons r l ih =>
  intro o
  rw[List.foldl_cons]
  by_cases hc:r.2.1=w∧o<0
  ·rw[if_pos hc]
   rcases ih r.2.2 with h | ⟨r',h1,h2⟩
   ·exact .inr ⟨r,List.mem_cons_self ..,h⟩
   ·exact .inr ⟨r',List.mem_cons_of_mem _ h1,h2⟩
  ·rw[if_neg hc]
   rcases ih o with h | ⟨r',h1,h2⟩
   ·exact .inl h
   ·exact .inr ⟨r',List.mem_cons_of_mem _ h1,h2⟩
end Go.Proofs.YtfpihflepeiagaaGreatDoor
namespace Go.Proofs.YtfpihflepeiagaaGreatDoor
open Go.RowKit

def ecells (l:List (Int×Int)):List Value:=(l.map fun e=>[Value.int .i64 e.1,.int .i64 e.2]).flatten
theorem ecells_snoc (l:List (Int×Int)) (e:Int×Int):ecells (l++[e])=ecells l++[.int .i64 e.1,.int .i64 e.2]:=by simp[ecells]
def scells (rs:List (Int×Value)):List Value:=(rs.map fun r=>[Value.int .i64 r.1,r.2]).flatten
theorem scells_len (l:List (Int×Value)):(scells l).length=l.length*2:=by
 induction l with
 |nil=>rfl
 |cons x l ih=>unfold scells at *;rw[List.map_cons,List.flatten_cons,List.length_append,ih,List.length_cons];simp;omega
theorem scells_cons (r:Int×Value) (rs:List (Int×Value)):scells (r :: rs)=.int .i64 r.1 :: r.2 :: scells rs:=by simp[scells]
theorem scells_get:∀ {rs:List (Int×Value)} {i:Nat} {r:Int×Value},rs[i]? = some r→(scells rs)[i*2]? = some (.int .i64 r.1)∧(scells rs)[i*2+1]? = some r.2
 |[],i,r,h=>by simp at h
 |a :: rs,0,r,h=>by
  simp only[List.getElem?_cons_zero,Option.some.injEq] at h
  subst h
  exact⟨rfl,rfl⟩
 |a :: rs,i+1,r,h=>by
  have:=scells_get (rs:=rs) (i:=i) (r:=r) (by simpa using h)
  rw[scells_cons,show (i+1)*2=i*2+1+1 by omega]
  simpa using this
theorem scells_set:∀ {rs:List (Int×Value)} {i:Nat} {r:Int×Value},rs[i]? = some r→∀ (x:Int) (v:Value),(scells rs).set (i*2) (.int .i64 x)=scells (rs.set i (x,r.2))∧(scells rs).set (i*2+1) v=scells (rs.set i (r.1,v))
 |[],i,r,h,_,_=>by simp at h
 |a :: rs,0,r,h,x,v=>by
  simp only[List.getElem?_cons_zero,Option.some.injEq] at h
  subst h
  simp[scells_cons]
 |a :: rs,i+1,r,h,x,v=>by
  obtain⟨h1,h2⟩:=scells_set (rs:=rs) (i:=i) (r:=r) (by simpa using h) x v
  rw[scells_cons,show (i+1)*2=i*2+1+1 by omega]
  simp only[List.set_cons_succ,scells_cons,h1,h2,and_self]
theorem heap_setCell_at {w:World} {q o:Nat} {v:Value} {cs:Array Value} {t:TypeId} {fr:Nat×Nat} (h:w.heap[q]? = some (.cells cs t fr)):(w.setCell ⟨q,o,none⟩ v).heap[q]? = some (.cells (cs.setIfInBounds o v) t fr):=by
 simp[World.setCell,Array.getElem?_modify,h]
structure OwnS (ts te:TypeId) (W:World) (N b:Nat) (rs:List (Int×Value)) (es:List (List (Int×Int))):Prop where
 len:rs.length=es.length
 box:W.heap[b]? = some (.cells (scells rs).toArray ts (0,0))
 own:∀ (i:Nat) (r:Int×Value) (l:List (Int×Int)),rs[i]? = some r→es[i]? = some l→W.ownsRow N te 2 r.2 l.length (ecells l)
 nd:∀ (i j:Nat) (r s:Int×Value) (g:Nat),rs[i]? = some r→rs[j]? = some s→r.2.ownBlock=some g→s.2.ownBlock=some g→i=j
section
variable {ts te:TypeId} {W W':World} {N b:Nat} {rs:List (Int×Value)} {es:List (List (Int×Int))}
theorem OwnS.cells (h:OwnS ts te W N b rs es) {i:Nat} {r:Int×Value} (hr:rs[i]? = some r):W.cell? ⟨b,i*2,none⟩=some (.int .i64 r.1)∧W.cell? ⟨b,i*2+1,none⟩=some r.2∧(∀ k,W.frozen? ⟨b,k,none⟩=false):=by
 obtain⟨h1,h2⟩:=scells_get hr
 refine⟨?_,?_,fun k=>by simp[World.frozen?,h.box]⟩
 ·rw[cell_of_row _ _ _ _ _ _ h.box]
  simpa using h1
 ·rw[cell_of_row _ _ _ _ _ _ h.box]
  simpa using h2
theorem OwnS.mk0 {n:Nat} {x:Int} (hb:W.heap[b]? = some (.cells (scells (List.replicate n (x,.slice none 0 0))).toArray ts (0,0))):OwnS ts te W N b (List.replicate n (x,.slice none 0 0)) (List.replicate n []):=by
 refine⟨by simp,hb,fun i r l hr hl=>?_,fun i j r s g hr hs hg=>?_⟩
 ·rw[List.getElem?_replicate] at hr hl
  split at hr
  ·injection hr with hr
   rw[if_pos (by assumption)] at hl
   injection hl with hl
   subst hr hl
   exact World.ownsRow_nil _ _ _ _
  ·cases hr
 ·rw[List.getElem?_replicate] at hr
  split at hr
  ·injection hr with hr
   subst hr
   simp[Value.ownBlock] at hg
  ·cases hr
theorem OwnS.keepRow (hne:ts≠te) (h:OwnS ts te W N b rs es) {i:Nat} {r:Int×Value} (hr:rs[i]? = some r):r.2.ownBlock≠some b:=by
 have hl:i<es.length:=by rw[←h.len];exact (List.getElem?_eq_some_iff.1 hr).1
 intro e
 rcases (h.own i r _ hr (List.getElem?_eq_getElem hl)).2 with ⟨h0,_⟩ | ⟨g,cap,cur,h0,hg,hh,_⟩
 ·rw[h0] at e;cases e
 ·rw[h0] at e
  have:g=b:=by simpa[Value.ownBlock] using e
  subst this
  rw[h.box] at hh
  injection hh with hh
  injection hh with _ hh
  exact hne hh
theorem own_keepS {w w':World} {base:Nat} {e:TypeId} {size:Nat} {v:Value} {n:Nat} {xs:List Value} (h:w.ownsRow base e size v n xs) (hk:∀ g cur,v.ownBlock=some g→w.heap[g]? = some (.cells cur e (0,0))→w'.heap[g]? = some (.cells cur e (0,0))):w'.ownsRow base e size v n xs:=by
 refine⟨h.1,?_⟩
 rcases h.2 with h' | ⟨g,cap,cur,rfl,hg,hh,r⟩
 ·exact .inl h'
 ·exact .inr ⟨g,cap,cur,rfl,hg,hk g cur rfl hh,r⟩
theorem OwnS.keep (h:OwnS ts te W N b rs es) (hk:∀ (g:Nat) (cur:Array Value) (t:TypeId),t=ts∨t=te→W.heap[g]? = some (.cells cur t (0,0))→W'.heap[g]? = some (.cells cur t (0,0))):OwnS ts te W' N b rs es :=
 ⟨h.len,hk b _ _ (.inl rfl) h.box,fun i r l hi hl=>own_keepS (h.own i r l hi hl) fun g cur _ hh=>hk g cur _ (.inr rfl) hh,h.nd⟩
theorem OwnS.grown (h:OwnS ts te W N b rs es) {row:Option Nat} (hg:W.grownBy W' row) (hr:∀ k cs t fr,row=some k→W.heap[k]? = some (.cells cs t fr)→t≠ts∧t≠te):OwnS ts te W' N b rs es :=
 h.keep fun g cur t ht hh=>(hg.block g (Array.getElem?_eq_some_iff.1 hh).1 fun e=>by
  have:=hr g _ _ _ e.symm hh
  rcases ht with rfl | rfl
  ·exact this.1 rfl
  ·exact this.2 rfl).trans hh
theorem OwnS.below (h:OwnS ts te W N b rs es) (hb:Below W.heap.size W W'):OwnS ts te W' N b rs es :=
 h.keep fun g _ _ _ hh=>(hb.block g (Array.getElem?_eq_some_iff.1 hh).1).trans hh
theorem OwnS.alloc (h:OwnS ts te W N b rs es) (o:Obj):OwnS ts te (W.alloc o) N b rs es :=
 h.grown (World.grownBy_alloc W o none) fun k _ _ _ e=>by cases e
theorem OwnS.setOut (hne:ts≠te) (h:OwnS ts te W N b rs es) {i:Nat} {r:Int×Value} (hr:rs[i]? = some r) (x:Int):OwnS ts te (W.setCell ⟨b,i*2,none⟩ (.int .i64 x)) N b (rs.set i (x,r.2)) es:=by
 have key:∀ (k:Nat) (s:Int×Value),(rs.set i (x,r.2))[k]? = some s→∃ s',rs[k]? = some s'∧s'.2=s.2:=fun k s hk=>by
  rw[List.getElem?_set] at hk
  split at hk
  ·rename_i hik
   subst hik
   split at hk
   ·injection hk with hk
    exact⟨r,hr,by rw[←hk]⟩
   ·cases hk
  ·exact⟨s,hk,rfl⟩
 refine⟨by rw[List.length_set];exact h.len,?_,fun k s l hk hl=>?_,fun k j s t g hk hj h1 h2=>?_⟩
 ·rw[heap_setCell_at h.box,List.setIfInBounds_toArray,(scells_set hr x r.2).1]
 ·obtain⟨s',h1,h2⟩:=key k s hk
  rw[←h2]
  refine own_keepS (h.own k s' l h1 hl) fun g cur he hh=>(heap_setCell_other _ _ _ _ ?_).trans hh
  rintro rfl
  exact absurd he (h.keepRow hne h1)
 ·obtain⟨s',a1,a2⟩:=key k s hk
  obtain⟨t',b1,b2⟩:=key j t hj
  exact h.nd k j s' t' g a1 b1 (by rw[a2];exact h1) (by rw[b2];exact h2)
theorem OwnS.app (hne:ts≠te) {W1:World} (h:OwnS ts te W N b rs es) {i:Nat} {r:Int×Value} {l:List (Int×Int)} (hr:rs[i]? = some r) (hl:es[i]? = some l) {v:Value} {e:Int×Int}
  (hown:W1.ownsRow N te 2 v (l.length+1) (ecells (l++[e]))) (hg:W.grownBy W1 r.2.ownBlock) (hv:v.ownBlock=r.2.ownBlock∨v.ownBlock=some W.heap.size) :
  OwnS ts te (W1.setCell ⟨b,i*2+1,none⟩ v) N b (rs.set i (r.1,v)) (es.set i (l++[e])):=by
 have hil:=(List.getElem?_eq_some_iff.1 hr).1
 have hiel:=(List.getElem?_eq_some_iff.1 hl).1
 have hrow:=h.keepRow hne hr
 have hblt:b<W.heap.size:=(Array.getElem?_eq_some_iff.1 h.box).1
 have hbox1:W1.heap[b]? = some (.cells (scells rs).toArray ts (0,0)):=(hg.block b hblt fun e=>hrow e.symm).trans h.box
 have key:∀ (k:Nat) (s:Int×Value),(rs.set i (r.1,v))[k]? = some s→(k=i∧s=(r.1,v))∨(k≠i∧rs[k]? = some s):=fun k s hk=>by
  rw[List.getElem?_set] at hk
  split at hk
  ·rename_i hik
   injection hk with hk
   exact .inl ⟨hik.symm,hk.symm⟩
  ·rename_i hik
   exact .inr ⟨fun e=>hik e.symm,hk⟩
 have hlt:∀ (k:Nat) (s:Int×Value) (g:Nat),rs[k]? = some s→s.2.ownBlock=some g→g<W.heap.size:=fun k s g hk hg'=>by
  have hkl:k<es.length:=by rw[←h.len];exact (List.getElem?_eq_some_iff.1 hk).1
  exact ((h.own k s _ hk (List.getElem?_eq_getElem hkl)).lt g hg').2
 refine⟨by rw[List.length_set,List.length_set];exact h.len,?_,fun k s m hk hm=>?_,fun k j s t g hk hj h1 h2=>?_⟩
 ·rw[heap_setCell_at hbox1,List.setIfInBounds_toArray,(scells_set hr r.1 v).2]
 ·rcases key k s hk with ⟨rfl,rfl⟩ | ⟨hki,hk⟩
  ·rw[List.getElem?_set,if_pos rfl,if_pos hiel] at hm
   injection hm with hm
   subst hm
   refine own_keepS (w:=W1) (by rw[List.length_append];exact hown) fun g cur he hh=>(heap_setCell_other _ _ _ _ ?_).trans hh
   rintro rfl
   rcases hv with e1 | e1
   ·rw[e1] at he
    exact hrow he
   ·rw[e1] at he
    injection he with he
    omega
  ·rw[List.getElem?_set,if_neg (fun e=>hki e.symm)] at hm
   refine own_keepS (h.own k s m hk hm) fun g cur he hh=>(heap_setCell_other _ _ _ _ ?_).trans ((hg.block g (Array.getElem?_eq_some_iff.1 hh).1 fun e=>?_).trans hh)
   ·rintro rfl
    exact absurd he (h.keepRow hne hk)
   ·exact hki (h.nd k i s r g hk hr he e.symm)
 ·rcases key k s hk with ⟨rfl,rfl⟩ | ⟨hki,hk2⟩
  ·rcases key j t hj with ⟨rfl,rfl⟩ | ⟨hji,hj2⟩
   ·rfl
   ·exfalso
    rcases hv with e1 | e1
    ·exact hji (h.nd j k t r g hj2 hr h2 (by rw[←e1];exact h1))
    ·have:=hlt j t g hj2 h2
     have h1:v.ownBlock=some g:=h1
     rw[e1] at h1
     injection h1 with h1
     omega
  ·rcases key j t hj with ⟨rfl,rfl⟩ | ⟨hji,hj2⟩
   ·exfalso
    rcases hv with e1 | e1
    ·exact hki (h.nd k j s r g hk2 hr h1 (by rw[←e1];exact h2))
    ·have:=hlt k s g hk2 h1
     have h2:v.ownBlock=some g:=h2
     rw[e1] at h2
     injection h2 with h2
     omega
   ·exact h.nd k j s t g hk2 hj2 h1 h2
theorem OwnS.sl {es:List (List (Int×Int))} (eS:Elt (Int×List (Int×Int))) (eE:Elt (Int×Int)) (hS:eS=eProd eInt (eSl eE)) (hE:eE=eProd eInt eInt) (h:OwnS ts te W N b rs es) {c:Nat} (hc:rs.length≤c) (hc2:c≤maxLen)
  (hb1:∀ r∈rs,-9223372036854775808≤r.1∧r.1≤9223372036854775807) (hb2:∀ l∈es,∀ e∈l,(-9223372036854775808≤e.1∧e.1≤9223372036854775807)∧-9223372036854775808≤e.2∧e.2≤9223372036854775807) :
  SlR eS W W.heap.size (.slice (some ⟨b,0,none⟩) rs.length c) ((rs.zip es).map fun p=>(p.1.1,p.2)):=by
 subst hS hE
 have hz:((rs.zip es).map fun p=>(p.1.1,p.2)).length=rs.length:=by rw[List.length_map,List.length_zip,h.len,Nat.min_self]
 refine⟨_,c,rs.map fun r=>[Value.int .i64 r.1,r.2],by rw[hz],by rw[hz];exact hc,hc2,by rw[hz,List.length_map],?_,fun i cs x hi hx=>?_⟩
 ·exact Rd.row h.box (Array.getElem?_eq_some_iff.1 h.box).1
 ·rw[List.getElem?_map] at hi hx
  have hil:i<rs.length:=by
   rcases Nat.lt_or_ge i rs.length with h | h
   ·exact h
   ·rw[List.getElem?_eq_none h] at hi;cases hi
  have hiel:i<es.length:=by rw[←h.len];exact hil
  rw[List.getElem?_eq_getElem hil,Option.map_some] at hi
  have hzl:i<(rs.zip es).length:=by rw[List.length_zip];omega
  rw[List.getElem?_eq_getElem hzl,List.getElem_zip,Option.map_some] at hx
  injection hi with hi
  injection hx with hx
  subst hi hx
  have hown:=h.own i _ _ (List.getElem?_eq_getElem hil) (List.getElem?_eq_getElem hiel)
  obtain⟨A,c',e,h1,h2⟩:=own_form hown
  refine⟨[.int .i64 rs[i].1],[rs[i].2],rfl,⟨rfl,hb1 _ (List.getElem_mem hil)⟩,rs[i].2,rfl,?_⟩
  rw[e] at hown ⊢
  refine⟨A,c',es[i].map fun e=>[Value.int .i64 e.1,.int .i64 e.2],rfl,h1,h2,by simp,Rd.of_own hown,fun j cs y hj hy=>?_⟩
  rw[List.getElem?_map,hy] at hj
  injection hj with hj
  subst hj
  obtain⟨⟨a1,a2⟩,a3,a4⟩:=hb2 _ (List.getElem_mem hiel) _ (List.mem_of_getElem? hy)
  exact⟨_,_,rfl,⟨rfl,a1,a2⟩,rfl,a3,a4⟩
end
end Go.Proofs.YtfpihflepeiagaaGreatDoor
namespace Go.Proofs.YtfpihflepeiagaaGreatDoor
open Go.RowKit

theorem MapR.stay {α:Type} {κ:α→Value} {w w':World} {g:Nat} {l:List (α×Value)} (h:MapR κ w g l) (hs:∀ o:Obj,w.heap[g]? = some o→o.isCells=false→w'.heap[g]? = some o):MapR κ w' g l:=by
 obtain⟨es,c,hh,_⟩:=id h
 exact h.of_block ((hs _ hh rfl).trans hh.symm)
abbrev OwnT (W:World) (N b:Nat) (rs:List (Int×Value)) (es:List (List (Int×Int))):Prop:=OwnS 58 80 W N b rs es
def kidsAt (ts:List Wd) (e:Nat):List (List (Int×Int)):=ts.map fun x=>kidsT (ts.take e) x
structure NumS (D:Nat) (w W:World) (g1 b3 b9 bo:Nat) (ts:List Wd) (v4:Value) (a e:Nat) (out:Nat→Int):Prop where
 at_:AtR wv W g1 ts a
 box3:W.heap[b3]? = some (.cells #[.map (some g1)] 98 (0,0))
 box9:W.heap[b9]? = some (.cells #[.slice (some ⟨bo,0,none⟩) ts.length ts.length] 45 (0,0))
 own:W.ownsRow w.heap.size 9 1 v4 ts.length (wcells ts)
 outs:∃ rs,OwnT W w.heap.size bo rs (kidsAt ts e)∧∀ (j:Nat) (r:Int×Value),rs[j]? = some r→r.1=out j
 bel:Below w.heap.size w W
 lo:w.heap.size≤g1∧w.heap.size≤bo
 dfr:W.heap[D]? = some (.deferred (some []))
theorem edge_app:AppTy Tryz.prog 56 80 2 16 (.agg #[.int .i64 0,.int .i64 0]):=appTy (by kernel_rfl) (by kernel_rfl) rfl (by omega)
theorem last_byte {x:Wd} {m:Nat} (h:x.length=m+1) (hm:m<(⟨x.toArray⟩:ByteArray).size):wrap64 (((⟨x.toArray⟩:ByteArray)[m].toNat:Nat):Int)=((x.getLastD 0).toNat:Int):=by
 have h1:(⟨x.toArray⟩:ByteArray)[m]=x.getLastD 0:=by
  show x.toArray[m]=_
  have hne:x≠[]:=fun e=>by subst e;simp at h
  rw[List.getLastD_eq_getLast?,List.getLast?_eq_getElem?,h,Nat.add_sub_cancel,List.getElem?_eq_getElem (by omega)]
  simp
 rw[h1]
 have:=(x.getLastD 0).toNat_lt
 have h2:((x.getLastD 0).toNat:Int)<256:=by omega
 unfold wrap64
 omega
theorem made_states (n:Nat):madeCells #[.int .i64 0,.slice none 0 0] (n*2)=(scells (List.replicate n (0,.slice none 0 0))).toArray:=by
 have hl:(scells (List.replicate n (0,Value.slice none 0 0))).length=n*2:=by rw[scells_len,List.length_replicate]
 apply Array.ext
 ·rw[size_madeCells,List.size_toArray,hl]
 ·intro i h1 h2
  rw[size_madeCells] at h1
  have hk:(List.replicate n ((0:Int),Value.slice none 0 0))[i/2]? = some (0,.slice none 0 0):=by rw[List.getElem?_replicate,if_pos (by omega)]
  obtain⟨g1,g2⟩:=scells_get hk
  have hs:(scells (List.replicate n (0,Value.slice none 0 0)))[i]? = some (scells (List.replicate n (0,Value.slice none 0 0))).toArray[i]:=by
   rw[List.getElem?_eq_getElem (by omega)]
   rfl
  rcases Nat.mod_two_eq_zero_or_one i with h3 | h3
  ·rw[show i/2*2=i by omega,hs] at g1
   injection g1 with g1
   rw[g1]
   simp[madeCells,h3]
  ·rw[show i/2*2+1=i by omega,hs] at g2
   injection g2 with g2
   rw[g2]
   simp[madeCells,h3]
theorem state_make (n:Nat) (hn:n≤2199023255552) (w:World):(Instr.makeSlice 45 (.int .i64 (n:Int)) (.int .i64 (n:Int))).run Tryz.prog w=.ok (.slice (some ⟨w.heap.size,0,none⟩) n n) (w.alloc (.cells (scells (List.replicate n (0,.slice none 0 0))).toArray 58)):=by
 obtain⟨i,hi,hzz⟩:=Option.map_eq_some_iff.1 (show (Tryz.prog.info? 58).map (fun i=>(i.zero,i.size,i.bytes))=some (some (.agg #[.int .i64 0,.slice none 0 0]),2,32) by kernel_rfl)
 simp only[Prod.mk.injEq] at hzz
 obtain⟨hz,hs,hb⟩:=hzz
 have hr:=run_make (P:=Tryz.prog) w 45 58 i _ Tryz.underlying45 hi hz .i64 .i64 n n (by omega) (Int.le_refl _) (by rw[hb];omega) (by omega)
 simp only[Int.toNat_natCast,hs] at hr
 rw[←made_states]
 exact hr
section
variable {D:Nat} {w W W':World} {g1 b3 b9 bo a e:Nat} {ts:List Wd} {v4:Value} {out out':Nat→Int}
theorem AtR.obj {κ:Wd→Value} {g i:Nat} (h:AtR κ W g ts i):∃ o:Obj,W.heap[g]? = some o∧o.isCells=false:=by
 obtain⟨l,hm,_⟩:=h
 exact hm.obj
theorem AtR.stay {κ:Wd→Value} {g i:Nat} (h:AtR κ W g ts i) (hs:∀ o:Obj,W.heap[g]? = some o→o.isCells=false→W'.heap[g]? = some o):AtR κ W' g ts i:=by
 obtain⟨l,hm,hl⟩:=h
 exact⟨l,hm.stay hs,hl⟩
theorem NumS.c3 (h:NumS D w W g1 b3 b9 bo ts v4 a e out):W.cell? ⟨b3,0,none⟩=some (.map (some g1)):=by rw[cell_of_row _ _ _ _ _ _ h.box3];rfl
theorem NumS.c9 (h:NumS D w W g1 b3 b9 bo ts v4 a e out):W.cell? ⟨b9,0,none⟩=some (.slice (some ⟨bo,0,none⟩) ts.length ts.length):=by rw[cell_of_row _ _ _ _ _ _ h.box9];rfl
theorem kidsAt_len (ts:List Wd) (e:Nat):(kidsAt ts e).length=ts.length:=by simp[kidsAt]
theorem NumS.at_out (h:NumS D w W g1 b3 b9 bo ts v4 a e out) {j:Nat} (hj:j<ts.length):∃ v,W.cell? ⟨bo,j*2,none⟩=some (.int .i64 (out j))∧W.cell? ⟨bo,j*2+1,none⟩=some v∧(∀ k,W.frozen? ⟨bo,k,none⟩=false)∧∀ l,(kidsAt ts e)[j]? = some l→W.ownsRow w.heap.size 80 2 v l.length (ecells l):=by
 obtain⟨rs,hO,hr⟩:=h.outs
 have hl:j<rs.length:=by rw[hO.len,kidsAt_len];exact hj
 have hg:=List.getElem?_eq_getElem hl
 obtain⟨c1,c2,c3⟩:=hO.cells hg
 rw[hr j _ hg] at c1
 exact⟨_,c1,c2,c3,fun l hl2=>hO.own j _ l hg hl2⟩
theorem NumS.keep (h:NumS D w W g1 b3 b9 bo ts v4 a e out) (hs:∀ (k:Nat) (o:Obj),W.heap[k]? = some o→o.isCells=true∨k=g1∨k=D→W'.heap[k]? = some o) (hb:Below w.heap.size W W'):NumS D w W' g1 b3 b9 bo ts v4 a e out:=by
 obtain⟨rs,hO,hr⟩:=h.outs
 exact⟨h.at_.stay fun o ho _=>hs _ _ ho (.inr (.inl rfl)),hs _ _ h.box3 (.inl rfl),hs _ _ h.box9 (.inl rfl),own_keepS h.own fun g cur _ hh=>hs _ _ hh (.inl rfl),⟨rs,hO.keep fun g cur t _ hh=>hs _ _ hh (.inl rfl),hr⟩,h.bel.trans hb,h.lo,hs _ _ h.dfr (.inr (.inr rfl))⟩
theorem NumS.others (h:NumS D w W g1 b3 b9 bo ts v4 a e out) {row:Option Nat} (hg:W.grownBy W' row) (hr:∀ r,row=some r→g1<r∧D<r∧∃ o:Obj,W.heap[r]? = some o∧o.isCells=false):NumS D w W' g1 b3 b9 bo ts v4 a e out:=by
 refine h.keep (fun k o hk hc=>(hg.block k (Array.getElem?_eq_some_iff.1 hk).1 fun e=>?_).trans hk) ⟨hg.os,hg.tape,hg.output,hg.size,fun k hk=>hg.block k (Nat.lt_of_lt_of_le hk h.bel.size) fun e=>by have:=(hr k e.symm).1;have:=h.lo.1;omega⟩
 obtain⟨h1,h4,o',h2,h3⟩:=hr k e.symm
 rcases hc with hc | hc | hc
 ·rw[hk] at h2
  injection h2 with h2
  subst h2
  rw[hc] at h3
  cases h3
 ·omega
 ·omega
theorem NumS.ext (h:NumS D w W g1 b3 b9 bo ts v4 a e out) (ho:∀ k<ts.length,out k=out' k):NumS D w W g1 b3 b9 bo ts v4 a e out':=by
 obtain⟨rs,hO,hr⟩:=h.outs
 refine⟨h.at_,h.box3,h.box9,h.own,⟨rs,hO,fun j r hj=>?_⟩,h.bel,h.lo,h.dfr⟩
 rw[hr j r hj]
 exact ho j (by rw[←kidsAt_len ts e,←hO.len];exact (List.getElem?_eq_some_iff.1 hj).1)
theorem NumS.tree {rows:List Row} (h:NumS D w W g1 b3 b9 bo ts v4 a ts.length out) (hl:ts.length≤maxLen) (ho:∀ (k:Nat) (x:Wd),ts[k]? = some x→out k=outOf rows x) (hb:∀ x,-9223372036854775808≤outOf rows x∧outOf rows x≤9223372036854775807) :
  SlR eState W W.heap.size (.slice (some ⟨bo,0,none⟩) ts.length ts.length) (trieM rows ts):=by
 obtain⟨rs,hO,hr⟩:=h.outs
 have hrl:rs.length=ts.length:=by rw[hO.len,kidsAt_len]
 have hout:∀ (k:Nat) (hk:k<rs.length),rs[k].1=outOf rows (ts[k]'(by omega)):=fun k hk=>by
  rw[hr k _ (List.getElem?_eq_getElem hk)]
  exact ho k _ (List.getElem?_eq_getElem (by omega))
 have hs:=hO.sl eState eEdge rfl rfl (c:=ts.length) (by omega) hl (fun r hm=>by
  obtain⟨k,hk,rfl⟩:=List.getElem_of_mem hm
  rw[hout k hk]
  exact hb _) (fun l hm e he=>by
  unfold kidsAt at hm
  obtain⟨x,_,rfl⟩:=List.mem_map.1 hm
  rw[List.take_length] at he
  obtain⟨c,j,h1,h2,h3⟩:=kids_mem.1 (show (e.1,e.2)∈kidsT ts x from he)
  have hj:=(List.getElem?_eq_some_iff.1 h1).1
  have hc:=c.toNat_lt
  unfold maxLen at hl
  omega)
 rw[hrl] at hs
 have he:((rs.zip (kidsAt ts ts.length)).map fun p=>(p.1.1,p.2))=trieM rows ts:=by
  apply List.ext_getElem
  ·rw[List.length_map,List.length_zip,kidsAt_len,hrl,Nat.min_self,trie_len]
  ·intro k h1 h2
   rw[trie_len] at h2
   simp only[List.getElem_map,List.getElem_zip,trieM,kidsAt,List.take_length]
   rw[hout k (by omega)]
 rwa [he] at hs
theorem NumS.alloc (h:NumS D w W g1 b3 b9 bo ts v4 a e out) (o:Obj):NumS D w (W.alloc o) g1 b3 b9 bo ts v4 a e out :=
 h.keep (fun k _ hk _=>(Below.heap_alloc W o k (Array.getElem?_eq_some_iff.1 hk).1).trans hk) ((Below.refl _ _).alloc h.bel.size _)
theorem NumS.drew (h:NumS D w W g1 b3 b9 bo ts v4 a e out):NumS D w W.drew g1 b3 b9 bo ts v4 a e out:=h.keep (fun _ _ hk _=>hk) (Below.refl _ _).drew
theorem NumS.look (h:NumS D w W g1 b3 b9 bo ts v4 a e out) (hn:ts.Nodup) {mt kt et:TypeId} {P:Program} (K:KeyTy P mt kt et wv) {z:Value} (hz:∀ w:World,(zeroValue et).run P w=.ok z w) {j:Nat} {p:Wd} (hj:ts[j]? = some p) (hja:j<a) :
  (Instr.lookup mt (.map (some g1)) (wv p) false).run P W=.ok (.int .i64 j) W:=by
 obtain⟨l,hm,hl⟩:=h.at_
 have h1:=hm.lookup K hz p
 have h2:p∈ts.take a:=by
  obtain⟨b1,b2⟩:=List.getElem?_eq_some_iff.1 hj
  exact List.mem_of_getElem? (i:=j) (by rw[List.getElem?_take,if_pos hja];exact hj)
 rw[hl,atF_mem h2,idxOf_nd hn hj] at h1
 exact h1
theorem NumS.put (h:NumS D w W g1 b3 b9 bo ts v4 a e out) (hn:ts.Nodup) {x:Wd} (hx:ts[a]? = some x) {mt kt et:TypeId} {P:Program} (K:KeyTy P mt kt et wv) :
  ∃ W',(Instr.mapUpdate mt (.map (some g1)) (wv x) (.int .i64 a)).run P W=.ok () W'∧NumS D w W' g1 b3 b9 bo ts v4 (a+1) e out∧W.grownBy W' (some g1)∧W'.heap.size=W.heap.size:=by
 obtain⟨l,hm,hl⟩:=h.at_
 obtain⟨W1,hup,hm1,hg1,hs1⟩:=hm.update K x (.int .i64 a)
 have hrow:∀ r,some g1=some r→∃ o:Obj,W.heap[r]? = some o∧o.isCells=false:=fun r e=>by cases e;exact hm.obj
 have hst:∀ (k:Nat) (cs:Array Value) (t:TypeId) (fr:Nat×Nat),W.heap[k]? = some (.cells cs t fr)→W1.heap[k]? = some (.cells cs t fr):=fun k cs t fr hk=>cells_stayB hg1 hrow hk
 obtain⟨rs,hO,hr⟩:=h.outs
 refine⟨W1,hup,⟨⟨_,hm1,fun y=>by rw[assoc_setT,hl,atF_succ hn hx]⟩,hst _ _ _ _ h.box3,hst _ _ _ _ h.box9,own_stay hg1 hrow h.own,⟨rs,hO.keep fun g cur t _ hh=>hst _ _ _ _ hh,hr⟩,?_,h.lo,(hg1.block D (Array.getElem?_eq_some_iff.1 h.dfr).1 fun e=>?_).trans h.dfr⟩,hg1,hs1⟩
 ·exact h.bel.trans ((Below.refl _ _).grown hg1 h.bel.size fun k e=>by injection e with e;have:=h.lo.1;omega)
 ·injection e with e
  obtain⟨es,c,hh,_⟩:=hm
  have:=h.dfr
  rw[e,hh] at this
  cases this
theorem NumS.setOut (h:NumS D w W g1 b3 b9 bo ts v4 a e out) {j:Nat} (hj:j<ts.length) (x:Int) (ho:∀ k,out' k=if k=j then x else out k):NumS D w (W.setCell ⟨bo,j*2,none⟩ (.int .i64 x)) g1 b3 b9 bo ts v4 a e out':=by
 obtain⟨rs,hO,hr⟩:=h.outs
 have hl:j<rs.length:=by rw[hO.len,kidsAt_len];exact hj
 have hst:∀ (k:Nat) (o:Obj),W.heap[k]? = some o→k≠bo→(W.setCell ⟨bo,j*2,none⟩ (.int .i64 x)).heap[k]? = some o:=fun k o hk hn=>(heap_setCell_other _ _ _ _ hn).trans hk
 have hbo:=hO.box
 refine⟨h.at_.stay (fun o ho hc=>hst _ _ ho fun e=>by subst e;rw[hbo] at ho;cases ho;cases hc),hst _ _ h.box3 (type_ne2 h.box3 hbo (by decide)),hst _ _ h.box9 (type_ne2 h.box9 hbo (by decide)),own_keepS h.own fun g cur _ hh=>hst _ _ hh (type_ne2 hh hbo (by decide)),
  ⟨_,hO.setOut (by decide) (List.getElem?_eq_getElem hl) x,fun k r hk=>?_⟩,h.bel.trans ((Below.refl _ _).setCell h.lo.2 _),h.lo,hst _ _ h.dfr fun e=>by have:=h.dfr;rw[e,hbo] at this;cases this⟩
 rw[List.getElem?_set] at hk
 rw[ho k]
 split at hk
 ·rename_i hjk
  subst hjk
  injection hk with hk
  rw[if_pos rfl,←hk]
 ·rename_i hjk
  rw[if_neg fun e=>hjk e.symm]
  exact hr k r hk
theorem NumS.root (h:NumS D w W g1 b3 b9 bo ts v4 a e out) (hx:ts[e]? = some []):NumS D w W g1 b3 b9 bo ts v4 a (e+1) out:=by
 obtain⟨h1,h2,h3,h4,h5,h6,h7,h8⟩:=h
 refine⟨h1,h2,h3,h4,?_,h6,h7,h8⟩
 unfold kidsAt at h5 ⊢
 rw[kids_root hx]
 exact h5
theorem NumS.edge (h:NumS D w W g1 b3 b9 bo ts v4 a e out) (hn:ts.Nodup) {j:Nat} {x p:Wd} (hx:ts[e]? = some x) (hne:x≠[]) (hp:x.dropLast=p) (hj:ts[j]? = some p) {v u:Value} (hv:W.cell? ⟨bo,j*2+1,none⟩=some v)
  (hown:W'.ownsRow w.heap.size 80 2 u ((kidsT (ts.take e) p).length+1) (ecells (kidsT (ts.take e) p++[(((x.getLastD 0).toNat:Int),(e:Int))]))) (hg:W.grownBy W' v.ownBlock) (hu:u.ownBlock=v.ownBlock∨u.ownBlock=some W.heap.size) :
  NumS D w (W'.setCell ⟨bo,j*2+1,none⟩ u) g1 b3 b9 bo ts v4 a (e+1) out:=by
 obtain⟨rs,hO,hr⟩:=h.outs
 obtain⟨hjl,hje⟩:=List.getElem?_eq_some_iff.1 hj
 have hl:j<rs.length:=by rw[hO.len,kidsAt_len];exact hjl
 have hrj:=List.getElem?_eq_getElem hl
 have hv2:v=rs[j].2:=by
  have:=(hO.cells hrj).2.1
  rw[hv] at this
  injection this
 rw[hv2] at hg hu
 have hkj:(kidsAt ts e)[j]? = some (kidsT (ts.take e) p):=by unfold kidsAt;rw[List.getElem?_map,hj];rfl
 have hownj:=hO.own j _ _ hrj hkj
 have happ:=hO.app (by decide) hrj hkj hown hg hu
 have hbo:=hO.box
 have hst1:∀ (k:Nat) (o:Obj),W.heap[k]? = some o→(∀ cur,o≠.cells cur 80 (0,0))→W'.heap[k]? = some o:=fun k o hk hne=>app_stay hownj hg hk hne
 have hbo':=hst1 _ _ hbo fun cur e=>by cases e
 have hst:∀ (k:Nat) (o:Obj),W.heap[k]? = some o→k≠bo→(∀ cur,o≠.cells cur 80 (0,0))→(W'.setCell ⟨bo,j*2+1,none⟩ u).heap[k]? = some o:=fun k o hk hn hne=>(heap_setCell_other _ _ _ _ hn).trans (hst1 k o hk hne)
 have hown4:(W'.setCell ⟨bo,j*2+1,none⟩ u).ownsRow w.heap.size 9 1 v4 ts.length (wcells ts):=own_keepS h.own fun g cur _ hh=>hst _ _ hh (type_ne2 hh hbo (by decide)) (fun cur e=>by cases e)
 refine⟨h.at_.stay (fun o ho hc=>hst _ _ ho (fun e=>by subst e;rw[hbo] at ho;cases ho;cases hc) fun cur e=>by subst e;cases hc),hst _ _ h.box3 (type_ne2 h.box3 hbo (by decide)) (fun cur e=>by cases e),hst _ _ h.box9 (type_ne2 h.box9 hbo (by decide)) (fun cur e=>by cases e),
  hown4,⟨rs.set j (rs[j].1,u),?k1,?k2⟩,?k3,h.lo,hst _ _ h.dfr (fun e=>by have:=h.dfr;rw[e,hbo] at this;cases this) (fun cur e=>by cases e)⟩
 case k1 =>
  have hk:=kids_put hn hx hne hp hj
  unfold kidsAt at happ ⊢
  rw[hk]
  exact happ
 case k2 =>
  intro k r hk
  rw[List.getElem?_set] at hk
  split at hk
  ·rename_i hjk
   subst hjk
   injection hk with hk
   rw[←hk]
   show rs[j].1=_
   exact hr j _ hrj
  ·exact hr k r hk
 case k3=>exact h.bel.trans ((grown_below (Below.refl _ _) hg hownj (Nat.le_refl _) h.bel.size).setCell h.lo.2 _)
end
end Go.Proofs.YtfpihflepeiagaaGreatDoor
namespace Go.Proofs.YtfpihflepeiagaaGreatDoor
open Go.RowKit
section
variable {P:Program} {ops:Array Oper} {I:World→Prop} {G:List Nat}
theorem wpJ_seg {Q:Act→World→Prop} (n:Nat) {k:Nat} {l:List Oper} {a:Act} {w:World} (hG:(List.range' k n).all (fun i=>!G.contains i)=true)
  (h:∀ Q':Exit→Act→World→Prop,(∀ a w,Stop (TextI.wpS P ops I G Q (k+n) (l.drop n) a w)→Q' .normal a w)→wpList P ops Q' (l.take n) a w):Stop (TextI.wpS P ops I G Q k l a w) :=
 ⟨TextI.wpS_seg n k l a w hG fun Q' hQ'=>h Q' fun a w hh=>hQ' a w hh.out⟩
theorem wpJ_one {Q:Act→World→Prop} {k:Nat} {o:Oper} {r:List Oper} {a:Act} {w:World}
  (h:∀ Q':Exit→Act→World→Prop,(∀ a' w',I w'∧Stop (TextI.wpS P ops I G Q (k+1) r a' w')→Q' .normal a' w')→wpList P ops Q' [o] a w):Stop (TextI.wpS P ops I G Q k (o :: r) a w) :=
 ⟨TextI.wpS_one fun Q' hQ'=>h Q' fun a w hh=>hQ' a w ⟨hh.1,hh.2.out⟩⟩
theorem wpJ_end {Q:Act→World→Prop} {k:Nat} {a:Act} {w:World} (h:Q a w):Stop (TextI.wpS P ops I G Q k [] a w):=⟨h⟩
theorem wpJ_inv {id:Nat} {Q:Exit→Act→World→Prop} {a:Act} {w:World} {l:List Oper} (G LD ex:List Nat) (I:World→Prop) (hI:I w.drew) (hm:P.follows .mixedOrders=true) (hB:Text.growB P l.toArray G LD ex=true)
  (h:Stop (TextI.wpS P l.toArray I G (fun a' w'=>Text.chk l.toArray ex a'=true∧TextI.oldAll P l.toArray I a' LD∧Q .normal a' w') 0 l a w.drew)):(Code.region id l.toArray true).wp P Q a w :=
 TextI.wp_inv G LD ex I hI hm hB h.out
end
theorem loadJ_slice {P:Program} {w:World} {ty e:TypeId} {v:Value} {p:Addr} (hu:P.underlying ty=some (.slice e)) (hc:w.cell? p=some v):(Instr.loadAt ty (.pointer (some p))).run P w=.ok v w:=by
 have hagg:(isAgg ty).run P w=.ok false w:=by
  unfold isAgg
  rw[Sem.run_bind,run_underlying hu w]
  rfl
 simp[Instr.loadAt,Instr.sureAddr,loadVar,Sem.run_bind,hagg,hc]
theorem loadJ_map {P:Program} {w:World} {ty k e:TypeId} {v:Value} {p:Addr} (hu:P.underlying ty=some (.map k e)) (hc:w.cell? p=some v):(Instr.loadAt ty (.pointer (some p))).run P w=.ok v w:=by
 have hagg:(isAgg ty).run P w=.ok false w:=by
  unfold isAgg
  rw[Sem.run_bind,run_underlying hu w]
  rfl
 simp[Instr.loadAt,Instr.sureAddr,loadVar,Sem.run_bind,hagg,hc]
end Go.Proofs.YtfpihflepeiagaaGreatDoor
