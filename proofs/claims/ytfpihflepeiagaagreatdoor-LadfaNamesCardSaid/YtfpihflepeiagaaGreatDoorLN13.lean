/- Texts of this proof joined: Rf20e, Rf20f, Agg, Seg. -/
import Derived.Test.YtfpihflepeiagaaGreatDoorLN12
import Derived.Maps.AppendAt
import Derived.OwnWalk
import Derived.Test.YtfpihflepeiagaaGreatDoorLN01
import Derived.Stop.BytesEq
import Derived.Laws.CopyRow
import Derived.Test.YtfpihflepeiagaaGreatDoorLN04
namespace Go.Proofs.YtfpihflepeiagaaGreatDoor
open Go.RowKit

theorem own_keep20 {w w':World} {base:Nat} {e:TypeId} {size:Nat} {v:Value} {n:Nat} {xs:List Value} (h:w.ownsRow base e size v n xs) (hk:∀ g cur,base≤g→v.ownBlock=some g→w.heap[g]? = some (.cells cur e (0,0))→w'.heap[g]? = w.heap[g]?):w'.ownsRow base e size v n xs:=by
 refine⟨h.1,?_⟩
 rcases h.2 with h' | ⟨g,cap,cur,rfl,hg,hh,r⟩
 ·exact .inl h'
 ·exact .inr ⟨g,cap,cur,rfl,hg,(hk g cur hg rfl hh).trans hh,r⟩
def blks (L:Nat) (l:List Nat):List Value:=l.map fun x=>.slice (some ⟨x,0,none⟩) (L+1) (L+1)
theorem blks_len (L:Nat) (l:List Nat):(blks L l).length=l.length:=by simp[blks]
theorem blks_get {L:Nat} {l:List Nat} {k:Nat} (h:k<l.length):(blks L l)[k]? = some (.slice (some ⟨l[k],0,none⟩) (L+1) (L+1)):=by simp[blks,h]
abbrev BlkB (w:World) (x L:Nat) (f:Nat→Bool):Prop:=w.heap[x]? = some (.cells (bcellsB (bl L f)).toArray 4 (0,0))
theorem sl_rows {w:World} {base:Nat} {t:TypeId} {A:Option Addr} {n c L:Nat} {l:List Nat} {F:Nat→Nat→Bool} (h:w.ownsRow base t 1 (.slice A n c) n (blks L l)) (hl:l.length=n) (hL:L+1≤maxLen) (hb:∀ a x,l[a]? = some x→BlkB w x L (F a)):SlR (eSl eBool) w w.heap.size (.slice A n c) (sqL n L F):=by
 obtain⟨A',c',e,h1,h2⟩:=own_form h
 injection e with e1 e2 e3
 subst e1 e3
 have hsl:(sqL n L F).length=n:=by simp[sqL]
 refine⟨A,c,(blks L l).map fun v=>[v],by rw[hsl],by rw[hsl];exact h1,h2,by simp[blks,sqL,hl],?_,fun i cs x hc hx=>?_⟩
 ·have:((blks L l).map fun v=>[v]).flatten=blks L l:=by
   generalize blks L l=vs
   induction vs with
   |nil=>rfl
   |cons v vs ih=>rw[List.map_cons,List.flatten_cons,ih];rfl
  rw[this]
  exact Rd.of_own h
 ·rw[List.getElem?_map] at hc
  have hi:i<l.length:=by
   rcases Nat.lt_or_ge i l.length with h | h
   ·exact h
   ·rw[List.getElem?_eq_none (by rw[blks_len];exact h)] at hc;cases hc
  rw[blks_get hi,Option.map_some] at hc
  injection hc with hc
  subst hc
  have hx2:x=bl L (F i):=by
   unfold sqL at hx
   rw[List.getElem?_map,List.getElem?_range (by omega),Option.map_some] at hx
   injection hx with hx
   exact hx.symm
  subst hx2
  exact⟨_,rfl,rd_bools (hb i l[i] (List.getElem?_eq_getElem hi)) (bl_len L (F i)).symm hL⟩
structure Sq (w:World) (base n L:Nat) (v:Value) (fs:List Nat) (F:Nat→Nat→Bool):Prop where
 len:fs.length=n
 own:w.ownsRow base 60 1 v n (blks L fs)
 blk:∀ (a x:Nat),fs[a]? = some x→base≤x∧BlkB w x L (F a)
 nd:fs.Nodup
theorem Sq.ext {w:World} {base n L:Nat} {v:Value} {fs:List Nat} {F G:Nat→Nat→Bool} (h:Sq w base n L v fs F) (hf:∀ a,a<n→∀ p,p≤L→F a p=G a p):Sq w base n L v fs G:=by
 refine⟨h.len,h.own,fun a x hx=>?_,h.nd⟩
 have ha:a<n:=by rw[←h.len];exact (List.getElem?_eq_some_iff.1 hx).1
 obtain⟨h1,h2⟩:=h.blk a x hx
 refine⟨h1,?_⟩
 show w.heap[x]? = _
 rw[←bl_ext (hf a ha)]
 exact h2
theorem Sq.below {w w':World} {base n L:Nat} {v:Value} {fs:List Nat} {F:Nat→Nat→Bool} (h:Sq w base n L v fs F) (hb:Below w.heap.size w w'):Sq w' base n L v fs F :=
 ⟨h.len,own_below h.own hb,fun a x hx=>⟨(h.blk a x hx).1,(hb.block x (Array.getElem?_eq_some_iff.1 (h.blk a x hx).2).1).trans (h.blk a x hx).2⟩,h.nd⟩
theorem Sq.sl {w:World} {base n L:Nat} {A:Option Addr} {c:Nat} {fs:List Nat} {F:Nat→Nat→Bool} (h:Sq w base n L (.slice A n c) fs F) (hL:L+1≤maxLen):SlR (eSl eBool) w w.heap.size (.slice A n c) (sqL n L F):=sl_rows h.own h.len hL fun a x hx=>(h.blk a x hx).2
theorem type_ne {w:World} {g x:Nat} {cur:Array Value} {t:TypeId} {L:Nat} {f:Nat→Bool} (h1:w.heap[g]? = some (.cells cur t (0,0))) (h2:BlkB w x L f) (ht:t≠4):g≠x:=by
 rintro rfl
 have h3:=h1.symm.trans h2
 injection h3 with h3
 injection h3 with _ h3
 exact ht h3
theorem Sq.other {w:World} {base n L L':Nat} {v:Value} {fs:List Nat} {F:Nat→Nat→Bool} (h:Sq w base n L v fs F) {x q:Nat} {f:Nat→Bool} (hx:BlkB w x L' f) (hn:x∉fs) (u:Value):Sq (w.setCell ⟨x,q,none⟩ u) base n L v fs F:=by
 refine⟨h.len,own_keep20 h.own fun g cur _ _ hg=>Below.heap_setCell _ _ _ _ (type_ne hg hx (by decide)),fun a y hy=>⟨(h.blk a y hy).1,?_⟩,h.nd⟩
 exact (Below.heap_setCell _ _ _ _ (fun e=>hn (by rw[←show y=x from e];exact List.mem_of_getElem? hy))).trans (h.blk a y hy).2
theorem Sq.set {w:World} {base n L:Nat} {v:Value} {fs:List Nat} {F:Nat→Nat→Bool} (h:Sq w base n L v fs F) {a p x:Nat} (hx:fs[a]? = some x):Sq (w.setCell ⟨x,p,none⟩ (.bool true)) base n L v fs (putO F a p):=by
 refine⟨h.len,own_keep20 h.own fun g cur _ _ hg=>Below.heap_setCell _ _ _ _ (type_ne hg (h.blk a x hx).2 (by decide)),fun a' y hy=>⟨(h.blk a' y hy).1,?_⟩,h.nd⟩
 by_cases e:a'=a
 ·subst e
  rw[hx] at hy
  injection hy with hy
  subst hy
  have:=bool_row_set (h.blk a' x hx).2 (k:=p) true
  rw[bl_set] at this
  refine this.trans ?_
  have e:bl L (fun x=>F a' x||decide (x=p))=bl L (putO F a' p a'):=bl_ext fun k _=>by simp[putO]
  rw[e]
 ·have hne:y≠x:=fun e2=>by
   subst e2
   have h1:=List.getElem?_eq_some_iff.1 hx
   have h2:=List.getElem?_eq_some_iff.1 hy
   obtain⟨l1,g1⟩:=h1
   obtain⟨l2,g2⟩:=h2
   exact e ((List.getElem_inj h.nd).1 (g2.trans g1.symm))
  refine ((Below.heap_setCell _ _ _ _ hne).trans (h.blk a' y hy).2).trans ?_
  have e:bl L (F a')=bl L (putO F a p a'):=bl_ext fun k _=>by simp[putO,e]
  rw[e]
theorem Sq.at_ {w:World} {base n L:Nat} {A:Option Addr} {c:Nat} {fs:List Nat} {F:Nat→Nat→Bool} (h:Sq w base n L (.slice A n c) fs F) {a p:Nat} (ha:a<n) (hp:p≤L) :
  ∃ b x,A=some ⟨b,0,none⟩∧n≤c∧fs[a]? = some x∧base≤x∧BlkB w x L (F a)∧w.cell? ⟨b,a,none⟩=some (.slice (some ⟨x,0,none⟩) (L+1) (L+1))∧w.cell? ⟨x,p,none⟩=some (.bool (F a p))∧w.frozen? ⟨x,p,none⟩=false:=by
 have hal:a<fs.length:=by rw[h.len];exact ha
 obtain⟨h1,h2⟩:=h.blk a fs[a] (List.getElem?_eq_getElem hal)
 rcases h.own.2 with ⟨e,h0⟩ | ⟨g,cap,cur,e,hg,hh,h3,h4,h5,h6⟩
 ·omega
 ·injection e with e1 e2 e3
  subst e1 e3
  have hc:w.cell? ⟨g,a,none⟩=some (.slice (some ⟨fs[a],0,none⟩) (L+1) (L+1)):=by
   have:=(h.own).cellAt (g:=g) (cap:=c) a (by omega)
   rw[this,blks_get hal]
  refine⟨g,fs[a],rfl,h3,List.getElem?_eq_getElem hal,h1,h2,hc,?_,by simp[World.frozen?,h2]⟩
  rw[bool_row_get h2 (by rw[bl_len];omega),bl_at hp]
structure Cu (w:World) (base n L:Nat) (v:Value) (es:List Value) (xs:List (List Nat)) (E:Nat→Nat→Nat→Bool):Prop where
 le:es.length=n
 lx:xs.length=n
 own:w.ownsRow base 64 1 v n es
 row:∀ (a:Nat) (u:Value) (l:List Nat),es[a]? = some u→xs[a]? = some l→Sq w base (L+1) L u l (E a)
 nd:xs.flatten.Nodup
theorem Cu.below {w w':World} {base n L:Nat} {v:Value} {es:List Value} {xs:List (List Nat)} {E:Nat→Nat→Nat→Bool} (h:Cu w base n L v es xs E) (hb:Below w.heap.size w w'):Cu w' base n L v es xs E :=
 ⟨h.le,h.lx,own_below h.own hb,fun a u l hu hl=>(h.row a u l hu hl).below hb,h.nd⟩
theorem Cu.other {w:World} {base n L L':Nat} {v:Value} {es:List Value} {xs:List (List Nat)} {E:Nat→Nat→Nat→Bool} (h:Cu w base n L v es xs E) {x q:Nat} {f:Nat→Bool} (hx:BlkB w x L' f) (hn:x∉xs.flatten) (u:Value):Cu (w.setCell ⟨x,q,none⟩ u) base n L v es xs E :=
 ⟨h.le,h.lx,own_keep20 h.own fun g cur _ _ hg=>Below.heap_setCell _ _ _ _ (type_ne hg hx (by decide)),fun a u' l hu hl=>(h.row a u' l hu hl).other hx (fun hm=>hn (List.mem_flatten.2 ⟨l,List.mem_of_getElem? hl,hm⟩)) u,h.nd⟩
theorem flat_nodup_ne:∀ {xs:List (List Nat)},xs.flatten.Nodup→∀ {a b:Nat} {l m:List Nat} {x:Nat},xs[a]? = some l→xs[b]? = some m→x∈l→x∈m→a=b
 |[],_,a,b,l,m,x,h1,_,_,_=>by simp at h1
 |c :: xs,hn,a,b,l,m,x,h1,h2,h3,h4=>by
  rw[List.flatten_cons,List.nodup_append] at hn
  obtain⟨n1,n2,n3⟩:=hn
  cases a with
  |zero =>
   cases b with
   |zero=>rfl
   |succ b =>
    simp only[List.getElem?_cons_zero,List.getElem?_cons_succ] at h1 h2
    injection h1 with h1
    subst h1
    exact absurd rfl (n3 x h3 x (List.mem_flatten.2 ⟨m,List.mem_of_getElem? h2,h4⟩))
  |succ a =>
   cases b with
   |zero =>
    simp only[List.getElem?_cons_zero,List.getElem?_cons_succ] at h1 h2
    injection h2 with h2
    subst h2
    exact absurd rfl (n3 x h4 x (List.mem_flatten.2 ⟨l,List.mem_of_getElem? h1,h3⟩))
   |succ b =>
    simp only[List.getElem?_cons_succ] at h1 h2
    rw[flat_nodup_ne n2 h1 h2 h3 h4]
def putE (E:Nat→Nat→Nat→Bool) (a p q:Nat):Nat→Nat→Nat→Bool:=fun a' p' q'=>E a' p' q'||(decide (a'=a)&&decide (p'=p)&&decide (q'=q))
theorem Cu.set {w:World} {base n L:Nat} {v:Value} {es:List Value} {xs:List (List Nat)} {E:Nat→Nat→Nat→Bool} (h:Cu w base n L v es xs E) {a p q x:Nat} {l:List Nat} (hl:xs[a]? = some l) (hx:l[p]? = some x):Cu (w.setCell ⟨x,q,none⟩ (.bool true)) base n L v es xs (putE E a p q):=by
 have han:a<n:=by rw[←h.lx];exact (List.getElem?_eq_some_iff.1 hl).1
 have hae:a<es.length:=by rw[h.le];exact han
 have hr:=h.row a es[a] l (List.getElem?_eq_getElem hae) hl
 have hB:=(hr.blk p x hx).2
 refine⟨h.le,h.lx,own_keep20 h.own fun g cur _ _ hg=>Below.heap_setCell _ _ _ _ (type_ne hg hB (by decide)),fun a' u m hu hm=>?_,h.nd⟩
 have hr':=h.row a' u m hu hm
 by_cases e:a'=a
 ·subst e
  rw[hl] at hm
  injection hm with hm
  subst hm
  refine (hr'.set (p:=q) hx).ext fun p' _ q' _=>?_
  simp[putO,putE]
 ·have hn:x∉m:=fun hm2=>e (flat_nodup_ne h.nd hm hl hm2 (List.mem_of_getElem? hx))
  refine (hr'.other hB hn (q:=q) (.bool true)).ext fun p' _ q' _=>?_
  simp[putE,e]
theorem Cu.at_ {w:World} {base n L:Nat} {A:Option Addr} {c:Nat} {es:List Value} {xs:List (List Nat)} {E:Nat→Nat→Nat→Bool} (h:Cu w base n L (.slice A n c) es xs E) {a p q:Nat} (ha:a<n) (hp:p≤L) (hq:q≤L) :
  ∃ b b2 c2 x l,A=some ⟨b,0,none⟩∧n≤c∧L+1≤c2∧xs[a]? = some l∧l[p]? = some x∧BlkB w x L (E a p)∧w.cell? ⟨b,a,none⟩=some (.slice (some ⟨b2,0,none⟩) (L+1) c2)∧w.cell? ⟨b2,p,none⟩=some (.slice (some ⟨x,0,none⟩) (L+1) (L+1))∧w.cell? ⟨x,q,none⟩=some (.bool (E a p q))∧w.frozen? ⟨x,q,none⟩=false∧base≤x:=by
 have hae:a<es.length:=by rw[h.le];exact ha
 have hax:a<xs.length:=by rw[h.lx];exact ha
 have hr:=h.row a es[a] xs[a] (List.getElem?_eq_getElem hae) (List.getElem?_eq_getElem hax)
 obtain⟨A2,c2,he,h1,h2⟩:=own_form hr.own
 rw[he] at hr
 obtain⟨b2,x,rfl,h3,h4,h5,h6,h7,h8,h9⟩:=hr.at_ (a:=p) (p:=q) (by omega) hq
 rcases h.own.2 with ⟨e,h0⟩ | ⟨g,cap,cur,e,hg,hh,g3,g4,g5,g6⟩
 ·omega
 ·injection e with e1 e2 e3
  subst e1 e3
  have hc:w.cell? ⟨g,a,none⟩=some es[a]:=by
   have:=(h.own).cellAt (g:=g) (cap:=c) a (by omega)
   rw[this,List.getElem?_eq_getElem hae]
  rw[he] at hc
  exact⟨g,b2,c2,x,xs[a],rfl,g3,h1,List.getElem?_eq_getElem hax,h4,h6,hc,h7,h8,h9,h5⟩
theorem Cu.sl {w:World} {base n L:Nat} {A:Option Addr} {c:Nat} {es:List Value} {xs:List (List Nat)} {E:Nat→Nat→Nat→Bool} (h:Cu w base n L (.slice A n c) es xs E) (hL:L+1≤maxLen):SlR (eSl (eSl eBool)) w w.heap.size (.slice A n c) (cubeL n L E):=by
 obtain⟨A',c',e,h1,h2⟩:=own_form h.own
 injection e with e1 e2 e3
 subst e1 e3
 have hsl:(cubeL n L E).length=n:=by simp[cubeL]
 refine⟨A,c,es.map fun v=>[v],by rw[hsl],by rw[hsl];exact h1,h2,by simp[cubeL,h.le],?_,fun i cs x hc hx=>?_⟩
 ·have:(es.map fun v=>[v]).flatten=es:=by
   generalize es=vs
   induction vs with
   |nil=>rfl
   |cons v vs ih=>rw[List.map_cons,List.flatten_cons,ih];rfl
  rw[this]
  exact Rd.of_own h.own
 ·rw[List.getElem?_map] at hc
  have hi:i<es.length:=by
   rcases Nat.lt_or_ge i es.length with h | h
   ·exact h
   ·rw[List.getElem?_eq_none h] at hc;cases hc
  rw[List.getElem?_eq_getElem hi,Option.map_some] at hc
  injection hc with hc
  subst hc
  have hin:i<n:=by rw[←h.le];exact hi
  have hx2:x=sqL (L+1) L (E i):=by
   unfold cubeL at hx
   rw[List.getElem?_map,List.getElem?_range hin,Option.map_some] at hx
   injection hx with hx
   exact hx.symm
  subst hx2
  have hr:=h.row i es[i] _ (List.getElem?_eq_getElem hi) (List.getElem?_eq_getElem (by rw[h.lx];exact hin))
  obtain⟨A2,c2,he,_,_⟩:=own_form hr.own
  refine⟨_,rfl,?_⟩
  rw[he] at hr ⊢
  exact hr.sl hL
structure Ta (w:World) (base n L:Nat) (vE vF:Value) (es:List Value) (xs:List (List Nat)) (fs:List Nat) (T:TabD):Prop where
 cu:Cu w base n L vE es xs T.E
 sq:Sq w base n L vF fs T.F
 apart:∀ x∈fs,x∉xs.flatten
theorem Ta.below {w w':World} {base n L:Nat} {vE vF:Value} {es:List Value} {xs:List (List Nat)} {fs:List Nat} {T:TabD} (h:Ta w base n L vE vF es xs fs T) (hb:Below w.heap.size w w'):Ta w' base n L vE vF es xs fs T:=⟨h.cu.below hb,h.sq.below hb,h.apart⟩
theorem Ta.tab {w:World} {base n L:Nat} {AE AF:Option Addr} {ce cf:Nat} {es:List Value} {xs:List (List Nat)} {fs:List Nat} {T:TabD} (h:Ta w base n L (.slice AE n ce) (.slice AF n cf) es xs fs T) (hL:L+1≤maxLen):TabR w w.heap.size AE ce AF cf n L T:=⟨h.cu.sl hL,h.sq.sl hL⟩
theorem Ta.setE {w:World} {base n L:Nat} {vE vF:Value} {es:List Value} {xs:List (List Nat)} {fs:List Nat} {T:TabD} (h:Ta w base n L vE vF es xs fs T) {a p q x:Nat} {l:List Nat} (hl:xs[a]? = some l) (hx:l[p]? = some x):Ta (w.setCell ⟨x,q,none⟩ (.bool true)) base n L vE vF es xs fs ⟨putE T.E a p q,T.F⟩:=by
 have han:a<n:=by rw[←h.cu.lx];exact (List.getElem?_eq_some_iff.1 hl).1
 have hae:a<es.length:=by rw[h.cu.le];exact han
 have hB:=((h.cu.row a es[a] l (List.getElem?_eq_getElem hae) hl).blk p x hx).2
 exact⟨h.cu.set hl hx,h.sq.other hB (fun hm=>h.apart x hm (List.mem_flatten.2 ⟨l,List.mem_of_getElem? hl,List.mem_of_getElem? hx⟩)) _,h.apart⟩
theorem Ta.setF {w:World} {base n L:Nat} {vE vF:Value} {es:List Value} {xs:List (List Nat)} {fs:List Nat} {T:TabD} (h:Ta w base n L vE vF es xs fs T) {a p x:Nat} (hx:fs[a]? = some x):Ta (w.setCell ⟨x,p,none⟩ (.bool true)) base n L vE vF es xs fs ⟨T.E,putO T.F a p⟩ :=
 ⟨h.cu.other (h.sq.blk a x hx).2 (h.apart x (List.mem_of_getElem? hx)) _,h.sq.set hx,h.apart⟩
end Go.Proofs.YtfpihflepeiagaaGreatDoor
namespace Go.Proofs.YtfpihflepeiagaaGreatDoor
open Go.RowKit

theorem brow_app:AppTy Tryz.prog 64 60 1 24 (.slice none 0 0):=appTy (by kernel_rfl) (by kernel_rfl) rfl (by omega)
theorem bsq_app:AppTy Tryz.prog 63 64 1 24 (.slice none 0 0):=appTy (by kernel_rfl) (by kernel_rfl) rfl (by omega)
theorem Sq.lt {w:World} {base n L:Nat} {v:Value} {fs:List Nat} {F:Nat→Nat→Bool} (h:Sq w base n L v fs F) {x:Nat} (hx:x∈fs):base≤x∧x<w.heap.size:=by
 obtain⟨a,ha,rfl⟩:=List.getElem_of_mem hx
 obtain⟨h1,h2⟩:=h.blk a fs[a] (List.getElem?_eq_getElem ha)
 exact⟨h1,(Array.getElem?_eq_some_iff.1 h2).1⟩
theorem Sq.more {w:World} {base base' n L:Nat} {v:Value} {fs:List Nat} {F:Nat→Nat→Bool} (h:Sq w base n L v fs F) (hb:base'≤base):Sq w base' n L v fs F :=
 ⟨h.len,own_more h.own hb,fun a x hx=>⟨Nat.le_trans hb (h.blk a x hx).1,(h.blk a x hx).2⟩,h.nd⟩
theorem Cu.row_of {w:World} {base n L:Nat} {v:Value} {es:List Value} {xs:List (List Nat)} {E:Nat→Nat→Nat→Bool} (h:Cu w base n L v es xs E) {l:List Nat} (hl:l∈xs):∃ a u,es[a]? = some u∧xs[a]? = some l∧Sq w base (L+1) L u l (E a):=by
 obtain⟨a,ha,rfl⟩:=List.getElem_of_mem hl
 have hae:a<es.length:=by rw[h.le,←h.lx];exact ha
 exact⟨a,es[a],List.getElem?_eq_getElem hae,List.getElem?_eq_getElem ha,h.row a _ _ (List.getElem?_eq_getElem hae) (List.getElem?_eq_getElem ha)⟩
theorem Cu.lt {w:World} {base n L:Nat} {v:Value} {es:List Value} {xs:List (List Nat)} {E:Nat→Nat→Nat→Bool} (h:Cu w base n L v es xs E) {x:Nat} (hx:x∈xs.flatten):base≤x∧x<w.heap.size:=by
 obtain⟨l,hl,hm⟩:=List.mem_flatten.1 hx
 obtain⟨a,u,_,_,hs⟩:=h.row_of hl
 exact hs.lt hm
theorem Sq.kept {w w':World} {base n L:Nat} {v:Value} {fs:List Nat} {F:Nat→Nat→Bool} {o:Option Nat} (h:Sq w base n L v fs F) (hg:w.grownBy w' o) (h1:v.ownBlock=none∨v.ownBlock≠o) (h2:∀ x∈fs,some x≠o):Sq w' base n L v fs F:=by
 refine⟨h.len,h.own.kept hg h1,fun a x hx=>⟨(h.blk a x hx).1,?_⟩,h.nd⟩
 exact (hg.block x (h.lt (List.mem_of_getElem? hx)).2 (h2 x (List.mem_of_getElem? hx))).trans (h.blk a x hx).2
theorem own_blk {w:World} {base:Nat} {e:TypeId} {size:Nat} {v:Value} {n:Nat} {xs:List Value} (h:w.ownsRow base e size v n xs) {g:Nat} (hg:v.ownBlock=some g):base≤g∧∃ cur,w.heap[g]? = some (.cells cur e (0,0)):=by
 rcases h.2 with ⟨rfl,rfl⟩ | ⟨g',cap,cur,rfl,hb,hh,_⟩
 ·cases hg
 ·injection hg with hg
  have hg:g'=g:=hg
  subst hg
  exact⟨hb,cur,hh⟩
theorem own_ne {w:World} {base base':Nat} {e e':TypeId} {size size':Nat} {v v':Value} {n n':Nat} {xs xs':List Value} (h:w.ownsRow base e size v n xs) (h':w.ownsRow base' e' size' v' n' xs') (he:e≠e'):v.ownBlock=none∨v.ownBlock≠v'.ownBlock:=by
 cases hv:v.ownBlock with
 |none=>exact .inl rfl
 |some g =>
  right
  intro e2
  obtain⟨_,c1,h1⟩:=own_blk h hv
  obtain⟨_,c2,h2⟩:=own_blk h' e2.symm
  rw[h1] at h2
  injection h2 with h2
  injection h2 with _ h2
  exact he h2
theorem own_blkB {w:World} {base:Nat} {e:TypeId} {size:Nat} {v:Value} {n:Nat} {xs:List Value} (h:w.ownsRow base e size v n xs) (he:e≠4) {x L:Nat} {f:Nat→Bool} (hx:BlkB w x L f):some x≠v.ownBlock:=by
 intro e2
 obtain⟨_,c1,h1⟩:=own_blk h e2.symm
 exact type_ne h1 hx he rfl
theorem Sq.snoc {w w1 w2:World} {base n L x:Nat} {v v':Value} {fs:List Nat} {F:Nat→Nat→Bool} (h:Sq w base n L v fs F) (hb:Below w.heap.size w w1) (hx:BlkB w1 x L (F n)) (hxw:w.heap.size≤x) (hbase:base≤w.heap.size)
  (ho:w2.ownsRow base 60 1 v' (n+1) (blks L fs++[.slice (some ⟨x,0,none⟩) (L+1) (L+1)])) (hg:w1.grownBy w2 v.ownBlock):Sq w2 base (n+1) L v' (fs++[x]) F:=by
 have h1:=h.below hb
 refine⟨by rw[List.length_append,h.len];rfl,by rw[show blks L (fs++[x])=blks L fs++[.slice (some ⟨x,0,none⟩) (L+1) (L+1)] by simp[blks]];exact ho,fun a y hy=>?_,?_⟩
 ·have hkeep:∀ {y:Nat} {f:Nat→Bool},BlkB w1 y L f→BlkB w2 y L f:=fun {y f} hB=>(hg.block y (Array.getElem?_eq_some_iff.1 hB).1 (own_blkB h1.own (by decide) hB)).trans hB
  rw[List.getElem?_append] at hy
  split at hy
  ·exact⟨(h1.blk a y hy).1,hkeep (h1.blk a y hy).2⟩
  ·rename_i hge
   have ha:a=n:=by
    have:=(List.getElem?_eq_some_iff.1 hy).1
    have:=h.len
    simp at *
    omega
   subst ha
   rw[show a - fs.length=0 by rw[h.len];omega] at hy
   injection hy with hy
   subst hy
   exact⟨by omega,hkeep hx⟩
 ·rw[List.nodup_append]
  refine⟨h.nd,by simp,fun y hy z hz e=>?_⟩
  rw[List.mem_singleton] at hz
  subst hz e
  have:=(h.lt hy).2
  omega
theorem Cu.snoc {w w1 w2:World} {base n L:Nat} {v v' u:Value} {es:List Value} {xs:List (List Nat)} {l:List Nat} {E:Nat→Nat→Nat→Bool} (h:Cu w base n L v es xs E) (hs:Sq w base (L+1) L u l (E n)) (hfr:∀ x∈l,x∉xs.flatten) (hb:Below w.heap.size w w1)
  (ho:w2.ownsRow base 64 1 v' (n+1) (es++[u])) (hg:w1.grownBy w2 v.ownBlock):Cu w2 base (n+1) L v' (es++[u]) (xs++[l]) E:=by
 have h1:=h.below hb
 have hkeep:∀ {m:Nat} {u':Value} {l':List Nat} {F:Nat→Nat→Bool},Sq w1 base m L u' l' F→Sq w2 base m L u' l' F:=fun {m u' l' F} hs=>hs.kept hg (own_ne hs.own h1.own (by decide)) (fun x hx=>by
  obtain⟨a,ha,rfl⟩:=List.getElem_of_mem hx
  exact own_blkB h1.own (by decide) (hs.blk a _ (List.getElem?_eq_getElem ha)).2)
 refine⟨by rw[List.length_append,h.le];rfl,by rw[List.length_append,h.lx];rfl,ho,fun a u' l' hu hl=>?_,?_⟩
 ·rw[List.getElem?_append] at hu hl
  rw[h.le] at hu
  rw[h.lx] at hl
  split at hu
  ·rename_i hlt
   rw[if_pos hlt] at hl
   exact hkeep (h1.row a u' l' hu hl)
  ·rename_i hge
   rw[if_neg hge] at hl
   have ha:a=n:=by
    have:=(List.getElem?_eq_some_iff.1 hu).1
    simp at this
    omega
   subst ha
   rw[Nat.sub_self] at hu hl
   injection hu with hu
   injection hl with hl
   subst hu hl
   exact hkeep (hs.below hb)
 ·rw[List.flatten_append,List.nodup_append]
  refine⟨h.nd,by simpa using hs.nd,fun y hy z hz e=>?_⟩
  simp at hz
  subst e
  exact hfr y hz hy
theorem Cu.kept {w w':World} {base n L:Nat} {v:Value} {es:List Value} {xs:List (List Nat)} {E:Nat→Nat→Nat→Bool} {o:Option Nat} (h:Cu w base n L v es xs E) (hg:w.grownBy w' o) (h1:v.ownBlock=none∨v.ownBlock≠o) (h2:∀ u∈es,u.ownBlock=none∨u.ownBlock≠o) (h3:∀ x∈xs.flatten,some x≠o):Cu w' base n L v es xs E :=
 ⟨h.le,h.lx,h.own.kept hg h1,fun a u l hu hl=>(h.row a u l hu hl).kept hg (h2 u (List.mem_of_getElem? hu)) fun x hx=>h3 x (List.mem_flatten.2 ⟨l,List.mem_of_getElem? hl,hx⟩),h.nd⟩
theorem Sq.low {w:World} {base n L:Nat} {v:Value} {fs:List Nat} {F:Nat→Nat→Bool} (h:Sq w base n L v fs F) {p:Addr} (hp:p.block<base) (u:Value):Sq (w.setCell p u) base n L v fs F :=
 ⟨h.len,own_keep20 h.own fun g _ hg _ _=>Below.heap_setCell _ _ _ _ (by omega),fun a x hx=>⟨(h.blk a x hx).1,(Below.heap_setCell _ _ _ _ (by have:=(h.blk a x hx).1;omega)).trans (h.blk a x hx).2⟩,h.nd⟩
theorem Cu.low {w:World} {base n L:Nat} {v:Value} {es:List Value} {xs:List (List Nat)} {E:Nat→Nat→Nat→Bool} (h:Cu w base n L v es xs E) {p:Addr} (hp:p.block<base) (u:Value):Cu (w.setCell p u) base n L v es xs E :=
 ⟨h.le,h.lx,own_keep20 h.own fun g _ hg _ _=>Below.heap_setCell _ _ _ _ (by omega),fun a u' l hu hl=>(h.row a u' l hu hl).low hp u,h.nd⟩
theorem Cu.ext {w:World} {base n L:Nat} {v:Value} {es:List Value} {xs:List (List Nat)} {E G:Nat→Nat→Nat→Bool} (h:Cu w base n L v es xs E) (hf:E=G):Cu w base n L v es xs G:=hf ▸ h
theorem countP_le {α:Type} {f g:α→Bool}:∀ (l:List α),(∀ x∈l,g x=true→f x=true)→l.countP g≤l.countP f
 |[],_=>Nat.le_refl _
 |x :: l,h=>by
  have ih:=countP_le l fun y hy=>h y (by simp[hy])
  rw[List.countP_cons,List.countP_cons]
  have:=h x (by simp)
  by_cases hg:g x=true
  ·rw[if_pos hg,if_pos (this hg)];omega
  ·rw[if_neg hg];omega
theorem countP_lt {α:Type} {f g:α→Bool}:∀ (l:List α),(∀ x∈l,g x=true→f x=true)→(∃ x∈l,f x=true∧g x=false)→l.countP g<l.countP f
 |[],_,⟨x,hx,_⟩=>by cases hx
 |y :: l,h,⟨x,hx,h1,h2⟩=>by
  rw[List.countP_cons,List.countP_cons]
  rcases List.mem_cons.1 hx with e | hx
  ·subst e
   have:=countP_le l fun z hz=>h z (by simp[hz])
   rw[h1,h2]
   simp
   omega
  ·have ih:=countP_lt l (fun z hz=>h z (by simp[hz])) ⟨x,hx,h1,h2⟩
   have:=h y (by simp)
   by_cases hg:g y=true
   ·rw[if_pos hg,if_pos (this hg)];omega
   ·rw[if_neg hg];omega
def placesE (n L:Nat):List (Nat×Nat×Nat):=(List.range n).flatMap fun a=>(List.range (L+1)).flatMap fun p=>(List.range (L+1)).map fun q=>(a,p,q)
def placesF (n L:Nat):List (Nat×Nat):=(List.range n).flatMap fun a=>(List.range (L+1)).map fun p=>(a,p)
theorem mem_placesE {n L a p q:Nat} (ha:a<n) (hp:p≤L) (hq:q≤L):(a,p,q)∈placesE n L:=by
 simp only[placesE,List.mem_flatMap,List.mem_map,List.mem_range]
 exact⟨a,ha,p,by omega,q,by omega,rfl⟩
theorem mem_placesF {n L a p:Nat} (ha:a<n) (hp:p≤L):(a,p)∈placesF n L:=by
 simp only[placesF,List.mem_flatMap,List.mem_map,List.mem_range]
 exact⟨a,ha,p,by omega,rfl⟩
def roomF (n L:Nat) (F:Nat→Nat→Bool):Nat:=(placesF n L).countP fun x=>!F x.1 x.2
def roomT (n L:Nat) (T:TabD):Nat:=((placesE n L).countP fun x=>!T.E x.1 x.2.1 x.2.2)+roomF n L T.F
def GrewT (n L:Nat) (T:TabD) (t:TabD×Bool):Prop:=(∀ a p q,T.E a p q=true→t.1.E a p q=true)∧(∀ a p,T.F a p=true→t.1.F a p=true)∧(t.2=true→(∃ a p q,a<n∧p≤L∧q≤L∧T.E a p q=false∧t.1.E a p q=true)∨∃ a p,a<n∧p≤L∧T.F a p=false∧t.1.F a p=true)
theorem GrewT.room {n L:Nat} {T T':TabD} (h:GrewT n L T (T',true)):roomT n L T'<roomT n L T:=by
 obtain⟨h1,h2,h3⟩:=h
 have hE:∀ x∈placesE n L,(!T'.E x.1 x.2.1 x.2.2)=true→(!T.E x.1 x.2.1 x.2.2)=true:=fun x _ hx=>by
  cases e:T.E x.1 x.2.1 x.2.2 with
  |false=>rfl
  |true=>rw[h1 _ _ _ e] at hx;cases hx
 have hF:∀ x∈placesF n L,(!T'.F x.1 x.2)=true→(!T.F x.1 x.2)=true:=fun x _ hx=>by
  cases e:T.F x.1 x.2 with
  |false=>rfl
  |true=>rw[h2 _ _ e] at hx;cases hx
 unfold roomT roomF
 rcases h3 rfl with ⟨a,p,q,ha,hp,hq,e1,e2⟩ | ⟨a,p,ha,hp,e1,e2⟩
 ·have:=countP_lt (placesE n L) hE ⟨(a,p,q),mem_placesE ha hp hq,by simp[e1],by simp;exact e2⟩
  have:=countP_le (placesF n L) hF
  omega
 ·have:=countP_le (placesE n L) hE
  have:=countP_lt (placesF n L) hF ⟨(a,p),mem_placesF ha hp,by simp[e1],by simp;exact e2⟩
  omega
theorem stepRP_grew {n:Nat} {w:Wd} {T:TabD} {r:Int×List Int} (hr:0≤r.1∧r.1<(n:Int)) {t:TabD×Bool} {p:Nat} (hp:p≤w.length) (h:GrewT n w.length T t):GrewT n w.length T (stepRP w r t p):=by
 obtain⟨h1,h2,h3⟩:=h
 have hrn:r.1.toNat<n:=by omega
 have hE1:∀ a p' q,T.E a p' q=true→(setE t.1 r.1.toNat p (endsL w t.1.E r.2 p) (w.length+1)).E a p' q=true:=fun a p' q he=>by
  show (t.1.E a p' q||_)=true
  rw[h1 a p' q he,Bool.true_or]
 unfold stepRP
 simp only
 split
 ·rename_i hc
  refine⟨hE1,fun a p' he=>?_,fun _=>?_⟩
  ·show (t.1.F a p'||_)=true
   rw[h2 a p' he,Bool.true_or]
  ·right
   refine⟨r.1.toNat,p,hrn,hp,?_,?_⟩
   ·cases e:T.F r.1.toNat p with
    |false=>rfl
    |true =>
     have e2:t.1.F r.1.toNat p=false:=hc.1
     rw[h2 _ _ e] at e2
     cases e2
   ·show (t.1.F _ _||_)=true
    simp
 ·refine⟨hE1,h2,fun hm=>?_⟩
  simp only[Bool.or_eq_true] at hm
  rcases hm with hm | hm
  ·rcases h3 hm with ⟨a,p',q,a1,a2,a3,a4,a5⟩ | ⟨a,p',a1,a2,a3,a4⟩
   ·refine .inl ⟨a,p',q,a1,a2,a3,a4,?_⟩
    show (t.1.E a p' q||_)=true
    rw[a5,Bool.true_or]
   ·exact .inr ⟨a,p',a1,a2,a3,a4⟩
  ·obtain⟨q,hq,hn⟩:=List.any_eq_true.1 hm
   have hq:=List.mem_range.1 hq
   rw[Bool.and_eq_true,Bool.not_eq_true'] at hn
   refine .inl ⟨r.1.toNat,p,q,hrn,hp,by omega,?_,?_⟩
   ·cases e:T.E r.1.toNat p q with
    |false=>rfl
    |true=>rw[h1 _ _ _ e] at hn;cases hn.2
   ·show (t.1.E _ _ _||_)=true
    rw[hn.1,show decide (q<w.length+1)=true by simpa using hq]
    simp
theorem passT_room {n:Nat} {w:Wd} {rs:RuleL} (hw:∀ r∈rs,0≤r.1∧r.1<(n:Int)) {T T':TabD} (h:passT w rs T=some (T',true)):roomT n w.length T'<roomT n w.length T:=by
 have h0:GrewT n w.length T (T,false):=⟨fun _ _ _ h=>h,fun _ _ h=>h,fun h=>by cases h⟩
 have:GrewT n w.length T (rs.foldl (stepR w) (T,false)):=foldl_inv (GrewT n w.length T) rs (T,false) (fun s r hr hs=>by
  unfold stepR
  exact foldl_inv (GrewT n w.length T) (List.range (w.length+1)) s (fun s p hp hs=>stepRP_grew (hw r hr) (by have:=List.mem_range.1 hp;omega) hs) hs) h0
 unfold passT at h
 injection h with h
 rw[h] at this
 exact this.room
end Go.Proofs.YtfpihflepeiagaaGreatDoor
namespace Go.Proofs.YtfpihflepeiagaaGreatDoor
open Go.RowKit

def hkCells (h:List UInt8) (k:Int):List Value:=bcells h++[.int .i64 k]
abbrev hkv (h:List UInt8) (k:Int):Value:=.agg (hkCells h k).toArray
section
variable {P:Program} {w:World}
theorem load_agg {ty:TypeId} {d:TypeDesc} (hu:P.underlying ty=some d) (hd:(match d with | .struct _ | .array _ _=>true | _=>false)=true) {b off:Nat} {cs:List Value} (hi:(P.info? ty).map (·.size)=some cs.length)
  (hc:∀ j u,cs[j]? = some u→w.cell? ⟨b,off+j,none⟩=some u):(Instr.loadAt ty (.pointer (some ⟨b,off,none⟩))).run P w=.ok (.agg cs.toArray) w:=by
 have hl:(loadCells ⟨b,off,none⟩ cs.length).run P w=.ok cs.toArray w:=run_loadCells_list (P:=P) w ⟨b,off,none⟩ cs (fun j v hv=>by rw[Addr.add_lit];exact hc j v hv)
 cases hq:P.info? ty with
 |none=>simp[hq] at hi
 |some i =>
  have hs:i.size=cs.length:=by simpa[hq] using hi
  have hagg:(isAgg ty).run P w=.ok true w:=by
   unfold isAgg
   rw[Sem.run_bind,run_underlying hu w]
   cases d <;> simp_all
  simp[Instr.loadAt,Instr.sureAddr,loadVar,Sem.run_bind,hagg,sizeOf,typeInfo,hq,hs,hl]
theorem wpList_load_agg {ops:Array Oper} {rest:List Oper} {o:Oper} {a:Act} {Q:Exit→Act→World→Prop} (hgd:o.guard=none) (ty:TypeId) {x:Operand} (ho:o.op=.load ty x) {b off:Nat} (hx:a.eval x=.pointer (some ⟨b,off,none⟩))
  {d:TypeDesc} (hu:P.underlying ty=some d) (hd:(match d with | .struct _ | .array _ _=>true | _=>false)=true) {cs:List Value} (hi:(P.info? ty).map (·.size)=some cs.length)
  (hc:∀ j u,cs[j]? = some u→w.cell? ⟨b,off+j,none⟩=some u) (h:wpList P ops Q rest (a.put o.dst (.agg cs.toArray)) w):wpList P ops Q (o :: rest) a w:=by
 refine wpList_plain hgd fun K hK=>?_
 unfold Oper.wp execOp
 simp only[ho,hx,Sem.run_bind,load_agg hu hd hi hc,Result.andThen_ok,Sem.run_pure]
 exact hK _ _ h
theorem store_agg {ty:TypeId} {g off:Nat} {vs:List Value} {v:Value} (hv:v.cells=vs.toArray) (hi:(P.info? ty).map (·.size)=some vs.length) {cur:Array Value} {t:TypeId} (hg:w.heap[g]? = some (.cells cur t (0,0)))
  (hl:off+vs.length≤cur.size) (h1:∀ u∈vs,u.oneCell'=true):(Instr.storeAt ty (.pointer (some ⟨g,off,none⟩)) v).run P w=.ok () (w.setRow g (cur.toList.take off++vs++cur.toList.drop (off+vs.length)).toArray):=by
 have hs:=run_storeCells_at P g off t vs 0 cur w hg (by omega) h1
 rw[Nat.add_zero] at hs
 cases hq:P.info? ty with
 |none=>simp[hq] at hi
 |some i =>
  have hsz:i.size=vs.length:=by simpa[hq] using hi
  simp[Instr.storeAt,Instr.sureAddr,storeVar,Sem.run_bind,sizeOf,typeInfo,hq,hsz,hv,hs]
end
end Go.Proofs.YtfpihflepeiagaaGreatDoor
namespace Go.Proofs.YtfpihflepeiagaaGreatDoor
open Go.RowKit

structure Stop (p:Prop):Prop where
 out:p
theorem Stop.go {p:Prop} (h:p):Stop p:=⟨h⟩
section
variable {P:Program} {ops:Array Oper} {Q:Exit→Act→World→Prop} {a:Act} {w:World} {rest:List Oper} {o:Oper}
theorem stop_at (d:Option Tmp) (_hd:o.dst=d) (h:Stop (wpList P ops Q (o :: rest) a w)):wpList P ops Q (o :: rest) a w:=h.out
theorem wpList_store_agg (hgd:o.guard=none) (ty:TypeId) {x y:Operand} (ho:o.op=.store ty x y) {g off:Nat} (hx:a.eval x=.pointer (some ⟨g,off,none⟩)) {v:Value} (hy:a.eval y=v) {w':World}
  (hrun:(Instr.storeAt ty (.pointer (some ⟨g,off,none⟩)) v).run P w=.ok () w') (h:wpList P ops Q rest (a.put o.dst undef) w'):wpList P ops Q (o :: rest) a w:=by
 refine wpList_plain hgd fun K hK=>?_
 unfold Oper.wp execOp
 simp only[ho,hx,hy,Sem.run_bind,hrun,Result.andThen_ok,Sem.run_pure]
 exact hK _ _ h
end
end Go.Proofs.YtfpihflepeiagaaGreatDoor
