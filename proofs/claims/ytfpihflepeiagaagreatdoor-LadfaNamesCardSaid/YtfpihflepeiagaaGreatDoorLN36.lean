/- Texts of this proof joined: Mk1, MacW8. -/
import Derived.Test.YtfpihflepeiagaaGreatDoorLN35
import Derived.Test.YtfpihflepeiagaaGreatDoorLN31
import Derived.Test.YtfpihflepeiagaaGreatDoorLN30
namespace Go.Proofs.YtfpihflepeiagaaGreatDoor
open Go.RowKit

def qcells (q:List Nat):List Value:=q.map fun (x:Nat)=>.int .i64 ((x:Nat):Int)
theorem qcells_snoc (q:List Nat) (x:Nat):qcells (q++[x])=qcells q++[.int .i64 (x:Int)]:=by simp[qcells]
theorem scells_snoc (rs:List (Int×Value)) (r:Int×Value):scells (rs++[r])=scells rs++[.int .i64 r.1,r.2]:=by simp[scells]
def MapI (W:World) (g:Nat) (cl:Nat→Int) (q:List Nat):Prop:=∃ l,MapR (Value.int .i64) W g l∧∀ z,assoc l z=(q.findIdx? fun x=>decide (cl x=z)).map fun n=>.int .i64 (n:Int)
theorem MapI.stay {W W':World} {g:Nat} {cl:Nat→Int} {q:List Nat} (h:MapI W g cl q) (hs:∀ o:Obj,W.heap[g]? = some o→o.isCells=false→W'.heap[g]? = some o):MapI W' g cl q:=by
 obtain⟨l,h1,h2⟩:=h
 exact⟨l,h1.stay hs,h2⟩
theorem MapI.look {W:World} {g:Nat} {cl:Nat→Int} {q:List Nat} (h:MapI W g cl q) {mt kt et:TypeId} {P:Program} (K:KeyTy P mt kt et (Value.int .i64)) (hz:∀ w:World,(zeroValue et).run P w=.ok (.int .i64 0) w) (z:Int) :
  (Instr.lookup mt (.map (some g)) (.int .i64 z) true).run P W=.ok (match q.findIdx? fun x=>decide (cl x=z) with | some n=>.tuple #[.int .i64 (n:Int),.bool true] | none=>.tuple #[.int .i64 0,.bool false]) W:=by
 obtain⟨l,h1,h2⟩:=h
 rw[h1.lookup_ok K hz z,h2]
 cases q.findIdx? fun x=>decide (cl x=z) <;> rfl
theorem MapI.put {W:World} {g:Nat} {cl:Nat→Int} {q:List Nat} (h:MapI W g cl q) {mt kt et:TypeId} {P:Program} (K:KeyTy P mt kt et (Value.int .i64)) {y:Nat} (hy:(q.findIdx? fun x=>decide (cl x=cl y))=none) :
  ∃ W',(Instr.mapUpdate mt (.map (some g)) (.int .i64 (cl y)) (.int .i64 q.length)).run P W=.ok () W'∧MapI W' g cl (q++[y])∧W.grownBy W' (some g)∧W'.heap.size=W.heap.size:=by
 obtain⟨l,h1,h2⟩:=h
 obtain⟨W1,hup,hm1,hg1,hs1⟩:=h1.update K (cl y) (.int .i64 q.length)
 refine⟨W1,hup,⟨_,hm1,fun z=>?_⟩,hg1,hs1⟩
 rw[assoc_setT,h2,List.findIdx?_append]
 by_cases hz:z=cl y
 ·subst hz
  rw[if_pos rfl,hy]
  simp[List.findIdx?_cons]
 ·rw[if_neg hz]
  have:¬ cl y=z:=fun e=>hz e.symm
  cases q.findIdx? fun x=>decide (cl x=z) <;> simp[List.findIdx?_cons,this]
structure OwnO (W:World) (N:Nat) (v:Value) (rs:List (Int×Value)) (es:List (List (Int×Int))):Prop where
 len:rs.length=es.length
 row:W.ownsRow N 58 2 v rs.length (scells rs)
 own:∀ (i:Nat) (r:Int×Value) (l:List (Int×Int)),rs[i]? = some r→es[i]? = some l→W.ownsRow N 80 2 r.2 l.length (ecells l)
theorem OwnO.sl {W:World} {N:Nat} {v:Value} {rs:List (Int×Value)} {es:List (List (Int×Int))} (h:OwnO W N v rs es)
  (hb1:∀ r∈rs,-9223372036854775808≤r.1∧r.1≤9223372036854775807) (hb2:∀ l∈es,∀ e∈l,(-9223372036854775808≤e.1∧e.1≤9223372036854775807)∧-9223372036854775808≤e.2∧e.2≤9223372036854775807) :
  SlR eState W W.heap.size v ((rs.zip es).map fun p=>(p.1.1,p.2)):=by
 have hz:((rs.zip es).map fun p=>(p.1.1,p.2)).length=rs.length:=by rw[List.length_map,List.length_zip,h.len,Nat.min_self]
 obtain⟨A,c,hv,hc,hc2⟩:=own_form h.row
 have hrow:=h.row
 rw[hv] at hrow ⊢
 refine⟨_,c,rs.map fun r=>[Value.int .i64 r.1,r.2],by rw[hz],by rw[hz];exact hc,hc2,by rw[hz,List.length_map],Rd.of_own hrow,fun i cs x hi hx=>?_⟩
 rw[List.getElem?_map] at hi hx
 have hil:i<rs.length:=by
  rcases Nat.lt_or_ge i rs.length with h | h
  ·exact h
  ·rw[List.getElem?_eq_none h] at hi;cases hi
 have hiel:i<es.length:=by rw[←h.len];exact hil
 have hzl:i<(rs.zip es).length:=by rw[List.length_zip];omega
 rw[List.getElem?_eq_getElem hil,Option.map_some] at hi
 rw[List.getElem?_eq_getElem hzl,List.getElem_zip,Option.map_some] at hx
 injection hi with hi
 injection hx with hx
 subst hi hx
 have hown:=h.own i _ _ (List.getElem?_eq_getElem hil) (List.getElem?_eq_getElem hiel)
 obtain⟨A',c',e,h1,h2⟩:=own_form hown
 refine⟨[.int .i64 rs[i].1],[rs[i].2],rfl,⟨rfl,hb1 _ (List.getElem_mem hil)⟩,rs[i].2,rfl,?_⟩
 rw[e] at hown ⊢
 refine⟨A',c',es[i].map fun e=>[Value.int .i64 e.1,.int .i64 e.2],rfl,h1,h2,by simp,Rd.of_own hown,fun j cs y hj hy=>?_⟩
 rw[List.getElem?_map,hy] at hj
 injection hj with hj
 subst hj
 obtain⟨⟨a1,a2⟩,a3,a4⟩:=hb2 _ (List.getElem_mem hiel) _ (List.mem_of_getElem? hy)
 exact⟨_,_,rfl,⟨rfl,a1,a2⟩,rfl,a3,a4⟩
theorem OwnO.fresh {W W':World} {N:Nat} {v:Value} {rs:List (Int×Value)} {es:List (List (Int×Int))} (h:OwnO W N v rs es) (hw:∀ b,N≤b→b<W.heap.size→W'.heap[b]? = W.heap[b]?):OwnO W' N v rs es:=by
 have key:∀ {t:TypeId} {s:Nat} {u:Value} {n:Nat} {xs:List Value},W.ownsRow N t s u n xs→W'.ownsRow N t s u n xs:=fun ho=>own_keepS ho fun g cur he hh=>(hw g (ho.lt g he).1 (ho.lt g he).2).trans hh
 exact⟨h.len,key h.row,fun i r l hi hl=>key (h.own i r l hi hl)⟩
structure MkI (w3 W:World) (g:Nat) (cl:Nat→Int) (q:List Nat) (v6 v7:Value) (rs:List (Int×Value)) (es:List (List (Int×Int))):Prop where
 map:MapI W g cl q
 que:W.ownsRow w3.heap.size 3 1 v6 q.length (qcells q)
 out:OwnO W w3.heap.size v7 rs es
 bel:Below w3.heap.size w3 W
 lo:w3.heap.size≤g
structure EdI (w3 W:World) (g b10:Nat) (cl:Nat→Int) (q1 q2:List Nat) (v6 v7:Value) (rs:List (Int×Value)) (es:List (List (Int×Int))) (so:Int) (u:Value) (l:List (Int×Int)):Prop where
 map:MapI W g cl q1
 que:W.ownsRow w3.heap.size 3 1 v6 q2.length (qcells q2)
 out:OwnO W w3.heap.size v7 rs es
 box:W.heap[b10]? = some (.cells #[.int .i64 so,u] 58 (0,0))
 uo:W.ownsRow w3.heap.size 80 2 u l.length (ecells l)
 ap:∀ (i:Nat) (r:Int×Value) (gg:Nat),rs[i]? = some r→r.2.ownBlock=some gg→u.ownBlock≠some gg
 hne:v7.ownBlock≠some b10
 bel:Below w3.heap.size w3 W
 lo:w3.heap.size≤g∧w3.heap.size≤b10
section
variable {w3 W W':World} {g b10:Nat} {cl:Nat→Int} {q q1 q2:List Nat} {v6 v7:Value} {rs:List (Int×Value)} {es:List (List (Int×Int))} {so:Int} {u:Value} {l:List (Int×Int)}
theorem own_stays {N:Nat} {t:TypeId} {s:Nat} {v:Value} {n:Nat} {xs:List Value} (h:W.ownsRow N t s v n xs) (hs:∀ (k:Nat) (o:Obj),W.heap[k]? = some o→W'.heap[k]? = some o):W'.ownsRow N t s v n xs:=own_keepS h fun _ _ _ hh=>hs _ _ hh
theorem MkI.below (h:MkI w3 W g cl q v6 v7 rs es) (hb:Below W.heap.size W W'):MkI w3 W' g cl q v6 v7 rs es:=by
 have hs:∀ (k:Nat) (o:Obj),W.heap[k]? = some o→W'.heap[k]? = some o:=fun k o hk=>(hb.block k (Array.getElem?_eq_some_iff.1 hk).1).trans hk
 exact⟨h.map.stay fun o ho _=>hs _ _ ho,own_stays h.que hs,⟨h.out.len,own_stays h.out.row hs,fun i r l hi hl=>own_stays (h.out.own i r l hi hl) hs⟩,h.bel.trans (hb.mono h.bel.size),h.lo⟩
theorem EdI.below (h:EdI w3 W g b10 cl q1 q2 v6 v7 rs es so u l) (hb:Below W.heap.size W W'):EdI w3 W' g b10 cl q1 q2 v6 v7 rs es so u l:=by
 have hs:∀ (k:Nat) (o:Obj),W.heap[k]? = some o→W'.heap[k]? = some o:=fun k o hk=>(hb.block k (Array.getElem?_eq_some_iff.1 hk).1).trans hk
 exact⟨h.map.stay fun o ho _=>hs _ _ ho,own_stays h.que hs,⟨h.out.len,own_stays h.out.row hs,fun i r l hi hl=>own_stays (h.out.own i r l hi hl) hs⟩,hs _ _ h.box,own_stays h.uo hs,h.ap,h.hne,h.bel.trans (hb.mono h.bel.size),h.lo⟩
theorem EdI.alloc (h:EdI w3 W g b10 cl q1 q2 v6 v7 rs es so u l) (o:Obj):EdI w3 (W.alloc o) g b10 cl q1 q2 v6 v7 rs es so u l:=h.below ((Below.refl _ _).alloc (Nat.le_refl _) _)
theorem MkI.alloc (h:MkI w3 W g cl q v6 v7 rs es) (o:Obj):MkI w3 (W.alloc o) g cl q v6 v7 rs es:=h.below ((Below.refl _ _).alloc (Nat.le_refl _) _)
theorem MkI.open_ (h:MkI w3 W g cl q v6 v7 rs es) (so:Int):EdI w3 (W.alloc (.cells #[.int .i64 so,.slice none 0 0] 58)) g W.heap.size cl q q v6 v7 rs es so (.slice none 0 0) []:=by
 have h2:=h.alloc (.cells #[.int .i64 so,.slice none 0 0] 58)
 exact⟨h2.map,h2.que,h2.out,Go.heap_alloc_new W _,World.ownsRow_nil _ _ _ _,fun _ _ _ _ _ e=>by simp[Value.ownBlock] at e,fun e=>by have:=(h.out.row.lt _ e).2;omega,h2.bel,h.lo,h.bel.size⟩
theorem EdI.put (h:EdI w3 W g b10 cl q1 q2 v6 v7 rs es so u l) {mt kt et:TypeId} {P:Program} (K:KeyTy P mt kt et (Value.int .i64)) {y:Nat} (hy:(q1.findIdx? fun x=>decide (cl x=cl y))=none) :
  ∃ W',(Instr.mapUpdate mt (.map (some g)) (.int .i64 (cl y)) (.int .i64 q1.length)).run P W=.ok () W'∧EdI w3 W' g b10 cl (q1++[y]) q2 v6 v7 rs es so u l∧W'.heap.size=W.heap.size∧∀ (k:Nat) (cs:Array Value) (t:TypeId) (fr:Nat×Nat),W.heap[k]? = some (.cells cs t fr)→W'.heap[k]? = some (.cells cs t fr):=by
 have hobj:∃ o:Obj,W.heap[g]? = some o∧o.isCells=false:=by
  obtain⟨l,h1,_⟩:=h.map
  exact h1.obj
 obtain⟨W1,hup,hm1,hg1,hs1⟩:=h.map.put K hy
 have hrow:∀ r,some g=some r→∃ o:Obj,W.heap[r]? = some o∧o.isCells=false:=fun r e=>by cases e;exact hobj
 have hc:∀ {k:Nat} {cs:Array Value} {t:TypeId} {fr:Nat×Nat},W.heap[k]? = some (.cells cs t fr)→W1.heap[k]? = some (.cells cs t fr):=fun hk=>cells_stayB hg1 hrow hk
 exact⟨W1,hup,⟨hm1,own_stay hg1 hrow h.que,⟨h.out.len,own_stay hg1 hrow h.out.row,fun i r l hi hl=>own_stay hg1 hrow (h.out.own i r l hi hl)⟩,hc h.box,own_stay hg1 hrow h.uo,h.ap,h.hne,h.bel.trans ((Below.refl _ _).grown hg1 h.bel.size fun k e=>by injection e with e;have:=h.lo.1;omega),h.lo⟩,hs1,fun k cs t fr hk=>hc hk⟩
theorem EdI.quep (h:EdI w3 W g b10 cl q1 q2 v6 v7 rs es so u l) {y:Nat} {v:Value} (hown:W'.ownsRow w3.heap.size 3 1 v (q2.length+1) (qcells q2++[.int .i64 (y:Int)])) (hg:W.grownBy W' v6.ownBlock):EdI w3 W' g b10 cl q1 (q2++[y]) v v7 rs es so u l:=by
 have hst:∀ (k:Nat) (o:Obj),W.heap[k]? = some o→(∀ cur,o≠.cells cur 3 (0,0))→W'.heap[k]? = some o:=fun k o hk hne=>app_stay h.que hg hk hne
 refine⟨h.map.stay (fun o ho hc=>hst _ _ ho fun cur e=>by subst e;cases hc),by rw[qcells_snoc,List.length_append];exact hown,⟨h.out.len,own_keepS h.out.row (fun g' cur _ hh=>hst _ _ hh (fun cur e=>by cases e)),fun i r l hi hl=>own_keepS (h.out.own i r l hi hl) (fun g' cur _ hh=>hst _ _ hh (fun cur e=>by cases e))⟩,
  hst _ _ h.box (fun cur e=>by cases e),own_keepS h.uo (fun g' cur _ hh=>hst _ _ hh (fun cur e=>by cases e)),h.ap,h.hne,grown_below h.bel hg h.que (Nat.le_refl _) h.bel.size,h.lo⟩
theorem EdI.edge (h:EdI w3 W g b10 cl q1 q2 v6 v7 rs es so u l) {e:Int×Int} {v:Value} (hown:W'.ownsRow w3.heap.size 80 2 v (l.length+1) (ecells (l++[e]))) (hg:W.grownBy W' u.ownBlock) (hu:v.ownBlock=u.ownBlock∨v.ownBlock=some W.heap.size) :
  EdI w3 (W'.setCell ⟨b10,1,none⟩ v) g b10 cl q1 q2 v6 v7 rs es so v (l++[e]):=by
 have hst1:∀ (k:Nat) (o:Obj),W.heap[k]? = some o→(∀ cur,o≠.cells cur 80 (0,0))→W'.heap[k]? = some o:=fun k o hk hne=>app_stay h.uo hg hk hne
 have hbox1:=hst1 _ _ h.box (fun cur e=>by cases e)
 have hst:∀ (k:Nat) (o:Obj),W.heap[k]? = some o→k≠b10→(∀ cur,o≠.cells cur 80 (0,0))→(W'.setCell ⟨b10,1,none⟩ v).heap[k]? = some o:=fun k o hk hn hne=>(heap_setCell_other _ _ _ _ hn).trans (hst1 k o hk hne)
 have hlt:∀ (i:Nat) (r:Int×Value) (gg:Nat),rs[i]? = some r→r.2.ownBlock=some gg→gg<W.heap.size:=fun i r gg hi hgg=>by
  have hil:i<es.length:=by rw[←h.out.len];exact (List.getElem?_eq_some_iff.1 hi).1
  exact ((h.out.own i r _ hi (List.getElem?_eq_getElem hil)).lt gg hgg).2
 refine⟨h.map.stay (fun o ho hc=>hst _ _ ho (fun e=>by rw[e,h.box] at ho;cases ho;cases hc) fun cur e=>by subst e;cases hc),?que,⟨h.out.len,?row,?own⟩,?box,?uo,?ap,h.hne,?bel,h.lo⟩
 case que=>exact own_keepS h.que fun g' cur _ hh=>hst _ _ hh (type_ne2 hh h.box (by decide)) (fun cur e=>by cases e)
 case row=>exact own_keepS h.out.row fun g' cur he hh=>hst _ _ hh (fun e=>h.hne (by rw[he,e])) (fun cur e=>by cases e)
 case own =>
  intro i r l' hi hl
  refine own_keepS (h.out.own i r l' hi hl) fun g' cur he hh=>(heap_setCell_other _ _ _ _ (type_ne2 ((hg.block g' (Array.getElem?_eq_some_iff.1 hh).1 fun e=>h.ap i r g' hi he e.symm).trans hh) hbox1 (by decide))).trans ?_
  ·exact (hg.block g' (Array.getElem?_eq_some_iff.1 hh).1 fun e=>h.ap i r g' hi he e.symm).trans hh
 case box =>
  rw[heap_setCell_at hbox1]
  rfl
 case uo =>
  rw[List.length_append]
  exact own_keepS hown fun g' cur _ hh=>(heap_setCell_other _ _ _ _ (type_ne2 hh hbox1 (by decide))).trans hh
 case ap =>
  intro i r gg hi hgg e
  rcases hu with h2 | h2
  ·exact h.ap i r gg hi hgg (by rw[←h2];exact e)
  ·rw[h2] at e
   injection e with e
   have:=hlt i r gg hi hgg
   omega
 case bel=>exact (grown_below h.bel hg h.uo (Nat.le_refl _) h.bel.size).setCell h.lo.2 _
theorem EdI.done (h:EdI w3 W g b10 cl q q v6 v7 rs es so u l) {v:Value} (hown:W'.ownsRow w3.heap.size 58 2 v (rs.length+1) (scells rs++[.int .i64 so,u])) (hg:W.grownBy W' v7.ownBlock) :
  MkI w3 W' g cl q v6 v (rs++[(so,u)]) (es++[l]):=by
 have hst:∀ (k:Nat) (o:Obj),W.heap[k]? = some o→(∀ cur,o≠.cells cur 58 (0,0))→W'.heap[k]? = some o:=fun k o hk hne=>app_stay h.out.row hg hk hne
 refine⟨h.map.stay (fun o ho hc=>hst _ _ ho fun cur e=>by subst e;cases hc),own_keepS h.que (fun g' cur _ hh=>hst _ _ hh (fun cur e=>by cases e)),⟨by simp[h.out.len],by rw[scells_snoc,List.length_append];exact hown,fun i r l' hi hl=>?_⟩,grown_below h.bel hg h.out.row (Nat.le_refl _) h.bel.size,h.lo.1⟩
 by_cases hil:i<rs.length
 ·rw[List.getElem?_append_left hil] at hi
  rw[List.getElem?_append_left (by rw[←h.out.len];exact hil)] at hl
  exact own_keepS (h.out.own i r l' hi hl) fun g' cur _ hh=>hst _ _ hh fun cur e=>by cases e
 ·have hie:i=rs.length:=by
   have:=(List.getElem?_eq_some_iff.1 hi).1
   rw[List.length_append,List.length_singleton] at this
   omega
  subst hie
  rw[List.getElem?_append_right (Nat.le_refl _),Nat.sub_self] at hi
  rw[h.out.len,List.getElem?_append_right (Nat.le_refl _),Nat.sub_self] at hl
  injection hi with hi
  injection hl with hl
  subst hi hl
  exact own_keepS h.uo fun g' cur _ hh=>hst _ _ hh fun cur e=>by cases e
end
theorem class_idx {m:Mch} {n:Nat} {cl:Nat→Int} (hc:∀ i<n,∀ j<n,useB m i=true→useB m j=true→(cl i=cl j↔Alike m i j)) {q:List Nat} (hq:∀ x∈q,x<n∧useB m x=true) {y:Nat} (hy:y<n) (uy:useB m y=true) :
  (q.findIdx? fun x=>decide (cl x=cl y))=q.findIdx? (alikeB m y):=by
 induction q with
 |nil=>rfl
 |cons a r ih =>
  have hr:∀ x∈r,x<n∧useB m x=true:=fun x hx=>hq x (List.mem_cons_of_mem _ hx)
  obtain⟨ha,ua⟩:=hq a (List.mem_cons_self ..)
  rw[List.findIdx?_cons,List.findIdx?_cons,ih hr]
  have e:decide (cl a=cl y)=alikeB m y a:=by
   rw[Bool.eq_iff_iff,decide_eq_true_iff,hc a ha y hy ua uy,alikeB_iff]
   exact⟨fun h=>alike_symm h,fun h=>alike_symm h⟩
  rw[e]
end Go.Proofs.YtfpihflepeiagaaGreatDoor
namespace Go.Proofs.YtfpihflepeiagaaGreatDoor

noncomputable def foldQ (m:Mch) (x:Nat) (q:List Nat) (k:Nat):List Nat×List (Int×Int):=((edM m x).take k).foldl (stepQ (useB m) (alikeB m)) (q,[])
theorem foldQ_zero (m:Mch) (x:Nat) (q:List Nat):foldQ m x q 0=(q,[]):=rfl
theorem foldQ_succ {m:Mch} {x:Nat} {q:List Nat} {k:Nat} {e:Int×Int} (h:(edM m x)[k]? = some e):foldQ m x q (k+1)=stepQ (useB m) (alikeB m) (foldQ m x q k) e:=by
 obtain⟨hk,he⟩:=List.getElem?_eq_some_iff.1 h
 unfold foldQ
 rw[List.take_succ_eq_append_getElem hk,List.foldl_append,he]
 rfl
theorem stepQ_pre (use:Nat→Bool) (a:Nat→Nat→Bool) (s:List Nat×List (Int×Int)) (e:Int×Int):s.1 <+: (stepQ use a s e).1∧(stepQ use a s e).2.length≤s.2.length+1:=by
 unfold stepQ
 split
 ·split
  ·exact⟨List.prefix_refl _,by simp⟩
  ·exact⟨List.prefix_append _ _,by simp⟩
 ·exact⟨List.prefix_refl _,by omega⟩
theorem foldl_pre (use:Nat→Bool) (a:Nat→Nat→Bool):∀ (l:List (Int×Int)) (s:List Nat×List (Int×Int)),s.1 <+: (l.foldl (stepQ use a) s).1∧(l.foldl (stepQ use a) s).2.length≤s.2.length+l.length
 |[],s=>⟨List.prefix_refl _,by simp⟩
 |e :: r,s=>by
  obtain⟨h1,h2⟩:=stepQ_pre use a s e
  obtain⟨h3,h4⟩:=foldl_pre use a r (stepQ use a s e)
  rw[List.foldl_cons,List.length_cons]
  exact⟨h1.trans h3,by omega⟩
theorem foldQ_len (m:Mch) (x:Nat) (q:List Nat) (k:Nat):(foldQ m x q k).2.length≤k:=by
 have:=(foldl_pre (useB m) (alikeB m) ((edM m x).take k) (q,[])).2
 rw[List.length_take] at this
 unfold foldQ
 simp only[List.length_nil] at this
 omega
theorem foldQ_pre (m:Mch) (x:Nat) (q:List Nat) (k:Nat):(foldQ m x q k).1 <+: (foldQ m x q (edM m x).length).1:=by
 unfold foldQ
 rw[List.take_length]
 conv=>rhs;rw[←List.take_append_drop k (edM m x),List.foldl_append]
 exact (foldl_pre _ _ _ _).1
theorem bfs_step {m:Mch} {n x:Nat} (h:(bfsM m n).1[n]? = some x):bfsM m (n+1)=((foldQ m x (bfsM m n).1 (edM m x).length).1,(bfsM m n).2++[(outM m x,(foldQ m x (bfsM m n).1 (edM m x).length).2)]):=by
 unfold foldQ
 rw[List.take_length]
 have e:bfsM m (n+1)=match (bfsM m n).1[n]? with
  |some x=>(((edM m x).foldl (stepQ (useB m) (alikeB m)) ((bfsM m n).1,[])).1,(bfsM m n).2++[(outM m x,((edM m x).foldl (stepQ (useB m) (alikeB m)) ((bfsM m n).1,[])).2)])
  |none=>bfsM m n:=rfl
 rw[e,h]
theorem bfs_queue {m:Mch} (hg:GoodM m) (h0:useB m 0=true) (n:Nat):(∀ x∈(bfsM m n).1,x<m.length∧useB m x=true)∧(bfsM m n).1.length≤m.length∧(bfsM m n).2.length=min n (bfsM m n).1.length:=by
 have h:=bfs_ok hg (useB_is m) (alikeB_is m) ((useB_iff m 0).1 h0) n
 exact⟨fun x hx=>⟨reach_lt hg (h.ok.use x hx).1,(useB_iff m x).2 (h.ok.use x hx)⟩,qOk_len hg h.ok,h.len⟩
theorem foldQ_queue {m:Mch} (hg:GoodM m) (h0:useB m 0=true) {n x:Nat} (h:(bfsM m n).1[n]? = some x) (k:Nat):(∀ z∈(foldQ m x (bfsM m n).1 k).1,z<m.length∧useB m z=true)∧(foldQ m x (bfsM m n).1 k).1.length≤m.length:=by
 have hp:=foldQ_pre m x (bfsM m n).1 k
 have h2:=bfs_queue hg h0 (n+1)
 rw[bfs_step h] at h2
 exact⟨fun z hz=>h2.1 z (hp.subset hz),Nat.le_trans hp.length_le h2.2.1⟩
theorem foldQ_num {m:Mch} (hg:GoodM m) (h0:useB m 0=true) {n x:Nat} (h:(bfsM m n).1[n]? = some x) (hx:x<m.length):∀ k,∀ e∈(foldQ m x (bfsM m n).1 k).2,(∃ d∈edM m x,e.1=d.1)∧0≤e.2∧e.2≤m.length
 |0=>by
  rw[foldQ_zero]
  simp
 |k+1=>by
  have ih:=foldQ_num hg h0 h hx k
  by_cases hk:k<(edM m x).length
  ·rw[foldQ_succ (List.getElem?_eq_getElem hk)]
   intro e he
   unfold stepQ at he
   have hl:=(foldQ_queue hg h0 h k).2
   split at he
   ·split at he
    ·rename_i i hi
     rcases List.mem_append.1 he with he | he
     ·exact ih e he
     ·rw[List.mem_singleton] at he
      subst he
      have hi2:=(List.findIdx?_eq_some_iff_getElem.1 hi).1
      exact⟨⟨_,List.getElem_mem hk,rfl⟩,by simp only;omega,by simp only;omega⟩
    ·rcases List.mem_append.1 he with he | he
     ·exact ih e he
     ·rw[List.mem_singleton] at he
      subst he
      exact⟨⟨_,List.getElem_mem hk,rfl⟩,by simp only;omega,by simp only;omega⟩
   ·exact ih e he
  ·have:foldQ m x (bfsM m n).1 (k+1)=foldQ m x (bfsM m n).1 k:=by
    unfold foldQ
    rw[List.take_of_length_le (by omega),List.take_of_length_le (by omega)]
   rw[this]
   exact ih
end Go.Proofs.YtfpihflepeiagaaGreatDoor
