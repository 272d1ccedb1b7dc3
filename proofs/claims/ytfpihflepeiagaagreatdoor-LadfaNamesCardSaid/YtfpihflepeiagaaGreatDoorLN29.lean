/- Texts of this proof joined: Trie, MacW, MacW2, MacW3. -/
import Derived.Test.YtfpihflepeiagaaGreatDoorLN28
import Derived.Test.YtfpihflepeiagaaGreatDoorLN07
namespace Go.Proofs.YtfpihflepeiagaaGreatDoor
open Go.RowKit

abbrev Mach:=List (Int×List (Int×Int))
def eState:Elt (Int×List (Int×Int)):=eProd eInt (eSl eEdge)
theorem eState_open {w:World} {B:Nat} {cs:List Value} {r:Int×List (Int×Int)} (h:eState.rep w B cs r):∃ v,cs=[.int .i64 r.1,v]∧SlR eEdge w B v r.2∧-9223372036854775808≤r.1∧r.1≤9223372036854775807:=by
 obtain⟨c1,c2,rfl,⟨rfl,h1,h2⟩,v,rfl,hs⟩:=h
 exact⟨v,rfl,hs,h1,h2⟩
theorem eEdge_open {w:World} {B:Nat} {cs:List Value} {r:Int×Int} (h:eEdge.rep w B cs r):cs=[.int .i64 r.1,.int .i64 r.2]∧-9223372036854775808≤r.1∧r.1≤9223372036854775807∧-9223372036854775808≤r.2∧r.2≤9223372036854775807:=by
 obtain⟨c1,c2,rfl,⟨rfl,h1,h2⟩,rfl,h3,h4⟩:=h
 exact⟨rfl,h1,h2,h3,h4⟩
theorem idxOf_find {α:Type} (p:α→Bool) (xs:List α):(idxOf p xs=-1∧xs.find? p=none)∨∃ (j:Nat) (h:j<xs.length),idxOf p xs=j∧xs.find? p=some xs[j]:=by
 unfold idxOf
 cases h:xs.findIdx? p with
 |none =>
  left
  rw[List.findIdx?_eq_none_iff] at h
  exact⟨rfl,List.find?_eq_none.2 fun x hx=>by simp[h x hx]⟩
 |some i =>
  right
  rw[List.findIdx?_eq_some_iff_getElem] at h
  obtain⟨h1,h2,h3⟩:=h
  refine⟨i,h1,rfl,?_⟩
  rw[List.find?_eq_some_iff_getElem]
  exact⟨h2,i,h1,rfl,fun j hj=>by simpa using h3 j hj⟩
def stepM (m:Mach) (k:Nat) (sym:Int):Option Nat:=match (m.getD k (0,[])).2.find? (fun e=>decide (e.1=sym)) with
 |some e=>if 0≤e.2∧e.2<m.length then some e.2.toNat else none
 |none=>none
theorem stepM_lt {m:Mach} {k:Nat} {sym:Int} {j:Nat} (h:stepM m k sym=some j):j<m.length:=by
 unfold stepM at h
 split at h
 ·split at h
  ·cases h;omega
  ·cases h
 ·cases h
theorem step_clo (g:Nat) (cs:List Value) (x:Int×Int) (sym:Int) (B:Nat) (w:World) (hx:eEdge.rep w B cs x) (hc:w.cell? ⟨g,0,none⟩=some (.int .i64 sym)) :
  Calls Tryz.prog 75 #[.agg cs.toArray,.pointer (some ⟨g,0,none⟩)] w fun e w'=>e=.returned (.bool (decide (x.1=sym)))∧Below w.heap.size w w':=by
 obtain⟨rfl,h1,h2,h3,h4⟩:=eEdge_open hx
 have hg:=World.block_lt_of_cell? w _ hc
 simp only at hg
 go_enter Tryz.func75,Tryz.ntmps75
 go_wp2
 go_ret
 exact⟨rt1 (vbool (by rw[Bool.eq_iff_iff];simp)),by go_grown⟩
def stepRM (o:Option Nat):Value:=match o with | some j=>.tuple #[.int .i64 j,.bool true] | none=>.tuple #[.int .i64 0,.bool false]
set_option maxHeartbeats 1000000 in
theorem trie_step (v:Value) (m:Mach) (k:Nat) (sym:Int) (w:World) (hv:SlR eState w w.heap.size v m) (hk:k<m.length) :
  Calls Tryz.prog 48 #[v,.int .i64 k,.int .i64 sym] w fun e w'=>e=.returned (stepRM (stepM m k sym))∧Below w.heap.size w w':=by
 obtain⟨A,c,rfl,hc1,hc2⟩:=hv.form
 unfold maxLen at hc2
 obtain⟨ab,ao,cs,rfl,_,hab,hrep,hcell⟩:=hv.get hk (by decide)
 obtain⟨u,rfl,hu,hz1,hz2⟩:=eState_open hrep
 obtain⟨A4,e4,rfl,he1,he2⟩:=hu.form
 unfold maxLen at he2
 have hc0:=hcell 0 _ rfl
 have hc1':=hcell 1 _ rfl
 clear hcell
 simp only[show eState.size=2 from rfl,Nat.add_zero,←Nat.add_assoc] at hc0 hc1'
 have HSP:Hid (stepM m k sym=match m[k].2.find? (fun e=>decide (e.1=sym)) with | some e=>if 0≤e.2∧e.2<m.length then some e.2.toNat else none | none=>none):=by
  show _=_
  unfold stepM
  rw[List.getD_eq_getElem?_getD,List.getElem?_eq_getElem hk]
  rfl
 go_enter Tryz.func48,Tryz.ntmps48
 go_wp2_with fail
 have hbw:Below w.heap.size w (w.alloc (Obj.cells #[Value.int IntKind.i64 sym] 3)):=(Below.refl _ _).alloc (Nat.le_refl _) _
 refine (idxf_edge 75 #[.pointer (some ⟨w.heap.size,0,none⟩)] (fun e=>decide (e.1=sym)) _ m[k].2 _ (hu.next hbw (by simp)) (fun _ _=>by kernel_rfl) ?_).mono ?_
 ·intro cs x w2 _ hb2 hx
  refine step_clo w.heap.size cs x sym _ w2 hx ?_
  rw[hb2.cell (p:=⟨w.heap.size,0,none⟩) (by simp)]
  simp
 rintro e w1 ⟨rfl,hb1⟩
 have hb:Below w.heap.size w w1:=hbw.trans (hb1.mono (by simp))
 have hd0:=(hb.cell (p:=⟨ab,ao+k*2+1,none⟩) hab).trans hc1'
 have hu1:=hu.below hb
 clear hc0 hc1' hu
 rcases idxOf_find (fun e:Int×Int=>decide (e.1=sym)) m[k].2 with ⟨h1,h2⟩ | ⟨j,hj,h1,h2⟩
 ·have H2:=Lib.hid h2
  rw[h1]
  clear h1 h2
  go_wp2_with fail
  go_ret2
  exact⟨by rw[HSP.out,H2.out];rfl,hb⟩
 ·have H2:=Lib.hid h2
  rw[h1]
  clear h1 h2
  obtain⟨eb,eo,es,rfl,_,heb,hrep2,hcell⟩:=hu1.get hj (by decide)
  obtain⟨rfl,q1,q2,q3,q4⟩:=eEdge_open hrep2
  have hd1:=hcell 1 _ rfl
  clear hcell
  simp only[show eEdge.size=2 from rfl,←Nat.add_assoc] at hd1
  have hcs:m[k].2[j].2<0∨(0≤m[k].2[j].2∧(m.length:Int)≤m[k].2[j].2)∨(0≤m[k].2[j].2∧m[k].2[j].2<m.length):=by omega
  rcases hcs with h | ⟨h,h'⟩ | ⟨h,h'⟩
  ·have HN:=Lib.hid (show ¬ (0≤m[k].2[j].2∧m[k].2[j].2<m.length) by omega)
   go_wp2_with fail
   all_goals first
    |(exfalso;omega)
    |(go_ret2;exact⟨by rw[HSP.out,H2.out];show _=Ending.returned (stepRM (if _ then _ else _));rw[if_neg HN.out];rfl,hb⟩)
  ·have HN:=Lib.hid (show ¬ (0≤m[k].2[j].2∧m[k].2[j].2<m.length) by omega)
   go_wp2_with fail
   all_goals first
    |(exfalso;omega)
    |(go_ret2;exact⟨by rw[HSP.out,H2.out];show _=Ending.returned (stepRM (if _ then _ else _));rw[if_neg HN.out];rfl,hb⟩)
  ·have HN:=Lib.hid (show (0≤m[k].2[j].2∧m[k].2[j].2<m.length) from ⟨h,h'⟩)
   have HT:=Lib.hid (show ((m[k].2[j].2.toNat:Nat):Int)=m[k].2[j].2 by omega)
   go_wp2_with fail
   all_goals first
    |(exfalso;omega)
    |(go_ret2;exact⟨by rw[HSP.out,H2.out];show _=Ending.returned (stepRM (if _ then _ else _));rw[if_pos HN.out];show _=Ending.returned (Value.tuple #[Value.int .i64 ((_:Nat):Int),_]);rw[HT.out];rfl,hb⟩)

def runS (m:Mach):Nat→List UInt8→Option Nat
 |k,[]=>some k
 |k,b :: r=>match stepM m k (b.toNat:Int) with | some j=>runS m j r | none=>none
def runM (m:Mach) (l:List UInt8):Int:=if m=[] then -1 else match runS m 0 l with | some k=>(m.getD k (0,[])).1 | none=>-1

set_option maxHeartbeats 1000000 in
theorem trie_run (v:Value) (m:Mach) (s:ByteArray) (w:World) (hv:SlR eState w w.heap.size v m) (hs:s.size≤1099511627776) :
  Calls Tryz.prog 27 #[v,.string s] w fun e w'=>e=.returned (.int .i64 (runM m s.data.toList))∧Below w.heap.size w w':=by
 obtain⟨A,c,rfl,hc1,hc2⟩:=hv.form
 unfold maxLen at hc2
 by_cases h0:m.length=0
 ·have hz:((m.length:Int)==0)=true:=by simp only[h0];rfl
  have HZ:=Lib.hid (List.eq_nil_of_length_eq_zero h0)
  clear h0
  go_enter Tryz.func27,Tryz.ntmps27
  go_wp2_with fail
  go_ret
  exact⟨rt1 (vint (by rw[HZ.out];rfl)),Below.refl _ _⟩
 have hz:((m.length:Int)==0)=false:=by rw[beq_eq_false_iff_ne];omega
 have HNE:=Lib.hid (show m≠[] by intro e;subst e;exact h0 rfl)
 obtain⟨W,cw,hcv,hbW,hsW,hrd⟩:=conv_own (P:=Tryz.prog) w 9 70 5 s Tryz.underlying9 Tryz.underlying70 Tryz.underlying5
 go_enter Tryz.func27,Tryz.ntmps27
 go_wp2_with fail
 have hlen:s.data.toList.length=s.size:=by simp
 go_loopw [5,15] (fun v5 v15 wr=>∃ k i:Nat,k<m.length∧i≤s.size∧v5=.int .i64 k∧v15=.int .i64 i∧Hid (runS m 0 s.data.toList=runS m k (s.data.toList.drop i))∧Below (w.heap.size+1) W wr) (fun _ v15 _=>s.size - (intOf v15).toNat)
 case atStart=>exact⟨0,0,by omega,by omega,rfl,rfl,rfl,Below.refl _ _⟩
 case round =>
  obtain⟨k,i,hk,hi,rfl,rfl,hrun,hbr⟩:=hrel
  have hbr0:=hbW.trans (hbr.mono (Nat.le_succ _))
  have hsz:=hbr.size
  by_cases hlt:i<s.size
  ·have hil:i<s.data.toList.length:=by omega
   obtain⟨bb,bo,hbe,hbb,hcb⟩:=(hrd.below hbr).byte hil
   injection hbe with hbe
   injection hbe with e1 e2
   subst e1 e2
   rw[Nat.zero_add] at hcb
   have HD:Hid (runS m k (s.data.toList.drop i)=match stepM m k (s.data.toList[i].toNat:Int) with | some j=>runS m j (s.data.toList.drop (i+1)) | none=>none):=by
    show _=_
    rw[List.drop_eq_getElem_cons hil]
    rfl
   have hx1:=s.data.toList[i].toNat_lt
   obtain⟨x,hx,hx2,hx3⟩:∃ x:Int,((s.data.toList[i].toNat:Nat):Int)=x∧0≤x∧x<256:=⟨_,rfl,by omega,by omega⟩
   rw[hx] at hcb HD
   clear hx hx1
   go_wp2_with fail
   refine (trie_step _ m k x wr (hv.next hbr0 (by omega)) hk).mono ?_
   rintro e w1 ⟨rfl,hb1⟩
   cases hst:stepM m k x with
   |none =>
    have HS:=Lib.hid hst
    clear hst
    simp only[stepRM]
    go_wp2
    go_ret
    refine⟨rt1 (vint ?_),hbr0.trans (hb1.mono (by omega))⟩
    unfold runM
    rw[if_neg HNE.out,hrun.out,HD.out,HS.out]
   |some j =>
    have HS:=Lib.hid hst
    have hj:=stepM_lt hst
    clear hst
    simp only[stepRM]
    go_wp2
    go_roundw
    case rel=>exact⟨j,i+1,hj,by omega,rfl,by go_num,by show _=_;rw[hrun.out,HD.out,HS.out],hbr.trans (hb1.mono (by omega))⟩
    case measure=>simp[intOf];omega
  ·obtain⟨ab,ao,cs,rfl,_,hab,hrep,hcell⟩:=(hv.below hbr0).get hk (by decide)
   obtain⟨u,rfl,hu,hz1,hz2⟩:=eState_open hrep
   have hc0:=hcell 0 _ rfl
   clear hcell
   simp only[show eState.size=2 from rfl,Nat.add_zero] at hc0
   have HE:Hid (runS m 0 s.data.toList=some k):=by
    show _=_
    rw[hrun.out,List.drop_eq_nil_of_le (by omega)]
    rfl
   have HG:Hid ((m.getD k (0,[])).1=m[k].1):=by
    show _=_
    rw[List.getD_eq_getElem?_getD,List.getElem?_eq_getElem hk]
    rfl
   go_wp2
   go_ret
   refine⟨rt1 (vint ?_),hbr0⟩
   unfold runM
   rw[if_neg HNE.out,HE.out]
   exact HG.out.symm
end Go.Proofs.YtfpihflepeiagaaGreatDoor
namespace Go.Proofs.YtfpihflepeiagaaGreatDoor

abbrev Sta:=Int×List (Int×Int)
abbrev Mch:=List Sta
def outM (m:Mch) (k:Nat):Int:=(m.getD k (0,[])).1
def edM (m:Mch) (k:Nat):List (Int×Int):=(m.getD k (0,[])).2
def stepI (m:Mch) (k:Nat) (sym:Int):Option Nat:=match (m.getD k (0,[])).2.find? (fun e=>decide (e.1=sym)) with
 |some e=>if 0≤e.2∧e.2<m.length then some e.2.toNat else none
 |none=>none
def runI (m:Mch):Nat→List Int→Option Nat
 |k,[]=>some k
 |k,b :: r=>match stepI m k b with | some j=>runI m j r | none=>none
def tellM (m:Mch) (k:Nat) (l:List Int):Int:=match runI m k l with | some j=>outM m j | none=>-1
theorem tellM_nil (m:Mch) (k:Nat):tellM m k []=outM m k:=rfl
theorem tellM_cons (m:Mch) (k:Nat) (b:Int) (r:List Int):tellM m k (b :: r)=match stepI m k b with | some j=>tellM m j r | none=>-1:=by
 simp only[tellM,runI]
 cases stepI m k b <;> rfl
def risingM (terms states:Int):Int→List (Int×Int)→Bool
 |_,[]=>true
 |last,e :: r=>decide (last<e.1)&&decide (e.1<terms)&&decide (0≤e.2)&&decide (e.2<states)&&risingM terms states e.1 r
def validM (m:Mch) (terms:Int):Bool:=m.all (fun s=>decide (-1≤s.1)&&risingM terms m.length (-1) s.2)&&decide (m≠[])
theorem rising_mem {t s:Int}:∀ {l:List (Int×Int)} {last:Int},risingM t s last l=true→(∀ e∈l,last<e.1∧e.1<t∧0≤e.2∧e.2<s)∧l.Pairwise (fun a b=>a.1<b.1)
 |[],_,_=>⟨by simp,List.Pairwise.nil⟩
 |e :: r,last,h=>by
  simp only[risingM,Bool.and_eq_true,decide_eq_true_eq] at h
  obtain⟨⟨⟨⟨h1,h2⟩,h3⟩,h4⟩,h5⟩:=h
  obtain⟨g1,g2⟩:=rising_mem h5
  refine⟨fun x hx=>?_,List.pairwise_cons.2 ⟨fun x hx=>(g1 x hx).1,g2⟩⟩
  rcases List.mem_cons.1 hx with rfl | hx
  ·exact⟨h1,h2,h3,h4⟩
  ·obtain⟨k1,k2,k3,k4⟩:=g1 x hx
   exact⟨by omega,k2,k3,k4⟩
theorem rising_of {t s:Int}:∀ {l:List (Int×Int)} {last:Int},(∀ e∈l,last<e.1∧e.1<t∧0≤e.2∧e.2<s)→l.Pairwise (fun a b=>a.1<b.1)→risingM t s last l=true
 |[],_,_,_=>rfl
 |e :: r,last,h1,h2=>by
  obtain⟨k1,k2,k3,k4⟩:=h1 e (List.mem_cons_self ..)
  obtain⟨g1,g2⟩:=List.pairwise_cons.1 h2
  simp only[risingM,Bool.and_eq_true,decide_eq_true_eq]
  refine⟨⟨⟨⟨k1,k2⟩,k3⟩,k4⟩,rising_of (fun x hx=>?_) g2⟩
  obtain⟨k1',k2',k3',k4'⟩:=h1 x (List.mem_cons_of_mem _ hx)
  exact⟨g1 x hx,k2',k3',k4'⟩
structure GoodM (m:Mch):Prop where
 some:m≠[]
 out:∀ k<m.length,-1≤outM m k
 tos:∀ k<m.length,∀ e∈edM m k,0≤e.1∧0≤e.2∧e.2<m.length
 rise:∀ k<m.length,(edM m k).Pairwise (fun a b=>a.1<b.1)
theorem outM_get {m:Mch} {k:Nat} (h:k<m.length):outM m k=m[k].1:=by
 unfold outM
 rw[List.getD_eq_getElem?_getD,List.getElem?_eq_getElem h]
 rfl
theorem edM_get {m:Mch} {k:Nat} (h:k<m.length):edM m k=m[k].2:=by
 unfold edM
 rw[List.getD_eq_getElem?_getD,List.getElem?_eq_getElem h]
 rfl
theorem valid_good {m:Mch} {t:Int} (h:validM m t=true):GoodM m:=by
 unfold validM at h
 simp only[Bool.and_eq_true,List.all_eq_true,decide_eq_true_eq] at h
 obtain⟨h1,h2⟩:=h
 refine⟨h2,fun k hk=>?_,fun k hk e he=>?_,fun k hk=>?_⟩
 ·rw[outM_get hk]
  exact (h1 _ (List.getElem_mem hk)).1
 ·rw[edM_get hk] at he
  obtain⟨a,b,c,d⟩:=(rising_mem (h1 _ (List.getElem_mem hk)).2).1 e he
  exact⟨by omega,c,d⟩
 ·rw[edM_get hk]
  exact (rising_mem (h1 _ (List.getElem_mem hk)).2).2
theorem good_valid {m:Mch} {t:Int} (h:GoodM m) (ht:∀ k<m.length,∀ e∈edM m k,e.1<t):validM m t=true:=by
 unfold validM
 simp only[Bool.and_eq_true,List.all_eq_true,decide_eq_true_eq]
 refine⟨fun s hs=>?_,h.some⟩
 obtain⟨k,hk,rfl⟩:=List.getElem_of_mem hs
 refine⟨by rw[←outM_get hk];exact h.out k hk,rising_of (fun e he=>?_) ?_⟩
 ·rw[←edM_get hk] at he
  obtain⟨a,b,c⟩:=h.tos k hk e he
  exact⟨by omega,ht k hk e he,b,c⟩
 ·rw[←edM_get hk]
  exact h.rise k hk
theorem find_rise {l:List (Int×Int)} (h:l.Pairwise (fun a b=>a.1<b.1)) {e:Int×Int} (he:e∈l):l.find? (fun x=>decide (x.1=e.1))=some e:=by
 induction l with
 |nil=>cases he
 |cons a r ih =>
  obtain⟨g1,g2⟩:=List.pairwise_cons.1 h
  rcases List.mem_cons.1 he with rfl | he
  ·rw[List.find?_cons_of_pos (by simp)]
  ·rw[List.find?_cons_of_neg (by have:=g1 e he;simp only[decide_eq_true_eq];omega)]
   exact ih g2 he
theorem step_edge {m:Mch} (hg:GoodM m) {k:Nat} (hk:k<m.length) (t:Int) (j:Nat):stepI m k t=some j↔(t,(j:Int))∈edM m k:=by
 have hr:=hg.rise k hk
 have ht:=hg.tos k hk
 unfold stepI
 unfold edM at hr ht ⊢
 constructor
 ·intro h
  split at h
  ·rename_i e he
   split at h
   ·rename_i h2
    have h3:=List.mem_of_find?_eq_some he
    have h4:=List.find?_some he
    simp only[decide_eq_true_eq] at h4
    injection h with h
    have:e=(t,(j:Int)):=Prod.ext h4 (by show e.2=(j:Int);omega)
    rwa [←this]
   ·cases h
  ·cases h
 ·intro h
  have h2:=find_rise hr h
  simp only at h2
  rw[h2]
  have h3:=(ht _ h).2
  simp only at h3 ⊢
  rw[if_pos h3]
  simp
theorem step_lt {m:Mch} {k:Nat} {t:Int} {j:Nat} (h:stepI m k t=some j):j<m.length:=by
 unfold stepI at h
 split at h
 ·split at h
  ·cases h;omega
  ·cases h
 ·cases h
theorem runI_append (m:Mch):∀ (a b:List Int) (k:Nat),runI m k (a++b)=(runI m k a).bind fun j=>runI m j b
 |[],_,_=>rfl
 |x :: r,b,k=>by
  simp only[List.cons_append,runI]
  cases stepI m k x with
  |none=>rfl
  |some j=>exact runI_append m r b j
theorem run_lt {m:Mch}:∀ {l:List Int} {k j:Nat},k<m.length→runI m k l=some j→j<m.length
 |[],k,j,hk,h=>by unfold runI at h;cases h;exact hk
 |b :: r,k,j,hk,h=>by
  unfold runI at h
  split at h
  ·rename_i i hi;exact run_lt (step_lt hi) h
  ·cases h
def Reach (m:Mch) (i:Nat):Prop:=∃ l,runI m 0 l=some i
def Tells (m:Mch) (i:Nat):Prop:=∃ l,tellM m i l≠-1
def Alike (m:Mch) (i j:Nat):Prop:=∀ l,tellM m i l=tellM m j l
def UseM (m:Mch) (i:Nat):Prop:=Reach m i∧Tells m i
theorem reach_lt {m:Mch} (hg:GoodM m) {i:Nat} (h:Reach m i):i<m.length:=by
 obtain⟨l,hl⟩:=h
 exact run_lt (List.length_pos_iff.2 hg.some) hl
theorem reach_zero (m:Mch):Reach m 0:=⟨[],rfl⟩
theorem reach_edge {m:Mch} (hg:GoodM m) {i:Nat} (h:Reach m i) {e:Int×Int} (he:e∈edM m i):Reach m e.2.toNat:=by
 have hi:=reach_lt hg h
 obtain⟨l,hl⟩:=h
 have h2:=(hg.tos i hi e he).2
 have h3:stepI m i e.1=some e.2.toNat:=(step_edge hg hi e.1 e.2.toNat).2 (by rw[show ((e.2.toNat:Nat):Int)=e.2 by omega];exact he)
 refine⟨l++[e.1],?_⟩
 rw[runI_append,hl]
 simp only[Option.bind_some,runI,h3]
theorem reach_only {m:Mch} (hg:GoodM m) {P:Nat→Prop} (h0:P 0) (hc:∀ i<m.length,P i→∀ e∈edM m i,P e.2.toNat):∀ {i:Nat},Reach m i→P i:=by
 intro i ⟨l,hl⟩
 have key:∀ (l:List Int) (k:Nat),k<m.length→P k→runI m k l=some i→P i:=by
  intro l
  induction l with
  |nil=>intro k _ hp h;unfold runI at h;cases h;exact hp
  |cons b r ih =>
   intro k hk hp h
   unfold runI at h
   split at h
   ·rename_i j hj
    have h1:=(step_edge hg hk b j).1 hj
    have:=hc k hk hp _ h1
    simp only[Int.toNat_natCast] at this
    exact ih j (step_lt hj) this h
   ·cases h
 exact key l 0 (List.length_pos_iff.2 hg.some) h0 hl
theorem tells_edge {m:Mch} (hg:GoodM m) {i:Nat} (hi:i<m.length) {e:Int×Int} (he:e∈edM m i) (h:Tells m e.2.toNat):Tells m i:=by
 obtain⟨l,hl⟩:=h
 have h2:=(hg.tos i hi e he).2
 have h3:stepI m i e.1=some e.2.toNat:=(step_edge hg hi e.1 e.2.toNat).2 (by rw[show ((e.2.toNat:Nat):Int)=e.2 by omega];exact he)
 refine⟨e.1 :: l,?_⟩
 rw[tellM_cons,h3]
 exact hl
theorem tells_out {m:Mch} {i:Nat} (h:0≤outM m i):Tells m i:=⟨[],by rw[tellM_nil];omega⟩
theorem tells_only {m:Mch} (hg:GoodM m) {P:Nat→Prop} (h0:∀ i<m.length,0≤outM m i→P i) (hc:∀ i<m.length,∀ e∈edM m i,P e.2.toNat→P i):∀ {i:Nat},i<m.length→Tells m i→P i:=by
 intro i hi ⟨l,hl⟩
 induction l generalizing i with
 |nil =>
  rw[tellM_nil] at hl
  have:=hg.out i hi
  exact h0 i hi (by omega)
 |cons b r ih =>
  rw[tellM_cons] at hl
  split at hl
  ·rename_i j hj
   have h1:=(step_edge hg hi b j).1 hj
   exact hc i hi _ h1 (by simp only[Int.toNat_natCast];exact ih (step_lt hj) hl)
  ·exact absurd rfl hl
theorem tell_alike_step {m:Mch} {i j:Nat} (h:Alike m i j) (t:Int) (r:List Int):(match stepI m i t with | some x=>tellM m x r | none=>-1)=(match stepI m j t with | some x=>tellM m x r | none=>-1):=by
 have:=h (t :: r)
 rwa [tellM_cons,tellM_cons] at this
theorem not_tells {m:Mch} {i:Nat} (h:¬ Tells m i) (l:List Int):tellM m i l=-1:=Classical.byContradiction fun h2=>h ⟨l,h2⟩
theorem alike_symm {m:Mch} {i j:Nat} (h:Alike m i j):Alike m j i:=fun l=>(h l).symm
end Go.Proofs.YtfpihflepeiagaaGreatDoor
namespace Go.Proofs.YtfpihflepeiagaaGreatDoor

def signM (m:Mch) (use:Nat→Bool) (c:Nat→Int) (i:Nat):Int×Int×List (Int×Int):=(c i,outM m i,((edM m i).filter fun e=>use e.2.toNat).map fun e=>(e.1,c e.2.toNat))
def UseIs (m:Mch) (use:Nat→Bool):Prop:=∀ i<m.length,use i=true↔UseM m i
theorem sign_edge {m:Mch} (hg:GoodM m) {use:Nat→Bool} {c:Nat→Int} {i:Nat} (hi:i<m.length) (b v:Int):(b,v)∈(signM m use c i).2.2↔∃ x,stepI m i b=some x∧use x=true∧c x=v:=by
 unfold signM
 simp only[List.mem_map,List.mem_filter,Prod.mk.injEq]
 constructor
 ·rintro⟨e,⟨he,hu⟩,rfl,rfl⟩
  have h2:=(hg.tos i hi e he).2
  exact⟨e.2.toNat,(step_edge hg hi e.1 e.2.toNat).2 (by rw[show ((e.2.toNat:Nat):Int)=e.2 by omega];exact he),hu,rfl⟩
 ·rintro⟨x,hx,hu,rfl⟩
  exact⟨(b,(x:Int)),⟨(step_edge hg hi b x).1 hx,by simpa using hu⟩,rfl,by simp⟩
theorem step_tell {m:Mch} (hg:GoodM m) {use:Nat→Bool} (hu:UseIs m use) {i:Nat} (hr:Reach m i) (b:Int) (r:List Int) (h:¬ ∃ x,stepI m i b=some x∧use x=true):tellM m i (b :: r)=-1:=by
 rw[tellM_cons]
 split
 ·rename_i x hx
  have hi:=reach_lt hg hr
  have hn:¬ UseM m x:=fun h2=>h ⟨x,hx,(hu x (step_lt hx)).2 h2⟩
  have hrx:Reach m x:=by
   have:=reach_edge hg hr ((step_edge hg hi b x).1 hx)
   simpa using this
  exact not_tells (fun ht=>hn ⟨hrx,ht⟩) r
 ·rfl
theorem stable_alike {m:Mch} (hg:GoodM m) {use:Nat→Bool} (hu:UseIs m use) {c:Nat→Int} (hs:∀ i<m.length,∀ j<m.length,use i=true→use j=true→c i=c j→signM m use c i=signM m use c j) :
  ∀ (l:List Int) (i j:Nat),i<m.length→j<m.length→use i=true→use j=true→c i=c j→tellM m i l=tellM m j l:=by
 intro l
 induction l with
 |nil =>
  intro i j hi hj ui uj hc
  have:=hs i hi j hj ui uj hc
  simp only[signM,Prod.mk.injEq] at this
  exact this.2.1
 |cons b r ih =>
  intro i j hi hj ui uj hc
  have hsg:=hs i hi j hj ui uj hc
  have hri:=((hu i hi).1 ui).1
  have hrj:=((hu j hj).1 uj).1
  by_cases h:∃ x,stepI m i b=some x∧use x=true
  ·obtain⟨x,hx,ux⟩:=h
   have h1:(b,c x)∈(signM m use c i).2.2:=(sign_edge hg hi b (c x)).2 ⟨x,hx,ux,rfl⟩
   rw[hsg] at h1
   obtain⟨y,hy,uy,hcy⟩:=(sign_edge hg hj b (c x)).1 h1
   rw[tellM_cons,tellM_cons,hx,hy]
   exact ih x y (step_lt hx) (step_lt hy) ux uy hcy.symm
  ·rw[step_tell hg hu hri b r h]
   refine (step_tell hg hu hrj b r ?_).symm
   rintro⟨y,hy,uy⟩
   have h1:(b,c y)∈(signM m use c j).2.2:=(sign_edge hg hj b (c y)).2 ⟨y,hy,uy,rfl⟩
   rw[←hsg] at h1
   obtain⟨x,hx,ux,_⟩:=(sign_edge hg hi b (c y)).1 h1
   exact h ⟨x,hx,ux⟩
theorem rise_ext:∀ {l k:List (Int×Int)},l.Pairwise (fun a b=>a.1<b.1)→k.Pairwise (fun a b=>a.1<b.1)→(∀ e,e∈l↔e∈k)→l=k
 |[],k,_,_,h=>by
  cases k with
  |nil=>rfl
  |cons a r=>exact absurd ((h a).2 (List.mem_cons_self ..)) (by simp)
 |a :: r,[],_,_,h=>absurd ((h a).1 (List.mem_cons_self ..)) (by simp)
 |a :: r,b :: s,h1,h2,h=>by
  obtain⟨p1,q1⟩:=List.pairwise_cons.1 h1
  obtain⟨p2,q2⟩:=List.pairwise_cons.1 h2
  have hab:a=b:=by
   rcases List.mem_cons.1 ((h a).1 (List.mem_cons_self ..)) with e | e
   ·exact e
   ·rcases List.mem_cons.1 ((h b).2 (List.mem_cons_self ..)) with e2 | e2
    ·exact e2.symm
    ·have:=p2 a e
     have:=p1 b e2
     omega
  subst hab
  congr 1
  refine rise_ext q1 q2 fun e=>⟨fun he=>?_,fun he=>?_⟩
  ·rcases List.mem_cons.1 ((h e).1 (List.mem_cons_of_mem _ he)) with e2 | e2
   ·subst e2
    have:=p1 e he
    omega
   ·exact e2
  ·rcases List.mem_cons.1 ((h e).2 (List.mem_cons_of_mem _ he)) with e2 | e2
   ·subst e2
    have:=p2 e he
    omega
   ·exact e2
theorem sign_rise {m:Mch} (hg:GoodM m) (use:Nat→Bool) (c:Nat→Int) {i:Nat} (hi:i<m.length):(signM m use c i).2.2.Pairwise (fun a b=>a.1<b.1):=by
 unfold signM
 simp only
 rw[List.pairwise_map]
 exact List.Pairwise.filter _ (hg.rise i hi)
theorem alike_edge {m:Mch} (hg:GoodM m) {use:Nat→Bool} (hu:UseIs m use) {i j:Nat} (hj:j<m.length) (uj:use j=true) (ha:Alike m i j) {b:Int} {x:Nat} (hx:stepI m i b=some x) (ux:use x=true) :
  ∃ y,stepI m j b=some y∧use y=true∧Alike m x y:=by
 obtain⟨l,hl⟩:=((hu x (step_lt hx)).1 ux).2
 have hb:=fun r=>tell_alike_step ha b r
 rw[hx] at hb
 simp only at hb
 cases hy:stepI m j b with
 |none =>
  have:=hb l
  rw[hy] at this
  exact absurd this hl
 |some y =>
  have hal:Alike m x y:=fun r=>by
   have:=hb r
   rwa [hy] at this
  refine⟨y,rfl,(hu y (step_lt hy)).2 ⟨?_,l,?_⟩,hal⟩
  ·have:=reach_edge hg ((hu j hj).1 uj).1 ((step_edge hg hj b y).1 hy)
   simpa using this
  ·rw[←hal l]
   exact hl
theorem alike_sign {m:Mch} (hg:GoodM m) {use:Nat→Bool} (hu:UseIs m use) {c:Nat→Int} (hc:∀ i<m.length,∀ j<m.length,use i=true→use j=true→Alike m i j→c i=c j)
  {i j:Nat} (hi:i<m.length) (hj:j<m.length) (ui:use i=true) (uj:use j=true) (ha:Alike m i j):signM m use c i=signM m use c j:=by
 have h1:(signM m use c i).2.2=(signM m use c j).2.2:=by
  refine rise_ext (sign_rise hg use c hi) (sign_rise hg use c hj) fun e=>?_
  obtain⟨b,v⟩:=e
  rw[sign_edge hg hi,sign_edge hg hj]
  constructor
  ·rintro⟨x,hx,ux,rfl⟩
   obtain⟨y,hy,uy,hal⟩:=alike_edge hg hu hj uj ha hx ux
   exact⟨y,hy,uy,(hc x (step_lt hx) y (step_lt hy) ux uy hal).symm⟩
  ·rintro⟨x,hx,ux,rfl⟩
   obtain⟨y,hy,uy,hal⟩:=alike_edge hg hu hi ui (alike_symm ha) hx ux
   exact⟨y,hy,uy,(hc x (step_lt hx) y (step_lt hy) ux uy hal).symm⟩
 have h2:outM m i=outM m j:=ha []
 exact Prod.ext (hc i hi j hj ui uj ha) (Prod.ext h2 h1)
theorem cover_len:∀ (n:Nat) (l:List Nat),(∀ k<n,k∈l)→n≤l.length
 |0,_,_=>Nat.zero_le _
 |n+1,l,h=>by
  have h1:=h n (by omega)
  have:=cover_len n (l.erase n) fun k hk=>(List.mem_erase_of_ne (by omega)).2 (h k (by omega))
  rw[List.length_erase_of_mem h1] at this
  have:=List.length_pos_of_mem h1
  omega
theorem cover_nodup:∀ (n:Nat) (l:List Nat),l.length≤n→(∀ k<n,k∈l)→l.Nodup
 |0,l,h,_=>by
  have:l=[]:=List.eq_nil_of_length_eq_zero (by omega)
  subst this
  exact List.nodup_nil
 |n+1,l,h,hc=>by
  have h1:=hc n (by omega)
  have hl:=List.length_erase_of_mem h1
  have hcv:∀ k<n,k∈l.erase n:=fun k hk=>(List.mem_erase_of_ne (by omega)).2 (hc k (by omega))
  have h2:=cover_nodup n (l.erase n) (by omega) hcv
  have h3:n∉l.erase n:=by
   intro h4
   have h5:=cover_len n ((l.erase n).erase n) fun k hk=>(List.mem_erase_of_ne (by omega)).2 (hcv k hk)
   rw[List.length_erase_of_mem h4,hl] at h5
   have:=List.length_pos_of_mem h1
   have:=List.length_pos_of_mem h4
   omega
  exact (List.perm_cons_erase h1).nodup_iff.2 (List.nodup_cons.2 ⟨h3,h2⟩)
theorem nodup_len:∀ (n:Nat) (l:List Nat),l.Nodup→(∀ x∈l,x<n)→l.length≤n
 |0,l,_,h=>by
  cases l with
  |nil=>simp
  |cons a r=>exact absurd (h a (List.mem_cons_self ..)) (by omega)
 |n+1,l,hn,h=>by
  have:=nodup_len n (l.erase n) (hn.erase n) fun x hx=>by
   have h1:=h x (List.mem_of_mem_erase hx)
   have h2:x≠n:=fun e=>by subst e;exact (List.Nodup.not_mem_erase hn) hx
   omega
  by_cases h1:n∈l
  ·rw[List.length_erase_of_mem h1] at this
   omega
  ·rw[List.erase_of_not_mem h1] at this
   omega

def stepQ (use:Nat→Bool) (a:Nat→Nat→Bool) (s:List Nat×List (Int×Int)) (e:Int×Int):List Nat×List (Int×Int) :=
 if use e.2.toNat then (match s.1.findIdx? (a e.2.toNat) with
  |some n=>(s.1,s.2++[(e.1,(n:Int))])
  |none=>(s.1++[e.2.toNat],s.2++[(e.1,(s.1.length:Int))])) else s
def bfsN (m:Mch) (use:Nat→Bool) (a:Nat→Nat→Bool):Nat→List Nat×Mch
 |0=>([0],[])
 |n+1=>match (bfsN m use a n).1[n]? with
  |some x=>(((edM m x).foldl (stepQ use a) ((bfsN m use a n).1,[])).1,(bfsN m use a n).2++[(outM m x,((edM m x).foldl (stepQ use a) ((bfsN m use a n).1,[])).2)])
  |none=>bfsN m use a n
def ordE:Nat→List (Int×Int)→Option Nat
 |n,[]=>some n
 |n,e :: r=>if (n:Int)<e.2 then none else if e.2=(n:Int) then ordE (n+1) r else ordE n r
theorem ordE_append:∀ (l k:List (Int×Int)) (n:Nat),ordE n (l++k)=(ordE n l).bind fun j=>ordE j k
 |[],_,_=>rfl
 |e :: r,k,n=>by
  simp only[List.cons_append,ordE]
  split
  ·rfl
  ·split
   ·exact ordE_append r k (n+1)
   ·exact ordE_append r k n
def EdTo (m:Mch) (q:List Nat) (es l:List (Int×Int)):Prop:=∀ t n,(t,n)∈l→∃ (y k:Nat) (z:Nat),(t,(y:Int))∈es∧UseM m y∧n=(k:Int)∧q[k]? = some z∧Alike m z y
theorem EdTo.mono {m:Mch} {q q':List Nat} {es l:List (Int×Int)} (h:EdTo m q es l) (hp:q <+: q'):EdTo m q' es l:=by
 intro t n hn
 obtain⟨y,k,z,h1,h2,h3,h4,h5⟩:=h t n hn
 obtain⟨u,rfl⟩:=hp
 refine⟨y,k,z,h1,h2,h3,?_,h5⟩
 rw[List.getElem?_append_left (List.getElem?_eq_some_iff.1 h4).1]
 exact h4
structure QOk (m:Mch) (q:List Nat):Prop where
 zero:q[0]? = some 0
 use:∀ x∈q,UseM m x
 apart:q.Pairwise fun x y=>¬ Alike m x y
end Go.Proofs.YtfpihflepeiagaaGreatDoor
namespace Go.Proofs.YtfpihflepeiagaaGreatDoor

structure FoldOk (m:Mch) (use:Nat→Bool) (q0 q:List Nat) (es l:List (Int×Int)):Prop where
 pre:q0 <+: q
 ok:QOk m q
 tos:EdTo m q es l
 all:∀ e∈es,use e.2.toNat=true→∃ n,(e.1,n)∈l
 rise:l.Pairwise fun a b=>a.1<b.1
 ord:ordE q0.length l=some q.length
 new:∀ k,q0.length≤k→k<q.length→∃ t,(t,(k:Int))∈l
def AlikeIs (m:Mch) (a:Nat→Nat→Bool):Prop:=∀ i j,UseM m i→UseM m j→(a i j=true↔Alike m i j)
theorem edTo_snoc {m:Mch} {q:List Nat} {es l:List (Int×Int)} {e:Int×Int} {n:Nat} {z:Nat} (h:EdTo m q es l) (he:0≤e.2) (hu:UseM m e.2.toNat) (hz:q[n]? = some z) (ha:Alike m z e.2.toNat):EdTo m q (es++[e]) (l++[(e.1,(n:Int))]):=by
 intro t k hk
 rcases List.mem_append.1 hk with hk | hk
 ·obtain⟨y,i,z',h1,h2⟩:=h t k hk
  exact⟨y,i,z',List.mem_append_left _ h1,h2⟩
 ·simp only[List.mem_singleton,Prod.mk.injEq] at hk
  obtain⟨rfl,rfl⟩:=hk
  refine⟨e.2.toNat,n,z,List.mem_append_right _ ?_,hu,rfl,hz,ha⟩
  rw[show ((e.2.toNat:Nat):Int)=e.2 by omega]
  simp
theorem fold_step {m:Mch} (hg:GoodM m) {use:Nat→Bool} (hu:UseIs m use) {a:Nat→Nat→Bool} (hal:AlikeIs m a) {x:Nat} (hx:UseM m x) {q0 q:List Nat} {done rest l:List (Int×Int)} {e:Int×Int} (hd:done++e :: rest=edM m x)
  (h:FoldOk m use q0 q done l):FoldOk m use q0 (stepQ use a (q,l) e).1 (done++[e]) (stepQ use a (q,l) e).2:=by
 have hxl:=reach_lt hg hx.1
 have hem:e∈edM m x:=by rw[←hd];simp
 have het:=hg.tos x hxl e hem
 have hr:=hg.rise x hxl
 rw[←hd] at hr
 have hlt:∀ u∈l,u.1<e.1:=by
  intro u hu2
  obtain⟨y,k,z,h1,-⟩:=h.tos u.1 u.2 hu2
  exact (List.pairwise_append.1 hr).2.2 _ h1 e (List.mem_cons_self ..)
 have hlen:e.2.toNat<m.length:=by omega
 unfold stepQ
 by_cases hue:use e.2.toNat=true
 ·rw[if_pos hue]
  have huse:=(hu _ hlen).1 hue
  simp only
  cases hf:q.findIdx? (a e.2.toNat) with
  |some n =>
   simp only
   rw[List.findIdx?_eq_some_iff_getElem] at hf
   obtain⟨hn,hp,-⟩:=hf
   have hz:=h.ok.use _ (List.getElem_mem hn)
   have hA:=(hal _ _ huse hz).1 hp
   refine⟨h.pre,h.ok,edTo_snoc h.tos het.2.1 huse (List.getElem?_eq_getElem hn) (alike_symm hA),?_,?_,?_,?_⟩
   ·intro e' he' ue'
    rcases List.mem_append.1 he' with he' | he'
    ·obtain⟨k,hk⟩:=h.all e' he' ue'
     exact⟨k,List.mem_append_left _ hk⟩
    ·rw[List.mem_singleton] at he'
     subst he'
     exact⟨n,by simp⟩
   ·refine List.pairwise_append.2 ⟨h.rise,List.pairwise_singleton ..,fun u hu2 v hv=>?_⟩
    rw[List.mem_singleton] at hv
    subst hv
    exact hlt u hu2
   ·rw[ordE_append,h.ord]
    simp only[Option.bind_some,ordE]
    rw[if_neg (by omega),if_neg (by omega)]
   ·intro k h1 h2
    obtain⟨t,ht⟩:=h.new k h1 h2
    exact⟨t,List.mem_append_left _ ht⟩
  |none =>
   simp only
   rw[List.findIdx?_eq_none_iff] at hf
   have hpre:q <+: q++[e.2.toNat]:=List.prefix_append ..
   have hq0:0<q.length:=by
    have:=(List.getElem?_eq_some_iff.1 h.ok.zero).1
    exact this
   refine⟨h.pre.trans hpre,⟨?_,?_,?_⟩,edTo_snoc (h.tos.mono hpre) het.2.1 huse (z:=e.2.toNat) (by simp) (fun _=>rfl),?_,?_,?_,?_⟩
   ·rw[List.getElem?_append_left hq0]
    exact h.ok.zero
   ·intro y hy
    rcases List.mem_append.1 hy with hy | hy
    ·exact h.ok.use y hy
    ·rw[List.mem_singleton] at hy
     subst hy
     exact huse
   ·refine List.pairwise_append.2 ⟨h.ok.apart,List.pairwise_singleton ..,fun u hu2 v hv=>?_⟩
    rw[List.mem_singleton] at hv
    subst hv
    intro hA
    have h1:=hf u hu2
    have:=(hal _ _ huse (h.ok.use u hu2)).2 (alike_symm hA)
    simp[this] at h1
   ·intro e' he' ue'
    rcases List.mem_append.1 he' with he' | he'
    ·obtain⟨k,hk⟩:=h.all e' he' ue'
     exact⟨k,List.mem_append_left _ hk⟩
    ·rw[List.mem_singleton] at he'
     subst he'
     exact⟨q.length,by simp⟩
   ·refine List.pairwise_append.2 ⟨h.rise,List.pairwise_singleton ..,fun u hu2 v hv=>?_⟩
    rw[List.mem_singleton] at hv
    subst hv
    exact hlt u hu2
   ·rw[ordE_append,h.ord]
    simp[ordE]
   ·intro k h1 h2
    by_cases hk:k<q.length
    ·obtain⟨t,ht⟩:=h.new k h1 hk
     exact⟨t,List.mem_append_left _ ht⟩
    ·simp only[List.length_append,List.length_singleton] at h2
     have:k=q.length:=by omega
     subst this
     exact⟨e.1,by simp⟩
 ·rw[if_neg hue]
  refine⟨h.pre,h.ok,?_,?_,h.rise,h.ord,h.new⟩
  ·intro t k hk
   obtain⟨y,i,z',h1,h2⟩:=h.tos t k hk
   exact⟨y,i,z',List.mem_append_left _ h1,h2⟩
  ·intro e' he' ue'
   rcases List.mem_append.1 he' with he' | he'
   ·exact h.all e' he' ue'
   ·rw[List.mem_singleton] at he'
    subst he'
    exact absurd ue' hue
theorem fold_all {m:Mch} (hg:GoodM m) {use:Nat→Bool} (hu:UseIs m use) {a:Nat→Nat→Bool} (hal:AlikeIs m a) {x:Nat} (hx:UseM m x) {q0:List Nat}:∀ (rest done:List (Int×Int)) (s:List Nat×List (Int×Int)),done++rest=edM m x →
  FoldOk m use q0 s.1 done s.2→FoldOk m use q0 (rest.foldl (stepQ use a) s).1 (edM m x) (rest.foldl (stepQ use a) s).2
 |[],done,s,hd,h=>by
  rw[List.append_nil] at hd
  rw[←hd]
  exact h
 |e :: r,done,s,hd,h=>by
  rw[List.foldl_cons]
  exact fold_all hg hu hal hx r (done++[e]) _ (by simpa using hd) (fold_step hg hu hal hx hd h)
theorem qOk_nodup {m:Mch} {q:List Nat} (h:QOk m q):q.Nodup:=h.apart.imp fun hn e=>hn (by subst e;exact fun _=>rfl)
theorem qOk_len {m:Mch} (hg:GoodM m) {q:List Nat} (h:QOk m q):q.length≤m.length:=nodup_len _ _ (qOk_nodup h) fun x hx=>reach_lt hg (h.use x hx).1
structure BfsOk (m:Mch) (use:Nat→Bool) (n:Nat) (q:List Nat) (out:Mch):Prop where
 ok:QOk m q
 len:out.length=min n q.length
 st:∀ k<out.length,∃ x,q[k]? = some x∧outM out k=outM m x∧EdTo m q (edM m x) (edM out k)∧(∀ e∈edM m x,use e.2.toNat=true→∃ n,(e.1,n)∈edM out k)∧(edM out k).Pairwise fun a b=>a.1<b.1
 ord:∀ k≤out.length,∃ i,ordE 1 ((out.take k).flatMap fun s=>s.2)=some i∧(k<q.length→k<i)∧(k=out.length→i=q.length)
 new:∀ k,0<k→k<q.length→∃ p<k,∃ t,(t,(k:Int))∈edM out p
theorem outM_append_left {m k:Mch} {i:Nat} (h:i<m.length):outM (m++k) i=outM m i∧edM (m++k) i=edM m i:=by
 unfold outM edM
 simp only[List.getD_eq_getElem?_getD,List.getElem?_append_left h]
 exact⟨trivial,trivial⟩
theorem outM_snoc {m:Mch} {s:Sta}:outM (m++[s]) m.length=s.1∧edM (m++[s]) m.length=s.2:=by
 unfold outM edM
 simp
theorem bfs_zero {m:Mch} {use:Nat→Bool} (h:UseM m 0):BfsOk m use 0 [0] [] :=
 ⟨⟨rfl,by simpa using h,List.pairwise_singleton ..⟩,rfl,by simp,fun k hk=>⟨1,by simp[ordE],fun h=>h,fun _=>rfl⟩,fun k h1 h2=>by simp at h2;omega⟩
theorem bfs_ok {m:Mch} (hg:GoodM m) {use:Nat→Bool} (hu:UseIs m use) {a:Nat→Nat→Bool} (hal:AlikeIs m a) (h0:UseM m 0):∀ n,BfsOk m use n (bfsN m use a n).1 (bfsN m use a n).2
 |0=>bfs_zero h0
 |n+1=>by
  have ih:=bfs_ok hg hu hal h0 n
  unfold bfsN
  rcases hs:bfsN m use a n with ⟨q,out⟩
  rw[hs] at ih
  simp only at ih ⊢
  cases hq:q[n]? with
  |none =>
   simp only
   have h1:=List.getElem?_eq_none_iff.1 hq
   exact⟨ih.ok,by rw[ih.len];omega,ih.st,ih.ord,ih.new⟩
  |some x =>
   simp only
   have hnl:=(List.getElem?_eq_some_iff.1 hq).1
   have hx:=ih.ok.use x (List.mem_of_getElem? hq)
   have hF:=fold_all hg hu hal hx (q0:=q) (edM m x) [] (q,[]) rfl ⟨List.prefix_refl _,ih.ok,by intro t k hk;simp at hk,by simp,List.Pairwise.nil,rfl,fun k h1 h2=>by simp only at h2;omega⟩
   rcases hsl:(edM m x).foldl (stepQ use a) (q,[]) with ⟨q',l⟩
   rw[hsl] at hF
   simp only at hF ⊢
   have hol:out.length=n:=by rw[ih.len];omega
   have hql:q.length≤q'.length:=hF.pre.length_le
   have hget:∀ {k y:Nat},q[k]? = some y→q'[k]? = some y:=by
    intro k y hk
    obtain⟨u,hu⟩:=hF.pre
    rw[←hu,List.getElem?_append_left (List.getElem?_eq_some_iff.1 hk).1]
    exact hk
   refine⟨hF.ok,by simp only[List.length_append,List.length_singleton];omega,?_,?_,?_⟩
   ·intro k hk
    by_cases hkn:k<out.length
    ·obtain⟨y,h1,h2,h3,h4,h5⟩:=ih.st k hkn
     rw[(outM_append_left hkn).1,(outM_append_left hkn).2]
     exact⟨y,hget h1,h2,h3.mono hF.pre,h4,h5⟩
    ·simp only[List.length_append,List.length_singleton] at hk
     have:k=out.length:=by omega
     subst this
     rw[outM_snoc.1,outM_snoc.2]
     exact⟨x,hget (by rw[hol];exact hq),rfl,hF.tos,hF.all,hF.rise⟩
   ·intro k hk
    simp only[List.length_append,List.length_singleton] at hk ⊢
    by_cases hkn:k≤out.length
    ·obtain⟨i,h1,h2,h3⟩:=ih.ord k hkn
     refine⟨i,by rw[List.take_append_of_le_length hkn];exact h1,fun hlt=>?_,fun e=>by omega⟩
     by_cases h4:k<q.length
     ·exact h2 h4
     ·omega
    ·have hke:k=out.length+1:=by omega
     subst hke
     obtain⟨i,h1,h2,h3⟩:=ih.ord out.length (Nat.le_refl _)
     have h4:=h3 rfl
     subst h4
     refine⟨q'.length,?_,fun h=>h,fun _=>rfl⟩
     rw[List.take_of_length_le (by simp),List.flatMap_append,ordE_append]
     rw[List.take_of_length_le (Nat.le_refl _)] at h1
     rw[h1]
     simpa using hF.ord
   ·intro k h1 h2
    by_cases hkn:k<q.length
    ·obtain⟨p,hp,t,ht⟩:=ih.new k h1 hkn
     refine⟨p,hp,t,?_⟩
     by_cases hpl:p<out.length
     ·rw[(outM_append_left hpl).2]
      exact ht
     ·exfalso
      unfold edM at ht
      rw[List.getD_eq_getElem?_getD,List.getElem?_eq_none (by omega)] at ht
      simp at ht
    ·obtain⟨t,ht⟩:=hF.new k (by omega) h2
     refine⟨out.length,by omega,t,?_⟩
     rw[outM_snoc.2]
     exact ht
end Go.Proofs.YtfpihflepeiagaaGreatDoor
