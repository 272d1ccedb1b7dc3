/- Texts of this proof joined: TabMake, TabLook, Tab4, Awk23, NamesP, TrieSeq, SlEdge. -/
import Derived.Test.YtfpihflepeiagaaGreatDoorLN26
import Derived.Test.YtfpihflepeiagaaGreatDoorLN27
import Derived.Test.YtfpihflepeiagaaGreatDoorLN04
import Derived.Deep.DeepCutAuto
import Derived.Test.YtfpihflepeiagaaGreatDoorLN08
import Derived.Test.YtfpihflepeiagaaGreatDoorLN25
import Derived.RangeFuncNested
import Derived.RangeFuncBound
import Derived.RangeFuncCalls
import Derived.RangeFuncLeaves
import Derived.Shelf.Abstract
import Derived.Shelf.RegionOpen
import Derived.WalkKit
import Derived.OwnWalkIn
import Derived.TacticsInMore
import Derived.LoopNIn
import Derived.LoopIn
import Derived.Test.YtfpihflepeiagaaGreatDoorLN15
import Derived.Test.YtfpihflepeiagaaGreatDoorChecked
import Derived.Test.YtfpihflepeiagaaGreatDoorLN01
import Derived.Test.YtfpihflepeiagaaGreatDoorLN05
namespace Go.Proofs.YtfpihflepeiagaaGreatDoor
open Go.RowKit

theorem ahead_size {k:Nat} (hk:k≤4) {g:Gram} {s:Sets} (h:AheadO (k:Int) g (some s)):s.length=g.2.2.length∧SetsB s:=by
 obtain⟨o1,_,h2⟩:=h
 cases o1 with
 |none=>cases h2
 |some s1 =>
  obtain⟨o2,_,h3⟩:=h2
  cases o2 with
  |none=>cases h3
  |some f =>
   obtain⟨c1,c2⟩:=aheadW_get g.2.2 s h3.symm
   refine⟨c1,fun i x hx=>?_⟩
   have hi:=(List.getElem?_eq_some_iff.1 hx).1
   obtain⟨y,hy,hb⟩:=c2 i _ (List.getElem?_eq_getElem (by omega))
   rw[hx] at hy
   injection hy with hy
   subst hy
   exact behindW_b hk hb
def rowsAt (rs:RuleL) (ss:Sets) (i:Nat):List Row:=(ss.getD i []).map fun w=>((rs.getD i (0,[])).1,w,(i:Int))
def rowsTo (rs:RuleL) (ss:Sets) (i:Nat):List Row:=(List.range i).flatMap (rowsAt rs ss)
theorem rowsTo_succ (rs:RuleL) (ss:Sets) (i:Nat):rowsTo rs ss (i+1)=rowsTo rs ss i++rowsAt rs ss i:=by
 unfold rowsTo
 rw[List.range_succ,List.flatMap_append]
 simp
theorem rowsFrom_eq:∀ (i:Nat) (rs:RuleL) (ss:Sets),ss.length=rs.length→rowsFrom i rs ss=(List.range rs.length).flatMap fun j=>(ss.getD j []).map fun w=>((rs.getD j (0,[])).1,w,((i+j:Nat):Int))
 |i,[],[],_=>rfl
 |i,r :: rs,s :: ss,h=>by
  have ih:=rowsFrom_eq (i+1) rs ss (by simpa using h)
  rw[List.length_cons,List.range_succ_eq_map,List.flatMap_cons,List.flatMap_map]
  simp only[rowsFrom,ih]
  congr 1
  congr 1
  funext j
  simp only[List.getD_cons_succ]
  congr 1
  funext w
  congr 2
  omega
theorem rowsTo_all {rs:RuleL} {ss:Sets} (h:ss.length=rs.length):rowsTo rs ss rs.length=rowsFrom 0 rs ss:=by
 rw[rowsFrom_eq 0 rs ss h]
 unfold rowsTo rowsAt
 simp
theorem rowsAt_len {rs:RuleL} {ss:Sets} (hb:SetsB ss) (i:Nat):(rowsAt rs ss i).length≤4096:=by
 unfold rowsAt
 rw[List.length_map,List.getD_eq_getElem?_getD]
 cases h:ss[i]? with
 |none=>simp
 |some x=>exact (hb i x h).2
theorem rowsTo_len {rs:RuleL} {ss:Sets} (hb:SetsB ss):∀ i,(rowsTo rs ss i).length≤i*4096
 |0=>by simp[rowsTo]
 |i+1=>by
  rw[rowsTo_succ,List.length_append]
  have:=rowsTo_len (rs:=rs) hb i
  have:=rowsAt_len (rs:=rs) hb i
  omega
def MakeOut (n:Nat) (g:Gram) (base:Nat) (w':World) (o:Option Sets) (e:Ending):Prop :=
 match o with
 |none=>e=.returned (.tuple #[.slice none 0 0,.slice none 0 0,.int .i64 21])
 |some s=>(clashW g.2.2 n s≠[]∧∃ v,e=.returned (.tuple #[.slice none 0 0,v,.int .i64 20])∧w'.ownsRow base 114 4 v (clashW g.2.2 n s).length (ccells (clashW g.2.2 n s))) ∨
  (clashW g.2.2 n s=[]∧∃ v rows,e=.returned (.tuple #[v,.slice none 0 0,.int .i64 0])∧rows.Perm (rowsFrom 0 g.2.2 s)∧rows.Pairwise (fun a b=>¬ rowLt b a)∧w'.ownsRow base 43 3 v rows.length (rcells rows))
def MakeRes (k:Int) (g:Gram) (n:Nat) (w:World) (e:Ending) (w':World):Prop :=
 Below w.heap.size w w'∧(BadK k g→e=.returned (.tuple #[.slice none 0 0,.slice none 0 0,.int .i64 1]))∧(¬ BadK k g→∃ o,AheadO k g o∧MakeOut n g w.heap.size w' o e)
set_option maxRecDepth 100000 in
set_option maxHeartbeats 16000000 in
theorem make_any {A1 A2 A3:Option Addr} {n m q c1 c2 c3:Nat} {g:Gram} (k:Int) (w:World) (h:GramR w w.heap.size A1 A2 A3 n m q c1 c2 c3 g) :
  Calls Tryz.prog 17 #[gramV A1 A2 A3 n m q c1 c2 c3,.int .i64 k] w (MakeRes k g n w):=by
 have hbx:=(Below.refl w.heap.size w).alloc (Nat.le_refl _) (.cells #[.slice A1 n c1,.slice A2 m c2,.slice A3 q c3] 25)
 have HV:=Lib.hid (h.fut (B':=w.heap.size) hbx (Nat.le_refl _) (Nat.le_refl _))
 have HK:=Lib.hid (Go.heap_alloc_new w (.cells #[.slice A1 n c1,.slice A2 m c2,.slice A3 q c3] 25))
 have HZ:=Lib.hid (World.size_alloc w (.cells #[.slice A1 n c1,.slice A2 m c2,.slice A3 q c3] 25))
 have HBX:=Lib.hid hbx
 have HL:=Lib.hid h.ln
 have hsm:=h.small
 have HCELL:Hid (∀ (w2:World),w2.heap[w.heap.size]? = some (.cells #[.slice A1 n c1,.slice A2 m c2,.slice A3 q c3] 25 (0,0))→w2.cell? ⟨w.heap.size,0,none⟩=some (.slice A1 n c1)∧w2.cell? ⟨w.heap.size,1,none⟩=some (.slice A2 m c2)∧w2.cell? ⟨w.heap.size,2,none⟩=some (.slice A3 q c3)):=fun w2 hk=>⟨by rw[cell_of_row _ _ _ _ _ _ hk];rfl,by rw[cell_of_row _ _ _ _ _ _ hk];rfl,by rw[cell_of_row _ _ _ _ _ _ hk];rfl⟩
 clear h hbx
 go_enter Tryz.func17,Tryz.ntmps17
 go_wp2_with fail
 generalize w.alloc (.cells #[.slice A1 n c1,.slice A2 m c2,.slice A3 q c3] 25)=w1 at *
 refine (aheadSets_any k w1 (HV.out.fut (N:=w1.heap.size) (B':=w1.heap.size) (Below.refl _ _) (by rw[HZ.out];omega) (by rw[HZ.out];omega))).mono ?_
 rintro e w2 ⟨hb2,hbad,hgood⟩
 have HB2:=Lib.hid (HBX.out.trans (hb2.mono (by rw[HZ.out];omega)))
 have HB12:=Lib.hid (show Below (w.heap.size+1) w1 w2 from hb2.mono (Nat.le_of_eq HZ.out.symm))
 have HS2:=Lib.hid (show w.heap.size+1≤w2.heap.size by have:=hb2.size;rw[HZ.out] at this;exact this)
 have HK2:=Lib.hid ((HB12.out.block w.heap.size (by omega)).trans HK.out)
 clear hb2
 by_cases hbk:BadK k g
 ·have:=hbad hbk
  subst this
  have HBAD:=Lib.hid hbk
  clear hbad hgood hbk
  go_wp2_with fail
  go_ret3
  exact⟨HB2.out,fun _=>rfl,fun h=>absurd HBAD.out h⟩
 ·obtain⟨o,ho,hout⟩:=hgood hbk
  have HNB:=Lib.hid hbk
  have HO:=Lib.hid ho
  clear hbad hgood
  cases o with
  |none =>
   simp only[AheadOut] at hout
   subst hout
   clear hbk ho
   go_wp2_with fail
   go_ret3
   exact⟨HB2.out,fun h=>absurd h HNB.out,fun _=>⟨none,HO.out,rfl⟩⟩
  |some s =>
   obtain⟨A5,c5,rfl,hs⟩:=hout
   obtain⟨kk,hkk,hk4,hk1⟩:∃ kk:Nat,k=(kk:Int)∧kk≤4∧1≤kk:=⟨k.toNat,by unfold BadK at hbk;omega,by unfold BadK at hbk;omega,by unfold BadK at hbk;omega⟩
   have hsz:=ahead_size hk4 (g:=g) (s:=s) (by rw[←hkk];exact ho)
   have hgood:GoodG g:=(check0_good (Classical.byContradiction fun h=>hbk (.inr (.inr h)))).2.1
   have HSB:=Lib.hid hsz.2
   have hlen:s.length=q:=by rw[hsz.1];exact HL.out.2.2.symm
   have HLEN:=Lib.hid hlen
   rw[hlen] at hs ⊢
   have HSS:=Lib.hid hs
   have HQ:=Lib.hid (show q≤4096 by have:=hgood.q;have:=HL.out.2.2;omega)
   have HCL:=Lib.hid (clashes_any w2 (HV.out.fut HB12.out (Nat.le_succ _) (by have:=HS2.out;omega)) hgood hs (fun x hx=>by
    obtain⟨i,hi,rfl⟩:=List.getElem_of_mem hx
    have:=(hsz.2 i _ (List.getElem?_eq_getElem hi)).2
    omega))
   clear hbk ho hsz hlen hs hgood hkk hk4 hk1
   obtain⟨cl,hcl⟩:∃ cl,cl=clashW g.2.2 n s:=⟨_,rfl⟩
   rw[←hcl] at HCL
   have HC:=Lib.hid hcl
   clear hcl
   obtain⟨nc,hnc⟩:∃ nc,nc=cl.length:=⟨_,rfl⟩
   rw[←hnc] at HCL
   have HNC:=Lib.hid hnc
   clear hnc
   obtain⟨a0,a1,a2⟩:=HCELL.out w2 HK2.out
   go_wp2_with fail
   refine HCL.out.mono ?_
   rintro e w3 ⟨v,rfl,hown,hb3⟩
   obtain⟨A6,c6,rfl,hc61,hc62⟩:=own_form hown
   have HB3:=Lib.hid (HB2.out.trans (hb3.mono HB2.out.size))
   have HS3:=Lib.hid (show w2.heap.size≤w3.heap.size from hb3.size)
   have HK3:=Lib.hid ((hb3.block w.heap.size (by have:=HS2.out;omega)).trans HK2.out)
   have HSS3:=Lib.hid (HSS.out.fut hb3 (Nat.le_refl _) (Nat.le_refl _))
   have HV3:=Lib.hid (HV.out.rules.fut (B':=w.heap.size) ((HB12.out.mono (Nat.le_succ _)).trans (hb3.mono HB2.out.size)) (Nat.le_refl _) (Nat.le_refl _))
   have HOWN:=Lib.hid (own_more hown HB2.out.size)
   clear hown hb3 a0 a1 a2 HCL
   by_cases hc0:0<nc
   ·have hd:decide ((nc:Int)>0)=true:=by simpa using hc0
    have hd2:decide (0<nc)=true:=by simpa using hc0
    have HNE:=Lib.hid (show cl≠[] from fun e=>by have:=HNC.out;rw[e] at this;simp at this;omega)
    clear hc0
    go_wp2_with fail
    go_ret3
    refine⟨HB3.out,fun h=>absurd h HNB.out,fun _=>⟨some s,HO.out,.inl ⟨by rw[←HC.out];exact HNE.out,_,rfl,?_⟩⟩⟩
    rw[←HC.out,←HNC.out]
    exact HOWN.out
   ·have hd:decide ((nc:Int)>0)=false:=by simpa using hc0
    have hd2:decide (0<nc)=false:=by simpa using hc0
    have HNE:=Lib.hid (show cl=[] from List.eq_nil_of_length_eq_zero (by have:=HNC.out;omega))
    clear hc0 HOWN hc61 hc62
    go_wp2_with fail
    go_loopg [10,33] q (fun lft v10 v33 wr=>∃ i:Nat,i≤q∧q - i≤lft∧v33=.int .i64 i∧Hid (Below w3.heap.size w3 wr)∧Hid (wr.ownsRow w3.heap.size 43 3 v10 (rowsTo g.2.2 s i).length (rcells (rowsTo g.2.2 s i))))
    case atStart=>exact⟨0,by omega,by omega,rfl,Below.refl _ _,World.ownsRow_nil _ _ _ _⟩
    case round =>
     obtain⟨i,hi,hlft,rfl,HB,HO10⟩:=hrel
     obtain⟨gas,hgas⟩:∃ gas,gas=gk:=⟨_,rfl⟩
     rw[←hgas] at hlft
     have HGK:=Lib.hid hgas
     clear hgas
     generalize wr=wo at *
     by_cases hiq:i<q
     ·have his:i<s.length:=by rw[HLEN.out];exact hiq
      have hir:i<g.2.2.length:=by rw[←HL.out.2.2];exact hiq
      have HW3:=Lib.hid (Nat.le_trans HB2.out.size HS3.out)
      obtain⟨b1,o1,cs1,he1,-,hb1,hrep1,hcell1⟩:=(HSS3.out.below (HB.out.mono HS3.out)).get his (by decide)
      obtain⟨v1,rfl,hv1⟩:=hrep1
      have x1:=hcell1 0 _ rfl
      simp only[show (eSl eW).size=1 from rfl,Nat.mul_one,Nat.add_zero] at x1
      subst he1
      obtain⟨b2,o2,cs2,he2,-,hb2,hrep2,hcell2⟩:=(HV3.out.below (HB.out.mono HW3.out)).get hir (by decide)
      obtain⟨v2,rfl,-,-,-⟩:=eRule_open hrep2
      have y0:=hcell2 0 _ rfl
      simp only[show eRule.size=2 from rfl,Nat.add_zero] at y0
      subst he2
      have HRA:=Lib.hid (show rowsAt g.2.2 s i=s[i].map fun w=>(g.2.2[i].1,w,(i:Int)) by
       unfold rowsAt
       simp only[List.getD_eq_getElem?_getD,List.getElem?_eq_getElem his,List.getElem?_eq_getElem hir,Option.getD_some])
      have HNX:=Lib.hid (HSB.out i _ (List.getElem?_eq_getElem his)).2
      have HTL:=Lib.hid (rowsTo_len (rs:=g.2.2) HSB.out i)
      have HTS:=Lib.hid (rowsTo_succ g.2.2 s i)
      obtain⟨x,hx⟩:∃ x,x=s[i]:=⟨_,rfl⟩
      rw[←hx] at hv1 HRA HNX
      obtain⟨lf,hlf⟩:∃ lf,lf=g.2.2[i].1:=⟨_,rfl⟩
      rw[←hlf] at y0 HRA
      have HRX:=Lib.hid (HB.out.block w.heap.size (by have:=HS2.out;have:=HS3.out;omega))
      obtain⟨a0,a1,a2⟩:=HCELL.out wo (HRX.out.trans HK3.out)
      obtain⟨A7,c7,rfl,hc71,hc72⟩:=hv1.form
      obtain⟨nx,hnx⟩:∃ nx,nx=x.length:=⟨_,rfl⟩
      rw[←hnx] at hv1 HNX x1 hc71
      have HNL:=Lib.hid hnx
      have HX:=Lib.hid hv1
      have hnx2:=HNX.out
      have HWZ:=Lib.hid (show w2.heap.size≤wo.heap.size from Nat.le_trans HS3.out HB.out.size)
      clear hx hlf hnx hv1 hcell1 hcell2 hrep2 his hir a0 a1
      go_wp2_with fail
      go_loopg [10,40] nx (fun lft2 v10 v40 wt=>∃ j:Nat,j≤nx∧nx - j≤lft2∧v40=.int .i64 j∧Hid (Below w3.heap.size w3 wt)∧Hid (Below w3.heap.size wo wt)∧Hid (wt.ownsRow w3.heap.size 43 3 v10 ((rowsTo g.2.2 s i).length+j) (rcells (rowsTo g.2.2 s i)++rcells ((rowsAt g.2.2 s i).take j))))
      case atStart=>exact⟨0,by omega,by omega,rfl,HB.out,(Below.refl _ _).mono HB.out.size,by rw[List.take_zero,show rcells []=[] from rfl,List.append_nil];exact HO10.out⟩
      case round =>
       obtain⟨j,hj,hlft2,rfl,HBT,HBRT,HOT⟩:=hrel
       have HB2W:=Lib.hid (show b2<w3.heap.size by have:=HW3.out;omega)
       have z0:wr.cell? ⟨b2,o2+i*2,none⟩=some (.int .i64 lf):=(HBRT.out.cell (p:=⟨b2,o2+i*2,none⟩) HB2W.out).trans y0
       have z2:wr.cell? ⟨w.heap.size,2,none⟩=some (.slice (some ⟨b2,o2,none⟩) q c3):=(HBRT.out.cell (p:=⟨w.heap.size,2,none⟩) (show w.heap.size<w3.heap.size by have:=HW3.out;have:=HS2.out;have:=HS3.out;omega)).trans a2
       by_cases hjx:j<nx
       ·have hjl:j<x.length:=by rw[←HNL.out];exact hjx
        obtain⟨b3,o3,rfl,-,hb3,cw⟩:=(HX.out.below (HBRT.out.mono HS3.out)).wd hjl
        have HT:=Lib.hid (show rcells ((rowsAt g.2.2 s i).take (j+1))=rcells ((rowsAt g.2.2 s i).take j)++rowc (lf,x[j],(i:Int)) by
         rw[HRA.out,List.take_succ_eq_append_getElem (by rw[List.length_map];exact hjl),rcells_snoc,List.getElem_map])
        obtain⟨wj,hwj⟩:∃ wj,wj=x[j]:=⟨_,rfl⟩
        rw[←hwj] at cw HT
        obtain⟨pre,hpre⟩:∃ pre,pre=rcells (rowsTo g.2.2 s i)++rcells ((rowsAt g.2.2 s i).take j):=⟨_,rfl⟩
        rw[←hpre] at HOT
        have HPRE:=Lib.hid hpre
        obtain⟨nr,hnr⟩:∃ nr,nr=(rowsTo g.2.2 s i).length:=⟨_,rfl⟩
        rw[←hnr] at HOT
        have HNR:=Lib.hid hnr
        have hnr2:nr≤16777216:=by have:=HTL.out;have:=HQ.out;omega
        have HBS:=Lib.hid HBT.out.size
        obtain⟨A10,c10,rfl,hc101,hc102⟩:=own_form HOT.out
        clear hwj hpre hnr hjl y0 a2 x1
        go_wp2_with (at_builtin;refine wpList_app (m:=1) (n:=nr+j) row_app rfl rfl rfl rfl (HOT.out.alloc _) (Rd.row (B:=wr.heap.size+1) (Go.heap_alloc_new wr _) (by omega)) rfl (by simp[Value.oneCell']) (by unfold maxLen;omega) (by omega) (by rw[World.size_alloc];have:=HBS.out;omega) ?_)
        intro v' w7 ho7 hg7 hv7 _
        have HB7:=Lib.hid (show Below w3.heap.size w3 w7 from grown_below (HBT.out.alloc HBS.out (.cells (rowc (lf,wj,(i:Int))).toArray 43)) hg7 (HOT.out.alloc _) (Nat.le_refl _) (by rw[World.size_alloc];have:=HBS.out;omega))
        have HBR7:=Lib.hid (show Below w3.heap.size wo w7 from grown_below (HBRT.out.alloc HBS.out (.cells (rowc (lf,wj,(i:Int))).toArray 43)) hg7 (HOT.out.alloc _) (Nat.le_refl _) (by rw[World.size_alloc];have:=HBS.out;omega))
        have HO7:=Lib.hid (show w7.ownsRow w3.heap.size 43 3 v' ((rowsTo g.2.2 s i).length+(j+1)) (rcells (rowsTo g.2.2 s i)++rcells ((rowsAt g.2.2 s i).take (j+1))) by
         rw[HT.out,←List.append_assoc,←HPRE.out,←HNR.out]
         exact ho7)
        clear ho7 hg7 hv7
        go_wp2_with fail
        go_roundg (gk - 1)
        case measure=>omega
        case rel=>exact⟨j+1,by omega,by omega,by go_num,HB7.out,HBR7.out,HO7.out⟩
       ·have HEND:=Lib.hid (show wr.ownsRow w3.heap.size 43 3 u10 (rowsTo g.2.2 s (i+1)).length (rcells (rowsTo g.2.2 s (i+1))) by
         have:=HOT.out
         have e:(rowsAt g.2.2 s i).take j=rowsAt g.2.2 s i:=List.take_of_length_le (by rw[HRA.out,List.length_map,←HNL.out];omega)
         have e2:(rowsAt g.2.2 s i).length=j:=by rw[HRA.out,List.length_map,←HNL.out];omega
         rw[e] at this
         rw[HTS.out,List.length_append,e2]
         unfold rcells at *
         rw[List.map_append,List.flatten_append]
         exact this)
        go_wp2_with fail
        go_roundg (gas - 1)
        case measure=>have:=HGK.out;omega
        case rel=>exact⟨i+1,by omega,by omega,by go_num,HBT.out,HEND.out⟩
     ·have hiq2:i=q:=by omega
      subst hiq2
      have HALL:=Lib.hid (show rowsTo g.2.2 s i=rowsFrom 0 g.2.2 s by rw[HL.out.2.2];exact rowsTo_all (by rw[HLEN.out];exact HL.out.2.2))
      have HTL:=Lib.hid (rowsTo_len (rs:=g.2.2) HSB.out i)
      obtain⟨A10,c10,rfl,hc101,hc102⟩:=own_form HO10.out
      have HSRT:=Lib.hid (sortRows_any w3.heap.size A10 c10 (rowsTo g.2.2 s i) wo HO10.out (by have:=HTL.out;have:=HQ.out;omega))
      go_wp2_with fail
      refine HSRT.out.mono ?_
      rintro e w9 ⟨rfl,rows,hp,hsd,ho9,hg9⟩
      have HP:=Lib.hid hp
      have HSD:=Lib.hid hsd
      have hln:rows.length=(rowsTo g.2.2 s i).length:=hp.length_eq
      have HLN:=Lib.hid hln
      have HO9:=Lib.hid (own_more ho9 (Nat.le_trans HB2.out.size HS3.out))
      have HB9:=Lib.hid (show Below w.heap.size w w9 from grown_below (HB3.out.trans (HB.out.mono (Nat.le_trans HB2.out.size HS3.out))) hg9 HO10.out (Nat.le_trans HB2.out.size HS3.out) (Nat.le_trans (Nat.le_trans HB2.out.size HS3.out) HB.out.size))
      clear hp hsd ho9 hg9 hln
      go_wp2_with fail
      go_ret3
      refine⟨HB9.out,fun h=>absurd h HNB.out,fun _=>⟨some s,HO.out,.inr ⟨by rw[←HC.out];exact HNE.out,_,rows,rfl,?_,HSD.out,?_⟩⟩⟩
      ·rw[←HALL.out];exact HP.out
      ·exact HO9.out
end Go.Proofs.YtfpihflepeiagaaGreatDoor
namespace Go.Proofs.YtfpihflepeiagaaGreatDoor
open Go.RowKit

end Go.Proofs.YtfpihflepeiagaaGreatDoor
namespace Go.Proofs.YtfpihflepeiagaaGreatDoor
open Go.RowKit

def leftAt (g:Gram) (i:Int):Int:=(g.2.2.getD i.toNat (0,[])).1
def isRow (g:Gram) (k:Int) (x:Row):Bool:=!(decide (x.2.2<0)||decide ((g.2.2.length:Int)≤x.2.2)||decide (leftAt g x.2.2≠x.1)||!wordOk g.2.1.length k x.2.1)
end Go.Proofs.YtfpihflepeiagaaGreatDoor
namespace Go.Proofs.YtfpihflepeiagaaGreatDoor
open Go.RowKit

theorem perm_two {α:Type} {a b:α} {l:List α} (h:l.Perm [a,b]):l=[a,b]∨l=[b,a]:=by
 have hl:=h.length_eq
 match l,hl with
 |[x,y],_ =>
  have ha:a∈[x,y]:=h.mem_iff.2 (by simp)
  rw[List.mem_cons,List.mem_singleton] at ha
  rcases ha with e | e
  ·subst e
   have:=(List.Perm.cons_inv h).eq_singleton
   left
   rw[this]
  ·subst e
   have:=(List.Perm.cons_inv ((List.Perm.swap x a []).trans h)).eq_singleton
   right
   injection this with this
   rw[this]
def awRows:List Row:=[(0,[],0),(0,[0],1)]
theorem aw_rows {rows:List Row} (hp:rows.Perm awRows) (hs:rows.Pairwise fun a b=>¬ rowLt b a):rows=awRows:=by
 rcases perm_two hp with h | h
 ·exact h
 ·rw[h] at hs
  have:=(List.pairwise_cons.1 hs).1 (0,[],0) (by simp)
  exact absurd (show rowLt ((0:Int),([]:Wd),(0:Int)) (0,[0],1) from .inr ⟨rfl,by decide⟩) this
theorem aw_check:checkN gA=0:=by kernel_rfl
theorem aw_bad:¬ BadK 1 gA:=by
 unfold BadK
 rw[aw_check]
 simp
theorem aw_ahead:AheadO 1 gA (some [[[]],[[0]]]):=⟨_,gA_first,_,gA_fol,gA_ahead.symm⟩
theorem aw_fit:FitR awRows:=by
 intro x hx
 simp only[awRows,List.mem_cons,List.not_mem_nil,or_false] at hx
 rcases hx with rfl | rfl <;> exact⟨by decide,by decide,by decide⟩
end Go.Proofs.YtfpihflepeiagaaGreatDoor
namespace Go.Proofs.YtfpihflepeiagaaGreatDoor

theorem okB_iff {g:Gram} {k:Nat} (words:List Wd):okB g.2.2 k g.1.length words=true↔∀ a,a<g.1.length→∀ w∈words,(matchW g.2.2 (ahD g.2.2 k w) (a:Int)).length≤1:=by
 unfold okB oneB
 simp only[List.all_eq_true,List.mem_range,decide_eq_true_eq]
 exact⟨fun h a ha w hw=>h w hw a ha,fun h w hw a ha=>h a ha w hw⟩
section
variable {g:Gram} {k:Nat} {s:Sets} (h:LawG g k) (hM:MadeG g.2.2 g.1.length k s)
include h hM
theorem clash_ok:clashW g.2.2 g.1.length s=[]↔okB g.2.2 k g.1.length (wordsW g.2.1.length k)=true:=by
 rw[okB_iff]
 exact clash_nil (by have:=h.few;omega) h.wellT hM (fun w _=>ahD_ok g.2.2 k w)
theorem row_good {rows:List Row} (hp:rows.Perm (rowsFrom 0 g.2.2 s)):∀ x∈rows,isRow g k x=true∧0≤x.1∧x.1<4096∧x.2.1.length≤4∧0≤x.2.2∧x.2.2<4096:=by
 intro x hx
 obtain⟨i,hi,hw,hm⟩:=(row_iff (by have:=h.few;omega) h.wellT hM (fun w _=>ahD_ok g.2.2 k w)).1 (hp.mem_iff.1 hx)
 obtain⟨r,hr,hr1,_⟩:=mem_matchW.1 hm
 have hil:i<g.2.2.length:=(List.getElem?_eq_some_iff.1 hr).1
 obtain⟨w1,w2⟩:=(mem_wordsW (by have:=h.few;omega) k x.2.1).1 hw
 have hq:=(gramB_good h.b).q
 have hnm:=(gramB_good h.b).nm
 have hb:=gram_bounds h.b r (List.mem_of_getElem? hr)
 have hk4:=h.k4
 refine⟨?_,by omega,by omega,by omega,by omega,by omega⟩
 unfold isRow
 have e1:decide (x.2.2<0)=false:=by rw[decide_eq_false_iff_not];omega
 have e2:decide ((g.2.2.length:Int)≤x.2.2)=false:=by rw[decide_eq_false_iff_not];omega
 have e3:leftAt g x.2.2=x.1:=by
  unfold leftAt
  rw[hi,Int.toNat_natCast,List.getD_eq_getElem?_getD,hr]
  exact hr1
 have e4:wordOk g.2.1.length k x.2.1=true:=by
  unfold wordOk overB
  rw[Bool.and_eq_true,List.all_eq_true]
  exact⟨fun c hc=>by rw[decide_eq_true_eq];have:=w2 c hc;omega,by rw[decide_eq_true_eq];omega⟩
 have e5:decide (leftAt g x.2.2≠x.1)=false:=by simp[e3]
 rw[e1,e2,e4,e5]
 rfl
theorem rows_fit {rows:List Row} (hp:rows.Perm (rowsFrom 0 g.2.2 s)):FitR rows:=fun x hx=>by
 obtain⟨_,h1,h2,h3,h4,h5⟩:=row_good h hM hp x hx
 exact⟨by omega,by unfold maxLen;omega,by omega⟩
end
end Go.Proofs.YtfpihflepeiagaaGreatDoor
namespace Go.Proofs.YtfpihflepeiagaaGreatDoor
open Go.RowKit Go.Shelf
attribute [local go_sem] Oper.semAt_some

abbrev Beg:=Row×Wd
def begOf (r:Row):List Beg:=(List.range (r.2.1.length+1)).map fun k=>(r,r.2.1.take k)
def begs (rows:List Row):List Beg:=rows.flatMap begOf
abbrev BegT (rows:List Row):={ x:Beg // x∈begs rows }
theorem begs_succ (rows:List Row) {i:Nat} (h:i<rows.length):begs (rows.take (i+1))=begs (rows.take i)++begOf rows[i]:=by
 unfold begs
 rw[List.take_succ_eq_append_getElem h,List.flatMap_append]
 simp
theorem begOf_len (r:Row):(begOf r).length=r.2.1.length+1:=by simp[begOf]
theorem begOf_succ (r:Row) {k:Nat} (h:k<r.2.1.length+1):(begOf r).take (k+1)=(begOf r).take k++[(r,r.2.1.take k)]:=by
 rw[List.take_succ_eq_append_getElem (by rw[begOf_len];exact h)]
 simp[begOf]
theorem begOf_all (r:Row):(begOf r).take (r.2.1.length+1)=begOf r:=List.take_of_length_le (Nat.le_of_eq (begOf_len r))
theorem begOf_mem (r:Row) {k:Nat} (h:k<r.2.1.length+1):(r,r.2.1.take k)∈begOf r:=List.mem_map.2 ⟨k,List.mem_range.2 h,rfl⟩
theorem beg_mem {rows:List Row} {i k:Nat} (h:i<rows.length) (hk:k<(rows[i]).2.1.length+1):(rows[i],(rows[i]).2.1.take k)∈begs rows:=List.mem_flatMap.2 ⟨rows[i],List.getElem_mem h,begOf_mem _ hk⟩
theorem begs_len_lt {rows:List Row} {i k:Nat} (h:i<rows.length) (hk:k<(rows[i]).2.1.length+1):(begs (rows.take i)++(begOf rows[i]).take k).length<(begs rows).length:=by
 have h1:begs rows=begs (rows.take i)++begOf rows[i]++begs (rows.drop (i+1)):=by
  rw[←begs_succ rows h]
  unfold begs
  rw[←List.flatMap_append,List.take_append_drop]
 rw[h1]
 simp only[List.length_append,List.length_take,begOf_len]
 omega
structure KpR (N0:Nat) (W W':World):Prop where
 bel:Below N0 W W'
 keep:∀ (k:Nat) (cs:Array Value),W.heap[k]? = some (.cells cs 43 (0,0))→W'.heap[k]? = some (.cells cs 43 (0,0))
theorem KpR.trans {N0:Nat} {A B C:World} (h:KpR N0 A B) (k:KpR N0 B C):KpR N0 A C:=⟨h.bel.trans k.bel,fun i cs hi=>k.keep i cs (h.keep i cs hi)⟩
theorem KpR.putObj {N0:Nat} {w:World} (hn:N0≤w.heap.size) (W:World) (l:Nat) (o o':Obj) (hl:w.heap.size≤l) (h:W.heap[l]? = some o) (h1:o.isCells=false) (h2:o.isWalk=false):KpR N0 W (W.putObj l o') :=
 ⟨belowK_b hn W l o o' hl h h1 h2,fun k cs hk=>(World.putObj_heap_other (fun e=>by
  subst e
  rw[h] at hk
  injection hk with hk
  subst hk
  cases h1)).trans hk⟩
set_option maxRecDepth 100000 in
set_option maxHeartbeats 4000000 in
theorem begs1_in (n l Bs N0:Nat) (v:Value) (rows:List Row) (hw:∀ r∈rows,r.2.1.length≤4611686018427387904) (J Jx:List (BegT rows)→World→Prop)
  (hJ:∀ s A B,J s A→A.grownBy B none→J s B)
  (hY:∀ (pre:List (BegT rows)) (x:BegT rows) (W:World),J pre W→pre.length<(begs rows).length→YieldAt Fence.wide (n - 1) Tryz.prog l #[rowv x.1.1,wv x.1.2] W fun e W' =>
   (e=.returned (.bool true)∧J (pre++[x]) W'∧KpR N0 W W')∨(e=.returned (.bool false)∧Jx (pre++[x]) W'))
  (W:World) (hN:N0≤W.heap.size) (hBs:W.cell? ⟨Bs,0,none⟩=some v) (hv:SlR eRow W N0 v rows) (h0:J [] W) :
  CallsIn Fence.wide n Tryz.prog 82 #[.func (.yield l) #[] #[],.pointer (some ⟨Bs,0,none⟩)] W fun e W'=>(∃ v,e=.returned v) ∧
   ((∃ ys:List (BegT rows),ys.map Subtype.val=begs rows∧J ys W')∨(∃ pre,True∧Jx pre W')):=by
 obtain⟨A,c,rfl,hc1,hc2⟩:=hv.form
 unfold maxLen at hc2
 have HV:=Lib.hid hv
 have HW:=Lib.hid hw
 have HN:=Lib.hid hN
 clear hv hw hN
 obtain⟨nr,hnr⟩:∃ nr,nr=rows.length:=⟨_,rfl⟩
 have HNR:=Lib.hid hnr
 rw[←hnr] at hBs hc1
 clear hnr
 refine callsIn_of_wp Tryz.func82 rfl trivial ?_ rfl
 simp only[Tryz.ntmps82,List.size_toArray,List.length_cons,List.length_nil,Nat.reduceAdd,Nat.reduceSub,Array.replicate_succ,Array.replicate_zero,List.push_toArray,List.append_toArray,List.nil_append,List.cons_append]
 gi_wp2
 gi_loopw [8] (fun v8 wr=>∃ (i:Nat) (pre:List (BegT rows)),i≤nr∧v8=.int .i64 i∧pre.map Subtype.val=begs (rows.take i)∧J pre wr∧Hid (Below N0 W wr)) (fun v8 _=>nr - (intOf v8).toNat)
 case atStart=>exact⟨0,[],by omega,rfl,rfl,h0,Below.refl _ _⟩
 case round =>
  obtain⟨i,pre,hi,rfl,hpre,hj,HB⟩:=hrel
  by_cases hlt:i<nr
  ·have hlt':i<rows.length:=by have:=HNR.out;omega
   obtain⟨b1,o1,rfl,-,hb1,a0,a1,a2,-⟩:=(HV.out.below HB.out).rowAt hlt'
   have HSN:=Lib.hid (begs_succ rows hlt')
   have HM:=Lib.hid (fun k (hk:k<(rows[i]).2.1.length+1)=>beg_mem (rows:=rows) hlt' hk)
   have HL:=Lib.hid (fun k (hk:k<(rows[i]).2.1.length+1)=>begs_len_lt (rows:=rows) hlt' hk)
   have hwl:=HW.out _ (List.getElem_mem hlt')
   obtain⟨x,hx⟩:∃ x,x=rows[i]:=⟨_,rfl⟩
   rw[←hx] at a0 a1 a2 HSN HM HL hwl
   clear hx
   obtain⟨xa,xs1,xi⟩:=x
   simp only at a0 a1 a2 hwl
   have HX:=Lib.hid (Go.heap_alloc_new wr (.cells #[.int .i64 xa,.string ⟨xs1.toArray⟩,.int .i64 xi] 43))
   have HJ1:=Lib.hid (hJ pre wr _ hj (World.grownBy_alloc wr (.cells #[.int .i64 xa,.string ⟨xs1.toArray⟩,.int .i64 xi] 43) none))
   have HB1:=Lib.hid (HB.out.alloc (Nat.le_trans HN.out HB.out.size) (.cells #[.int .i64 xa,.string ⟨xs1.toArray⟩,.int .i64 xi] 43))
   have HPRE:=Lib.hid hpre
   clear hj hpre HB
   gi_wp2
   generalize hw1:wr.alloc (.cells #[.int .i64 xa,.string ⟨xs1.toArray⟩,.int .i64 xi] 43)=w1 at *
   generalize wr.heap.size=b4 at *
   clear hw1
   gi_loopw [16] (fun v16 wt=>∃ (k:Nat) (pre2:List (BegT rows)),k≤xs1.length+1∧v16=.int .i64 k∧Hid (pre2.map Subtype.val=begs (rows.take i)++(begOf (xa,xs1,xi)).take k)∧Hid (J pre2 wt)∧Hid (Below N0 W wt)∧Hid (wt.heap[b4]? = some (.cells #[.int .i64 xa,.string ⟨xs1.toArray⟩,.int .i64 xi] 43 (0,0)))) (fun v16 _=>xs1.length+1 - (intOf v16).toNat)
   case atStart=>exact⟨0,pre,by omega,rfl,by show _=_;rw[HPRE.out];simp,HJ1.out,HB1.out,HX.out⟩
   case round =>
    clear HJ1 HB1 HX a0 a1 a2
    obtain⟨k,pre2,hk,rfl,HP2,HJ2,HB2,HX2⟩:=hrel
    by_cases hlk:k<xs1.length+1
    ·have y0:wr.cell? ⟨b4,0,none⟩=some (.int .i64 xa):=by rw[cell_of_row _ _ _ _ _ _ HX2.out];rfl
     have y1:wr.cell? ⟨b4,1,none⟩=some (.string ⟨xs1.toArray⟩):=by rw[cell_of_row _ _ _ _ _ _ HX2.out];rfl
     have y2:wr.cell? ⟨b4,2,none⟩=some (.int .i64 xi):=by rw[cell_of_row _ _ _ _ _ _ HX2.out];rfl
     obtain⟨fn,tmps,assign,body,hy,hR0⟩:=hY pre2 ⟨_,HM.out k hlk⟩ wr.drew (hJ _ _ _ HJ2.out ⟨rfl,rfl,rfl,Nat.le_refl _,fun _ _ _=>rfl⟩) (by have:=HL.out k hlk;rw[←HP2.out,List.length_map] at this;exact this)
     dsimp only at hy
     have hR:RoundIn Fence.wide (n - 1) Tryz.prog l fn tmps assign body wr.drew fun e W'=>∃ b:Bool,e=.returned (.bool b)∧((b=true∧J (pre2++[⟨_,HM.out k hlk⟩]) W'∧KpR N0 wr.drew W')∨(b=false∧Jx (pre2++[⟨_,HM.out k hlk⟩]) W')):=hR0.mono (by
      rintro e W' (⟨rfl,h1,h2⟩ | ⟨rfl,h1⟩)
      ·exact⟨true,rfl,.inl ⟨rfl,h1,h2⟩⟩
      ·exact⟨false,rfl,.inr ⟨rfl,h1⟩⟩)
     clear hR0
     have hmix:Tryz.prog.follows .mixedOrders=true:=by kernel_rfl
     gi_wp2
     gi_region_with_o (first
      |(refine⟨trivial,(fun h=>absurd h Bool.false_ne_true),(callsIn_wide.2 (wordCut_any xs1 k _ (by unfold maxLen;omega) (by omega))).mono ?_⟩;rintro e w' ⟨rfl,rfl⟩)
      |(refine⟨(fun h=>absurd h Bool.false_ne_true),hR.mono ?_⟩;rintro e w' ⟨b,rfl,hb⟩)
      |(refine hR.mono ?_;rintro e w' ⟨b,rfl,hb⟩))
     all_goals
      rcases hb with ⟨rfl,hj,hkp⟩ | ⟨rfl,hjx⟩
      ·clear hY hR hy
       gi_wp2
       go_roundw
       case rel=>exact⟨k+1,_,by omega,by go_num,by show _=_;rw[List.map_append,HP2.out,begOf_succ _ hlk,List.append_assoc];rfl,hj,HB2.out.drew.trans hkp.bel,hkp.keep _ _ HX2.out⟩
       case measure=>simp[intOf];omega
      ·clear hY hR hy
       gi_wp2
       refine bodyPost_ret (results_none rfl _ _ _) rfl ?_
       exact⟨⟨_,rfl⟩,.inr ⟨_,trivial,hjx⟩⟩
    ·have hkl:k=xs1.length+1:=by omega
     subst hkl
     clear hY
     gi_wp2
     go_roundw
     case rel=>exact⟨i+1,pre2,by omega,by go_num,by rw[HP2.out,HSN.out,begOf_all (xa,xs1,xi)],HJ2.out,HB2.out⟩
     case measure=>simp[intOf];omega
  ·have hil:i=nr:=by omega
   subst hil
   clear hY
   gi_wp2
   go_end0
   exact⟨⟨_,rfl⟩,.inl ⟨pre,by rw[hpre,HNR.out,List.take_length],hj⟩⟩
theorem begs_stops (n Bs N0:Nat) (v:Value) (rows:List Row) (hw:∀ r∈rows,r.2.1.length≤4611686018427387904) (w:World) (hN:N0≤w.heap.size) (hB:Bs<w.heap.size) (hBs:w.cell? ⟨Bs,0,none⟩=some v) (hv:SlR eRow w N0 v rows) :
  SeqStopsK Fence.wide n Tryz.prog 82 #[.pointer (some ⟨Bs,0,none⟩)] (fun x:BegT rows=>#[rowv x.1.1,wv x.1.2]) (KpR N0) (fun xs=>xs.map Subtype.val=begs rows) (fun _=>True) (begs rows).length w :=
 fun l J Jx W hW hJ _ hY h0=>begs1_in n l Bs N0 v rows hw J Jx (fun s A B hs hg=>hJ s A B none hs hg (fun r e=>by cases e)) hY W (Nat.le_trans hN hW.size) ((hW.cell (p:=⟨Bs,0,none⟩) hB).trans hBs) (hv.below (hW.mono hN)) h0
set_option maxHeartbeats 1000000 in
theorem beginnings_any (A:Option Addr) (n c:Nat) (w:World) :
  Calls Tryz.prog 52 #[.slice A n c] w fun e w'=>e=.returned (.func (.func 82) #[] #[.pointer (some ⟨w.heap.size,0,none⟩)])∧w'=w.alloc (.cells #[.slice A n c] 41):=by
 go_enter Tryz.func52,Tryz.ntmps52
 go_wp2_with fail
 go_ret
 exact⟨rfl,rfl⟩
end Go.Proofs.YtfpihflepeiagaaGreatDoor
namespace Go.Proofs.YtfpihflepeiagaaGreatDoor
open Go.RowKit
def eEdge:Elt (Int×Int):=eProd eInt eInt

set_option maxHeartbeats 800000 in
theorem idxf_edge (F:FuncId) (cap:Array Value) (p:Int×Int→Bool) (v:Value) (xs:List (Int×Int)) (w:World) (hv:SlR eEdge w w.heap.size v xs)
  (hF:∀ (args:Array Value) (w:World),(callFunc F args).run Tryz.prog w=.ok (.enter F args) w)
  (hp:∀ (cs:List Value) (x:Int×Int) (w1:World),x∈xs→Below w.heap.size w w1→(eEdge).rep w1 w.heap.size cs x→Calls Tryz.prog F (#[.agg cs.toArray]++cap) w1 fun e w2=>e=.returned (.bool (p x))∧Below w1.heap.size w1 w2) :
  Calls Tryz.prog 74 #[v,.func (.func F) #[] cap] w fun e w'=>e=.returned (.int .i64 (idxOf p xs))∧Below w.heap.size w w':=by
 have HP:=Lib.hid hp
 clear hp
 obtain⟨A,c,rfl,hc1,hc2⟩:=hv.form
 unfold maxLen at hc2
 go_enter Tryz.func74,Tryz.ntmps74
 go_wp2_with fail
 go_loopw [8] (fun v8 wr=>∃ k:Nat,k≤xs.length∧v8=.int .i64 k∧Hid (∀ (j:Nat) (h:j<xs.length),j<k→p xs[j]=false)∧Below w.heap.size w wr) (fun v8 _=>xs.length - (intOf v8).toNat)
 case atStart=>exact⟨0,by omega,rfl,fun j h hj=>by omega,Below.refl _ _⟩
 case round =>
  obtain⟨k,hk,rfl,hno,hbr⟩:=hrel
  by_cases hlt:k<xs.length
  ·obtain⟨ab,ao,cs,rfl,_,hab,hrep,hcell⟩:=(hv.below hbr).get hlt (by decide)
   obtain⟨u0,u1,rfl⟩:∃ u0 u1,cs=[u0,u1]:=by
    match cs,(eEdge).len hrep with
    |[u0,u1],_=>exact⟨u0,u1,rfl⟩
   have hc0:=hcell 0 _ rfl
   have hc1':=hcell 1 _ rfl
   have hrep:=Lib.hid hrep
   clear hcell
   simp only[show (eEdge).size=2 from rfl,Nat.add_zero,←Nat.add_assoc] at hc0 hc1'
   rcases Bool.eq_false_or_eq_true (p xs[k]) with hpk | hpk
   ·have HB:=Lib.hid hpk
    have HFIN:=Lib.hid (idxOf_hit hlt hno.out hpk)
    clear hpk
    go_wp2_with fail
    refine (HP.out [u0,u1] xs[k] wr (List.getElem_mem hlt) hbr hrep.out).mono ?_
    rintro e w1 ⟨rfl,hb1⟩
    rw[HB.out]
    go_wp2
    go_ret
    exact⟨rt1 (vint HFIN.out.symm),hbr.trans (hb1.mono hbr.size)⟩
   ·have HB:=Lib.hid hpk
    clear hpk
    go_wp2_with fail
    refine (HP.out [u0,u1] xs[k] wr (List.getElem_mem hlt) hbr hrep.out).mono ?_
    rintro e w1 ⟨rfl,hb1⟩
    rw[HB.out]
    go_wp2
    go_roundw
    case rel=>exact⟨k+1,by omega,by go_num,fun j h hj=>by by_cases e:j=k;(subst e;exact HB.out);exact hno.out j h (by omega),hbr.trans (hb1.mono hbr.size)⟩
    case measure=>simp[intOf];omega
  ·have HFIN:=Lib.hid (idxOf_miss fun j h=>hno.out j h (by omega))
   go_wp2
   go_ret
   exact⟨rt1 (vint HFIN.out.symm),hbr⟩
end Go.Proofs.YtfpihflepeiagaaGreatDoor
