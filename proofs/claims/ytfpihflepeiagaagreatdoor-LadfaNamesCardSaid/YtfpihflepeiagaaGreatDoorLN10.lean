/- Texts of this proof joined: Rf15a, TabW. -/
import Derived.Test.YtfpihflepeiagaaGreatDoorLN09
import Derived.Deep.LoopGhost
import Derived.Test.YtfpihflepeiagaaGreatDoorLN07
namespace Go.Proofs.YtfpihflepeiagaaGreatDoor
open Go.RowKit

def OwnBools (w:World) (P:List Bool) (e:Ending) (w':World):Prop:=∃ g,e=.returned (.slice (some ⟨g,0,none⟩) P.length P.length)∧w'.heap[g]? = some (.cells (bcellsB P).toArray 4 (0,0))∧w.heap.size≤g∧Below w.heap.size w w'
def prodSym (P:List Bool) (s:Int):Bool:=decide (s<0)||P.getD s.toNat false
theorem prodStep_yes {P:List Bool} {r:Int×List Int} (h:r.2.all (prodSym P)=true):prodStep P r=P.set r.1.toNat true:=by
 unfold prodStep
 exact if_pos h
theorem prodStep_no {P:List Bool} {r:Int×List Int} (h:r.2.all (prodSym P)=false):prodStep P r=P:=by
 unfold prodStep
 exact if_neg (by rw[show (r.2.all fun s=>decide (s<0)||P.getD s.toNat false)=r.2.all (prodSym P) from rfl,h];simp)
theorem all_takeB {α:Type} {p:α→Bool} {l:List α} {i:Nat} (h:i<l.length):(l.take (i+1)).all p=((l.take i).all p&&p l[i]):=by
 rw[List.take_succ_eq_append_getElem h,List.all_append]
 simp
set_option maxRecDepth 100000 in
set_option maxHeartbeats 16000000 in
theorem productive15_any {A1 A2 A3:Option Addr} {n m q c1 c2 c3:Nat} {g:Gram} (w:World) (h:GramR w w.heap.size A1 A2 A3 n m q c1 c2 c3 g) (hv:gramB g=true) :
  Calls Tryz.prog 21 #[gramV A1 A2 A3 n m q c1 c2 c3] w (OwnBools w (productive g.2.2 n)):=by
 have hbx:=(Below.refl w.heap.size w).alloc (Nat.le_refl _) (.cells #[.slice A1 n c1,.slice A2 m c2,.slice A3 q c3] 25)
 have HV:=Lib.hid ((h.fut (B':=w.heap.size+1) hbx (Nat.le_refl _) (by omega)).rules)
 have HK:=Lib.hid (Go.heap_alloc_new w (.cells #[.slice A1 n c1,.slice A2 m c2,.slice A3 q c3] 25))
 have HZ:=Lib.hid (World.size_alloc w (.cells #[.slice A1 n c1,.slice A2 m c2,.slice A3 q c3] 25))
 have HBX:=Lib.hid hbx
 have HCELL:Hid (∀ (w2:World),w2.heap[w.heap.size]? = some (.cells #[.slice A1 n c1,.slice A2 m c2,.slice A3 q c3] 25 (0,0))→w2.cell? ⟨w.heap.size,0,none⟩=some (.slice A1 n c1)∧w2.cell? ⟨w.heap.size,2,none⟩=some (.slice A3 q c3)):=fun w2 hk=>⟨by rw[cell_of_row _ _ _ _ _ _ hk];rfl,by rw[cell_of_row _ _ _ _ _ _ hk];rfl⟩
 have hn1:1≤n:=by have:=(gramB_good hv).n1;have:=h.ln.1;omega
 have hn2:n≤256:=by have:=(gramB_good hv).nm;have:=h.ln.1;omega
 have hq2:q≤4096:=by have:=(gramB_good hv).q;have:=h.ln.2.2;omega
 have HFIT:=Lib.hid (show ∀ r∈g.2.2,0≤r.1∧r.1<n∧r.2.length≤64∧∀ s∈r.2,s<(n:Int) from fun r hr=>by
  obtain⟨f1,f2,f3,f4⟩:=(gramB_good hv).fit r hr
  have:=h.ln.1
  exact⟨f1,by omega,f3,fun s hs=>by have:=(f4 s hs).1;omega⟩)
 have HQ:=Lib.hid h.ln.2.2
 obtain⟨ns,ts,rs⟩:=g
 simp only at HV HFIT HQ ⊢
 clear h hv hbx
 obtain⟨tot,htot⟩:∃ tot,tot=productive rs n:=⟨_,rfl⟩
 rw[←htot]
 have HTOT:=Lib.hid (show tot=roundsOf prodStep rs (n+1) (List.replicate n false) from htot)
 clear htot
 have hmk:=bool_make n (by omega) (w.alloc (.cells #[.slice A1 n c1,.slice A2 m c2,.slice A3 q c3] 25))
 rw[World.size_alloc] at hmk
 have HK2:=Lib.hid (Go.heap_alloc_new (w.alloc (.cells #[.slice A1 n c1,.slice A2 m c2,.slice A3 q c3] 25)) (.cells (List.replicate n (Value.bool false)).toArray 4))
 rw[World.size_alloc] at HK2
 have HB2:=Lib.hid ((Below.refl (w.heap.size+1) (w.alloc (.cells #[.slice A1 n c1,.slice A2 m c2,.slice A3 q c3] 25))).alloc (Nat.le_of_eq (World.size_alloc _ _).symm) (.cells (List.replicate n (Value.bool false)).toArray 4))
 have HZ2:=Lib.hid (World.size_alloc (w.alloc (.cells #[.slice A1 n c1,.slice A2 m c2,.slice A3 q c3] 25)) (.cells (List.replicate n (Value.bool false)).toArray 4))
 obtain⟨w2,hw2⟩:∃ w2,w2=(w.alloc (.cells #[.slice A1 n c1,.slice A2 m c2,.slice A3 q c3] 25)).alloc (.cells (List.replicate n (Value.bool false)).toArray 4):=⟨_,rfl⟩
 rw[←hw2] at hmk HK2 HB2 HZ2
 clear hw2
 go_enter Tryz.func21,Tryz.ntmps21
 go_wp2_with fail
 generalize w.alloc (.cells #[.slice A1 n c1,.slice A2 m c2,.slice A3 q c3] 25)=w1 at *
 have HR2:=Lib.hid (show w2.heap[w.heap.size+1]? = some (.cells (bcellsB (List.replicate n false)).toArray 4 (0,0)) by rw[HK2.out];simp[bcellsB])
 clear hmk HK2
 go_loopg [4] (n+1) (fun left v4 wr=>∃ (i:Nat) (S:List Bool),i≤n+1∧n+1 - i≤left∧v4=.int .i64 i∧Hid (tot=roundsOf prodStep rs (n+1 - i) S)∧Hid (S.length=n)∧Hid (wr.heap[w.heap.size+1]? = some (.cells (bcellsB S).toArray 4 (0,0)))∧Hid (Below (w.heap.size+1) w1 wr))
 case atStart=>exact⟨0,List.replicate n false,by omega,by omega,rfl,HTOT.out,List.length_replicate,HR2.out,HB2.out⟩
 case round =>
  clear HR2 HB2
  obtain⟨i,S,hi,hleft,rfl,HT,HSL,HR,HB⟩:=hrel
  obtain⟨gas,hgas⟩:∃ gas,gas=gk:=⟨_,rfl⟩
  rw[←hgas] at hleft
  have HGK:=Lib.hid hgas
  clear hgas
  generalize wr=wo at *
  obtain⟨a0,a2⟩:=HCELL.out wo ((HB.out.block w.heap.size (by omega)).trans HK.out)
  by_cases hlt:i<n+1
  ·have HT2:=Lib.hid (show tot=roundsOf prodStep rs (n - i) (rs.foldl prodStep S) by rw[HT.out,show n+1 - i=(n - i)+1 by omega];rfl)
   have hdi:decide ((i:Int)≤(n:Int))=true:=by rw[decide_eq_true_eq];omega
   have hdn:decide (i≤n)=true:=by rw[decide_eq_true_eq];omega
   clear HT
   go_wp2_with fail
   go_loopg [5] q (fun lf2 v5 wt=>∃ (j:Nat) (T:List Bool),j≤q∧q - j≤lf2∧v5=.int .i64 j∧Hid (rs.foldl prodStep S=(rs.drop j).foldl prodStep T)∧Hid (T.length=n)∧Hid (wt.heap[w.heap.size+1]? = some (.cells (bcellsB T).toArray 4 (0,0)))∧Hid (Below (w.heap.size+1) w1 wt))
   case atStart=>exact⟨0,S,by omega,by omega,rfl,rfl,HSL.out,HR.out,HB.out⟩
   case round =>
    clear HR HB HSL a0 a2
    obtain⟨j,T,hj,hlf2,rfl,HF,HTL,HR,HB⟩:=hrel
    obtain⟨gas2,hgas2⟩:∃ gas2,gas2=gk:=⟨_,rfl⟩
    rw[←hgas2] at hlf2
    have HGK2:=Lib.hid hgas2
    clear hgas2
    generalize wr=wp at *
    obtain⟨a0,a2⟩:=HCELL.out wp ((HB.out.block w.heap.size (by omega)).trans HK.out)
    by_cases hjq:j<q
    ·have hjl:j<rs.length:=by rw[←HQ.out];exact hjq
     obtain⟨b,off,cs,rfl,-,hbl,hrep,hcell⟩:=(HV.out.below HB.out).get (k:=j) hjl (by decide)
     obtain⟨v,rfl,hsl,hz1,hz2⟩:=eRule_open hrep
     obtain⟨A5,c5,rfl,hl5,hl6⟩:=hsl.form
     have hc0:=hcell 0 _ rfl
     have hc1:=hcell 1 _ rfl
     simp only[show eRule.size=2 from rfl,Nat.add_zero,←Nat.add_assoc] at hc0 hc1
     have HF2:=Lib.hid (show rs.foldl prodStep S=(rs.drop (j+1)).foldl prodStep (prodStep T rs[j]) by rw[HF.out,foldl_drop hjl])
     obtain⟨f1,f2,f3,f4⟩:=HFIT.out rs[j] (List.getElem_mem hjl)
     obtain⟨r,hr⟩:∃ r,r=rs[j]:=⟨_,rfl⟩
     rw[←hr] at hc0 hc1 HF2 hsl hl5 f1 f2 f3 f4
     obtain⟨a,right⟩:=r
     simp only at hc0 hc1 hsl hl5 f1 f2 f3 f4
     obtain⟨at_,rfl⟩:∃ at_:Nat,a=(at_:Int):=⟨a.toNat,by omega⟩
     obtain⟨p,hp⟩:∃ p,p=right.length:=⟨_,rfl⟩
     rw[←hp] at hc1 hsl hl5 f3
     have HP:=Lib.hid hp
     have HSR:=Lib.hid hsl
     have HF4:=Lib.hid f4
     clear hcell hrep hr hp hsl hjl HF hz1 hz2 f4
     go_wp2_with fail
     go_loopg [7,6] p (fun lf3 v7 v6 wt=>∃ (k:Nat),k≤p∧p - k≤lf3∧v7=.int .i64 k∧v6=.bool ((right.take k).all (prodSym T))∧wt=wp)
     case atStart=>exact⟨0,by omega,by omega,rfl,by simp,rfl⟩
     case round =>
      obtain⟨k,hk,hlf3,rfl,rfl,rfl⟩:=hrel
      by_cases hkp:k<p
      ·have hkl:k<right.length:=by rw[←HP.out];exact hkp
       obtain⟨b4,o4,cs4,rfl,-,-,hrep4,hcell4⟩:=HSR.out.get (k:=k) hkl (by decide)
       obtain⟨rfl,hx1,hx2⟩:=hrep4
       have hc4:=hcell4 0 _ rfl
       simp only[show eInt.size=1 from rfl,Nat.mul_one,Nat.add_zero] at hc4
       have HT3:=Lib.hid (all_takeB (p:=prodSym T) hkl)
       have hsn:=HF4.out _ (List.getElem_mem hkl)
       obtain⟨s,hs⟩:∃ s,s=right[k]:=⟨_,rfl⟩
       rw[←hs] at hc4 HT3 hsn hx1 hx2
       obtain⟨bb,hbb⟩:∃ bb,bb=(right.take k).all (prodSym T):=⟨_,rfl⟩
       rw[←hbb] at HT3 ⊢
       clear hcell4 hs hkl hbb
       by_cases hs0:s<0
       ·have hd:decide (0≤s)=false:=by simpa using hs0
        have HE:=Lib.hid (show (right.take (k+1)).all (prodSym T)=bb by rw[HT3.out];unfold prodSym;simp[hs0])
        go_wp2_with fail
        go_roundg (gk - 1)
        case measure=>omega
        case rel=>exact⟨k+1,by omega,by omega,by go_num,by rw[HE.out],rfl⟩
       ·have hd:decide (0≤s)=true:=by simp;omega
        obtain⟨t,rfl⟩:∃ t:Nat,s=(t:Int):=⟨s.toNat,by omega⟩
        have htT:t<T.length:=by rw[HTL.out];omega
        have cT:=bool_row_get HR.out htT
        have HGD:=Lib.hid (show T.getD t false=T[t] by rw[List.getD_eq_getElem?_getD,List.getElem?_eq_getElem htT];rfl)
        obtain⟨bt,hbt⟩:∃ bt,bt=T[t]:=⟨_,rfl⟩
        rw[←hbt] at cT HGD
        have htn:t<n:=by omega
        clear hbt htT
        cases bt with
        |true =>
         have HE:=Lib.hid (show (right.take (k+1)).all (prodSym T)=bb by rw[HT3.out];unfold prodSym;rw[Int.toNat_natCast,HGD.out];simp)
         go_wp2_with fail
         go_roundg (gk - 1)
         case measure=>omega
         case rel=>exact⟨k+1,by omega,by omega,by go_num,by rw[HE.out],rfl⟩
        |false =>
         have HE:=Lib.hid (show (right.take (k+1)).all (prodSym T)=false by rw[HT3.out];unfold prodSym;rw[Int.toNat_natCast,HGD.out];simp)
         go_wp2_with fail
         go_roundg (gk - 1)
         case measure=>omega
         case rel=>exact⟨k+1,by omega,by omega,by go_num,by rw[HE.out],rfl⟩
      ·have HALL:=Lib.hid (show (right.take k).all (prodSym T)=right.all (prodSym T) by rw[List.take_of_length_le (by rw[←HP.out];omega)])
       rw[HALL.out]
       obtain⟨bb,hbb⟩:∃ bb,bb=right.all (prodSym T):=⟨_,rfl⟩
       rw[←hbb]
       have HBB:=Lib.hid hbb
       clear hbb
       cases bb with
       |true =>
        have hatT:at_<T.length:=by rw[HTL.out];omega
        have cT:=bool_row_get HR.out hatT
        have fT:wr.frozen? ⟨w.heap.size+1,at_,none⟩=false:=by simp[World.frozen?,HR.out]
        obtain⟨bt,hbt⟩:∃ bt,bt=T[at_]:=⟨_,rfl⟩
        rw[←hbt] at cT
        have HR3:=Lib.hid (bool_row_set HR.out (k:=at_) true)
        have HB3:=Lib.hid (Below.setCell (p:=⟨w.heap.size+1,at_,none⟩) HB.out (Nat.le_refl _) (.bool true))
        have HF3:=Lib.hid (show rs.foldl prodStep S=(rs.drop (j+1)).foldl prodStep (T.set at_ true) by rw[HF2.out,prodStep_yes (r:=((at_:Int),right)) HBB.out.symm,Int.toNat_natCast])
        have hatn:at_<n:=by omega
        clear hbt hatT
        go_wp2_with fail
        go_roundg (gas2 - 1)
        case measure=>have:=HGK2.out;omega
        case rel=>exact⟨j+1,T.set at_ true,by omega,by omega,by go_num,HF3.out,by show _=_;rw[List.length_set];exact HTL.out,HR3.out,HB3.out⟩
       |false =>
        have HF3:=Lib.hid (show rs.foldl prodStep S=(rs.drop (j+1)).foldl prodStep T by rw[HF2.out,prodStep_no (r:=((at_:Int),right)) HBB.out.symm])
        go_wp2_with fail
        go_roundg (gas2 - 1)
        case measure=>have:=HGK2.out;omega
        case rel=>exact⟨j+1,T,by omega,by omega,by go_num,HF3.out,HTL.out,HR.out,HB.out⟩
    ·have HT3:=Lib.hid (show tot=roundsOf prodStep rs (n+1 - (i+1)) T by
      rw[HT2.out,HF.out,List.drop_eq_nil_of_le (by rw[←HQ.out];omega),show n+1 - (i+1)=n - i by omega];rfl)
     go_wp2_with fail
     go_roundg (gas - 1)
     case measure=>have:=HGK.out;omega
     case rel=>exact⟨i+1,T,by omega,by omega,by go_num,HT3.out,HTL.out,HR.out,HB.out⟩
  ·have HE:=Lib.hid (show tot=S by rw[HT.out,show n+1 - i=0 by omega];rfl)
   have hdi:decide ((i:Int)≤(n:Int))=false:=by simp;omega
   go_wp2_with fail
   go_ret
   refine⟨w.heap.size+1,?_,?_,Nat.le_succ _,HBX.out.trans (HB.out.mono (Nat.le_succ _))⟩
   ·rw[HE.out,HSL.out];rfl
   ·rw[HE.out];exact HR.out
end Go.Proofs.YtfpihflepeiagaaGreatDoor
namespace Go.Proofs.YtfpihflepeiagaaGreatDoor

structure TabD where
 E:Nat→Nat→Nat→Bool
 F:Nat→Nat→Bool
def isAt (w:Wd) (s:Int) (p:Nat):Bool:=decide (p<w.length)&&decide (((w.getD p 0).toNat:Int)=-1 - s)
def leads (w:Wd) (E:Nat→Nat→Nat→Bool) (s:Int) (p q:Nat):Bool:=if s<0 then isAt w s p&&decide (q=p+1) else decide (p≤q)&&E s.toNat p q
def moveTo (w:Wd) (E:Nat→Nat→Nat→Bool) (s:Int) (now:List Bool) (P:Nat):List Bool:=(List.range (w.length+1)).map fun q=>(List.range P).any fun p=>now.getD p false&&leads w E s p q
def moveL (w:Wd) (E:Nat→Nat→Nat→Bool) (now:List Bool) (s:Int):List Bool:=moveTo w E s now (w.length+1)
def oneAt (n at_:Nat):List Bool:=(List.replicate (n+1) false).set at_ true
def endsL (w:Wd) (E:Nat→Nat→Nat→Bool) (right:List Int) (at_:Nat):List Bool:=right.foldl (moveL w E) (oneAt w.length at_)
def beginsFrom (w:Wd) (T:TabD):List Bool→List Int→Bool
 |now,[]=>now.getD w.length false
 |now,s :: l=>now.getD w.length false||((decide (0≤s)&&(List.range (w.length+1)).any fun p=>now.getD p false&&T.F s.toNat p)||beginsFrom w T (moveL w T.E now s) l)
def beginsL (w:Wd) (T:TabD) (right:List Int) (at_:Nat):Bool:=beginsFrom w T (oneAt w.length at_) right
def setE (T:TabD) (a p:Nat) (ends:List Bool) (m:Nat):TabD:=⟨fun a' p' q=>T.E a' p' q||(decide (a'=a)&&decide (p'=p)&&decide (q<m)&&ends.getD q false),T.F⟩
def setF (T:TabD) (a p:Nat):TabD:=⟨T.E,fun a' p'=>T.F a' p'||(decide (a'=a)&&decide (p'=p))⟩
def newE (T:TabD) (a p:Nat) (ends:List Bool) (m:Nat):Bool:=(List.range m).any fun q=>ends.getD q false&&!T.E a p q
def stepRP (w:Wd) (r:Int×List Int) (t:TabD×Bool) (p:Nat):TabD×Bool :=
 let ends:=endsL w t.1.E r.2 p
 let T1:=setE t.1 r.1.toNat p ends (w.length+1)
 let m1:=t.2||newE t.1 r.1.toNat p ends (w.length+1)
 if T1.F r.1.toNat p=false∧beginsL w T1 r.2 p=true then (setF T1 r.1.toNat p,true) else (T1,m1)
def stepR (w:Wd) (t:TabD×Bool) (r:Int×List Int):TabD×Bool:=(List.range (w.length+1)).foldl (stepRP w r) t
def passT (w:Wd) (rs:RuleL) (T:TabD):Option (TabD×Bool):=some (rs.foldl (stepR w) (T,false))
def tabStart (w:Wd) (n:Nat):TabD:=⟨fun _ _ _=>false,fun a p=>decide (a<n)&&decide (p=w.length)⟩
def TabTo (w:Wd) (rs:RuleL) (n:Nat) (T:TabD):Prop:=RoundsTo (passT w rs) (tabStart w n) (some T)

def behindL (w:Wd) (T:TabD) (k:Int) (right:List Int) (fol:Nat→Bool) (at_:Nat):Bool :=
 (decide ((w.length:Int)=k)&&beginsL w T right at_)||(List.range (w.length+1)).any fun q=>(endsL w T.E right at_).getD q false&&fol q
def putO (O:Nat→Nat→Bool) (a p:Nat):Nat→Nat→Bool:=fun a' p'=>O a' p'||(decide (a'=a)&&decide (p'=p))
def folP (w:Wd) (T:TabD) (k:Int) (a:Nat) (left:Int) (right:List Int) (o:(Nat→Nat→Bool)×Bool) (p:Nat):(Nat→Nat→Bool)×Bool :=
 if o.1 a p=false∧behindL w T k right (o.1 left.toNat) p=true then (putO o.1 a p,true) else o
def folS (w:Wd) (T:TabD) (k:Int) (r:Int×List Int) (o:(Nat→Nat→Bool)×Bool) (s:Nat):(Nat→Nat→Bool)×Bool :=
 if r.2.getD s 0<0 then o else (List.range (w.length+1)).foldl (folP w T k (r.2.getD s 0).toNat r.1 (r.2.drop (s+1))) o
def folR (w:Wd) (T:TabD) (k:Int) (o:(Nat→Nat→Bool)×Bool) (r:Int×List Int):(Nat→Nat→Bool)×Bool:=(List.range r.2.length).foldl (folS w T k r) o
def passO (w:Wd) (T:TabD) (k:Int) (rs:RuleL) (O:Nat→Nat→Bool):Option ((Nat→Nat→Bool)×Bool):=some (rs.foldl (folR w T k) (O,false))
def folStart (w:Wd) (k:Int) (n:Nat):Nat→Nat→Bool:=fun a p=>decide (a<n)&&decide (p=w.length)&&(decide ((w.length:Int)=k)||decide (a=0))
def FolTo (w:Wd) (T:TabD) (k:Int) (rs:RuleL) (n:Nat) (O:Nat→Nat→Bool):Prop:=RoundsTo (passO w T k rs) (folStart w k n) (some O)
def aheadB (w:Wd) (T:TabD) (k:Int) (O:Nat→Nat→Bool) (r:Int×List Int):Bool:=decide ((w.length:Int)≤k)&&behindL w T k r.2 (O r.1.toNat) 0

def sub (w:Wd) (p q:Nat):Wd:=(w.drop p).take (q - p)
theorem sub_self (w:Wd) (p:Nat):sub w p p=[]:=by simp[sub]
theorem sub_trans {w:Wd} {p q r:Nat} (h1:p≤q) (h2:q≤r):sub w p q++sub w q r=sub w p r:=by
 unfold sub
 rw[show r - p=(q - p)+(r - q) by omega,List.take_add,List.drop_drop]
 congr 3
 omega
theorem sub_one {w:Wd} {p:Nat} (h:p<w.length):sub w p (p+1)=[w[p]]:=by
 unfold sub
 rw[show p+1 - p=1 by omega,List.drop_eq_getElem_cons h]
 rfl
theorem sub_end {w:Wd} {p q:Nat} (h1:p≤q):sub w p q++w.drop q=w.drop p:=by
 unfold sub
 have:w.drop q=(w.drop p).drop (q - p):=by rw[List.drop_drop];congr 1;omega
 rw[this,List.take_append_drop]
theorem sub_len {w:Wd} {p q:Nat} (h2:q≤w.length):(sub w p q).length=q - p:=by
 unfold sub
 rw[List.length_take,List.length_drop]
 omega
def WellS (rs:RuleL):Prop:=∀ a r,(a,r)∈rs→∀ s∈r,-256≤s
theorem tb_of {c:UInt8} {s:Int} (h:(c.toNat:Int)=-1 - s):tb s=c:=by
 unfold tb
 rw[←h]
 simp
theorem tb_to {s:Int} (h1:s<0) (h2:-256≤s):((tb s).toNat:Int)=-1 - s:=by
 unfold tb
 rw[UInt8.toNat_ofNat']
 omega
theorem range_any {n:Nat} {f:Nat→Bool}:(List.range n).any f=true↔∃ p,p<n∧f p=true:=by
 simp[List.any_eq_true]
theorem moveL_get {w:Wd} {E:Nat→Nat→Nat→Bool} {now:List Bool} {s:Int} {q:Nat}:(moveL w E now s).getD q false=true↔q≤w.length∧∃ p,p≤w.length∧now.getD p false=true∧leads w E s p q=true:=by
 unfold moveL moveTo
 rw[List.getD_eq_getElem?_getD,List.getElem?_map]
 by_cases hq:q≤w.length
 ·rw[List.getElem?_range (by omega)]
  simp only[Option.map_some,Option.getD_some,range_any,Bool.and_eq_true]
  constructor
  ·rintro⟨p,hp,h1,h2⟩;exact⟨hq,p,by omega,h1,h2⟩
  ·rintro⟨_,p,hp,h1,h2⟩;exact⟨p,by omega,h1,h2⟩
 ·rw[List.getElem?_eq_none (by simp;omega)]
  simp[hq]
theorem oneAt_get {n at_ p:Nat} (h:at_≤n):(oneAt n at_).getD p false=true↔p=at_:=by
 unfold oneAt
 rw[List.getD_eq_getElem?_getD,List.getElem?_set]
 split
 ·rename_i e
  subst e
  simp[show at_<n+1 by omega]
 ·rename_i e
  constructor
  ·intro h
   rw[List.getElem?_replicate] at h
   split at h <;> simp at h
  ·intro h;exact absurd h.symm e
structure SoundT (rs:RuleL) (w:Wd) (T:TabD):Prop where
 exact_:∀ a p q,T.E a p q=true→p≤q∧q≤w.length∧∃ r,((a:Int),r)∈rs∧Der rs r (sub w p q)
 front:∀ a p,T.F a p=true→p≤w.length∧∃ r u,((a:Int),r)∈rs∧Der rs r u∧w.drop p <+: u
theorem leads_sound {rs:RuleL} {w:Wd} {T:TabD} (h:SoundT rs w T) {s:Int} {p q:Nat} (hl:leads w T.E s p q=true):p≤q∧q≤w.length∧∀ l v,Der rs l v→Der rs (s :: l) (sub w p q++v):=by
 unfold leads at hl
 split at hl
 ·rename_i hs
  simp only[isAt,Bool.and_eq_true,decide_eq_true_eq] at hl
  obtain⟨⟨h1,h2⟩,rfl⟩:=hl
  refine⟨by omega,by omega,fun l v hv=>?_⟩
  rw[sub_one h1]
  rw[List.getD_eq_getElem?_getD,List.getElem?_eq_getElem h1,Option.getD_some] at h2
  rw[←tb_of h2]
  exact .term hs hv
 ·rename_i hs
  simp only[Bool.and_eq_true,decide_eq_true_eq] at hl
  obtain⟨h1,h2,r,hr,hd⟩:=h.exact_ _ _ _ hl.2
  rw[Int.toNat_of_nonneg (by omega)] at hr
  exact⟨h1,h2,fun l v hv=>.nont (by omega) hr hd hv⟩
theorem moves_sound {rs:RuleL} {w:Wd} {T:TabD} (h:SoundT rs w T):∀ (l:List Int) (now:List Bool) (q:Nat),q≤w.length→(l.foldl (moveL w T.E) now).getD q false=true→∃ p,p≤q∧now.getD p false=true∧Der rs l (sub w p q)
 |[],now,q,hq,hn=>⟨q,Nat.le_refl _,hn,by rw[sub_self];exact .nil⟩
 |s :: l,now,q,hq,hn=>by
  obtain⟨m,hm,h1,hd⟩:=moves_sound h l _ q hq hn
  obtain⟨_,p,hp,h2,h3⟩:=moveL_get.1 h1
  obtain⟨h4,h5,h6⟩:=leads_sound h h3
  have:=h6 l _ hd
  rw[sub_trans h4 hm] at this
  exact⟨p,by omega,h2,this⟩
theorem endsL_sound {rs:RuleL} {w:Wd} {T:TabD} (h:SoundT rs w T) {l:List Int} {at_ q:Nat} (ha:at_≤w.length) (hq:q≤w.length) (hn:(endsL w T.E l at_).getD q false=true):at_≤q∧Der rs l (sub w at_ q):=by
 obtain⟨p,hp,h1,h2⟩:=moves_sound h l _ q hq hn
 rw[oneAt_get ha] at h1
 subst h1
 exact⟨hp,h2⟩
theorem begins_sound {rs:RuleL} {w:Wd} {T:TabD} (h:SoundT rs w T) (hw:∀ a r,(a,r)∈rs→0≤a):∀ (l:List Int) (now:List Bool),(∀ s∈l,s<0∨Makes rs s)→beginsFrom w T now l=true→∃ p,p≤w.length∧now.getD p false=true∧∃ u,Der rs l u∧w.drop p <+: u
 |[],now,hm,hb=>⟨w.length,Nat.le_refl _,hb,[],.nil,by simp⟩
 |s :: l,now,hm,hb=>by
  simp only[beginsFrom,Bool.or_eq_true,Bool.and_eq_true,decide_eq_true_eq] at hb
  rcases hb with hb | ⟨hs,hb⟩ | hb
  ·obtain⟨u,hu⟩:=der_of_makes (rs:=rs) (s :: l) hm hw
   exact⟨w.length,Nat.le_refl _,hb,u,hu,by simp⟩
  ·obtain⟨p,hp,h1⟩:=range_any.1 hb
   rw[Bool.and_eq_true] at h1
   obtain⟨h2,r,u,hr,hu,hpre⟩:=h.front _ _ h1.2
   rw[Int.toNat_of_nonneg hs] at hr
   obtain⟨v,hv⟩:=der_of_makes (rs:=rs) l (fun x hx=>hm x (by simp[hx])) hw
   exact⟨p,h2,h1.1,u++v,.nont hs hr hu hv,hpre.trans (List.prefix_append _ _)⟩
  ·obtain⟨q,hq,h1,u,hu,hpre⟩:=begins_sound h hw l _ (fun x hx=>hm x (by simp[hx])) hb
   obtain⟨_,p,hp,h2,h3⟩:=moveL_get.1 h1
   obtain⟨h4,h5,h6⟩:=leads_sound h h3
   refine⟨p,hp,h2,_,h6 l u hu,?_⟩
   rw[←sub_end h4]
   exact (List.prefix_append_right_inj _).2 hpre
theorem beginsL_sound {rs:RuleL} {w:Wd} {T:TabD} (h:SoundT rs w T) (hw:∀ a r,(a,r)∈rs→0≤a) {l:List Int} {at_:Nat} (ha:at_≤w.length) (hm:∀ s∈l,s<0∨Makes rs s) (hb:beginsL w T l at_=true):∃ u,Der rs l u∧w.drop at_ <+: u:=by
 obtain⟨p,_,h1,h2⟩:=begins_sound h hw l _ hm hb
 rw[oneAt_get ha] at h1
 subst h1
 exact h2
structure ClosedT (rs:RuleL) (w:Wd) (T:TabD):Prop where
 exact_:∀ a r,(a,r)∈rs→∀ p,p≤w.length→∀ q,q≤w.length→(endsL w T.E r p).getD q false=true→T.E a.toNat p q=true
 front:∀ a r,(a,r)∈rs→∀ p,p≤w.length→beginsL w T r p=true→T.F a.toNat p=true
theorem moves_full {rs:RuleL} {w:Wd} {T:TabD} (hc:ClosedT rs w T) (hS:WellS rs) {l:List Int} {u:Wd} (h:Der rs l u):(∀ s∈l,-256≤s)→∀ (now:List Bool) (p:Nat),p+u.length≤w.length→u=sub w p (p+u.length)→now.getD p false=true→(l.foldl (moveL w T.E) now).getD (p+u.length) false=true:=by
 induction h with
 |nil=>intro _ now p _ _ h;simpa using h
 |@term s l v hs hd ih =>
  intro hl now p hp hu hn
  simp only[List.length_cons] at hp hu ⊢
  have hpw:p<w.length:=by omega
  have e:sub w p (p+(v.length+1))=w[p] :: sub w (p+1) (p+1+v.length):=by
   rw[←sub_trans (q:=p+1) (by omega) (by omega),sub_one hpw]
   simp[Nat.add_comm 1 v.length,Nat.add_assoc]
  rw[e] at hu
  injection hu with h1 h2
  have:=ih (fun s h=>hl s (by simp[h])) (moveL w T.E now s) (p+1) (by omega) h2 (moveL_get.2 ⟨by omega,p,by omega,hn,by
   unfold leads
   rw[if_pos hs]
   simp only[isAt,Bool.and_eq_true,decide_eq_true_eq,and_true]
   refine⟨hpw,?_⟩
   rw[List.getD_eq_getElem?_getD,List.getElem?_eq_getElem hpw,Option.getD_some,←h1]
   exact tb_to hs (hl s (by simp))⟩)
  rw[show p+(v.length+1)=p+1+v.length by omega]
  exact this
 |@nont a l r u v ha hr h1 h2 ih1 ih2 =>
  intro hl now p hp hu hn
  simp only[List.length_append] at hp hu ⊢
  have e:=sub_trans (w:=w) (p:=p) (q:=p+u.length) (r:=p+(u.length+v.length)) (by omega) (by omega)
  rw[←e] at hu
  have hlen:u.length=(sub w p (p+u.length)).length:=by rw[sub_len (by omega)];omega
  obtain⟨e1,e2⟩:=List.append_inj hu hlen
  have hE:=ih1 (fun s hs=>hS a r hr s hs) (oneAt w.length p) p (by omega) e1 ((oneAt_get (by omega)).2 rfl)
  have hT:=hc.exact_ a r hr p (by omega) (p+u.length) (by omega) hE
  have:=ih2 (fun s h=>hl s (by simp[h])) (moveL w T.E now a) (p+u.length) (by omega) (by rw[Nat.add_assoc];exact e2) (moveL_get.2 ⟨by omega,p,by omega,hn,by
   unfold leads
   rw[if_neg (by omega)]
   simp only[Bool.and_eq_true,decide_eq_true_eq]
   exact⟨by omega,hT⟩⟩)
  rw[←Nat.add_assoc]
  exact this
theorem endsL_full {rs:RuleL} {w:Wd} {T:TabD} (hc:ClosedT rs w T) (hS:WellS rs) {l:List Int} {u:Wd} (h:Der rs l u) (hl:∀ s∈l,-256≤s) {p:Nat} (hp:p+u.length≤w.length) (hu:u=sub w p (p+u.length)):(endsL w T.E l p).getD (p+u.length) false=true :=
 moves_full hc hS h hl _ p hp hu ((oneAt_get (by omega)).2 rfl)
theorem prefix_split {w u v:Wd} {p:Nat} (hp:p≤w.length) (h:w.drop p <+: u++v):w.drop p <+: u∨(p+u.length≤w.length∧u=sub w p (p+u.length)∧w.drop (p+u.length) <+: v):=by
 rcases Nat.lt_or_ge (w.drop p).length u.length with hl | hl
 ·left
  exact List.prefix_of_prefix_length_le h (List.prefix_append _ _) (by omega)
 ·right
  have hu:u <+: w.drop p:=List.prefix_of_prefix_length_le (List.prefix_append u v) h hl
  rw[List.length_drop] at hl
  have e:u=sub w p (p+u.length):=by
   unfold sub
   rw[show p+u.length - p=u.length by omega]
   exact List.prefix_iff_eq_take.1 hu
  refine⟨by omega,e,?_⟩
  rw[←sub_end (w:=w) (p:=p) (q:=p+u.length) (by omega),←e] at h
  exact (List.prefix_append_right_inj _).1 h
theorem begins_full {rs:RuleL} {w:Wd} {T:TabD} (hc:ClosedT rs w T) (hS:WellS rs) {l:List Int} {u:Wd} (h:Der rs l u):(∀ s∈l,-256≤s)→∀ (now:List Bool) (p:Nat),p≤w.length→w.drop p <+: u→now.getD p false=true→beginsFrom w T now l=true:=by
 induction h with
 |nil =>
  intro _ now p hp hpre hn
  have:=hpre.length_le
  simp at this
  have:p=w.length:=by omega
  subst this
  exact hn
 |@term s l v hs hd ih =>
  intro hl now p hp hpre hn
  simp only[beginsFrom,Bool.or_eq_true]
  by_cases hpw:p<w.length
  ·right;right
   rw[List.drop_eq_getElem_cons hpw,List.cons_prefix_cons] at hpre
   refine ih (fun s h=>hl s (by simp[h])) _ (p+1) (by omega) hpre.2 (moveL_get.2 ⟨by omega,p,hp,hn,?_⟩)
   unfold leads
   rw[if_pos hs]
   simp only[isAt,Bool.and_eq_true,decide_eq_true_eq,and_true]
   refine⟨hpw,?_⟩
   rw[List.getD_eq_getElem?_getD,List.getElem?_eq_getElem hpw,Option.getD_some,hpre.1]
   exact tb_to hs (hl s (by simp))
  ·left
   have:p=w.length:=by omega
   subst this
   exact hn
 |@nont a l r u v ha hr h1 h2 ih1 ih2 =>
  intro hl now p hp hpre hn
  simp only[beginsFrom,Bool.or_eq_true,Bool.and_eq_true,decide_eq_true_eq]
  rcases prefix_split hp hpre with h | ⟨g1,g2,g3⟩
  ·right;left
   refine⟨ha,range_any.2 ⟨p,by omega,?_⟩⟩
   rw[Bool.and_eq_true]
   exact⟨hn,hc.front a r hr p hp (ih1 (fun s hs=>hS a r hr s hs) _ p hp h ((oneAt_get hp).2 rfl))⟩
  ·right;right
   have hE:=endsL_full hc hS h1 (fun s hs=>hS a r hr s hs) g1 g2
   refine ih2 (fun s h=>hl s (by simp[h])) _ (p+u.length) g1 g3 (moveL_get.2 ⟨g1,p,hp,hn,?_⟩)
   unfold leads
   rw[if_neg (by omega)]
   simp only[Bool.and_eq_true,decide_eq_true_eq]
   exact⟨by omega,hc.exact_ a r hr p hp _ g1 hE⟩
theorem beginsL_full {rs:RuleL} {w:Wd} {T:TabD} (hc:ClosedT rs w T) (hS:WellS rs) {l:List Int} {u:Wd} (h:Der rs l u) (hl:∀ s∈l,-256≤s) {p:Nat} (hp:p≤w.length) (hpre:w.drop p <+: u):beginsL w T l p=true :=
 begins_full hc hS h hl _ p hp hpre ((oneAt_get hp).2 rfl)

theorem stepRP_sound {rs:RuleL} {n:Nat} {w:Wd} (hw:WellG rs n) (hm:∀ a,0≤a→a<(n:Int)→Makes rs a) {r:Int×List Int} (hr:r∈rs) {t:TabD×Bool} {p:Nat} (hp:p≤w.length) (h:SoundT rs w t.1):SoundT rs w (stepRP w r t p).1:=by
 have h1:SoundT rs w (setE t.1 r.1.toNat p (endsL w t.1.E r.2 p) (w.length+1)):=by
  refine⟨fun a p' q he=>?_,h.front⟩
  simp only[setE,Bool.or_eq_true,Bool.and_eq_true,decide_eq_true_eq] at he
  rcases he with he | ⟨⟨⟨rfl,rfl⟩,hq⟩,he⟩
  ·exact h.exact_ a p' q he
  ·obtain⟨g1,g2⟩:=endsL_sound h hp (by omega) he
   refine⟨g1,by omega,r.2,?_,g2⟩
   rw[Int.toNat_of_nonneg (hw r.1 r.2 hr).1]
   exact hr
 unfold stepRP
 simp only
 split
 ·rename_i hc
  refine⟨h1.exact_,fun a p' he=>?_⟩
  simp only[setF,Bool.or_eq_true,Bool.and_eq_true,decide_eq_true_eq] at he
  rcases he with he | ⟨rfl,rfl⟩
  ·exact h1.front a p' he
  ·obtain⟨u,hu,hpre⟩:=beginsL_sound h1 (fun a r h=>(hw a r h).1) hp (fun s hs=>by
    rcases Int.lt_or_le s 0 with h0 | h0
    ·exact .inl h0
    ·exact .inr (hm s h0 ((hw r.1 r.2 hr).2.2 s hs))) hc.2
   refine⟨hp,r.2,u,?_,hu,hpre⟩
   rw[Int.toNat_of_nonneg (hw r.1 r.2 hr).1]
   exact hr
 ·exact h1
theorem foldl_inv {α β:Type} {f:α→β→α} (I:α→Prop):∀ (l:List β) (s:α),(∀ s x,x∈l→I s→I (f s x))→I s→I (l.foldl f s)
 |[],_,_,h=>h
 |x :: l,s,hf,h=>foldl_inv I l (f s x) (fun s y hy=>hf s y (by simp[hy])) (hf s x (by simp) h)
theorem stepR_sound {rs:RuleL} {n:Nat} {w:Wd} (hw:WellG rs n) (hm:∀ a,0≤a→a<(n:Int)→Makes rs a) {r:Int×List Int} (hr:r∈rs) {t:TabD×Bool} (h:SoundT rs w t.1):SoundT rs w (stepR w t r).1 :=
 foldl_inv (fun t:TabD×Bool=>SoundT rs w t.1) _ _ (fun _ p hp h=>stepRP_sound hw hm hr (by have:=List.mem_range.1 hp;omega) h) h
theorem fold_still {α β:Type} {f:α×Bool→β→α×Bool} (C:α→β→Prop) (hq:∀ t x,(f t x).2=false→t.2=false) (hs:∀ t x,(f t x).2=false→(f t x).1=t.1∧C t.1 x):∀ (l:List β) (t:α×Bool),(l.foldl f t).2=false→t.2=false∧(l.foldl f t).1=t.1∧∀ x∈l,C t.1 x
 |[],t,h=>⟨h,rfl,fun x hx=>by cases hx⟩
 |x :: l,t,h=>by
  obtain⟨h1,h2,h3⟩:=fold_still C hq hs l (f t x) h
  obtain⟨h4,h5⟩:=hs t x h1
  refine⟨hq t x h1,by rw[List.foldl_cons,h2,h4],fun y hy=>?_⟩
  rcases List.mem_cons.1 hy with rfl | hy
  ·exact h5
  ·rw[←h4];exact h3 y hy
def ClosedAt (w:Wd) (r:Int×List Int) (T:TabD) (p:Nat):Prop:=(∀ q,q≤w.length→(endsL w T.E r.2 p).getD q false=true→T.E r.1.toNat p q=true)∧(beginsL w T r.2 p=true→T.F r.1.toNat p=true)
theorem stepRP_still {w:Wd} {r:Int×List Int} {t:TabD×Bool} {p:Nat} (h:(stepRP w r t p).2=false):t.2=false∧(stepRP w r t p).1=t.1∧ClosedAt w r t.1 p:=by
 unfold stepRP at h ⊢
 simp only at h ⊢
 split at h
 ·cases h
 ·rename_i hc
  rw[if_neg hc]
  simp only[Bool.or_eq_false_iff] at h
  have hn:∀ q,q≤w.length→(endsL w t.1.E r.2 p).getD q false=true→t.1.E r.1.toNat p q=true:=by
   intro q hq he
   have:=h.2
   unfold newE at this
   rw[List.any_eq_false] at this
   have:=this q (List.mem_range.2 (by omega))
   rw[he] at this
   simpa using this
  have e:setE t.1 r.1.toNat p (endsL w t.1.E r.2 p) (w.length+1)=t.1:=by
   obtain⟨⟨E,F⟩,m⟩:=t
   unfold setE
   simp only[TabD.mk.injEq,and_true]
   funext a' p' q
   cases hE:E a' p' q with
   |true=>rfl
   |false =>
    simp only[Bool.false_or,Bool.and_eq_false_iff,decide_eq_false_iff_not]
    by_cases h1:a'=r.1.toNat∧p'=p∧q<w.length+1
    ·obtain⟨rfl,rfl,h3⟩:=h1
     right
     cases he:(endsL w E r.2 p').getD q false with
     |false=>rfl
     |true=>have:=hn q (by omega) he;simp only at this;rw[hE] at this;cases this
    ·left
     by_cases a1:a'=r.1.toNat
     ·by_cases a2:p'=p
      ·right;intro a3;exact h1 ⟨a1,a2,a3⟩
      ·left;right;exact a2
     ·left;left;exact a1
  refine⟨h.1,e,hn,fun hb=>?_⟩
  rw[e] at hc
  cases hF:t.1.F r.1.toNat p with
  |true=>rfl
  |false=>exact absurd ⟨hF,hb⟩ hc
theorem TabTo.full {rs:RuleL} {n:Nat} {w:Wd} (hw:WellG rs n) (hm:∀ a,0≤a→a<(n:Int)→Makes rs a) {T:TabD} (h:TabTo w rs n T):SoundT rs w T∧ClosedT rs w T:=by
 obtain⟨h1,t,_,h3⟩:=RoundsTo.inv (SoundT rs w) (fun s s' g hi e=>by
  unfold passT at e
  injection e with e
  have:=foldl_inv (fun t:TabD×Bool=>SoundT rs w t.1) (f:=stepR w) rs (s,false) (fun t r hr h=>stepR_sound hw hm hr h) hi
  rw[e] at this
  exact this) h ⟨fun a p q he=>(by cases he),fun a p he=>by
   simp only[tabStart,Bool.and_eq_true,decide_eq_true_eq] at he
   obtain⟨ha,rfl⟩:=he
   obtain⟨r,u,hr,hu⟩:=hm (a:Int) (by omega) (by omega)
   exact⟨Nat.le_refl _,r,u,hr,hu,by simp⟩⟩ T rfl
 refine⟨h1,?_⟩
 unfold passT at h3
 injection h3 with h3
 have hR:∀ (u:TabD×Bool) (r:Int×List Int),(stepR w u r).2=false→u.2=false∧(stepR w u r).1=u.1∧∀ p,p≤w.length→ClosedAt w r u.1 p:=by
  intro u r hu
  obtain⟨g1,g2,g3⟩:=fold_still (ClosedAt w r) (f:=stepRP w r) (fun t x h=>(stepRP_still h).1) (fun t x h=>(stepRP_still h).2) (List.range (w.length+1)) u hu
  exact⟨g1,g2,fun p hp=>g3 p (List.mem_range.2 (by omega))⟩
 obtain⟨_,g2,g3⟩:=fold_still (fun T r=>∀ p,p≤w.length→ClosedAt w r T p) (f:=stepR w) (fun t x h=>(hR t x h).1) (fun t x h=>(hR t x h).2) rs (t,false) (by rw[h3])
 rw[h3] at g2
 simp only at g2
 subst g2
 exact⟨fun a r hr p hp=>(g3 (a,r) hr p hp).1,fun a r hr p hp=>(g3 (a,r) hr p hp).2⟩
def Mt (w:Wd) (k:Int) (x v:Wd):Prop:=if (w.length:Int)=k then x <+: v else x=v
theorem Mt.app {w:Wd} {k:Int} {x v y:Wd} (h:Mt w k x v):Mt w k (y++x) (y++v):=by
 unfold Mt at *
 split
 ·rename_i e;rw[if_pos e] at h;exact (List.prefix_append_right_inj _).2 h
 ·rename_i e;rw[if_neg e] at h;rw[h]
def SoundW (rs:RuleL) (w:Wd) (k:Int) (O:Nat→Nat→Bool):Prop:=∀ a p,O a p=true→p≤w.length∧∃ v,Fol rs (a:Int) v∧Mt w k (w.drop p) v
theorem behindL_sound {rs:RuleL} {w:Wd} {T:TabD} {k:Int} (h:SoundT rs w T) (hw:∀ a r,(a,r)∈rs→0≤a) {O:Nat→Nat→Bool} (ho:SoundW rs w k O) {right:List Int} {left:Nat} {p:Nat} (hp:p≤w.length) (hm:∀ s∈right,s<0∨Makes rs s) (hst:Stands rs left)
  (hb:behindL w T k right (O left) p=true):∃ u v,Der rs right u∧Fol rs (left:Int) v∧Mt w k (w.drop p) (u++v):=by
 unfold behindL at hb
 simp only[Bool.or_eq_true,Bool.and_eq_true,decide_eq_true_eq] at hb
 rcases hb with ⟨hk,hb⟩ | hb
 ·obtain⟨u,hu,hpre⟩:=beginsL_sound h hw hp hm hb
  obtain⟨v,hv⟩:=hst
  refine⟨u,v,hu,hv,?_⟩
  unfold Mt
  rw[if_pos hk]
  exact hpre.trans (List.prefix_append _ _)
 ·obtain⟨q,hq,h1⟩:=range_any.1 hb
  rw[Bool.and_eq_true] at h1
  obtain⟨g1,g2⟩:=endsL_sound h hp (by omega) h1.1
  obtain⟨_,v,hv,hmt⟩:=ho _ _ h1.2
  refine⟨_,v,g2,hv,?_⟩
  rw[←sub_end g1]
  exact hmt.app
theorem behindL_full {rs:RuleL} {w:Wd} {T:TabD} {k:Int} (hc:ClosedT rs w T) (hS:WellS rs) {right:List Int} (hl:∀ s∈right,-256≤s) {fol:Nat→Bool} {p:Nat} (hp:p≤w.length) {u v:Wd} (hu:Der rs right u) (hf:∀ q,q≤w.length→Mt w k (w.drop q) v→fol q=true) (hmt:Mt w k (w.drop p) (u++v)):behindL w T k right fol p=true:=by
 have hsplit:(((w.length:Int)=k)∧w.drop p <+: u)∨(p+u.length≤w.length∧u=sub w p (p+u.length)∧Mt w k (w.drop (p+u.length)) v):=by
  unfold Mt at hmt ⊢
  split at hmt
  ·rename_i e
   rw[if_pos e]
   rcases prefix_split hp hmt with h | h
   ·exact .inl ⟨e,h⟩
   ·exact .inr h
  ·rename_i e
   rw[if_neg e]
   right
   have hlen:p+u.length≤w.length:=by
    have:=congrArg List.length hmt
    rw[List.length_drop,List.length_append] at this
    omega
   have hpre:w.drop p <+: u++v:=by rw[hmt];exact List.prefix_refl _
   have e1:u=sub w p (p+u.length):=by
    unfold sub
    rw[hmt,show p+u.length - p=u.length by omega]
    simp
   refine⟨hlen,e1,?_⟩
   rw[←sub_end (w:=w) (p:=p) (q:=p+u.length) (by omega),←e1] at hmt
   exact List.append_cancel_left hmt
 unfold behindL
 simp only[Bool.or_eq_true,Bool.and_eq_true,decide_eq_true_eq]
 rcases hsplit with ⟨h1,h2⟩ | ⟨h1,h2,h3⟩
 ·exact .inl ⟨h1,beginsL_full hc hS hu hl hp h2⟩
 ·right
  refine range_any.2 ⟨p+u.length,by omega,?_⟩
  rw[Bool.and_eq_true]
  exact⟨endsL_full hc hS hu hl h1 h2,hf _ h1 h3⟩
end Go.Proofs.YtfpihflepeiagaaGreatDoor
