/- Texts of this proof joined: Rf15c, LadfaNamesLaw, TabOpen, Laid26. -/
import Derived.Test.YtfpihflepeiagaaGreatDoorLN38
import Derived.Test.YtfpihflepeiagaaGreatDoorLN40
import Derived.Test.YtfpihflepeiagaaGreatDoorRows
import Derived.Test.YtfpihflepeiagaaGreatDoorLN01
import Derived.Test.YtfpihflepeiagaaGreatDoorLN26
import Derived.Test.YtfpihflepeiagaaGreatDoorLN06
import Derived.Carry
import Derived.Test.YtfpihflepeiagaaGreatDoorCards
import Derived.Test.YtfpihflepeiagaaGreatDoorTie
import Derived.Test.YtfpihflepeiagaaGreatDoorLN35
import Derived.WalkKit
import Derived.ProofKit
import Derived.OpenShut
import Derived.Deep.DeepHandedRow
import Derived.Lib.LaidTab
import Derived.Stop.LaidErr
namespace Go.Proofs.YtfpihflepeiagaaGreatDoor
open Go.RowKit

def hasT (t:Nat) (r:Int×List Int):Bool:=r.2.any fun s=>decide (s=-1 - (t:Int))
theorem any_takeB {α:Type} {p:α→Bool} {l:List α} {i:Nat} (h:i<l.length):(l.take (i+1)).any p=((l.take i).any p||p l[i]):=by
 rw[List.take_succ_eq_append_getElem h,List.any_append]
 simp
theorem any_of_getB {α:Type} {p:α→Bool} {l:List α} {i:Nat} (h:i<l.length) (hp:p l[i]=true):l.any p=true:=List.any_eq_true.2 ⟨l[i],List.getElem_mem h,hp⟩
set_option maxRecDepth 100000 in
set_option maxHeartbeats 16000000 in
theorem used15_any {A1 A2 A3:Option Addr} {n m q c1 c2 c3:Nat} {g:Gram} (gr t:Nat) (R:List Bool) (w:World) (h:GramR w w.heap.size A1 A2 A3 n m q c1 c2 c3 g) (hv:gramB g=true) (hR:w.heap[gr]? = some (.cells (bcellsB R).toArray 4 (0,0))) (hRl:R.length=n) (hRa:R.all id=true) (ht:t≤1048576) :
  Calls Tryz.prog 23 #[gramV A1 A2 A3 n m q c1 c2 c3,.slice (some ⟨gr,0,none⟩) n n,.int .i64 t] w fun e w'=>e=.returned (.bool (usedT g.2.2 t))∧Below w.heap.size w w':=by
 have hbx:=(Below.refl w.heap.size w).alloc (Nat.le_refl _) (.cells #[.slice A1 n c1,.slice A2 m c2,.slice A3 q c3] 25)
 have HV:=Lib.hid ((h.fut (B':=w.heap.size+1) hbx (Nat.le_refl _) (by omega)).rules)
 have HK:=Lib.hid (Go.heap_alloc_new w (.cells #[.slice A1 n c1,.slice A2 m c2,.slice A3 q c3] 25))
 have HZ:=Lib.hid (World.size_alloc w (.cells #[.slice A1 n c1,.slice A2 m c2,.slice A3 q c3] 25))
 have HBX:=Lib.hid hbx
 have HCELL:Hid (∀ (w2:World),w2.heap[w.heap.size]? = some (.cells #[.slice A1 n c1,.slice A2 m c2,.slice A3 q c3] 25 (0,0))→w2.cell? ⟨w.heap.size,0,none⟩=some (.slice A1 n c1)∧w2.cell? ⟨w.heap.size,2,none⟩=some (.slice A3 q c3)):=fun w2 hk=>⟨by rw[cell_of_row _ _ _ _ _ _ hk];rfl,by rw[cell_of_row _ _ _ _ _ _ hk];rfl⟩
 have HR:=Lib.hid ((hbx.block gr (Array.getElem?_eq_some_iff.1 hR).1).trans hR)
 have HRL:=Lib.hid hRl
 have HRA:=Lib.hid hRa
 have hn2:n≤256:=by have:=(gramB_good hv).nm;have:=h.ln.1;omega
 have hq2:q≤4096:=by have:=(gramB_good hv).q;have:=h.ln.2.2;omega
 have HFIT:=Lib.hid (show ∀ r∈g.2.2,0≤r.1∧r.1<n∧r.2.length≤64 from fun r hr=>by
  obtain⟨f1,f2,f3,f4⟩:=(gramB_good hv).fit r hr
  have:=h.ln.1
  exact⟨f1,by omega,f3⟩)
 have HQ:=Lib.hid h.ln.2.2
 have hgr:gr<w.heap.size:=(Array.getElem?_eq_some_iff.1 hR).1
 obtain⟨ns,ts,rs⟩:=g
 simp only at HV HFIT HQ ⊢
 clear h hv hbx hR hRl hRa
 go_enter Tryz.func23,Tryz.ntmps23
 go_wp2_with fail
 generalize w.alloc (.cells #[.slice A1 n c1,.slice A2 m c2,.slice A3 q c3] 25)=w1 at *
 obtain⟨a0,a2⟩:=HCELL.out w1 HK.out
 go_loopg [7] q (fun left v7 wr=>∃ (j:Nat),j≤q∧q - j≤left∧v7=.int .i64 j∧Hid ((rs.take j).any (hasT t)=false)∧wr=w1)
 case atStart=>exact⟨0,by omega,by omega,rfl,by simp[Hid],rfl⟩
 case round =>
  obtain⟨j,hj,hleft,rfl,HN,rfl⟩:=hrel
  obtain⟨gas,hgas⟩:∃ gas,gas=gk:=⟨_,rfl⟩
  rw[←hgas] at hleft
  have HGK:=Lib.hid hgas
  clear hgas
  generalize wr=wo at *
  by_cases hjq:j<q
  ·have hjl:j<rs.length:=by rw[←HQ.out];exact hjq
   obtain⟨b,off,cs,rfl,-,hbl,hrep,hcell⟩:=HV.out.get (k:=j) hjl (by decide)
   obtain⟨v,rfl,hsl,hz1,hz2⟩:=eRule_open hrep
   obtain⟨A5,c5,rfl,hl5,hl6⟩:=hsl.form
   have hc0:=hcell 0 _ rfl
   have hc1:=hcell 1 _ rfl
   simp only[show eRule.size=2 from rfl,Nat.add_zero,←Nat.add_assoc] at hc0 hc1
   have HTK:=Lib.hid (any_takeB (p:=hasT t) hjl)
   have HAY:=Lib.hid (show hasT t rs[j]=true→usedT rs t=true from fun h=>any_of_getB (p:=hasT t) hjl h)
   obtain⟨f1,f2,f3⟩:=HFIT.out rs[j] (List.getElem_mem hjl)
   obtain⟨r,hr⟩:∃ r,r=rs[j]:=⟨_,rfl⟩
   rw[←hr] at hc0 hc1 hsl hl5 f1 f2 f3 HTK HAY
   obtain⟨a,right⟩:=r
   simp only at hc0 hc1 hsl hl5 f1 f2 f3
   obtain⟨at_,rfl⟩:∃ at_:Nat,a=(at_:Int):=⟨a.toNat,by omega⟩
   have hatR:at_<R.length:=by rw[HRL.out];omega
   have cR:=bool_row_get HR.out hatR
   have hRt:R[at_]=true:=List.all_eq_true.1 HRA.out _ (List.getElem_mem hatR)
   rw[hRt] at cR
   have hatn:at_<n:=by omega
   obtain⟨p,hp⟩:∃ p,p=right.length:=⟨_,rfl⟩
   rw[←hp] at hc1 hsl hl5 f3
   have HP:=Lib.hid hp
   have HSR:=Lib.hid hsl
   have HHT:=Lib.hid (show hasT t ((at_:Int),right)=right.any fun s=>decide (s=-1 - (t:Int)) from rfl)
   clear hcell hrep hr hp hsl hjl hz1 hz2 hRt hatR
   go_wp2_with fail
   go_loopg [8] p (fun lf3 v8 wt=>∃ (k:Nat),k≤p∧p - k≤lf3∧v8=.int .i64 k∧Hid ((right.take k).any (fun s=>decide (s=-1 - (t:Int)))=false)∧wt=wo)
   case atStart=>exact⟨0,by omega,by omega,rfl,by simp[Hid],rfl⟩
   case round =>
    obtain⟨k,hk,hlf3,rfl,HM,rfl⟩:=hrel
    by_cases hkp:k<p
    ·have hkl:k<right.length:=by rw[←HP.out];exact hkp
     obtain⟨b4,o4,cs4,rfl,-,-,hrep4,hcell4⟩:=HSR.out.get (k:=k) hkl (by decide)
     obtain⟨rfl,hx1,hx2⟩:=hrep4
     have hc4:=hcell4 0 _ rfl
     simp only[show eInt.size=1 from rfl,Nat.mul_one,Nat.add_zero] at hc4
     have HT3:=Lib.hid (any_takeB (p:=fun s=>decide (s=-1 - (t:Int))) hkl)
     have HA3:=Lib.hid (any_of_getB (p:=fun s=>decide (s=-1 - (t:Int))) hkl)
     obtain⟨s,hs⟩:∃ s,s=right[k]:=⟨_,rfl⟩
     rw[←hs] at hc4 HT3 HA3 hx1 hx2
     clear hcell4 hs hkl
     by_cases hst:s=-1 - (t:Int)
     ·have hd:(s==-1 - (t:Int))=true:=by simpa using hst
      have HE:=Lib.hid (show usedT rs t=true from HAY.out (by rw[HHT.out];exact HA3.out (by simpa using hst)))
      clear hst
      go_wp2_with fail
      go_ret
      exact⟨rt1 (vbool HE.out.symm),HBX.out⟩
     ·have hd:(s==-1 - (t:Int))=false:=by simpa using hst
      have HE:=Lib.hid (show (right.take (k+1)).any (fun s=>decide (s=-1 - (t:Int)))=false by rw[HT3.out,HM.out];simpa using hst)
      clear hst
      go_wp2_with fail
      go_roundg (gk - 1)
      case measure=>omega
      case rel=>exact⟨k+1,by omega,by omega,by go_num,HE.out,rfl⟩
    ·have HE:=Lib.hid (show (rs.take (j+1)).any (hasT t)=false by
      rw[HTK.out,HN.out,HHT.out]
      have:=HM.out
      rwa [List.take_of_length_le (by rw[←HP.out];omega)] at this)
     go_wp2_with fail
     go_roundg (gas - 1)
     case measure=>have:=HGK.out;omega
     case rel=>exact⟨j+1,by omega,by omega,by go_num,HE.out,rfl⟩
  ·have HE:=Lib.hid (show usedT rs t=false by
    have:=HN.out
    rwa [List.take_of_length_le (by rw[←HQ.out];omega)] at this)
   go_wp2_with fail
   go_ret
   exact⟨rt1 (vbool HE.out.symm),HBX.out⟩
def check15 (g:Gram):Int:=if gramB g then wellE g.1.length g.2.1.length g.2.2 else 1
theorem reached_len (rs:RuleL) (n:Nat):(reached rs n).length=n:=by
 unfold reached
 rw[roundsOf_len (fun P r=>?_),List.length_set,List.length_replicate]
 unfold reachStep
 have:∀ (l:List Int) (R:List Bool),(l.foldl (fun R s=>reachSym R r.1 s) R).length=R.length:=by
  intro l
  induction l with
  |nil=>intro R;rfl
  |cons s l ih=>intro R;rw[List.foldl_cons,ih,reachSym_len]
 exact this _ _
theorem all_falseB {P:List Bool} {i:Nat} (h:i<P.length) (hp:P[i]=false):P.all id=false:=by
 rw[List.all_eq_false]
 exact⟨P[i],List.getElem_mem h,by simp[hp]⟩
set_option maxRecDepth 100000 in
set_option maxHeartbeats 16000000 in
theorem check15_any {A1 A2 A3:Option Addr} {n m q c1 c2 c3:Nat} {g:Gram} (w:World) (h:GramR w w.heap.size A1 A2 A3 n m q c1 c2 c3 g) :
  Calls Tryz.prog 9 #[gramV A1 A2 A3 n m q c1 c2 c3] w fun e w'=>e=.returned (.int .i64 (check15 g))∧Below w.heap.size w w':=by
 have hbx:=(Below.refl w.heap.size w).alloc (Nat.le_refl _) (.cells #[.slice A1 n c1,.slice A2 m c2,.slice A3 q c3] 25)
 have HV:=Lib.hid ((h.fut (B':=w.heap.size+1) hbx (Nat.le_refl _) (by omega)))
 have HK:=Lib.hid (Go.heap_alloc_new w (.cells #[.slice A1 n c1,.slice A2 m c2,.slice A3 q c3] 25))
 have HZ:=Lib.hid (World.size_alloc w (.cells #[.slice A1 n c1,.slice A2 m c2,.slice A3 q c3] 25))
 have HBX:=Lib.hid hbx
 have HCELL:Hid (∀ (w2:World),w2.heap[w.heap.size]? = some (.cells #[.slice A1 n c1,.slice A2 m c2,.slice A3 q c3] 25 (0,0))→w2.cell? ⟨w.heap.size,0,none⟩=some (.slice A1 n c1)∧w2.cell? ⟨w.heap.size,1,none⟩=some (.slice A2 m c2)∧w2.cell? ⟨w.heap.size,2,none⟩=some (.slice A3 q c3)):=fun w2 hk=>⟨by rw[cell_of_row _ _ _ _ _ _ hk];rfl,by rw[cell_of_row _ _ _ _ _ _ hk];rfl,by rw[cell_of_row _ _ _ _ _ _ hk];rfl⟩
 have HL:=Lib.hid h.ln
 have hsm:=h.small
 have HGR:=Lib.hid (show ∀ w':World,Below (w.heap.size+1) (w.alloc (.cells #[.slice A1 n c1,.slice A2 m c2,.slice A3 q c3] 25)) w'→w.heap.size+1≤w'.heap.size→GramR w' w'.heap.size A1 A2 A3 n m q c1 c2 c3 g from fun w' hb hs=>HV.out.fut hb (Nat.le_refl _) hs)
 clear h hbx
 go_enter Tryz.func9,Tryz.ntmps9
 go_wp2_with fail
 generalize w.alloc (.cells #[.slice A1 n c1,.slice A2 m c2,.slice A3 q c3] 25)=w1 at *
 refine (valid14_any w1 (HGR.out w1 (Below.refl _ _) (by rw[HZ.out];exact Nat.le_refl _))).mono ?_
 rintro e w2 ⟨rfl,hb2⟩
 have HB2:=Lib.hid (hb2.mono (Nat.le_of_eq HZ.out.symm))
 have HS2:=Lib.hid (show w.heap.size+1≤w2.heap.size by have:=hb2.size;have:=HZ.out;omega)
 have HK2:=Lib.hid ((HB2.out.block w.heap.size (by omega)).trans HK.out)
 obtain⟨a0,a1,a2⟩:=HCELL.out w2 HK2.out
 clear hb2
 cases hg:gramB g with
 |false =>
  have HE:=Lib.hid (show check15 g=1 by unfold check15;rw[if_neg (by rw[hg];simp)])
  clear hg
  go_wp2_with fail
  go_ret
  exact⟨by rw[HE.out];rfl,HBX.out.trans (HB2.out.mono (Nat.le_succ _))⟩
 |true =>
  have HG:=Lib.hid hg
  have HN1:=Lib.hid (show n=g.1.length from HL.out.1)
  have HE0:=Lib.hid (show check15 g=wellE n m g.2.2 by unfold check15;rw[if_pos hg,HL.out.1,HL.out.2.1])
  have hm2:m≤256:=by have:=(gramB_good hg).nm;have:=HL.out;omega
  have HPL:=Lib.hid (show (productive g.2.2 n).length=n by unfold productive;rw[roundsOf_len prodStep_len,List.length_replicate])
  have HRL:=Lib.hid (reached_len g.2.2 n)
  clear hg
  go_wp2_with fail
  refine (productive15_any w2 (HGR.out w2 HB2.out HS2.out) HG.out).mono ?_
  rintro e w3 ⟨gp,rfl,hgp,hgp2,hb3⟩
  have HB3:=Lib.hid (HB2.out.trans (hb3.mono HS2.out))
  have HS3:=Lib.hid (Nat.le_trans HS2.out hb3.size)
  have HP:=Lib.hid hgp
  have HE1:=Lib.hid (show wellE n m g.2.2=if (productive g.2.2 n).all id then (if (reached g.2.2 n).all id&&(List.range m).all (usedT g.2.2) then 0 else 17) else 18 from rfl)
  obtain⟨P,hP⟩:∃ P,P=productive g.2.2 n:=⟨_,rfl⟩
  rw[←hP] at HP HE1 HPL ⊢
  rw[HPL.out]
  clear a0 a1 a2 hgp hgp2 hb3 hP
  go_wp2_with fail
  go_loopg [4] n (fun left v4 wr=>∃ i:Nat,i≤n∧n - i≤left∧v4=.int .i64 i∧Hid ((P.take i).all id=true)∧wr=w3)
  case atStart=>exact⟨0,by omega,by omega,rfl,by simp[Hid],rfl⟩
  case round =>
   obtain⟨i,hi,hleft,rfl,HA,rfl⟩:=hrel
   by_cases hib:i<n
   ·have hil:i<P.length:=by rw[HPL.out];exact hib
    have cP:=bool_row_get HP.out hil
    have HT:=Lib.hid (all_takeB (p:=id) hil)
    have HF:=Lib.hid (all_falseB hil)
    obtain⟨b,hb⟩:∃ b,b=P[i]:=⟨_,rfl⟩
    rw[←hb] at cP HT HF
    clear hb hil
    cases b with
    |true =>
     have HA2:=Lib.hid (show (P.take (i+1)).all id=true by rw[HT.out,HA.out];rfl)
     go_wp2_with fail
     go_roundg (gk - 1)
     case measure=>omega
     case rel=>exact⟨i+1,by omega,by omega,by go_num,HA2.out,rfl⟩
    |false =>
     have HE:=Lib.hid (show check15 g=18 by rw[HE0.out,HE1.out,HF.out rfl];rfl)
     go_wp2_with fail
     go_ret
     exact⟨by rw[HE.out];rfl,HBX.out.trans (HB3.out.mono (Nat.le_succ _))⟩
   ·have HE2:=Lib.hid (show check15 g=if (reached g.2.2 n).all id&&(List.range m).all (usedT g.2.2) then 0 else 17 by
     have:=HA.out
     rw[List.take_of_length_le (by rw[HPL.out];omega)] at this
     rw[HE0.out,HE1.out,this]
     rfl)
    obtain⟨w3,hw3⟩:∃ w3,w3=wr:=⟨_,rfl⟩
    rw[←hw3] at HB3 HS3 ⊢
    have HK3:=Lib.hid ((HB3.out.block w.heap.size (by omega)).trans HK.out)
    obtain⟨a0,a1,a2⟩:=HCELL.out w3 HK3.out
    clear hw3 HP HE0 HE1
    go_wp2_with fail
    refine (reached15_any w3 (HGR.out w3 HB3.out HS3.out) HG.out).mono ?_
    rintro e w4 ⟨gr,rfl,hgr,hgr2,hb4⟩
    have HB4:=Lib.hid (HB3.out.trans (hb4.mono HS3.out))
    have HS4:=Lib.hid (Nat.le_trans HS3.out hb4.size)
    have HR:=Lib.hid hgr
    obtain⟨R,hR⟩:∃ R,R=reached g.2.2 n:=⟨_,rfl⟩
    rw[←hR] at HR HE2 HRL ⊢
    rw[HRL.out]
    clear a0 a1 a2 hgr hgr2 hb4 hR
    go_wp2_with fail
    go_loopg [6] n (fun left v6 wr=>∃ i:Nat,i≤n∧n - i≤left∧v6=.int .i64 i∧Hid ((R.take i).all id=true)∧wr=w4)
    case atStart=>exact⟨0,by omega,by omega,rfl,by simp[Hid],rfl⟩
    case round =>
     obtain⟨i,hi,hleft,rfl,HA,rfl⟩:=hrel
     by_cases hib:i<n
     ·have hil:i<R.length:=by rw[HRL.out];exact hib
      have cP:=bool_row_get HR.out hil
      have HT:=Lib.hid (all_takeB (p:=id) hil)
      have HF:=Lib.hid (all_falseB hil)
      obtain⟨b,hb⟩:∃ b,b=R[i]:=⟨_,rfl⟩
      rw[←hb] at cP HT HF
      clear hb hil
      cases b with
      |true =>
       have HA2:=Lib.hid (show (R.take (i+1)).all id=true by rw[HT.out,HA.out];rfl)
       go_wp2_with fail
       go_roundg (gk - 1)
       case measure=>omega
       case rel=>exact⟨i+1,by omega,by omega,by go_num,HA2.out,rfl⟩
      |false =>
       have HE:=Lib.hid (show check15 g=17 by rw[HE2.out,HF.out rfl];rfl)
       go_wp2_with fail
       go_ret
       exact⟨by rw[HE.out];rfl,HBX.out.trans (HB4.out.mono (Nat.le_succ _))⟩
     ·have HRA:=Lib.hid (show R.all id=true by
       have:=HA.out
       rwa [List.take_of_length_le (by rw[HRL.out];omega)] at this)
      have HE3:=Lib.hid (show check15 g=if (List.range m).all (usedT g.2.2) then 0 else 17 by
       rw[HE2.out,HRA.out]
       rfl)
      obtain⟨w4,hw4⟩:∃ w4,w4=wr:=⟨_,rfl⟩
      rw[←hw4] at HB4 HS4 HR ⊢
      clear hw4 HA HE2
      go_wp2_with fail
      go_loopg [7] m (fun left v7 wr=>∃ i:Nat,i≤m∧m - i≤left∧v7=.int .i64 i∧Hid (∀ j,j<i→usedT g.2.2 j=true)∧Hid (Below w4.heap.size w4 wr))
      case atStart=>exact⟨0,by omega,by omega,rfl,fun j hj=>by omega,Below.refl _ _⟩
      case round =>
       obtain⟨i,hi,hleft,rfl,HA,HBW⟩:=hrel
       have HB5:=Lib.hid (HB4.out.trans (HBW.out.mono HS4.out))
       have HS5:=Lib.hid (Nat.le_trans HS4.out HBW.out.size)
       have HK5:=Lib.hid ((HB5.out.block w.heap.size (by omega)).trans HK.out)
       obtain⟨a0,a1,a2⟩:=HCELL.out wr HK5.out
       have HR5:=Lib.hid ((HBW.out.block gr (Array.getElem?_eq_some_iff.1 HR.out).1).trans HR.out)
       by_cases hib:i<m
       ·go_wp2_with fail
        refine (used15_any gr i R wr (HGR.out wr HB5.out HS5.out) HG.out HR5.out HRL.out HRA.out (by omega)).mono ?_
        rintro e w6 ⟨rfl,hb6⟩
        have HB6:=Lib.hid (HBW.out.trans (hb6.mono HBW.out.size))
        obtain⟨b,hb⟩:∃ b,b=usedT g.2.2 i:=⟨_,rfl⟩
        rw[←hb]
        have HBB:=Lib.hid hb
        clear hb hb6 a0 a1 a2
        cases b with
        |true =>
         go_wp2_with fail
         go_roundg (gk - 1)
         case measure=>omega
         case rel=>exact⟨i+1,by omega,by omega,by go_num,fun j hj=>by rcases Nat.lt_or_ge j i with h | h;(exact HA.out j h);(rw[show j=i by omega];exact HBB.out.symm),HB6.out⟩
        |false =>
         have HE:=Lib.hid (show check15 g=17 by
          rw[HE3.out,if_neg]
          intro h
          have:=List.all_eq_true.1 h i (List.mem_range.2 hib)
          rw[←HBB.out] at this
          cases this)
         go_wp2_with fail
         go_ret
         exact⟨by rw[HE.out];rfl,HBX.out.trans ((HB4.out.trans (HB6.out.mono HS4.out)).mono (Nat.le_succ _))⟩
       ·have HE:=Lib.hid (show check15 g=0 by
         rw[HE3.out,if_pos]
         exact List.all_eq_true.2 fun j hj=>HA.out j (by have:=List.mem_range.1 hj;omega))
        go_wp2_with fail
        go_ret
        exact⟨by rw[HE.out];rfl,HBX.out.trans (HB5.out.mono (Nat.le_succ _))⟩
end Go.Proofs.YtfpihflepeiagaaGreatDoor
namespace Go.Proofs.YtfpihflepeiagaaGreatDoor
open Go.RowKit

theorem check_eq26 (g:Gram):check15 g=checkN g:=rfl
set_option maxRecDepth 100000 in
set_option maxHeartbeats 40000000 in
theorem ladfaNames_any {A1 A2 A3:Option Addr} {n m q c1 c2 c3:Nat} {ns ts:List ByteArray} {rs:List (Int×List Int)} (k:Int) (wd:Wd) (w:World)
  (h1:SlR eStr w w.heap.size (.slice A1 n c1) ns) (h2:SlR eStr w w.heap.size (.slice A2 m c2) ts) (h3:SlR eRule w w.heap.size (.slice A3 q c3) rs) (hwd:wd.length≤maxLen) (ht:TabP w) :
  Calls Tryz.prog 3 #[gramV A1 A2 A3 n m q c1 c2 c3,.int .i64 k,wv wd] w fun e w'=>e=.returned (.bool true)∧Below w.heap.size w w':=by
 have hbx:=(Below.refl w.heap.size w).alloc (Nat.le_refl _) (.cells #[.slice A1 n c1,.slice A2 m c2,.slice A3 q c3] 25)
 have HK:=Lib.hid (Go.heap_alloc_new w (.cells #[.slice A1 n c1,.slice A2 m c2,.slice A3 q c3] 25))
 have HZ:=Lib.hid (World.size_alloc w (.cells #[.slice A1 n c1,.slice A2 m c2,.slice A3 q c3] 25))
 have HBX:=Lib.hid hbx
 have hl1:=h1.n_le
 have hl2:=h2.n_le
 have hl3:=h3.n_le
 have HN:=Lib.hid (show n=ns.length∧m=ts.length∧q=rs.length from ⟨h1.n_eq,h2.n_eq,h3.n_eq⟩)
 have H1:=Lib.hid (h1.fut (B':=w.heap.size+1) hbx (Nat.le_refl _) (by omega))
 have H2:=Lib.hid (h2.fut (B':=w.heap.size+1) hbx (Nat.le_refl _) (by omega))
 have H3:=Lib.hid (h3.fut (B':=w.heap.size+1) hbx (Nat.le_refl _) (by omega))
 have HCELL:Hid (∀ (w2:World),w2.heap[w.heap.size]? = some (.cells #[.slice A1 n c1,.slice A2 m c2,.slice A3 q c3] 25 (0,0))→w2.cell? ⟨w.heap.size,0,none⟩=some (.slice A1 n c1)∧w2.cell? ⟨w.heap.size,1,none⟩=some (.slice A2 m c2)∧w2.cell? ⟨w.heap.size,2,none⟩=some (.slice A3 q c3)):=fun w2 hk=>⟨by rw[cell_of_row _ _ _ _ _ _ hk];rfl,by rw[cell_of_row _ _ _ _ _ _ hk];rfl,by rw[cell_of_row _ _ _ _ _ _ hk];rfl⟩
 have HT:=Lib.hid (ht.below hbx)
 unfold maxLen at hwd
 obtain⟨X,hX⟩:∃ X:ByteArray,X=⟨wd.toArray⟩:=⟨_,rfl⟩
 have hXs:X.size=wd.length:=by rw[hX];rfl
 rw[show wv wd=Value.string X by rw[hX]]
 have HX:=Lib.hid hX
 obtain⟨nw,hnw⟩:∃ nw,nw=wd.length:=⟨_,rfl⟩
 rw[←hnw] at hXs hwd
 have HNW:=Lib.hid hnw
 clear h1 h2 h3 hbx ht hX hnw
 go_enter Tryz.func3,Tryz.ntmps3
 go_wp2_with fail
 generalize w.alloc (.cells #[.slice A1 n c1,.slice A2 m c2,.slice A3 q c3] 25)=w1 at *
 refine (few14_any _ _ _ ns ts rs w1 (by rw[HZ.out];exact H1.out) (by rw[HZ.out];exact H2.out) (by rw[HZ.out];exact H3.out)).mono ?_
 rintro e w2 ⟨z,rfl,hz,hb2⟩
 have HB2:=Lib.hid (show Below (w.heap.size+1) w1 w2 from hb2.mono (Nat.le_of_eq HZ.out.symm))
 have HS2:=Lib.hid (show w.heap.size+1≤w2.heap.size by have:=hb2.size;have:=HZ.out;omega)
 clear hb2
 have HK2:=Lib.hid ((HB2.out.block w.heap.size (by omega)).trans HK.out)
 obtain⟨a0,a1,a2⟩:=HCELL.out w2 HK2.out
 have HAW:=Lib.hid (fun (w':World) (h:Below (w.heap.size+1) w1 w') (hs:w.heap.size+1≤w'.heap.size)=>(awake26_any w' (HT.out.below (h.mono (Nat.le_of_eq HZ.out)))).mono (fun e w'' (hx:e=.returned (.bool true)∧Below w'.heap.size w' w'')=>(⟨hx.1,h.trans (hx.2.mono hs)⟩:e=.returned (.bool true)∧Below (w.heap.size+1) w1 w'')))
 rcases hz with rfl | ⟨rfl,hz1,hz2,hz3⟩
 ·go_wp2_with fail
  refine (HAW.out w2 HB2.out HS2.out).mono ?_
  rintro e w3 ⟨rfl,hb3⟩
  go_wp2_with fail
  go_ret
  exact⟨rfl,HBX.out.trans (hb3.mono (Nat.le_succ _))⟩
 ·by_cases hm3:3<m
  ·have d1:decide ((3:Int)<(m:Int))=true:=by simp;omega
   go_wp2_with fail
   refine (HAW.out w2 HB2.out HS2.out).mono ?_
   rintro e w3 ⟨rfl,hb3⟩
   go_wp2_with fail
   go_ret
   exact⟨rfl,HBX.out.trans (hb3.mono (Nat.le_succ _))⟩
  have d1:decide ((3:Int)<(m:Int))=false:=by simp;omega
  by_cases hw20:20<nw
  ·have d20:decide ((20:Int)<(nw:Int))=true:=by simp;omega
   have d20':decide (20<nw)=true:=by simp;omega
   go_wp2_with fail
   refine (HAW.out w2 HB2.out HS2.out).mono ?_
   rintro e w3 ⟨rfl,hb3⟩
   go_wp2_with fail
   go_ret
   exact⟨rfl,HBX.out.trans (hb3.mono (Nat.le_succ _))⟩
  have d20:decide ((20:Int)<(nw:Int))=false:=by simp;omega
  have d20':decide (20<nw)=false:=by simp;omega
  have hn12:n≤12:=by have:=HN.out;omega
  have hm12:m≤3:=by omega
  have hq40:q≤40:=by have:=HN.out;omega
  have HGR:=Lib.hid (show ∀ w':World,Below (w.heap.size+1) w1 w'→w.heap.size+1≤w'.heap.size→GramR w' w'.heap.size A1 A2 A3 n m q c1 c2 c3 (ns,ts,rs) from fun w' hb hs=>⟨H1.out.fut hb (Nat.le_refl _) hs,H2.out.fut hb (Nat.le_refl _) hs,H3.out.fut hb (Nat.le_refl _) hs,by omega⟩)
  have HMF:=Lib.hid (show ((ns,ts,rs):Gram).2.1.length≤3 by have:=HN.out;show ts.length≤3;omega)
  clear hz1 hz2 hz3
  go_wp2_with fail
  refine (make26_any k w2 (HGR.out w2 HB2.out HS2.out) (by omega) (HT.out.below (HB2.out.mono (Nat.le_of_eq HZ.out))) ?_).mono ?_
  ·intro hk s rows ha hp
   obtain⟨kk,rfl,hlg⟩:=lawG_of hk HMF.out
   obtain⟨s',e,hM⟩:=hlg.sets ha
   injection e with e
   subst e
   exact⟨made_fit hlg hM (ahead_size hlg.k4 ha).2 (by have:=HN.out;show rs.length≤40;omega) hp,rows_fit hlg hM hp⟩
  rintro e w3 ⟨hb3,hbad,hgood⟩
  have HB3:=Lib.hid (HB2.out.trans (hb3.mono HS2.out))
  have HS3:=Lib.hid (Nat.le_trans HS2.out hb3.size)
  have HCH:=Lib.hid (fun (w':World) (h:Below (w.heap.size+1) w1 w') (hs:w.heap.size+1≤w'.heap.size)=>check15_any w' (HGR.out w' h hs))
  clear hb3 a0 a1 a2
  obtain⟨a0,a1,a2⟩:=HCELL.out w3 ((HB3.out.block w.heap.size (by omega)).trans HK.out)
  by_cases hk:BadK k (ns,ts,rs)
  ·have he:=hbad hk
   subst he
   clear hbad hgood
   by_cases hk1:k<1
   ·have d2:decide (k<1)=true:=by simpa using hk1
    clear hk
    go_wp2_with fail
    refine (HAW.out w3 HB3.out HS3.out).mono ?_
    rintro e w4 ⟨rfl,hb4⟩
    go_wp2_with fail
    go_ret
    exact⟨rfl,HBX.out.trans (hb4.mono (Nat.le_succ _))⟩
   have d2:decide (k<1)=false:=by simpa using hk1
   by_cases hk4:4<k
   ·have d3:decide (4<k)=true:=by simpa using hk4
    clear hk
    go_wp2_with fail
    refine (HAW.out w3 HB3.out HS3.out).mono ?_
    rintro e w4 ⟨rfl,hb4⟩
    go_wp2_with fail
    go_ret
    exact⟨rfl,HBX.out.trans (hb4.mono (Nat.le_succ _))⟩
   have d3:decide (4<k)=false:=by simpa using hk4
   have hc0:checkN (ns,ts,rs)≠0:=by
    unfold BadK at hk
    rcases hk with h | h | h
    ·exact absurd h hk1
    ·exact absurd h hk4
    ·exact h
   obtain⟨ck,hck⟩:∃ ck,ck=check15 (ns,ts,rs):=⟨_,rfl⟩
   have d4:(ck != 0)=true:=by rw[bne_iff_ne,hck,check_eq26];exact hc0
   rw[←hck] at HCH
   clear hk hc0 hck hk1 hk4
   go_wp2_with fail
   refine (HCH.out w3 HB3.out HS3.out).mono ?_
   rintro e w4 ⟨rfl,hb4⟩
   have HB4:=Lib.hid (HB3.out.trans (hb4.mono HS3.out))
   have HS4:=Lib.hid (Nat.le_trans HS3.out hb4.size)
   clear hb4
   go_wp2_with fail
   refine (HAW.out w4 HB4.out HS4.out).mono ?_
   rintro e w5 ⟨rfl,hb5⟩
   go_wp2_with fail
   go_ret
   exact⟨rfl,HBX.out.trans (hb5.mono (Nat.le_succ _))⟩
  obtain⟨o,ho,hout⟩:=hgood hk
  have d4:check15 (ns,ts,rs)=0:=by
   rw[check_eq26]
   unfold BadK at hk
   rcases Decidable.em (checkN (ns,ts,rs)=0) with e | e
   ·exact e
   ·exact absurd (.inr (.inr e)) hk
  rw[d4] at HCH
  obtain⟨kk,rfl,hlg⟩:=lawG_of hk HMF.out
  obtain⟨s,rfl,hM⟩:=hlg.sets ho
  have hkk1:=hlg.k1
  have hkk4:=hlg.k4
  have d2:decide ((kk:Int)<1)=false:=by rw[decide_eq_false_iff_not];omega
  have d3:decide ((4:Int)<(kk:Int))=false:=by rw[decide_eq_false_iff_not];omega
  have HLG:=Lib.hid hlg
  have HM:=Lib.hid hM
  have HCO:=Lib.hid (clash_ok hlg hM)
  have HALL:=Lib.hid (fun (w':World) (h:Below (w.heap.size+1) w1 w') (hs:w.heap.size+1≤w'.heap.size)=>all23_any kk w' (HGR.out w' h hs) hlg)
  obtain⟨words,hwords⟩:∃ words,words=wordsW m kk:=⟨_,rfl⟩
  have HWW:=Lib.hid hwords
  have HWL:=Lib.hid (show words.length≤121 by rw[hwords];exact words_len hm12 hkk4)
  clear hbad hgood ho hk d4 hlg hM hwords
  rcases hout with ⟨hne,A9,c9,rfl⟩ | ⟨hnil,v,rows,rfl,hperm,hsort,hms⟩
  ·have HOK:=Lib.hid (show okB rs kk n words=false by
    rw[←Bool.not_eq_true,HWW.out]
    intro h
    refine hne ?_
    have h2:=HCO.out
    simp only at h2
    rw[←HN.out.1,←HN.out.2.1] at h2
    exact h2.2 h)
   obtain⟨nc,hnc⟩:∃ nc,nc=(clashW ((ns,ts,rs):Gram).2.2 n s).length:=⟨_,rfl⟩
   rw[←hnc]
   have hnc0:0<nc:=by rw[hnc];exact List.length_pos_iff.2 hne
   have dz1:decide ((0:Int)<(nc:Int))=true:=by rw[decide_eq_true_eq];omega
   have dz2:decide (0<nc)=true:=by rw[decide_eq_true_eq];omega
   clear hne hnc
   go_wp2_with fail
   refine (HCH.out w3 HB3.out HS3.out).mono ?_
   rintro e w4 ⟨rfl,hb4⟩
   have HB4:=Lib.hid (HB3.out.trans (hb4.mono HS3.out))
   have HS4:=Lib.hid (Nat.le_trans HS3.out hb4.size)
   clear hb4 a0 a1 a2
   obtain⟨a0,a1,a2⟩:=HCELL.out w4 ((HB4.out.block w.heap.size (by omega)).trans HK.out)
   go_wp2_with fail
   refine (HALL.out w4 HB4.out HS4.out).mono ?_
   rintro e w5 ⟨G,rfl,hG,hb5⟩
   have HB5:=Lib.hid (HB4.out.trans (hb5.mono HS4.out))
   have HS5:=Lib.hid (Nat.le_trans HS4.out hb5.size)
   rw[←HWW.out]
   simp only
   rw[HOK.out]
   clear hG hb5
   go_wp2_with fail
   refine (HAW.out w5 HB5.out HS5.out).mono ?_
   rintro e w6 ⟨rfl,hb6⟩
   go_wp2_with fail
   go_ret
   exact⟨rfl,HBX.out.trans (hb6.mono (Nat.le_succ _))⟩
  ·have hnil2:clashW rs ns.length s=[]:=by
    rw[←HN.out.1]
    exact hnil
   have HOK:=Lib.hid (show okB rs kk n words=true by
    have h2:=HCO.out
    simp only at h2
    rw[HWW.out,HN.out.1,HN.out.2.1]
    exact h2.1 hnil2)
   have hone:∀ a,a<n→∀ x∈words,(matchW rs (ahD rs kk x) (a:Int)).length≤1:=by
    have:=HOK.out
    rw[HN.out.1] at this ⊢
    exact (okB_iff (g:=(ns,ts,rs)) words).1 this
   have HLOW:=Lib.hid (rows_low HLG.out HM.out hperm)
   have HWV:=Lib.hid (show ∀ a,a<n→∀ x∈words,predictR (machsM rows n) (a:Int) x=valW rs kk a x from fun a ha x hx=>by
    rw[machs_predict HLOW.out]
    unfold saysL
    rw[if_pos (by omega),outOf_want HLOW.out]
    refine want_val HLG.out HM.out hperm a ?_ (hone a ha x hx)
    rw[←HN.out.2.1,←HWW.out]
    exact hx)
   have HWO:=Lib.hid (show ∀ a,a<n→(nw≤kk∨predictR (machsM rows n) (a:Int) wd=-1) from fun a ha=>by
    rcases Nat.lt_or_ge kk nw with hl | hl
    ·right
     rw[machs_predict HLOW.out]
     unfold saysL
     rw[if_pos (by omega),outOf_want HLOW.out]
     exact want_long HLG.out HM.out hperm a (by rw[←HNW.out];exact hl)
    ·exact .inl hl)
   obtain⟨A9,c9,rfl,h91,h92⟩:=hms.form
   unfold maxLen at h92
   rw[machs_len] at h91 hms ⊢
   have HMS:=Lib.hid hms
   have hz3:((n:Int) != (n:Int))=false:=by simp
   clear hperm hnil hnil2 hone hsort hms
   go_wp2_with fail
   refine (HCH.out w3 HB3.out HS3.out).mono ?_
   rintro e w4 ⟨rfl,hb4⟩
   have HB4:=Lib.hid (HB3.out.trans (hb4.mono HS3.out))
   have HS4:=Lib.hid (Nat.le_trans HS3.out hb4.size)
   have HMS4:=Lib.hid (HMS.out.fut hb4 (Nat.le_refl _) hb4.size)
   clear hb4 a0 a1 a2
   obtain⟨a0,a1,a2⟩:=HCELL.out w4 ((HB4.out.block w.heap.size (by omega)).trans HK.out)
   go_wp2_with fail
   refine (HALL.out w4 HB4.out HS4.out).mono ?_
   rintro e w5 ⟨G,rfl,hG,hb5⟩
   have HB5:=Lib.hid (HB4.out.trans (hb5.mono HS4.out))
   have HS5:=Lib.hid (Nat.le_trans HS4.out hb5.size)
   have HMS5:=Lib.hid (HMS4.out.fut hb5 (Nat.le_refl _) hb5.size)
   rw[←HWW.out] at hG ⊢
   have HG:=Lib.hid (show SlR (eSl eInt) w5 w5.heap.size (.slice (some ⟨G,0,none⟩) n n) ((List.range n).map fun b=>words.map (valW rs kk b)) from hG)
   simp only
   rw[HOK.out]
   clear hG hb5 a0 a1 a2
   obtain⟨a0,a1,a2⟩:=HCELL.out w5 ((HB5.out.block w.heap.size (by omega)).trans HK.out)
   go_wp2_with fail
   refine (words18_any m kk w5 hm12 hkk1 hkk4).mono ?_
   rintro e w7 ⟨v,rfl,hown,hb7⟩
   rw[←HWW.out] at hown
   have HB7:=Lib.hid (HB5.out.trans (hb7.mono HS5.out))
   have HS7:=Lib.hid (Nat.le_trans HS5.out hb7.size)
   have HMS7:=Lib.hid (HMS5.out.fut hb7 (Nat.le_refl _) hb7.size)
   have HG7:=Lib.hid (HG.out.fut hb7 (Nat.le_refl _) hb7.size)
   obtain⟨nz,hnz⟩:∃ nz,nz=words.length:=⟨_,rfl⟩
   rw[←hnz] at hown
   have HNZ:=Lib.hid hnz
   have hnz9:nz≤121:=by rw[hnz];exact HWL.out
   obtain⟨A10,c10,rfl,h101,h102⟩:=own_form hown
   have HOW:=Lib.hid hown
   clear hown hb7 hnz a0 a1 a2
   go_wp2_with fail
   go_loopg [13] n (fun lft v12 wr=>∃ a:Nat,a≤n∧n - a≤lft∧v12=.int .i64 a∧Hid (Below w7.heap.size w7 wr))
   case atStart=>exact⟨0,by omega,by omega,rfl,Below.refl _ _⟩
   case round =>
    obtain⟨a,ha,hlft,rfl,HBW⟩:=hrel
    have HB8:=Lib.hid (HB7.out.trans (HBW.out.mono HS7.out))
    have HS8:=Lib.hid (Nat.le_trans HS7.out HBW.out.size)
    obtain⟨a0,a1,a2⟩:=HCELL.out wr ((HB8.out.block w.heap.size (by omega)).trans HK.out)
    by_cases hab:a<n
    ·obtain⟨gas,hgas⟩:∃ gas,gas=gk:=⟨_,rfl⟩
     rw[←hgas] at hlft
     have HGK:=Lib.hid hgas
     clear hgas
     generalize wr=wo at *
     go_wp2_with fail
     go_loopg [14] nz (fun lf2 v13 wt=>∃ i:Nat,i≤nz∧nz - i≤lf2∧v13=.int .i64 i∧Hid (Below w7.heap.size w7 wt))
     case atStart=>exact⟨0,by omega,by omega,rfl,HBW.out⟩
     case round =>
      clear a0 a1 a2
      obtain⟨i,hi,hlf2,rfl,HBW2⟩:=hrel
      have HB9:=Lib.hid (HB7.out.trans (HBW2.out.mono HS7.out))
      have hs9:=HBW2.out.size
      have hHM:=HMS7.out.fut HBW2.out (Nat.le_refl _) hs9
      have HMS9:=Lib.hid hHM
      clear hHM
      by_cases hib:i<nz
      ·have hil:i<words.length:=by rw[←HNZ.out];exact hib
       obtain⟨b10,o10,rfl,-,hcw⟩:=(Rd.of_own (own_below HOW.out HBW2.out)).at_ (k:=i) (by rw[wcells_len];exact hil)
       have hxi:(wcells words)[i]'(by rw[wcells_len];exact hil)=wv words[i]:=by simp[wcells]
       rw[hxi] at hcw
       have hmem:=List.getElem_mem hil
       have hga:a<((List.range n).map fun b=>words.map (valW rs kk b)).length:=by simpa using hab
       obtain⟨bg,og,Ag,cg,hAG,-,-,ca,hca1,hca2,hsa⟩:=(HG7.out.below HBW2.out).slAt hga
       injection hAG with hAG
       injection hAG with e5 e6
       subst e5 e6
       have hgx:((List.range n).map fun b=>words.map (valW rs kk b))[a]=words.map (valW rs kk a):=by simp
       rw[hgx] at ca hca1 hsa
       rw[Nat.zero_add] at ca
       have hgi:i<(words.map (valW rs kk a)).length:=by simpa using hil
       obtain⟨bi,oi,cs,rfl,-,-,hrep,hcell⟩:=hsa.get hgi (by decide)
       obtain⟨rfl,hx1,hx2⟩:=hrep
       have hci:=hcell 0 _ rfl
       simp only[show eInt.size=1 from rfl,Nat.mul_one,Nat.add_zero,List.getElem_map] at hci
       rw[List.length_map,←HNZ.out] at ca hca1
       have HVW:=Lib.hid (HWV.out a hab words[i] hmem)
       have HWE:=Lib.hid (words_short (show words[i]∈wordsW m kk by rw[←HWW.out];exact hmem) (by omega:m≤256))
       obtain⟨wi,hwi⟩:∃ wi,wi=words[i]:=⟨_,rfl⟩
       rw[←hwi] at hcw HVW hci HWE
       obtain⟨Y,hY⟩:∃ Y:ByteArray,Y=⟨wi.toArray⟩:=⟨_,rfl⟩
       have hYs:Y.size=wi.length:=by rw[hY];rfl
       have hYd:Y.data.toList=wi:=by rw[hY]
       rw[show wv wi=Value.string Y by rw[hY]] at hcw
       have HPR:=predict_any (.slice A9 n c9) (machsM rows n) (a:Int) Y wr HMS9.out (by rw[hYs];have:=HWE.out;omega)
       rw[hYd,HVW.out] at HPR
       have HVB:=Lib.hid (show -1≤valW rs kk a wi from lastL_bd _)
       obtain⟨vw,hvw⟩:∃ vw,vw=valW rs kk a wi:=⟨_,rfl⟩
       rw[←hvw] at HPR HVB hci
       have HLO:=Lib.hid HPR
       clear HPR hvw hYd hYs hY hwi hxi hmem hga hgx hgi hcell hsa hil hx1 hx2 HVW HWE
       have hsg:(0≤vw)∨vw=-1:=by have:=HVB.out;omega
       have ca0:=Lib.hid ca
       have ci0:=Lib.hid hci
       rcases hsg with hs | rfl
       ·have hmx:max vw 0=vw:=by omega
        have hdm:decide (0≤vw)=true:=by rw[decide_eq_true_eq];exact hs
        rw[hmx,hdm] at HLO
        go_wp2_with fail
        refine HLO.out.mono ?_
        rintro e w9 ⟨rfl,hb9⟩
        have ca':=(hb9.cell (World.block_lt_of_cell? wr _ ca0.out)).trans ca0.out
        have hci':=(hb9.cell (World.block_lt_of_cell? wr _ ci0.out)).trans ci0.out
        have HBW9:=Lib.hid (HBW2.out.trans (hb9.mono hs9))
        clear hb9 ca hci
        go_wp2_with fail
        go_roundg (gk - 1)
        case measure=>omega
        case rel=>exact⟨i+1,by omega,by omega,by go_num,HBW9.out⟩
       ·rw[show max (-1:Int) 0=0 from rfl,show decide ((0:Int)≤-1)=false from rfl] at HLO
        go_wp2_with fail
        refine HLO.out.mono ?_
        rintro e w9 ⟨rfl,hb9⟩
        have ca':=(hb9.cell (World.block_lt_of_cell? wr _ ca0.out)).trans ca0.out
        have hci':=(hb9.cell (World.block_lt_of_cell? wr _ ci0.out)).trans ci0.out
        have HBW9:=Lib.hid (HBW2.out.trans (hb9.mono hs9))
        clear hb9 ca hci
        go_wp2_with fail
        go_roundg (gk - 1)
        case measure=>omega
        case rel=>exact⟨i+1,by omega,by omega,by go_num,HBW9.out⟩
      ·have HWA:=Lib.hid (HWO.out a hab)
       have hpr:=predict_any (.slice A9 n c9) (machsM rows n) (a:Int) X wr HMS9.out (by rw[hXs];omega)
       rw[show X.data.toList=wd by rw[HX.out]] at hpr
       obtain⟨pv,hpv⟩:∃ pv,pv=predictR (machsM rows n) (a:Int) wd:=⟨_,rfl⟩
       rw[←hpv] at hpr HWA
       have HLO:=Lib.hid hpr
       clear hpr hpv
       have hsg:(0≤pv∧nw≤kk)∨pv<0:=by have:=HWA.out;omega
       rcases hsg with ⟨hs,hnk⟩ | hs
       ·have hmx:max pv 0=pv:=by omega
        have hdm:decide (0≤pv)=true:=by rw[decide_eq_true_eq];exact hs
        have hdk:decide ((kk:Int)<(nw:Int))=false:=by rw[decide_eq_false_iff_not];omega
        have hdk':decide (kk<nw)=false:=by rw[decide_eq_false_iff_not];omega
        rw[hmx,hdm] at HLO
        go_wp2_with fail
        refine HLO.out.mono ?_
        rintro e w9 ⟨rfl,hb9⟩
        have HBW9:=Lib.hid (HBW2.out.trans (hb9.mono hs9))
        clear hb9
        go_wp2_with fail
        go_roundg (gas - 1)
        case measure=>have:=HGK.out;omega
        case rel=>exact⟨a+1,by omega,by omega,by go_num,HBW9.out⟩
       ·have hmx:max pv 0=0:=by omega
        have hdm:decide (0≤pv)=false:=by rw[decide_eq_false_iff_not];omega
        rw[hmx,hdm] at HLO
        go_wp2_with fail
        refine HLO.out.mono ?_
        rintro e w9 ⟨rfl,hb9⟩
        have HBW9:=Lib.hid (HBW2.out.trans (hb9.mono hs9))
        clear hb9
        go_wp2_with fail
        go_roundg (gas - 1)
        case measure=>have:=HGK.out;omega
        case rel=>exact⟨a+1,by omega,by omega,by go_num,HBW9.out⟩
    ·obtain rfl:n=a:=by omega
     go_wp2_with fail
     refine (HAW.out wr HB8.out HS8.out).mono ?_
     rintro e w9 ⟨rfl,hb9⟩
     go_wp2_with fail
     go_ret
     exact⟨rfl,HBX.out.trans (hb9.mono (Nat.le_succ _))⟩
end Go.Proofs.YtfpihflepeiagaaGreatDoor
namespace Go.Proofs.YtfpihflepeiagaaGreatDoor
open Go.ChangeMaps (open_string)
open Go.ChangeShapes Go.WideShapes Go.ChangeAt Go.RowKit

theorem own:ownKnob Tryz.prog.godebug=none:=by kernel_rfl
theorem laidOut:laidOutB Tryz.prog=true:=by kernel_rfl
section
variable {H:Type} {enc:TypeId×Value→H}
theorem opens_strs:Opens enc Tryz.prog (eSl eStr) 22:=opens_sl (opens_str Tryz.underlying9) Tryz.underlying22 (by kernel_rfl) (by decide)
theorem opens_ints:Opens enc Tryz.prog (eSl eInt) 39:=opens_sl (opens_int Tryz.underlying3) Tryz.underlying39 (by kernel_rfl) (by decide)
theorem opens_rule:Opens enc Tryz.prog eRule 55:=opens_two Tryz.underlying55 (opens_int Tryz.underlying3) opens_ints (by kernel_rfl) (by kernel_rfl) rfl rfl (by kernel_rfl)
theorem opens_rules:Opens enc Tryz.prog (eSl eRule) 23:=opens_sl opens_rule Tryz.underlying23 (by kernel_rfl) (by decide)
def eGram:Elt Gram:=eProd (eSl eStr) (eProd (eSl eStr) (eSl eRule))
theorem opens_gram:Opens enc Tryz.prog eGram 25:=opens_three Tryz.underlying25 opens_strs opens_strs opens_rules (by kernel_rfl) (by kernel_rfl) (by kernel_rfl) rfl rfl rfl (by kernel_rfl)
end
end Go.Proofs.YtfpihflepeiagaaGreatDoor
namespace Go.Proofs.YtfpihflepeiagaaGreatDoor
open Go.ChangeShapes Go.WideShapes Go.ChangeAt Go.RowKit

abbrev list26:List (String×DataW Unit):=Rows.ladfaOfRow.laid
theorem gTab : Tryz.prog.globalNamed "internal/strconv.uint64pow10" = some 1 := by kernel_rfl
theorem gTabType:(Tryz.prog.globals[1]?).map (·.type)=some 201:=by kernel_rfl
theorem cellsTab:Tryz.prog.cellsOf 201=20:=by kernel_rfl
theorem cellsU64:Tryz.prog.cellsOf 153=1:=by kernel_rfl
theorem tabP_of {W:World} (h:laidMetH Tryz.prog list26 W):TabP W:=by
 have h0:laidMet Tryz.prog list26 W:=h
 exact Lib.tabIs_of_head gTab gTabType Tryz.underlying201 Tryz.underlying153 cellsU64 cellsTab h0.tail.tail
def tab32:Array Value:=(#[0,1,28,2,29,14,24,3,30,22,20,15,25,17,4,8,31,27,13,23,21,19,16,7,26,12,18,6,11,5,10,9]:Array Int).map fun z=>.int .u8 z
def tab64:Array Value:=(#[0,1,56,2,57,49,28,3,61,58,42,50,38,29,17,4,62,47,59,36,45,43,51,22,53,39,33,30,24,18,12,5,63,55,48,27,60,41,37,16,46,35,44,21,52,32,23,11,54,26,40,15,34,20,31,10,25,14,19,9,13,8,7,6]:Array Int).map fun z=>.int .u8 z
def tabPow:Array Value:=(#[1,10,100,1000,10000,100000,1000000,10000000,100000000,1000000000,10000000000,100000000000,1000000000000,10000000000000,100000000000000,1000000000000000,10000000000000000,100000000000000000,1000000000000000000,10000000000000000000]:Array Int).map fun z=>.int .u64 z
def putIn (cs:Array Value):Obj→Obj
 |.cells _ t frozen=>.cells cs t frozen
 |o=>o
noncomputable def laidWorld (os:Os):World :=
 let w0:=World.holding Tryz.prog os ⟨#[],#[],[]⟩
 { w0 with heap:=((w0.heap.modify 2 (putIn tab32)).modify 3 (putIn tab64)).modify 1 (putIn tabPow) }
theorem laid26_met (os:Os) (args:Array Value):laidMet Tryz.prog list26 ((laidWorld os).forCall (fun _ _=>0) ⟨#[],args,[]⟩).memory :=
 laidMet_of_run' 8 (by kernel_rfl) (by kernel_rfl)
end Go.Proofs.YtfpihflepeiagaaGreatDoor
