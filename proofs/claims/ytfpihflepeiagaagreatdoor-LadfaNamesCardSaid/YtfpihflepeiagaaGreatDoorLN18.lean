/- Texts of this proof joined: First3, Follow1. -/
import Derived.Test.YtfpihflepeiagaaGreatDoorLN17
import Derived.Deep.LoopGhost
namespace Go.Proofs.YtfpihflepeiagaaGreatDoor
open Go.RowKit Go.Sort

def BadK (k:Int) (g:Gram):Prop:=k<1∨4<k∨checkN g≠0
def SetsOut (w':World) (o:Option Sets) (e:Ending):Prop :=
 match o with
 |none=>e=.returned (.tuple #[.slice none 0 0,.int .i64 21])
 |some s=>∃ A c,e=.returned (.tuple #[.slice A s.length c,.int .i64 0])∧SlR (eSl eW) w' w'.heap.size (.slice A s.length c) s∧SetsB s
def FirstRes (k:Int) (g:Gram) (w:World) (e:Ending) (w':World):Prop :=
 Below w.heap.size w w'∧(BadK k g→e=.returned (.tuple #[.slice none 0 0,.int .i64 1]))∧(¬ BadK k g→∃ o,FirstTo k g.2.2 g.1.length o∧SetsOut w' o e)
theorem check0_good {g:Gram} (h:checkN g=0):gramB g=true∧GoodG g∧wellE g.1.length g.2.1.length g.2.2=0:=by
 unfold checkN at h
 cases hv:gramB g with
 |false=>rw[hv] at h;cases h
 |true=>rw[hv] at h;exact⟨rfl,gramB_good hv,h⟩
set_option maxRecDepth 100000 in
set_option maxHeartbeats 16000000 in
theorem firstSets_any {A1 A2 A3:Option Addr} {n m q c1 c2 c3:Nat} {g:Gram} (k:Int) (w:World) (h:GramR w w.heap.size A1 A2 A3 n m q c1 c2 c3 g) :
  Calls Tryz.prog 60 #[gramV A1 A2 A3 n m q c1 c2 c3,.int .i64 k] w (FirstRes k g w):=by
 have hb1:=(Below.refl w.heap.size w).alloc (Nat.le_refl _) (.cells #[.slice A1 n c1,.slice A2 m c2,.slice A3 q c3] 25)
 have z1:=World.size_alloc w (.cells #[.slice A1 n c1,.slice A2 m c2,.slice A3 q c3] 25)
 have k1:=Go.heap_alloc_new w (.cells #[.slice A1 n c1,.slice A2 m c2,.slice A3 q c3] 25)
 have hb2:=(Below.refl _ (w.alloc (.cells #[.slice A1 n c1,.slice A2 m c2,.slice A3 q c3] 25))).alloc (Nat.le_refl _) (.cells #[.int .i64 k] 3)
 have z2:=World.size_alloc (w.alloc (.cells #[.slice A1 n c1,.slice A2 m c2,.slice A3 q c3] 25)) (.cells #[.int .i64 k] 3)
 have k2:=heap_two w (.cells #[.slice A1 n c1,.slice A2 m c2,.slice A3 q c3] 25) (.cells #[.int .i64 k] 3)
 have HB:=Lib.hid (hb1.trans (hb2.mono (by rw[z1];omega)))
 have HZ:=Lib.hid (z2.trans (by rw[z1]))
 have HKG:=Lib.hid ((hb2.block w.heap.size (by rw[z1];omega)).trans k1)
 have HKK:=Lib.hid k2
 have HV:=Lib.hid (h.fut HB.out (Nat.le_refl _) (Nat.le_refl _))
 have HL:=Lib.hid h.ln
 have hsm:=h.small
 have c1':((w.alloc (.cells #[.slice A1 n c1,.slice A2 m c2,.slice A3 q c3] 25)).alloc (.cells #[.int .i64 k] 3)).cell? ⟨w.heap.size+1,0,none⟩=some (.int .i64 k):=by rw[cell_of_row _ _ _ _ _ _ HKK.out];rfl
 have g0:((w.alloc (.cells #[.slice A1 n c1,.slice A2 m c2,.slice A3 q c3] 25)).alloc (.cells #[.int .i64 k] 3)).cell? ⟨w.heap.size,0,none⟩=some (.slice A1 n c1):=by rw[cell_of_row _ _ _ _ _ _ HKG.out];rfl
 have g1:((w.alloc (.cells #[.slice A1 n c1,.slice A2 m c2,.slice A3 q c3] 25)).alloc (.cells #[.int .i64 k] 3)).cell? ⟨w.heap.size,1,none⟩=some (.slice A2 m c2):=by rw[cell_of_row _ _ _ _ _ _ HKG.out];rfl
 have g2:((w.alloc (.cells #[.slice A1 n c1,.slice A2 m c2,.slice A3 q c3] 25)).alloc (.cells #[.int .i64 k] 3)).cell? ⟨w.heap.size,2,none⟩=some (.slice A3 q c3):=by rw[cell_of_row _ _ _ _ _ _ HKG.out];rfl
 clear h hb1 z1 k1 hb2 z2 k2
 by_cases hk1:k<1
 ·have HBAD:=Lib.hid (show BadK k g from .inl hk1)
  go_enter Tryz.func60,Tryz.ntmps60
  go_wp2_with fail
  go_step3
  go_wp2_with fail
  try rw[Exit.noGoto_ret]
  go_ret2
  exact⟨HB.out,fun _=>rfl,fun h=>absurd HBAD.out h⟩
 by_cases hk4:4<k
 ·have HBAD:=Lib.hid (show BadK k g from .inr (.inl hk4))
  go_enter Tryz.func60,Tryz.ntmps60
  go_wp2_with fail
  go_step3
  go_wp2_with fail
  try rw[Exit.noGoto_ret]
  go_ret2
  exact⟨HB.out,fun _=>rfl,fun h=>absurd HBAD.out h⟩
 obtain⟨kk,hkk⟩:∃ kk:Nat,k=(kk:Int):=⟨k.toNat,by omega⟩
 subst hkk
 have hkd1:decide ((kk:Int)<1)=false:=by rw[decide_eq_false_iff_not];omega
 have hkd4:decide (4<(kk:Int))=false:=by rw[decide_eq_false_iff_not];omega
 go_enter Tryz.func60,Tryz.ntmps60
 go_wp2_with fail
 go_step3
 go_wp2_with fail
 generalize (w.alloc (.cells #[.slice A1 n c1,.slice A2 m c2,.slice A3 q c3] 25)).alloc (.cells #[.int .i64 kk] 3)=w1 at *
 refine (check_any w1 (HV.out.fut (N:=w1.heap.size) (B':=w1.heap.size) (Below.refl _ _) (by rw[HZ.out];omega) (by rw[HZ.out];omega))).mono ?_
 rintro e w2 ⟨rfl,hb2⟩
 have HB2:=Lib.hid (HB.out.trans (hb2.mono (by rw[HZ.out];omega)))
 have HB12:=Lib.hid (show Below (w.heap.size+2) w1 w2 from hb2.mono (Nat.le_of_eq HZ.out.symm))
 by_cases hc0:checkN g=0
 rotate_left
 ·have HBAD:=Lib.hid (show BadK kk g from .inr (.inr hc0))
  have hcb:(checkN g==0)=false:=by rw[beq_eq_false_iff_ne];exact hc0
  clear hc0
  go_wp2_with fail
  try rw[Exit.noGoto_ret]
  go_ret2
  exact⟨HB2.out,fun _=>rfl,fun h=>absurd HBAD.out h⟩
 ·have HOKK:=Lib.hid (show ¬ BadK kk g from fun h=>by rcases h with h | h | h;omega;omega;exact h hc0)
  have HGG:=Lib.hid (check0_good hc0)
  rw[hc0]
  have HKG2:=Lib.hid ((HB12.out.block w.heap.size (by omega)).trans HKG.out)
  have HKK2:=Lib.hid ((HB12.out.block (w.heap.size+1) (by omega)).trans HKK.out)
  have HZ2:=Lib.hid (show w.heap.size+2≤w2.heap.size by have:=hb2.size;rw[HZ.out] at this;exact this)
  have HN:=Lib.hid (show 1≤n∧n≤256 by have h1:=HGG.out.2.1.n1;have h2:=HGG.out.2.1.nm;have:=HL.out.1;omega)
  have g0:w2.cell? ⟨w.heap.size,0,none⟩=some (.slice A1 n c1):=by rw[cell_of_row _ _ _ _ _ _ HKG2.out];rfl
  have hmk:=strs_make n (by have:=HN.out;omega) w2
  have HG3:=Lib.hid (Go.heap_alloc_new w2 (.cells (List.replicate n (Value.slice none 0 0)).toArray 22))
  have HZ3:=Lib.hid (World.size_alloc w2 (.cells (List.replicate n (Value.slice none 0 0)).toArray 22))
  have HB3:=Lib.hid ((Below.refl w2.heap.size w2).alloc (Nat.le_refl _) (.cells (List.replicate n (Value.slice none 0 0)).toArray 22))
  obtain⟨w3,hw3⟩:∃ w3,w3=w2.alloc (.cells (List.replicate n (Value.slice none 0 0)).toArray 22):=⟨_,rfl⟩
  rw[←hw3] at hmk HG3 HZ3 HB3
  obtain⟨gr,hgr⟩:∃ gr,gr=w2.heap.size:=⟨_,rfl⟩
  rw[←hgr] at hmk HG3 HZ3
  have HGR:=Lib.hid hgr
  clear hc0 hb2 hw3 hgr
  go_wp2_with fail
  go_step3
  go_wp2_with fail
  have hz31:(w3.alloc (.cells #[.slice (some ⟨gr,0,none⟩) n n] 81)).heap.size=w3.heap.size+1:=World.size_alloc _ _
  have hb4:Below w3.heap.size w3 ((w3.alloc (.cells #[.slice (some ⟨gr,0,none⟩) n n] 81)).alloc (.cells #[.bool false] 4)):=((Below.refl _ _).alloc (Nat.le_refl _) _).alloc (by rw[hz31];omega) _
  have hZ4:((w3.alloc (.cells #[.slice (some ⟨gr,0,none⟩) n n] 81)).alloc (.cells #[.bool false] 4)).heap.size=w3.heap.size+2:=by rw[World.size_alloc,hz31]
  have hS4:((w3.alloc (.cells #[.slice (some ⟨gr,0,none⟩) n n] 81)).alloc (.cells #[.bool false] 4)).heap[w3.heap.size]? = some (.cells #[.slice (some ⟨gr,0,none⟩) n n] 81 (0,0)):=by
   rw[Below.heap_alloc _ _ _ (by rw[hz31];omega)]
   exact Go.heap_alloc_new w3 _
  have hG4:=heap_two w3 (.cells #[.slice (some ⟨gr,0,none⟩) n n] 81) (.cells #[.bool false] 4)
  have HST:=Lib.hid (show FirstSt ((w3.alloc (.cells #[.slice (some ⟨gr,0,none⟩) n n] 81)).alloc (.cells #[.bool false] 4)) gr w3.heap.size (w.heap.size+1) (w3.heap.size+1) (w3.heap.size+2) (w.heap.size+2) n kk (List.replicate n []) false from by
   have hgr2:=HGR.out
   have hz2:=HZ2.out
   have hz3:=HZ3.out
   refine⟨RowHi.start ((hb4.block gr (by rw[hz3];omega)).trans HG3.out),by simp,SetsB.replicate n,AllAsc.replicate n,hS4,(hb4.block _ (by rw[hz3];omega)).trans ((HB3.out.block _ (by omega)).trans HKK2.out),hG4,by omega,by omega,by omega,by omega,by omega,by omega,by omega,by rw[hZ4];omega,by omega,by omega,by omega⟩)
  have HBW:=Lib.hid (show Below (w.heap.size+2) w1 ((w3.alloc (.cells #[.slice (some ⟨gr,0,none⟩) n n] 81)).alloc (.cells #[.bool false] 4)) from (HB12.out.trans (HB3.out.mono HZ2.out)).trans (hb4.mono (by have:=HZ3.out;have:=HGR.out;have:=HZ2.out;omega)))
  have HS3:=Lib.hid (show w.heap.size+2≤w3.heap.size by have:=HZ3.out;have:=HGR.out;have:=HZ2.out;omega)
  clear hz31 hb4 hZ4 hS4 hG4 hmk
  obtain⟨s3,hs3⟩:∃ s3,s3=w3.heap.size:=⟨_,rfl⟩
  rw[←hs3] at HST HS3 ⊢
  generalize (w3.alloc (.cells #[.slice (some ⟨gr,0,none⟩) n n] 81)).alloc (.cells #[.bool false] 4)=w4 at *
  clear hs3
  go_loopg [] (4096*n) (fun gas wr=>∃ (sets:Sets) (b:Bool),Hid (FirstSt wr gr s3 (w.heap.size+1) (s3+1) (s3+2) (w.heap.size+2) n kk sets b)∧Hid (∀ o,RoundsTo (firstRound kk g.2.2) sets o→FirstTo kk g.2.2 n o)∧Hid (4096*n≤gas+tot sets)∧Hid (Below (w.heap.size+2) w1 wr))
  case atStart=>exact⟨List.replicate n [],false,HST.out,fun o h=>h,Nat.le_add_right _ _,HBW.out⟩
  case round =>
   clear HST HBW g0
   obtain⟨sets,b,HST,HRO,HGAS,HBW⟩:=hrel
   obtain⟨gas,hgas⟩:∃ gas,gas=gk:=⟨_,rfl⟩
   rw[←hgas] at HGAS
   have HGK:=Lib.hid hgas
   clear hgas
   have cG:=cell0 HST.out.bG
   have fG:wr.frozen? ⟨s3+1,0,none⟩=false:=by simp[World.frozen?,HST.out.bG]
   have kg:=(HBW.out.block w.heap.size (by omega)).trans HKG.out
   have g0:wr.cell? ⟨w.heap.size,0,none⟩=some (.slice A1 n c1):=by rw[cell_of_row _ _ _ _ _ _ kg];rfl
   have g2':wr.cell? ⟨w.heap.size,2,none⟩=some (.slice A3 q c3):=by rw[cell_of_row _ _ _ _ _ _ kg];rfl
   have hne:w.heap.size≠s3+1:=by have:=HS3.out;omega
   have HST0:=Lib.hid (HST.out.setG false)
   have HB0:=Lib.hid (show Below (w.heap.size+2) w1 (wr.setCell ⟨s3+1,0,none⟩ (.bool false)) from Below.setCell (p:=⟨s3+1,0,none⟩) HBW.out (by show w.heap.size+2≤s3+1;have:=HS3.out;omega) _)
   clear kg
   go_wp2_with fail
   go_loopg [30] q (fun left v30 wt=>∃ (j:Nat) (sets':Sets) (b':Bool),j≤q∧q - j≤left∧v30=.int .i64 j∧Hid (FirstSt wt gr s3 (w.heap.size+1) (s3+1) (s3+2) (w.heap.size+2) n kk sets' b')∧Hid (firstRound kk g.2.2 sets=roundW kk (g.2.2.drop j) (sets',b'))∧Hid (tot sets≤tot sets'∧(b'=true→tot sets<tot sets'))∧Hid (Below (w.heap.size+2) w1 wt))
   case atStart=>exact⟨0,sets,false,by omega,by omega,rfl,HST0.out,rfl,⟨Nat.le_refl _,fun h=>by cases h⟩,HB0.out⟩
   case round =>
    clear HST0 HB0 cG fG g0 g2' HST HBW
    obtain⟨j,sets',b',hj,hleft,rfl,HST,HRW,HTOT,HBW⟩:=hrel
    by_cases hjq:j<q
    ·have hjl:j<g.2.2.length:=by rw[←HL.out.2.2];exact hjq
     have HRULES:=Lib.hid (HV.out.rules.below (HBW.out.mono (by omega)))
     obtain⟨bb,off,cs,rfl,_,hbl,hrep,hcell⟩:=HRULES.out.get (k:=j) hjl (by decide)
     obtain⟨v,rfl,hsl,hz1',hz2'⟩:=eRule_open hrep
     obtain⟨A5,c5,rfl,hl5,hl6⟩:=hsl.form
     have hc0:=hcell 0 _ rfl
     have hc1:=hcell 1 _ rfl
     simp only[show eRule.size=2 from rfl,Nat.add_zero,←Nat.add_assoc] at hc0 hc1
     have HRW2:=Lib.hid (show firstRound kk g.2.2 sets=(growW kk sets' g.2.2[j]).bind fun t=>roundW kk (g.2.2.drop (j+1)) (t.1,b'||t.2) by rw[HRW.out,List.drop_eq_getElem_cons hjl];rfl)
     have hfit:=HGG.out.2.1.fit _ (List.getElem_mem hjl)
     obtain⟨r,hr⟩:∃ r,r=g.2.2[j]:=⟨_,rfl⟩
     rw[←hr] at hc0 hc1 HRW2 hsl hz1' hz2' hl5 hfit
     obtain⟨r1,r2⟩:=r
     obtain⟨a,rfl⟩:∃ a:Nat,r1=(a:Int):=⟨r1.toNat,by have:=hfit.1;simp only at this;omega⟩
     simp only at hc0 hc1 hsl hl5 hfit hz2'
     obtain⟨ql,hql⟩:∃ ql,ql=r2.length:=⟨_,rfl⟩
     rw[←hql] at hc1 hsl hl5
     have HQL:=Lib.hid hql
     have HSL:=Lib.hid hsl
     have HFIT:=Lib.hid hfit
     have han:a<n:=by have:=hfit.2.1;have:=HL.out.1;omega
     clear hcell hrep hr hql hsl hjl HRW hfit hz1'
     go_wp2_with fail
     have hbx:=(Below.refl wr.heap.size wr).alloc (Nat.le_refl _) (.cells #[.int .i64 a,.slice A5 ql c5] 55)
     have HST1:=Lib.hid (HST.out.below hbx)
     have HBX:=Lib.hid hbx
     have HWS:=Lib.hid (show w.heap.size+2≤wr.heap.size by have:=HST.out.le;omega)
     refine (growF_any _ gr s3 (w.heap.size+1) (s3+1) (s3+2) (w.heap.size+2) n kk w.heap.size sets' b' a r2 A5 ql c5 HST1.out (by omega) (by omega) han HN.out.2 HQL.out (HSL.out.below (HBX.out.mono (by have:=HWS.out;omega))) (by rw[World.size_alloc];have:=HWS.out;omega)).mono ?_
     rintro e w6 ⟨hb6,he⟩
     have HB6:=Lib.hid (HBW.out.trans ((HBX.out.mono HWS.out).trans hb6))
     clear hbx hb6
     cases ho:growW (kk:Int) sets' ((a:Int),r2) with
     |none =>
      rw[ho] at he
      subst he
      have HFAIL:=Lib.hid (HRO.out none (.fail (by rw[HRW2.out,ho];rfl)))
      clear ho
      go_wp2_with fail
      try rw[Exit.noGoto_ret]
      go_ret2
      exact⟨HB.out.trans (HB6.out.mono (by omega)),fun h=>absurd h HOKK.out,fun _=>⟨none,by rw[←HL.out.1];exact HFAIL.out,rfl⟩⟩
     |some t =>
      obtain⟨s',g'⟩:=t
      rw[ho] at he
      obtain⟨rfl,hst⟩:=he
      have HST6:=Lib.hid hst
      have HRW6:=Lib.hid (show firstRound kk g.2.2 sets=roundW kk (g.2.2.drop (j+1)) (s',b'||g') by rw[HRW2.out,ho];rfl)
      have HTOT6:=Lib.hid (show tot sets≤tot s'∧((b'||g')=true→tot sets<tot s') by
       obtain⟨_,_,_,t4,t5⟩:=growW_b (by omega) HST.out.small HST.out.asc (by simp only[Int.toNat_natCast];rw[HST.out.len];exact han) ho
       have h1:=HTOT.out
       refine⟨by omega,fun h=>?_⟩
       rw[Bool.or_eq_true] at h
       rcases h with h | h
       ·have:=h1.2 h;omega
       ·have:=t5 h;omega)
      clear ho hst
      go_wp2_with fail
      go_roundg (gk - 1)
      case measure=>omega
      case rel=>exact⟨j+1,s',b'||g',by omega,by omega,by go_num,HST6.out,HRW6.out,HTOT6.out,HB6.out⟩
    ·have HRWE:=Lib.hid (show firstRound kk g.2.2 sets=some (sets',b') by
      rw[HRW.out,show j=g.2.2.length by rw[←HL.out.2.2];omega,List.drop_length];rfl)
     have cG:=cell0 HST.out.bG
     have cS:=cell0 HST.out.bS
     clear HRW
     cases b' with
     |false =>
      have HFT:=Lib.hid (HRO.out (some sets') (.done HRWE.out))
      have HSL:=Lib.hid (HST.out.row.sl (by rw[HST.out.len];have:=HN.out;unfold maxLen;omega))
      go_wp2_with fail
      try rw[Exit.noGoto_ret]
      go_ret2
      refine⟨HB.out.trans (HBW.out.mono (by omega)),fun h=>absurd h HOKK.out,fun _=>⟨some sets',by rw[←HL.out.1];exact HFT.out,some ⟨gr,0,none⟩,sets'.length,?_,HSL.out,HST.out.small⟩⟩
      rw[HST.out.len]
      rfl
     |true =>
      have HMORE:=Lib.hid (fun (o:Option Sets) (h:RoundsTo (firstRound kk g.2.2) sets' o)=>HRO.out o (.more HRWE.out h))
      have htl:=tot_le sets' HST.out.small
      rw[HST.out.len] at htl
      have HTL:=Lib.hid htl
      clear htl
      go_wp2_with fail
      go_roundg (gas - 1)
      case measure=>have h1:=HGK.out;have h2:=HTOT.out.2 trivial;have h3:=HTL.out;have h4:=HGAS.out;omega
      case rel=>exact⟨sets',true,HST.out,HMORE.out,(show 4096*n≤gas - 1+tot sets' by have h2:=HTOT.out.2 trivial;have h4:=HGAS.out;omega),HBW.out⟩
end Go.Proofs.YtfpihflepeiagaaGreatDoor
namespace Go.Proofs.YtfpihflepeiagaaGreatDoor
open Go.RowKit Go.Sort

theorem SlR.dropI {w:World} {B:Nat} {A:Option Addr} {n c:Nat} {xs:List Int} (h:SlR eInt w B (.slice A n c) xs) (p:Nat) (hp:p≤n):SlR eInt w B (.slice (if c=p then A else A.map (·.add p)) (xs.drop p).length (c - p)) (xs.drop p):=by
 obtain⟨A',c',css,e,h1,h2,h3,h4,h5⟩:=h
 injection e with e1 e2 e3
 subst e1 e2 e3
 have hfl:∀ (cs:List (List Value)),(∀ x∈cs,x.length=1)→∀ q,(cs.drop q).flatten=cs.flatten.drop q:=by
  intro cs
  induction cs with
  |nil=>intro _ q;simp
  |cons x l ih =>
   intro hx q
   cases q with
   |zero=>rfl
   |succ q =>
    rw[List.drop_succ_cons,ih (fun y hy=>hx y (by simp[hy])) q,List.flatten_cons]
    have h1:=hx x (by simp)
    obtain⟨y,rfl⟩:=List.length_eq_one_iff.1 h1
    rfl
 have hone:∀ x∈css,x.length=1:=SlR.lens (E:=eInt) h3 h5
 have hlen:css.flatten.length=css.length:=by
  have:∀ (cs:List (List Value)),(∀ x∈cs,x.length=1)→cs.flatten.length=cs.length:=by
   intro cs
   induction cs with
   |nil=>intro _;rfl
   |cons x l ih=>intro hx;rw[List.flatten_cons,List.length_append,ih (fun y hy=>hx y (by simp[hy])),hx x (by simp),List.length_cons];omega
  exact this css hone
 refine⟨_,_,css.drop p,rfl,by rw[List.length_drop];omega,by omega,by rw[List.length_drop,List.length_drop,h3],?_,fun i cs x hc hx=>?_⟩
 ·rw[hfl css hone p]
  exact h4.drop_ p (fun hlt=>by omega)
 ·rw[List.getElem?_drop] at hc hx
  exact h5 _ cs x hc hx
def BehindRes (w:World) (o:Option (List Wd)) (e:Ending) (w':World):Prop :=
 Below w.heap.size w w'∧match o with
 |none=>e=.returned (.tuple #[.slice none 0 0,.bool false])
 |some x=>∃ v,e=.returned (.tuple #[v,.bool true])∧w'.ownsRow w.heap.size 9 1 v x.length (wcells x)
set_option maxRecDepth 100000 in
set_option maxHeartbeats 8000000 in
theorem behind_any (A1 A2 A:Option Addr) (c1 c2 c q n n2 k a p:Nat) (sets fol:Sets) (r:List Int) (w:World) (hk1:1≤k) (hk2:k≤4) (h1:SlR (eSl eW) w w.heap.size (.slice A1 n c1) sets) (h2:SlR (eSl eW) w w.heap.size (.slice A2 n2 c2) fol) (hr:SlR eInt w w.heap.size (.slice A q c) r) (hq:q≤64) (hp:p≤q) (ha:a<n2) (hs:Sized sets) (hf:Sized fol) :
  Calls Tryz.prog 61 #[.slice A1 n c1,.slice A2 n2 c2,.int .i64 k,ruleV a A q c,.int .i64 ((p:Int) - 1)] w (BehindRes w (behindW sets fol k ((a:Int),r) ((p:Int) - 1))):=by
 have hqn:=hr.n_eq
 have hnn:=h1.n_eq
 have hn2n:=h2.n_eq
 have hbx:=(Below.refl w.heap.size w).alloc (Nat.le_refl _) (.cells #[.int .i64 a,.slice A q c] 55)
 have HW:Hid (behindW sets fol k ((a:Int),r) ((p:Int) - 1)=(ofW sets k (r.drop p)).bind fun x=>catW k x (fol.getD a [])):=by
  show _=_
  unfold behindW
  simp only
  rw[if_neg (by omega),show (((p:Int) - 1)+1).toNat=p by omega,Int.toNat_natCast]
 have hof:=firstOf_any A1 (if c=p then A else A.map (·.add p)) c1 (c - p) k sets (r.drop p) (w.alloc (.cells #[.int .i64 a,.slice A q c] 55)) hk1 hk2 (by rw[←hnn];exact h1.fut hbx (Nat.le_refl _) hbx.size) ((hr.fut hbx (Nat.le_refl _) hbx.size).dropI p hp) hs
 rw[←hnn,List.length_drop,←hqn] at hof
 have HOF:=Lib.hid hof
 have HFOL:=Lib.hid h2
 have HF:=Lib.hid hf
 have HBX:=Lib.hid hbx
 have HZ:=Lib.hid (World.size_alloc w (.cells #[.int .i64 a,.slice A q c] 55))
 have HK:=Lib.hid (Go.heap_alloc_new w (.cells #[.int .i64 a,.slice A q c] 55))
 have HN2:=Lib.hid hn2n
 have hcq:=hr.n_le
 have hd1:decide (((p:Int) - 1) < -1)=false:=by rw[decide_eq_false_iff_not];omega
 have hd2:decide ((q:Int)≤(p:Int) - 1)=false:=by rw[decide_eq_false_iff_not];omega
 have hd3:decide ((a:Int)<0)=false:=by rw[decide_eq_false_iff_not];omega
 have hd4:decide ((n2:Int)≤(a:Int))=false:=by rw[decide_eq_false_iff_not];omega
 have hpp:((p:Int) - 1)+1=p:=by omega
 clear h1 h2 hr hs hf hbx hof hqn hnn hn2n
 by_cases hcp:c=p
 ·rw[if_pos hcp] at HOF
  have hc0:c - p=0:=by omega
  have hq0:q - p=0:=by omega
  rw[hc0,hq0] at HOF
  clear hc0 hq0
  subst hcp
  go_enter Tryz.func61,Tryz.ntmps61
  go_wp2_with fail
  generalize w.alloc (.cells #[.int .i64 a,.slice A q c] 55)=w1 at *
  refine HOF.out.mono ?_
  rintro e w2 ⟨hb2,he⟩
  have HB2:=Lib.hid (HBX.out.trans (hb2.mono (by rw[HZ.out];omega)))
  have HK2:=Lib.hid ((hb2.block w.heap.size (by rw[HZ.out];omega)).trans HK.out)
  clear hb2 HOF
  cases ho:ofW sets (k:Int) (r.drop c) with
  |none =>
   rw[ho] at he
   subst he
   have HN:=Lib.hid (show behindW sets fol k ((a:Int),r) ((c:Int) - 1)=none by rw[HW.out,ho];rfl)
   clear ho
   go_wp2_with fail
   go_ret2
   refine⟨HB2.out,?_⟩
   rw[HN.out]
   rfl
  |some x =>
   rw[ho] at he
   obtain⟨Ax,cx,rfl,hsx⟩:=he
   have HX:=Lib.hid (ofW_b hk2 ho)
   have HWX:=Lib.hid (show behindW sets fol k ((a:Int),r) ((c:Int) - 1)=catW k x (fol.getD a []) by rw[HW.out,ho];rfl)
   have HSX:=Lib.hid hsx
   have hal:a<fol.length:=by rw[←HN2.out];exact ha
   obtain⟨b,off,A9,c9,rfl,_,hbl,hcell,hsl,h5,h6⟩:=(HFOL.out.fut HB2.out (Nat.le_refl _) HB2.out.size).row1 hal
   have HFS:=Lib.hid (HF.out a _ (List.getElem?_eq_getElem hal))
   have HGD:=Lib.hid (show fol.getD a []=fol[a] by rw[List.getD_eq_getElem?_getD,List.getElem?_eq_getElem hal];rfl)
   obtain⟨f,hf⟩:∃ f,f=fol[a]:=⟨_,rfl⟩
   rw[←hf] at hcell hsl h5 HFS HGD
   have hcat:=wsetCat_any k Ax A9 cx c9 x f w2 hk1 hk2 HSX.out hsl HX.out.1 HFS.out.1 (by
    have e1:=HX.out.2;have e2:=HFS.out.2
    exact Nat.le_trans (Nat.mul_le_mul e1 e2) (by decide))
   obtain⟨qx,hqx⟩:∃ qx,qx=x.length:=⟨_,rfl⟩
   obtain⟨qf,hqf⟩:∃ qf,qf=f.length:=⟨_,rfl⟩
   rw[←hqx,←hqf] at hcat
   rw[←hqx]
   rw[←hqf] at hcell h5
   have HCAT:=Lib.hid hcat
   have c0:w2.cell? ⟨w.heap.size,0,none⟩=some (.int .i64 a):=by rw[cell_of_row _ _ _ _ _ _ HK2.out];rfl
   clear ho hsx hal hsl hf hqx hqf hcat
   go_wp2_with fail
   refine HCAT.out.mono ?_
   rintro e w3 ⟨hb3,he⟩
   have HB3:=Lib.hid (HB2.out.trans (hb3.mono HB2.out.size))
   rw[HGD.out] at HWX
   clear hb3
   cases h2:catW (k:Int) x f with
   |none =>
    rw[h2] at he
    subst he
    have HN:=Lib.hid (show behindW sets fol k ((a:Int),r) ((c:Int) - 1)=none by rw[HWX.out,h2])
    clear h2
    go_wp2_with fail
    go_ret2
    refine⟨HB3.out,?_⟩
    rw[HN.out]
    rfl
   |some z =>
    rw[h2] at he
    obtain⟨v,rfl,hown⟩:=he
    have HS:=Lib.hid (show behindW sets fol k ((a:Int),r) ((c:Int) - 1)=some z by rw[HWX.out,h2])
    have HO:=Lib.hid (own_more hown HB2.out.size)
    obtain⟨A8,c8,rfl,_,_⟩:=own_form hown
    clear h2 hown
    go_wp2_with fail
    go_ret2
    refine⟨HB3.out,?_⟩
    rw[HS.out]
    exact⟨_,rfl,HO.out⟩
 ·rw[if_neg hcp] at HOF
  go_enter Tryz.func61,Tryz.ntmps61
  go_wp2_with fail
  generalize w.alloc (.cells #[.int .i64 a,.slice A q c] 55)=w1 at *
  refine HOF.out.mono ?_
  rintro e w2 ⟨hb2,he⟩
  have HB2:=Lib.hid (HBX.out.trans (hb2.mono (by rw[HZ.out];omega)))
  have HK2:=Lib.hid ((hb2.block w.heap.size (by rw[HZ.out];omega)).trans HK.out)
  clear hb2 HOF
  cases ho:ofW sets (k:Int) (r.drop p) with
  |none =>
   rw[ho] at he
   subst he
   have HN:=Lib.hid (show behindW sets fol k ((a:Int),r) ((p:Int) - 1)=none by rw[HW.out,ho];rfl)
   clear ho
   go_wp2_with fail
   go_ret2
   refine⟨HB2.out,?_⟩
   rw[HN.out]
   rfl
  |some x =>
   rw[ho] at he
   obtain⟨Ax,cx,rfl,hsx⟩:=he
   have HX:=Lib.hid (ofW_b hk2 ho)
   have HWX:=Lib.hid (show behindW sets fol k ((a:Int),r) ((p:Int) - 1)=catW k x (fol.getD a []) by rw[HW.out,ho];rfl)
   have HSX:=Lib.hid hsx
   have hal:a<fol.length:=by rw[←HN2.out];exact ha
   obtain⟨b,off,A9,c9,rfl,_,hbl,hcell,hsl,h5,h6⟩:=(HFOL.out.fut HB2.out (Nat.le_refl _) HB2.out.size).row1 hal
   have HFS:=Lib.hid (HF.out a _ (List.getElem?_eq_getElem hal))
   have HGD:=Lib.hid (show fol.getD a []=fol[a] by rw[List.getD_eq_getElem?_getD,List.getElem?_eq_getElem hal];rfl)
   obtain⟨f,hf⟩:∃ f,f=fol[a]:=⟨_,rfl⟩
   rw[←hf] at hcell hsl h5 HFS HGD
   have hcat:=wsetCat_any k Ax A9 cx c9 x f w2 hk1 hk2 HSX.out hsl HX.out.1 HFS.out.1 (by
    have e1:=HX.out.2;have e2:=HFS.out.2
    exact Nat.le_trans (Nat.mul_le_mul e1 e2) (by decide))
   obtain⟨qx,hqx⟩:∃ qx,qx=x.length:=⟨_,rfl⟩
   obtain⟨qf,hqf⟩:∃ qf,qf=f.length:=⟨_,rfl⟩
   rw[←hqx,←hqf] at hcat
   rw[←hqx]
   rw[←hqf] at hcell h5
   have HCAT:=Lib.hid hcat
   have c0:w2.cell? ⟨w.heap.size,0,none⟩=some (.int .i64 a):=by rw[cell_of_row _ _ _ _ _ _ HK2.out];rfl
   clear ho hsx hal hsl hf hqx hqf hcat
   go_wp2_with fail
   refine HCAT.out.mono ?_
   rintro e w3 ⟨hb3,he⟩
   have HB3:=Lib.hid (HB2.out.trans (hb3.mono HB2.out.size))
   rw[HGD.out] at HWX
   clear hb3
   cases h2:catW (k:Int) x f with
   |none =>
    rw[h2] at he
    subst he
    have HN:=Lib.hid (show behindW sets fol k ((a:Int),r) ((p:Int) - 1)=none by rw[HWX.out,h2])
    clear h2
    go_wp2_with fail
    go_ret2
    refine⟨HB3.out,?_⟩
    rw[HN.out]
    rfl
   |some z =>
    rw[h2] at he
    obtain⟨v,rfl,hown⟩:=he
    have HS:=Lib.hid (show behindW sets fol k ((a:Int),r) ((p:Int) - 1)=some z by rw[HWX.out,h2])
    have HO:=Lib.hid (own_more hown HB2.out.size)
    obtain⟨A8,c8,rfl,_,_⟩:=own_form hown
    clear h2 hown
    go_wp2_with fail
    go_ret2
    refine⟨HB3.out,?_⟩
    rw[HS.out]
    exact⟨_,rfl,HO.out⟩
end Go.Proofs.YtfpihflepeiagaaGreatDoor
