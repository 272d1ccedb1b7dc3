/- Texts of this proof joined: Follow3, Ahead1. -/
import Derived.Test.YtfpihflepeiagaaGreatDoorLN20
namespace Go.Proofs.YtfpihflepeiagaaGreatDoor
open Go.RowKit Go.Sort

def FollowOut (k:Int) (g:Gram) (w':World) (e:Ending):Prop :=
 ∃ o1,FirstTo k g.2.2 g.1.length o1∧match o1 with
 |none=>e=.returned (.tuple #[.slice none 0 0,.int .i64 21])
 |some s=>∃ o2,FollowTo s k g.2.2 g.1.length o2∧SetsOut w' o2 e
def FollowRes (k:Int) (g:Gram) (w:World) (e:Ending) (w':World):Prop :=
 Below w.heap.size w w'∧(BadK k g→e=.returned (.tuple #[.slice none 0 0,.int .i64 1]))∧(¬ BadK k g→FollowOut k g w' e)
structure FolHead (k:Int) (rs:RuleL) (n:Nat) (sets:Sets) (gas:Nat) (p:FolS):Prop where
 asc:AllAsc p.fol
 small:p.limit=false→SetsB p.fol
 over:p.limit=true→FollowTo sets k rs n none
 done:p.limit=false→p.grown=false→FollowTo sets k rs n (some p.fol)
 more:p.limit=false→p.grown=true→(∀ o,RoundsTo (folRound sets k rs) p.fol o→FollowTo sets k rs n o)∧4096*n≤gas+tot p.fol
theorem FolHead.next {k:Int} {rs:RuleL} {n:Nat} {sets:Sets} {gas:Nat} {p p':FolS} (h:FolHead k rs n sets gas p) (hl:p.limit=false) (hg:p.grown=true) (he:spreadAll sets k rs ⟨p.fol,false,false⟩=p') (hp:FolP (tot p.fol) n p') (hb:tot p'.fol≤4096*n∨p'.limit=true) :
  FolHead k rs n sets (gas - 1) p'∧(p'.limit=false→p'.grown=true→1≤gas):=by
 obtain⟨h1,h2⟩:=h.more hl hg
 have hr:=folRound_eq he
 refine⟨⟨hp.asc,hp.small,fun hl'=>h1 none (.fail (by rw[hr,hl'];rfl)),fun hl' hg'=>h1 _ (.done (by rw[hr,hl',hg'];rfl)),fun hl' hg'=>⟨fun o ho=>h1 o (.more (by rw[hr,hl',hg'];rfl) ho),?_⟩⟩,fun hl' hg'=>?_⟩
 ·have:=hp.grew hg'
  omega
 ·have h3:=hp.grew hg'
  rcases hb with hb | hb
  ·omega
  ·rw[hl'] at hb;cases hb
theorem six_allocs (w:World) (o0 o1 o2 o3 o4 o5:Obj):((((((w.alloc o0).alloc o1).alloc o2).alloc o3).alloc o4).alloc o5).heap.size=w.heap.size+6 ∧
  ((((((w.alloc o0).alloc o1).alloc o2).alloc o3).alloc o4).alloc o5).heap[w.heap.size]? = some o0∧((((((w.alloc o0).alloc o1).alloc o2).alloc o3).alloc o4).alloc o5).heap[w.heap.size+1]? = some o1 ∧
  ((((((w.alloc o0).alloc o1).alloc o2).alloc o3).alloc o4).alloc o5).heap[w.heap.size+2]? = some o2∧((((((w.alloc o0).alloc o1).alloc o2).alloc o3).alloc o4).alloc o5).heap[w.heap.size+3]? = some o3 ∧
  ((((((w.alloc o0).alloc o1).alloc o2).alloc o3).alloc o4).alloc o5).heap[w.heap.size+4]? = some o4∧((((((w.alloc o0).alloc o1).alloc o2).alloc o3).alloc o4).alloc o5).heap[w.heap.size+5]? = some o5 ∧
  Below w.heap.size w ((((((w.alloc o0).alloc o1).alloc o2).alloc o3).alloc o4).alloc o5):=by
 have z1:=World.size_alloc w o0
 have z2:=World.size_alloc (w.alloc o0) o1
 have z3:=World.size_alloc ((w.alloc o0).alloc o1) o2
 have z4:=World.size_alloc (((w.alloc o0).alloc o1).alloc o2) o3
 have z5:=World.size_alloc ((((w.alloc o0).alloc o1).alloc o2).alloc o3) o4
 have z6:=World.size_alloc (((((w.alloc o0).alloc o1).alloc o2).alloc o3).alloc o4) o5
 have n0:=Go.heap_alloc_new w o0
 have n1:=Go.heap_alloc_new (w.alloc o0) o1
 have n2:=Go.heap_alloc_new ((w.alloc o0).alloc o1) o2
 have n3:=Go.heap_alloc_new (((w.alloc o0).alloc o1).alloc o2) o3
 have n4:=Go.heap_alloc_new ((((w.alloc o0).alloc o1).alloc o2).alloc o3) o4
 have n5:=Go.heap_alloc_new (((((w.alloc o0).alloc o1).alloc o2).alloc o3).alloc o4) o5
 rw[z1] at n1 z2
 rw[z2] at n2 z3
 rw[z3] at n3 z4
 rw[z4] at n4 z5
 rw[z5] at n5 z6
 refine⟨z6,?_,?_,?_,?_,?_,n5,?_⟩
 ·rw[Below.heap_alloc _ _ _ (by omega),Below.heap_alloc _ _ _ (by omega),Below.heap_alloc _ _ _ (by omega),Below.heap_alloc _ _ _ (by omega),Below.heap_alloc _ _ _ (by omega)];exact n0
 ·rw[Below.heap_alloc _ _ _ (by omega),Below.heap_alloc _ _ _ (by omega),Below.heap_alloc _ _ _ (by omega),Below.heap_alloc _ _ _ (by omega)];exact n1
 ·rw[Below.heap_alloc _ _ _ (by omega),Below.heap_alloc _ _ _ (by omega),Below.heap_alloc _ _ _ (by omega)];exact n2
 ·rw[Below.heap_alloc _ _ _ (by omega),Below.heap_alloc _ _ _ (by omega)];exact n3
 ·rw[Below.heap_alloc _ _ _ (by omega)];exact n4
 ·exact (((((Below.refl w.heap.size w).alloc (Nat.le_refl _) o0).alloc (by omega) o1).alloc (by omega) o2).alloc (by omega) o3).alloc (by omega) o4 |>.alloc (by omega) o5
theorem row_start {t:TypeId} {g lo e0 n:Nat} {w:World} (hg:w.heap[g]? = some (.cells ((Array.replicate n (Value.slice none 0 0)).setIfInBounds 0 (.slice (some ⟨e0,0,none⟩) 1 1)) t (0,0))) (he:w.heap[e0]? = some (.cells #[.string ⟨#[]⟩] 9 (0,0))):RowHi t g lo e0 w ((List.replicate n []).set 0 [[]]):=by
 refine⟨(List.replicate n (Value.slice none 0 0)).set 0 (.slice (some ⟨e0,0,none⟩) 1 1),?_,by simp,fun i v x hv hx=>?_⟩
 ·rw[hg]
  congr 2
  apply Array.ext'
  simp
 ·rw[List.getElem?_set] at hv hx
  split at hv
  ·rename_i e
   rw[if_pos e] at hx
   split at hv
   ·split at hx
    ·injection hv with hv
     injection hx with hx
     subst hv hx
     intro w' hw
     have hlt:=(Array.getElem?_eq_some_iff.1 he).1
     refine slW_of (xs:=[[]]) (fun y hy=>by rw[List.mem_singleton] at hy;subst hy;unfold maxLen;simp) (fun _=>⟨e0,0,rfl,hlt,fun j u hu=>?_⟩) (Nat.le_refl _) (by unfold maxLen;omega)
     match j,hu with
     |0,hu =>
      injection hu with hu
      subst hu
      rw[hw _ (.inr rfl) hlt]
      exact cell0 he
     |j+1,hu=>simp[wcells] at hu
    ·cases hx
   ·cases hv
  ·rename_i e
   rw[if_neg e] at hx
   rw[List.getElem?_replicate] at hv hx
   split at hv
   ·rename_i hi
    rw[if_pos hi] at hx
    injection hv with hv
    injection hx with hx
    subst hv hx
    exact Hi.nil lo e0 w
   ·cases hv
theorem SetsB.toM {s:Sets} (h:SetsB s):SetsM 4096 s:=h
theorem start_b (n:Nat):SetsB ((List.replicate n []).set 0 [[]]):=(SetsB.replicate n).set 0 ⟨fun x hx=>by rw[List.mem_singleton] at hx;subst hx;simp,by simp⟩
theorem start_asc (n:Nat):AllAsc ((List.replicate n []).set 0 [[]]):=(AllAsc.replicate n).set 0 (by simp)
set_option maxRecDepth 100000 in
set_option maxHeartbeats 16000000 in
theorem followSets_any {A1 A2 A3:Option Addr} {n m q c1 c2 c3:Nat} {g:Gram} (k:Int) (w:World) (h:GramR w w.heap.size A1 A2 A3 n m q c1 c2 c3 g) :
  Calls Tryz.prog 59 #[gramV A1 A2 A3 n m q c1 c2 c3,.int .i64 k] w (FollowRes k g w):=by
 have hb1:=(Below.refl w.heap.size w).alloc (Nat.le_refl _) (.cells #[.slice A1 n c1,.slice A2 m c2,.slice A3 q c3] 25)
 have z1:=World.size_alloc w (.cells #[.slice A1 n c1,.slice A2 m c2,.slice A3 q c3] 25)
 have k1:=Go.heap_alloc_new w (.cells #[.slice A1 n c1,.slice A2 m c2,.slice A3 q c3] 25)
 have hb2:=(Below.refl _ (w.alloc (.cells #[.slice A1 n c1,.slice A2 m c2,.slice A3 q c3] 25))).alloc (Nat.le_refl _) (.cells #[.int .i64 k] 3)
 have z2:=World.size_alloc (w.alloc (.cells #[.slice A1 n c1,.slice A2 m c2,.slice A3 q c3] 25)) (.cells #[.int .i64 k] 3)
 have k2:=heap_two w (.cells #[.slice A1 n c1,.slice A2 m c2,.slice A3 q c3] 25) (.cells #[.int .i64 k] 3)
 have HB:=Lib.hid (hb1.trans (hb2.mono (by rw[z1];omega)))
 have HZ:=Lib.hid (z2.trans (by rw[z1]))
 have HKG:=Lib.hid ((hb2.block w.heap.size (by rw[z1];omega)).trans k1)
 have HKK:=Lib.hid k2
 have HV:=Lib.hid (h.fut HB.out (Nat.le_refl _) (Nat.le_refl _))
 have HL:=Lib.hid h.ln
 have hsm:=h.small
 clear h hb1 z1 k1 hb2 z2 k2
 go_enter Tryz.func59,Tryz.ntmps59
 go_wp2_with fail
 generalize (w.alloc (.cells #[.slice A1 n c1,.slice A2 m c2,.slice A3 q c3] 25)).alloc (.cells #[.int .i64 k] 3)=w1 at *
 refine (firstSets_any k w1 (HV.out.fut (N:=w1.heap.size) (B':=w1.heap.size) (Below.refl _ _) (by rw[HZ.out];omega) (by rw[HZ.out];omega))).mono ?_
 rintro e w2 ⟨hb2,hbad,hgood⟩
 have HB2:=Lib.hid (HB.out.trans (hb2.mono (by rw[HZ.out];omega)))
 have HB12:=Lib.hid (show Below (w.heap.size+2) w1 w2 from hb2.mono (Nat.le_of_eq HZ.out.symm))
 have HS2:=Lib.hid (show w.heap.size+2≤w2.heap.size by have:=hb2.size;rw[HZ.out] at this;exact this)
 clear hb2
 by_cases hbk:BadK k g
 ·have:=hbad hbk
  subst this
  have HBAD:=Lib.hid hbk
  clear hbad hgood hbk
  go_wp2_with fail
  go_ret2
  exact⟨HB2.out.alloc (by have:=HS2.out;omega) _,fun _=>rfl,fun h=>absurd HBAD.out h⟩
 obtain⟨o1,ho1,hout⟩:=hgood hbk
 have HNB:=Lib.hid hbk
 have HF:=Lib.hid ho1
 clear hbad hgood hbk ho1
 cases o1 with
 |none =>
  have:e=.returned (.tuple #[.slice none 0 0,.int .i64 21]):=hout
  subst this
  clear hout
  go_wp2_with fail
  go_ret2
  exact⟨HB2.out.alloc (by have:=HS2.out;omega) _,fun h=>absurd h HNB.out,fun _=>⟨none,HF.out,rfl⟩⟩
 |some s =>
  obtain⟨As,cs,rfl,hss,hsb⟩:=hout
  obtain⟨ns,hns⟩:∃ ns,ns=s.length:=⟨_,rfl⟩
  rw[←hns] at hss ⊢
  have HSS:=Lib.hid hss
  have HSB:=Lib.hid hsb
  have hk1:¬ k<1:=fun h=>HNB.out (.inl h)
  have hk4:¬ 4<k:=fun h=>HNB.out (.inr (.inl h))
  have hc0:checkN g=0:=Classical.byContradiction fun h=>HNB.out (.inr (.inr h))
  obtain⟨kk,hkk⟩:∃ kk:Nat,k=(kk:Int):=⟨k.toNat,by omega⟩
  subst hkk
  have HGG:=Lib.hid (check0_good hc0)
  have HKG2:=Lib.hid ((HB12.out.block w.heap.size (by omega)).trans HKG.out)
  have HKK2:=Lib.hid ((HB12.out.block (w.heap.size+1) (by omega)).trans HKK.out)
  have HN:=Lib.hid (show 1≤n∧n≤256 by have h1:=HGG.out.2.1.n1;have h2:=HGG.out.2.1.nm;have:=HL.out.1;omega)
  have g0:w2.cell? ⟨w.heap.size,0,none⟩=some (.slice A1 n c1):=by rw[cell_of_row _ _ _ _ _ _ HKG2.out];rfl
  have hz2:w.heap.size<w2.heap.size:=by have:=HS2.out;omega
  have hmk:=strs_make n (by have:=HN.out;omega) (w2.alloc (.cells #[.slice As ns cs] 81))
  have hn0:0<n:=HN.out.1
  clear hss hsb hc0 hns
  go_wp2_with fail
  obtain⟨a,ha⟩:∃ a:FolA,a=⟨w2.heap.size+1,w2.heap.size,w2.heap.size+1+1,w.heap.size+1,w2.heap.size+1+1+1+1+1,w2.heap.size+1+1+1+1,w2.heap.size+6,w2.heap.size+1+1+1,w2.heap.size+1,w2.heap.size,As,ns,cs,n⟩:=⟨_,rfl⟩
  have hW:Hid (∃ W:World,W=((((((w2.alloc (.cells #[.slice As ns cs] 81)).alloc (.cells ((Array.replicate n (Value.slice none 0 0)).setIfInBounds 0 (.slice (some ⟨w2.heap.size+1+1+1,0,none⟩) 1 1)) 22)).alloc (.cells #[.slice (some ⟨w2.heap.size+1,0,none⟩) n n] 81)).alloc (.cells #[.string ⟨#[]⟩] 9)).alloc (.cells #[.bool true] 4)).alloc (.cells #[.bool false] 4)) ∧
    W.heap.size=w2.heap.size+6∧FolSt a kk s W ⟨(List.replicate n []).set 0 [[]],true,false⟩ 4096∧Below w2.heap.size w2 W):=by
   refine⟨_,rfl,?_⟩
   obtain⟨z,h0,h1,h2,h3,h4,h5,hbe⟩:=six_allocs w2 (.cells #[.slice As ns cs] 81) (.cells ((Array.replicate n (Value.slice none 0 0)).setIfInBounds 0 (.slice (some ⟨w2.heap.size+1+1+1,0,none⟩) 1 1)) 22) (.cells #[.slice (some ⟨w2.heap.size+1,0,none⟩) n n] 81) (.cells #[.string ⟨#[]⟩] 9) (.cells #[.bool true] 4) (.cells #[.bool false] 4)
   refine⟨z,?_,hbe⟩
   subst ha
   exact⟨row_start h1 h3,by simp,(start_b n).toM,start_asc n,h0,h2,(hbe.block _ (by have:=HS2.out;simp only;omega)).trans HKK2.out,h5,h4,HSS.out.below hbe,⟨by simp only;omega,by simp only;omega,by simp only;omega,by simp only;omega,by simp only;omega,by have:=HS2.out;simp only;omega,by simp only;omega⟩,⟨by simp only;omega,by simp only;omega,by simp only;omega,by simp only;omega,by simp only;rw[z];omega⟩,⟨by simp only;omega,by simp only;omega,by simp only;omega,by simp only;omega⟩,⟨by simp only;omega,by simp only;omega,by simp only;omega,by simp only;omega,by simp only;omega,by simp only;omega⟩⟩
  obtain⟨W,hWe,hWz,hWs,hWb⟩:=hW.out
  rw[←hWe]
  have HWB:=Lib.hid (show Below (w.heap.size+2) w1 W from HB12.out.trans (hWb.mono HS2.out))
  have HWS:=Lib.hid hWs
  have HAC:=Lib.hid (show a.C=w2.heap.size+1 by rw[ha])
  have HAN:=Lib.hid (show a.n=n by rw[ha])
  have HAG:=Lib.hid (show a.g=w2.heap.size+1 by rw[ha])
  have eGB:w2.heap.size+1+1+1+1=a.GB:=by rw[ha]
  have eLB:a.GB+1=a.LB:=by rw[ha]
  have eFB:w2.heap.size+1+1=a.FB:=by rw[ha]
  have eSB:w2.heap.size=a.SB:=by rw[ha]
  have eg:w2.heap.size+1=a.g:=by rw[ha]
  have eKB:w.heap.size+1=a.KB:=by rw[ha]
  rw[eGB,eLB,eFB,eg,eSB,eKB]
  have HAN0:=Lib.hid (show a.N0=w2.heap.size by rw[ha])
  have HAKB:=Lib.hid (show a.KB=w.heap.size+1 by rw[ha])
  have HAL:=Lib.hid (show a.LB=w2.heap.size+5∧a.GB=w2.heap.size+4 by rw[ha];exact⟨rfl,rfl⟩)
  have HHEAD:=Lib.hid (show FolHead kk g.2.2 n s (4096*n) ⟨(List.replicate n []).set 0 [[]],true,false⟩ from ⟨start_asc n,fun _=>start_b n,fun h=>(by cases h),fun _ h=>(by cases h),fun _ _=>⟨fun o ho=>ho,Nat.le_add_right _ _⟩⟩)
  clear hW hWe hWz hWs hWb eGB eLB eFB eSB eg eKB hmk ha g0 hn0
  go_loopg [] (4096*n+1) (fun gas wr=>∃ (p:FolS) (M:Nat),Hid (FolSt a kk s wr p M)∧Hid (FolHead kk g.2.2 n s (gas - 1) p)∧Hid (p.limit=false→p.grown=true→1≤gas)∧Hid (Below (w.heap.size+2) w1 wr))
  case atStart=>exact⟨⟨(List.replicate n []).set 0 [[]],true,false⟩,4096,HWS.out,HHEAD.out,fun _ _=>Nat.le_add_left _ _,HWB.out⟩
  case round =>
   clear HWS HHEAD HWB
   obtain⟨p,M,HST,HHD,HLIVE,HBW⟩:=hrel
   obtain⟨gas,hgas⟩:∃ gas,gas=gk:=⟨_,rfl⟩
   rw[←hgas] at HHD HLIVE
   have HGK:=Lib.hid hgas
   obtain⟨fol,gb,lb⟩:=p
   have cG:=cell0 HST.out.bG
   have cL:=cell0 HST.out.bL
   simp only at cG cL
   have kg:=(HBW.out.block w.heap.size (by omega)).trans HKG.out
   have g2':wr.cell? ⟨w.heap.size,2,none⟩=some (.slice A3 q c3):=by rw[cell_of_row _ _ _ _ _ _ kg];rfl
   have hne:w.heap.size≠a.GB:=by have:=HAL.out.2;omega
   have hnl:w.heap.size≠a.LB:=by have:=HAL.out.1;omega
   clear hgas kg
   cases lb with
   |true =>
    have HOVER:=Lib.hid (HHD.out.over rfl)
    cases gb
    all_goals
     go_wp2_with fail
     go_ret2
     exact⟨HB.out.trans (HBW.out.mono (by omega)),fun h=>absurd h HNB.out,fun _=>⟨some s,HF.out,none,by rw[←HL.out.1];exact HOVER.out,rfl⟩⟩
   |false =>
    cases gb with
    |false =>
     have HDONE:=Lib.hid (HHD.out.done rfl rfl)
     have cF:=cell0 HST.out.bF
     have HSL:=Lib.hid (HST.out.row.sl (by rw[HST.out.len,HAN.out];have:=HN.out;unfold maxLen;omega))
     have HSM:=Lib.hid (HHD.out.small rfl)
     go_wp2_with fail
     go_ret2
     refine⟨HB.out.trans (HBW.out.mono (by omega)),fun h=>absurd h HNB.out,fun _=>⟨some s,HF.out,some fol,by rw[←HL.out.1];exact HDONE.out,some ⟨a.g,0,none⟩,fol.length,?_,HSL.out,HSM.out⟩⟩
     rw[show fol.length=a.n from HST.out.len]
     rfl
    |true =>
     have fG:wr.frozen? ⟨a.GB,0,none⟩=false:=by simp[World.frozen?,HST.out.bG]
     have HST0:=Lib.hid (show FolSt a kk s (wr.setCell ⟨a.GB,0,none⟩ (.bool false)) ⟨fol,false,false⟩ 4096 by
      obtain⟨f1,f2,f3,f4,f5,f6,f7,f8,f9,f10,f11⟩:=HST.out.setG false
      exact⟨f1,f2,(HHD.out.small rfl).toM,f4,f5,f6,f7,f8,f9,f10,f11⟩)
     have HB0:=Lib.hid (show Below (w.heap.size+2) w1 (wr.setCell ⟨a.GB,0,none⟩ (.bool false)) from Below.setCell (p:=⟨a.GB,0,none⟩) HBW.out (by show w.heap.size+2≤a.GB;have:=HAL.out.2;have:=HS2.out;omega) _)
     have HFP0:=Lib.hid (show FolP (tot fol) n ⟨fol,false,false⟩ from ⟨HHD.out.asc,by rw[←HAN.out];exact HST.out.len,fun _=>HHD.out.small rfl,Nat.le_refl _,fun h=>(by cases h)⟩)
     go_wp2_with fail
     go_loopg [40] q (fun left v40 wt=>∃ (j:Nat) (p':FolS),j≤q∧q - j≤left∧v40=.int .i64 j∧Hid (FolSt a kk s wt p' (4096+262144*j))∧Hid (spreadAll s kk (g.2.2.drop j) p'=spreadAll s kk g.2.2 ⟨fol,false,false⟩)∧Hid (FolP (tot fol) n p')∧Hid (Below (w.heap.size+2) w1 wt))
     case atStart=>exact⟨0,⟨fol,false,false⟩,by omega,by omega,rfl,HST0.out,rfl,HFP0.out,HB0.out⟩
     case round =>
      clear HST0 HB0 HFP0 cG cL fG g2' HST HBW
      obtain⟨j,p',hj,hleft,rfl,HST,HSP,HFP,HBW⟩:=hrel
      obtain⟨lft,hlft⟩:∃ lft,lft=gk:=⟨_,rfl⟩
      rw[←hlft] at hleft
      have HLK:=Lib.hid hlft
      clear hlft
      by_cases hjq:j<q
      ·have hjl:j<g.2.2.length:=by rw[←HL.out.2.2];exact hjq
       have HRULES:=Lib.hid (HV.out.rules.below (HBW.out.mono (by omega)))
       obtain⟨bb,off,cs',rfl,_,hbl,hrep,hcell⟩:=HRULES.out.get (k:=j) hjl (by decide)
       obtain⟨v,rfl,hsl,hz1',hz2'⟩:=eRule_open hrep
       obtain⟨A5,c5,rfl,hl5,hl6⟩:=hsl.form
       have hc0:=hcell 0 _ rfl
       have hc1:=hcell 1 _ rfl
       simp only[show eRule.size=2 from rfl,Nat.add_zero,←Nat.add_assoc] at hc0 hc1
       have HSP2:=Lib.hid (show spreadAll s kk (g.2.2.drop (j+1)) (spreadsW s kk g.2.2[j] g.2.2[j].2.length 0 p')=spreadAll s kk g.2.2 ⟨fol,false,false⟩ by rw[←HSP.out,List.drop_eq_getElem_cons hjl];rfl)
       have hfit:=HGG.out.2.1.fit _ (List.getElem_mem hjl)
       obtain⟨r,hr⟩:∃ r,r=g.2.2[j]:=⟨_,rfl⟩
       rw[←hr] at hc0 hc1 HSP2 hsl hz1' hz2' hl5 hfit
       obtain⟨r1,r2⟩:=r
       obtain⟨la,rfl⟩:∃ la:Nat,r1=(la:Int):=⟨r1.toNat,by have:=hfit.1;simp only at this;omega⟩
       simp only at hc0 hc1 hsl hl5 hfit hz2' HSP2
       obtain⟨ql,hql⟩:∃ ql,ql=r2.length:=⟨_,rfl⟩
       rw[←hql] at hc1 hsl hl5 hfit HSP2
       have HQL:=Lib.hid hql
       have HSL:=Lib.hid hsl
       have HFIT:=Lib.hid hfit
       have hq64:ql≤64:=hfit.2.2.1
       have HLAN:=Lib.hid (show la<a.n by rw[HAN.out];have:=hfit.2.1;have:=HL.out.1;omega)
       have HJQ:=Lib.hid (show j<4096 by have:=HGG.out.2.1.q;have:=HL.out.2.2;omega)
       clear hcell hrep hr hql hsl hjl HSP hfit hz1' hz2'
       go_wp2_with fail
       have hbx:=(Below.refl wr.heap.size wr).alloc (Nat.le_refl _) (.cells #[.int .i64 la,.slice A5 ql c5] 55)
       have HST1:=Lib.hid (HST.out.below hbx)
       have HKX:=Lib.hid (Go.heap_alloc_new wr (.cells #[.int .i64 la,.slice A5 ql c5] 55))
       have HWS:=Lib.hid (show w2.heap.size+6≤wr.heap.size by have h1:=HST.out.le;have h2:=HAL.out;omega)
       have HBX:=Lib.hid (HBW.out.trans (hbx.mono (by have:=HWS.out;have:=HS2.out;omega)))
       have HCX:=Lib.hid (World.size_alloc wr (.cells #[.int .i64 la,.slice A5 ql c5] 55))
       have hcn:=World.size_alloc wr (.cells #[.int .i64 la,.slice A5 ql c5] 55)
       have HSLX:=Lib.hid (HSL.out.below (hbx.mono (by have:=HWS.out;have:=HS2.out;omega)))
       clear hbx
       generalize wr.alloc (.cells #[.int .i64 la,.slice A5 ql c5] 55)=wx at *
       obtain⟨wbox,hwbox⟩:∃ wbox,wbox=wr.heap.size:=⟨_,rfl⟩
       rw[←hwbox] at HKX HWS ⊢
       have HWBX:=HWS
       clear hwbox
       go_loopg [47] ql (fun left2 v47 wt=>∃ (i:Nat) (p'':FolS),i≤ql∧ql - i≤left2∧v47=.int .i64 i∧Hid (FolSt a kk s wt p'' (4096+262144*j+4096*i))∧Hid (spreadsW s kk ((la:Int),r2) (ql - i) i p''=spreadsW s kk ((la:Int),r2) ql 0 p')∧Hid (FolP (tot fol) n p'')∧Hid (Below (w.heap.size+2) w1 wt)∧Hid (wt.heap[wbox]? = some (.cells #[.int .i64 la,.slice A5 ql c5] 55 (0,0)))∧Hid (SlR eInt wt w.heap.size (.slice A5 ql c5) r2))
       case atStart=>exact⟨0,p',by omega,by omega,rfl,HST1.out,rfl,HFP.out,HBX.out,HKX.out,HSLX.out⟩
       case round =>
        clear HST1 HKX HBX HSLX HST HBW hc0 hc1
        obtain⟨i,p'',hi,hleft2,rfl,HST,HSP3,HFP3,HBW,HKX,HSLX⟩:=hrel
        have b0:wr.cell? ⟨wbox,0,none⟩=some (.int .i64 la):=by rw[cell_of_row _ _ _ _ _ _ HKX.out];rfl
        have b1:wr.cell? ⟨wbox,1,none⟩=some (.slice A5 ql c5):=by rw[cell_of_row _ _ _ _ _ _ HKX.out];rfl
        by_cases hiq:i<ql
        ·have hil:i<r2.length:=by rw[←HQL.out];exact hiq
         have hsym:=(HFIT.out.2.2.2 _ (List.getElem_mem hil)).1
         have hgd:r2.getD i 0=r2[i]:=by rw[List.getD_eq_getElem?_getD,List.getElem?_eq_getElem hil];rfl
         have HFP4:=Lib.hid (HFP3.out.step (k:=kk) (by omega) (sets:=s) (r:=((la:Int),r2)) (at_:=i) (fun _=>by simp only;rw[hgd];have:=HL.out.1;omega))
         have HSP4:=Lib.hid (show spreadsW s kk ((la:Int),r2) (ql - (i+1)) (i+1) (spreadW s kk ((la:Int),r2) i p'')=spreadsW s kk ((la:Int),r2) ql 0 p' by
          rw[←HSP3.out,show ql - i=(ql - (i+1))+1 by omega,spreadsW_succ])
         have HSA:=Lib.hid (spread_any a kk (4096+262144*j+4096*i) w.heap.size la i s wr p'' r2 A5 ql c5 HST.out HSB.out (by omega) (by omega) HLAN.out (by rw[HAN.out];exact HN.out.2) HQL.out (by omega) hiq (fun x hx=>by have:=(HFIT.out.2.2.2 x hx).1;rw[HAN.out];have:=HL.out.1;omega) HSLX.out (by have h1:=HST.out.le;have h2:=HAL.out;have:=HS2.out;omega) (by have:=HJQ.out;omega))
         clear hil hsym hgd
         go_wp2_with fail
         refine HSA.out.mono ?_
         rintro e w7 ⟨rfl,hst7,hon⟩
         have HST7:=Lib.hid (show FolSt a kk s w7 (spreadW s kk ((la:Int),r2) i p'') (4096+262144*j+4096*(i+1)) from hst7)
         have HB7:=Lib.hid (HBW.out.trans (hon.below (C:=w.heap.size+2) (by have h1:=HST.out.le;have h2:=HAL.out;have:=HS2.out;omega) (by rw[HAG.out];have:=HS2.out;omega) (by have:=HAL.out;have:=HS2.out;omega) (by have:=HAL.out;have:=HS2.out;omega)))
         have HK7:=Lib.hid ((hon.block wbox (Array.getElem?_eq_some_iff.1 HKX.out).1 (by have h1:=HWBX.out;have h2:=HAG.out;omega) (by have h1:=HWBX.out;have h2:=HAL.out;omega) (by have h1:=HWBX.out;have h2:=HAL.out;omega)).trans HKX.out)
         have HSL7:=Lib.hid (HSLX.out.below (hon.below (C:=w.heap.size) (by have h1:=HST.out.le;have h2:=HAL.out;have:=HS2.out;omega) (by rw[HAG.out];have:=HS2.out;omega) (by have:=HAL.out;have:=HS2.out;omega) (by have:=HAL.out;have:=HS2.out;omega)))
         clear hst7 hon HSA b0 b1
         go_wp2_with fail
         go_roundg (gk - 1)
         case measure=>omega
         case rel=>exact⟨i+1,spreadW s kk ((la:Int),r2) i p'',by omega,by omega,by go_num,HST7.out,HSP4.out,HFP4.out,HB7.out,HK7.out,HSL7.out⟩
        ·have hiq':i=ql:=by omega
         have HST9:=Lib.hid (show FolSt a kk s wr (spreadsW s kk ((la:Int),r2) ql 0 p') (4096+262144*(j+1)) by
          have h1:=HSP3.out
          rw[hiq',Nat.sub_self] at h1
          have h2:p''=spreadsW s kk ((la:Int),r2) ql 0 p':=h1
          rw[←h2]
          obtain⟨f1,f2,f3,f4,f5,f6,f7,f8,f9,f10,f11⟩:=HST.out
          exact⟨f1,f2,f3.mono (by omega),f4,f5,f6,f7,f8,f9,f10,f11⟩)
         have HFP9:=Lib.hid (show FolP (tot fol) n (spreadsW s kk ((la:Int),r2) ql 0 p') by
          have h1:=HSP3.out
          rw[hiq',Nat.sub_self] at h1
          have h2:p''=spreadsW s kk ((la:Int),r2) ql 0 p':=h1
          rw[←h2]
          exact HFP3.out)
         clear hiq'
         go_wp2_with fail
         go_roundg (lft - 1)
         case measure=>have:=HLK.out;omega
         case rel=>exact⟨j+1,_,by omega,by omega,by go_num,HST9.out,HSP2.out,HFP9.out,HBW.out⟩
      ·have HEND:=Lib.hid (show spreadAll s kk g.2.2 ⟨fol,false,false⟩=p' by
        rw[←HSP.out,show j=g.2.2.length by rw[←HL.out.2.2];omega,List.drop_length];rfl)
       have HNX:=Lib.hid (HHD.out.next rfl rfl HEND.out HFP.out (by
        rcases Bool.eq_false_or_eq_true p'.limit with h | h
        ·exact .inr h
        ·left
         have:=tot_le p'.fol (HFP.out.small h)
         rw[HFP.out.len] at this
         exact this))
       have HG1:=Lib.hid (HLIVE.out trivial trivial)
       clear HSP HEND
       go_wp2_with fail
       go_roundg (gas - 1)
       case measure=>have:=HGK.out;have:=HG1.out;omega
       case rel=>exact⟨p',_,HST.out,HNX.out.1,fun h1 h2=>HNX.out.2 h1 h2,HBW.out⟩
end Go.Proofs.YtfpihflepeiagaaGreatDoor
namespace Go.Proofs.YtfpihflepeiagaaGreatDoor
open Go.RowKit Go.Sort

theorem strs_appW:AppTy Tryz.prog 81 22 1 24 (.slice none 0 0):=appTy Tryz.underlying81 (by kernel_rfl) rfl (by omega)
def AheadO (k:Int) (g:Gram) (o:Option Sets):Prop :=
 ∃ o1,FirstTo k g.2.2 g.1.length o1∧match o1 with
 |none=>o=none
 |some s=>∃ o2,FollowTo s k g.2.2 g.1.length o2∧match o2 with
  |none=>o=none
  |some f=>o=aheadW s f k g.2.2
theorem AheadO.det {k:Int} {g:Gram} {o o':Option Sets} (h:AheadO k g o) (h':AheadO k g o'):o=o':=by
 obtain⟨o1,h1,h2⟩:=h
 obtain⟨o1',h1',h2'⟩:=h'
 have:=RoundsTo.det h1 h1'
 subst this
 cases o1 with
 |none=>exact (show o=none from h2).trans (show o'=none from h2').symm
 |some s =>
  obtain⟨o2,h3,h4⟩:=h2
  obtain⟨o2',h3',h4'⟩:=h2'
  have:=RoundsTo.det h3 h3'
  subst this
  cases o2 with
  |none=>exact (show o=none from h4).trans (show o'=none from h4').symm
  |some f=>exact (show o=aheadW s f k g.2.2 from h4).trans (show o'=aheadW s f k g.2.2 from h4').symm
def AheadOut (w':World) (o:Option Sets) (e:Ending):Prop :=
 match o with
 |none=>e=.returned (.tuple #[.slice none 0 0,.int .i64 21])
 |some s=>∃ A c,e=.returned (.tuple #[.slice A s.length c,.int .i64 0])∧SlR (eSl eW) w' w'.heap.size (.slice A s.length c) s
def AheadRes (k:Int) (g:Gram) (w:World) (e:Ending) (w':World):Prop :=
 Below w.heap.size w w'∧(BadK k g→e=.returned (.tuple #[.slice none 0 0,.int .i64 1]))∧(¬ BadK k g→∃ o,AheadO k g o∧AheadOut w' o e)
theorem aheadW_cons {s f:Sets} {k:Int} {r:Int×List Int} {rs:RuleL}:aheadW s f k (r :: rs)=(behindW s f k r (-1)).bind fun x=>(aheadW s f k rs).map (x :: ·):=rfl
theorem eslW_of {w:World} {base:Nat} {t:TypeId} {v:Value} {x:List Wd} (hf:Fits x) (h:w.ownsRow base t 1 v x.length (wcells x)) {r:Option Nat} (hr:∀ b,r=some b→b<base):∀ w',Away w w' w.heap.size r→(eSl eW).rep w' w.heap.size [v] x:=by
 intro w' ha
 obtain⟨A,c,rfl,h1,h2⟩:=own_form h
 refine⟨_,rfl,slW_of hf (fun hne=>?_) h1 h2⟩
 obtain⟨b,off,e,hlt,hc⟩:=Rd.of_own h hne
 subst e
 have hge:base≤b:=by
  rcases h.2 with ⟨hn,_⟩ | ⟨g,cap,cur,hv,hg,_⟩
  ·injection hn with e1;cases e1
  ·injection hv with e1 _ _;injection e1 with e1;injection e1 with e1 _;omega
 exact⟨b,off,rfl,hlt,fun j u hu=>(ha _ hlt (fun e=>by have:=hr b e.symm;omega)).trans (hc j u hu)⟩
set_option maxRecDepth 100000 in
set_option maxHeartbeats 16000000 in
theorem aheadSets_any {A1 A2 A3:Option Addr} {n m q c1 c2 c3:Nat} {g:Gram} (k:Int) (w:World) (h:GramR w w.heap.size A1 A2 A3 n m q c1 c2 c3 g) :
  Calls Tryz.prog 35 #[gramV A1 A2 A3 n m q c1 c2 c3,.int .i64 k] w (AheadRes k g w):=by
 have hbx:=(Below.refl w.heap.size w).alloc (Nat.le_refl _) (.cells #[.slice A1 n c1,.slice A2 m c2,.slice A3 q c3] 25)
 have HV:=Lib.hid (h.fut (B':=w.heap.size) hbx (Nat.le_refl _) (Nat.le_refl _))
 have HK:=Lib.hid (Go.heap_alloc_new w (.cells #[.slice A1 n c1,.slice A2 m c2,.slice A3 q c3] 25))
 have HZ:=Lib.hid (World.size_alloc w (.cells #[.slice A1 n c1,.slice A2 m c2,.slice A3 q c3] 25))
 have HBX:=Lib.hid hbx
 have HL:=Lib.hid h.ln
 have hsm:=h.small
 clear h hbx
 go_enter Tryz.func35,Tryz.ntmps35
 go_wp2_with fail
 generalize w.alloc (.cells #[.slice A1 n c1,.slice A2 m c2,.slice A3 q c3] 25)=w1 at *
 refine (followSets_any k w1 (HV.out.fut (N:=w1.heap.size) (B':=w1.heap.size) (Below.refl _ _) (by rw[HZ.out];omega) (by rw[HZ.out];omega))).mono ?_
 rintro e w2 ⟨hb2,hbad,hgood⟩
 have HB2:=Lib.hid (HBX.out.trans (hb2.mono (by rw[HZ.out];omega)))
 have HB12:=Lib.hid (show Below (w.heap.size+1) w1 w2 from hb2.mono (Nat.le_of_eq HZ.out.symm))
 have HS2:=Lib.hid (show w.heap.size+1≤w2.heap.size by have:=hb2.size;rw[HZ.out] at this;exact this)
 clear hb2
 by_cases hbk:BadK k g
 ·have:=hbad hbk
  subst this
  have HBAD:=Lib.hid hbk
  clear hbad hgood hbk
  go_wp2_with fail
  go_ret2
  exact⟨HB2.out,fun _=>rfl,fun h=>absurd HBAD.out h⟩
 obtain⟨o1,ho1,hout⟩:=hgood hbk
 have HNB:=Lib.hid hbk
 have HF:=Lib.hid ho1
 clear hbad hgood hbk ho1
 cases o1 with
 |none =>
  have:e=.returned (.tuple #[.slice none 0 0,.int .i64 21]):=hout
  subst this
  clear hout
  go_wp2_with fail
  go_ret2
  exact⟨HB2.out,fun h=>absurd h HNB.out,fun _=>⟨none,⟨none,HF.out,rfl⟩,rfl⟩⟩
 |some s =>
  obtain⟨o2,ho2,hout2⟩:=hout
  have HO2:=Lib.hid ho2
  clear ho2
  cases o2 with
  |none =>
   have:e=.returned (.tuple #[.slice none 0 0,.int .i64 21]):=hout2
   subst this
   clear hout2
   go_wp2_with fail
   go_ret2
   exact⟨HB2.out,fun h=>absurd h HNB.out,fun _=>⟨none,⟨some s,HF.out,none,HO2.out,rfl⟩,rfl⟩⟩
  |some f =>
   obtain⟨Af,cf,rfl,hsf,hfb⟩:=hout2
   obtain⟨nf,hnf⟩:∃ nf,nf=f.length:=⟨_,rfl⟩
   rw[←hnf] at hsf ⊢
   have HNF:=Lib.hid hnf
   have HSF:=Lib.hid hsf
   have HFB:=Lib.hid hfb
   have k2:=(HB12.out.block w.heap.size (by omega)).trans HK.out
   have d0:w2.cell? ⟨w.heap.size,0,none⟩=some (.slice A1 n c1):=by rw[cell_of_row _ _ _ _ _ _ k2];rfl
   have d1:w2.cell? ⟨w.heap.size,1,none⟩=some (.slice A2 m c2):=by rw[cell_of_row _ _ _ _ _ _ k2];rfl
   have d2:w2.cell? ⟨w.heap.size,2,none⟩=some (.slice A3 q c3):=by rw[cell_of_row _ _ _ _ _ _ k2];rfl
   clear hsf hfb hnf k2
   go_wp2_with fail
   refine (firstSets_any k w2 ((HV.out.fut (HB12.out) (by omega) (by omega:w.heap.size≤w.heap.size)).fut (N:=w2.heap.size) (B':=w2.heap.size) (Below.refl _ _) (by have:=HS2.out;omega) (by have:=HS2.out;omega))).mono ?_
   rintro e w3 ⟨hb3,_,hgood⟩
   obtain⟨o1',ho1',hout⟩:=hgood HNB.out
   have hdet:=RoundsTo.det HF.out ho1'
   subst hdet
   obtain⟨As,cs,rfl,hss,hsb⟩:=hout
   obtain⟨ns,hns⟩:∃ ns,ns=s.length:=⟨_,rfl⟩
   rw[←hns] at hss ⊢
   have HSS:=Lib.hid hss
   have HSB:=Lib.hid hsb
   have HSF3:=Lib.hid (HSF.out.next hb3 hb3.size)
   have HB3:=Lib.hid (HB2.out.trans (hb3.mono (by have:=HS2.out;omega)))
   have HB13:=Lib.hid (HB12.out.trans (hb3.mono HS2.out))
   have HS3:=Lib.hid (Nat.le_trans HS2.out hb3.size)
   have k3:=(HB13.out.block w.heap.size (by omega)).trans HK.out
   have d2:w3.cell? ⟨w.heap.size,2,none⟩=some (.slice A3 q c3):=by rw[cell_of_row _ _ _ _ _ _ k3];rfl
   have hk1:¬ k<1:=fun h=>HNB.out (.inl h)
   have hk4:¬ 4<k:=fun h=>HNB.out (.inr (.inl h))
   have hc0:checkN g=0:=Classical.byContradiction fun h=>HNB.out (.inr (.inr h))
   obtain⟨kk,hkk⟩:∃ kk:Nat,k=(kk:Int):=⟨k.toNat,by omega⟩
   subst hkk
   have HGG:=Lib.hid (check0_good hc0)
   have HFL:=Lib.hid (show nf=g.1.length by
    rw[HNF.out]
    have:=(FollowTo.full (by have:=HGG.out.2.1.n1;omega) (FirstTo.full HGG.out.2.1.well HF.out).1.sound (FirstTo.full HGG.out.2.1.well HF.out).2 HO2.out).1.len
    exact this)
   clear hgood ho1' hss hsb hb3 hc0 hns d0 d1 k3
   go_wp2_with fail
   go_loopg [33,10] q (fun left v33 v10 wr=>∃ (j:Nat) (outs:Sets),j≤q∧q - j≤left∧v33=.int .i64 j∧Hid (OwnL (eSl eW) wr w3.heap.size 22 v10 outs)∧Hid (outs.length=j)∧Hid (aheadW s f kk g.2.2=(aheadW s f kk (g.2.2.drop j)).map (outs++·))∧Hid (Below w3.heap.size w3 wr))
   case atStart=>exact⟨0,[],by omega,by omega,rfl,OwnL.nil _ _ _,rfl,by simp[Hid],Below.refl _ _⟩
   case round =>
    obtain⟨j,outs,hj,hleft,rfl,HO,HOL,HAW,HBR⟩:=hrel
    obtain⟨A10,c10,rfl,hl10,hl11⟩:=HO.out.form
    rw[HOL.out] at HO hl10 ⊢
    by_cases hjq:j<q
    ·have hjl:j<g.2.2.length:=by rw[←HL.out.2.2];exact hjq
     have HRULES:=Lib.hid ((HV.out.rules.below (HB13.out.mono (by omega))).below (HBR.out.mono (by have:=HS3.out;omega)))
     obtain⟨bb,off,cs',rfl,_,hbl,hrep,hcell⟩:=HRULES.out.get (k:=j) hjl (by decide)
     obtain⟨v,rfl,hsl,hz1',hz2'⟩:=eRule_open hrep
     obtain⟨A5,c5,rfl,hl5,hl6⟩:=hsl.form
     have hc0:=hcell 0 _ rfl
     have hc1:=hcell 1 _ rfl
     simp only[show eRule.size=2 from rfl,Nat.add_zero,←Nat.add_assoc] at hc0 hc1
     have HAW2:=Lib.hid (show aheadW s f kk g.2.2=((behindW s f kk g.2.2[j] (-1)).bind fun x=>(aheadW s f kk (g.2.2.drop (j+1))).map (x :: ·)).map (outs++·) by rw[HAW.out,List.drop_eq_getElem_cons hjl,aheadW_cons])
     have hfit:=HGG.out.2.1.fit _ (List.getElem_mem hjl)
     obtain⟨r,hr⟩:∃ r,r=g.2.2[j]:=⟨_,rfl⟩
     rw[←hr] at hc0 hc1 HAW2 hsl hz1' hz2' hl5 hfit
     obtain⟨r1,r2⟩:=r
     obtain⟨la,rfl⟩:∃ la:Nat,r1=(la:Int):=⟨r1.toNat,by have:=hfit.1;simp only at this;omega⟩
     simp only at hc0 hc1 hsl hl5 hfit hz2'
     obtain⟨ql,hql⟩:∃ ql,ql=r2.length:=⟨_,rfl⟩
     rw[←hql] at hc1 hsl hl5 hfit
     have HSL:=Lib.hid hsl
     have hq64:ql≤64:=hfit.2.2.1
     have HJQ:=Lib.hid (show j<4096 by have:=HGG.out.2.1.q;have:=HL.out.2.2;omega)
     have HLA:=Lib.hid (show la<nf by rw[HFL.out];have:=hfit.2.1;omega)
     clear hcell hrep hr hql hsl hjl HAW hfit hz1' hz2'
     go_wp2_with fail
     have hbx:=(Below.refl wr.heap.size wr).alloc (Nat.le_refl _) (.cells #[.int .i64 la,.slice A5 ql c5] 55)
     have HOX:=Lib.hid (HO.out.later hbx)
     have HBX2:=Lib.hid (HBR.out.trans (hbx.mono HBR.out.size))
     have HWS:=Lib.hid (show w.heap.size≤wr.heap.size by have:=HS3.out;have:=HBR.out.size;omega)
     have HSLX:=Lib.hid (HSL.out.fut hbx HWS.out (Nat.le_refl _))
     have HZX:=Lib.hid (World.size_alloc wr (.cells #[.int .i64 la,.slice A5 ql c5] 55))
     clear hbx
     generalize wr.alloc (.cells #[.int .i64 la,.slice A5 ql c5] 55)=wx at *
     have hbeh:=behind_any As Af A5 cs cf c5 ql ns nf kk la 0 s f r2 wx (by omega) (by omega) (HSS.out.next (HBX2.out) HBX2.out.size) (HSF3.out.next HBX2.out HBX2.out.size) (HSLX.out.more (by rw[HZX.out];have:=HWS.out;omega)) hq64 (Nat.zero_le _) HLA.out (fun i x hx=>by have:=HSB.out i x hx;exact⟨this.1,by omega⟩) (fun i x hx=>by have:=HFB.out i x hx;exact⟨this.1,by omega⟩)
     rw[show (((0:Nat):Int) - 1)=(-1:Int) by rfl] at hbeh
     refine hbeh.mono ?_
     rintro e w6 ⟨hb6,he⟩
     have HB6:=Lib.hid (HBX2.out.trans (hb6.mono HBX2.out.size))
     have HO6:=Lib.hid (HOX.out.later hb6)
     obtain⟨o,ho⟩:∃ o,o=behindW s f kk ((la:Int),r2) (-1):=⟨_,rfl⟩
     rw[←ho] at he HAW2
     have HBO:=Lib.hid ho
     clear hb6 hbeh ho
     cases o with
     |none =>
      simp only at he
      subst he
      have HN:=Lib.hid (show aheadW s f kk g.2.2=none by rw[HAW2.out];rfl)
      go_wp2_with fail
      go_ret2
      exact⟨HB3.out.trans (HB6.out.mono (by have:=HS3.out;omega)),fun h=>absurd h HNB.out,fun _=>⟨none,⟨some s,HF.out,some f,HO2.out,HN.out.symm⟩,rfl⟩⟩
     |some x =>
      simp only at he
      obtain⟨v,rfl,hown⟩:=he
      have HX:=Lib.hid (behindW_b (by omega) HBO.out.symm)
      have HAW3:=Lib.hid (show aheadW s f kk g.2.2=(aheadW s f kk (g.2.2.drop (j+1))).map ((outs++[x])++·) by
       rw[HAW2.out]
       simp only[Option.bind_some,Option.map_map]
       congr 1
       funext y
       simp)
      have HOB:=Lib.hid (show ∀ b,(Value.slice A10 j c10).ownBlock=some b→b<wx.heap.size from fun b hb=>by
       obtain⟨css,h1,_⟩:=HOX.out
       exact (h1.lt b hb).2)
      have HES:=Lib.hid (eslW_of (fits_short HX.out.1) hown HOB.out)
      obtain⟨Ax,cx,rfl,hx5,hx6⟩:=own_form hown
      obtain⟨css,hcss1,hcss2,hcss3⟩:=HO6.out
      rw[HOL.out] at hcss1
      have HC1:=Lib.hid hcss1
      have HC2:=Lib.hid hcss2
      have HC3:=Lib.hid hcss3
      have HBS:=Lib.hid (show w3.heap.size≤w6.heap.size from HB6.out.size)
      obtain⟨qx,hqx⟩:∃ qx,qx=x.length:=⟨_,rfl⟩
      rw[←hqx] at HES hx5 ⊢
      clear hown hcss1 hcss2 hcss3 hqx HAW2
      go_wp2_with (at_builtin;refine wpList_app (m:=1) (n:=j) strs_appW rfl rfl rfl rfl (HC1.out.alloc _) (Rd.row (B:=w6.heap.size+1) (Go.heap_alloc_new w6 _) (by omega)) rfl (fun u hu=>by simp at hu;subst hu;rfl) (by have:=HJQ.out;unfold maxLen;omega) (by have:=HJQ.out;omega) (by rw[World.size_alloc];have:=HBS.out;omega) ?_)
      intro v' w7 ho7 hg7 hv7 _
      have hb67:=(Below.refl w6.heap.size w6).alloc (Nat.le_refl _) (.cells #[.slice Ax qx cx] 22)
      have HO7:=Lib.hid (show OwnL (eSl eW) w7 w3.heap.size 22 v' (outs++[x]) from by
       have hO':OwnL (eSl eW) (w6.alloc (.cells #[.slice Ax qx cx] 22)) w3.heap.size 22 (.slice A10 j c10) outs:=HO6.out.later hb67
       refine OwnL.snoc (v:=.slice A10 j c10) (w:=w6.alloc (.cells #[.slice Ax qx cx] 22)) (css:=css) HC2.out (fun i cs x hc hx w' ha=>?_) (fun w' ha=>?_) (by rw[HOL.out];exact ho7) hg7 (by rw[World.size_alloc];exact hv7)
       ·refine Elt.more _ (HC3.out i cs x hc hx w' fun p hp hn=>?_) hb67.size
        rw[ha p (Nat.lt_of_lt_of_le hp hb67.size) hn,hb67.cell hp]
       ·refine Elt.more _ (HES.out w' fun p hp hn=>?_) hb67.size
        rw[ha p (Nat.lt_of_lt_of_le hp hb67.size) hn,hb67.cell hp])
      have HB7:=Lib.hid (grown_below (HB6.out.alloc HB6.out.size (.cells #[.slice Ax qx cx] 22)) hg7 (HC1.out.alloc _) (Nat.le_refl _) (by rw[World.size_alloc];have:=HBS.out;omega))
      obtain⟨A7,c7,rfl,h71,h72⟩:=own_form ho7
      have HOL7:=Lib.hid (show (outs++[x]).length=j+1 by rw[List.length_append,HOL.out];rfl)
      clear ho7 hg7 hv7 hb67
      go_wp2_with fail
      go_roundg (gk - 1)
      case measure=>omega
      case rel=>exact⟨j+1,outs++[x],by omega,by omega,by go_num,HO7.out,HOL7.out,HAW3.out,HB7.out⟩
    ·have HEND:=Lib.hid (show aheadW s f kk g.2.2=some outs by
      rw[HAW.out,show j=g.2.2.length by rw[←HL.out.2.2];omega,List.drop_length]
      simp[aheadW])
     go_wp2_with fail
     go_ret2
     refine⟨HB3.out.trans (HBR.out.mono (by have:=HS3.out;omega)),fun h=>absurd h HNB.out,fun _=>⟨some outs,⟨some s,HF.out,some f,HO2.out,HEND.out.symm⟩,A10,c10,?_,?_⟩⟩
     ·rw[HOL.out];rfl
     ·rw[HOL.out];exact HO.out.sl
end Go.Proofs.YtfpihflepeiagaaGreatDoor
