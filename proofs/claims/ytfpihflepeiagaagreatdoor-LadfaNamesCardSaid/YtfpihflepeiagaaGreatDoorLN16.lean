/- Texts of this proof joined: Wcat2, First1, TableW. -/
import Derived.Test.YtfpihflepeiagaaGreatDoorLN15
import Derived.Test.YtfpihflepeiagaaGreatDoorLN06
import Derived.Test.YtfpihflepeiagaaGreatDoorLN11
namespace Go.Proofs.YtfpihflepeiagaaGreatDoor
open Go.RowKit Go.Sort

def Short (l:List Wd):Prop:=∀ x∈l,x.length≤4
def rowSkip (k:Nat) (x:Wd) (b:List Wd):List Wd:=if k≤x.length∧0<b.length then b.take 1 else b
def rowProd (k:Nat) (x:Wd) (b:List Wd):List Wd:=b.map fun y=>(x++y).take k
def prodSkip (k:Nat) (a b:List Wd):List Wd:=a.flatMap fun x=>rowProd k x (rowSkip k x b)
theorem mem_rowProd {k:Nat} {x:Wd} {b:List Wd} {z:Wd}:z∈rowProd k x (rowSkip k x b)↔∃ y∈b,z=(x++y).take k:=by
 unfold rowProd rowSkip
 rw[List.mem_map]
 split
 ·rename_i h
  obtain⟨h1,h2⟩:=h
  have ht:∀ y:Wd,(x++y).take k=x.take k:=fun y=>List.take_append_of_le_length h1
  constructor
  ·rintro⟨y,hy,rfl⟩;exact⟨y,List.mem_of_mem_take hy,rfl⟩
  ·rintro⟨y,_,rfl⟩
   match b,h2 with
   |z :: b,_=>exact⟨z,by simp,by rw[ht,ht]⟩
 ·constructor
  ·rintro⟨y,hy,rfl⟩;exact⟨y,hy,rfl⟩
  ·rintro⟨y,hy,rfl⟩;exact⟨y,hy,rfl⟩
theorem mem_prodSkip {k:Nat} {a b:List Wd} {z:Wd}:z∈prodSkip k a b↔z∈prodW k a b:=by
 rw[mem_prodW]
 unfold prodSkip
 rw[List.mem_flatMap]
 constructor
 ·rintro⟨x,hx,h⟩;obtain⟨y,hy,rfl⟩:=mem_rowProd.1 h;exact⟨x,hx,y,hy,rfl⟩
 ·rintro⟨x,hx,y,hy,rfl⟩;exact⟨x,hx,mem_rowProd.2 ⟨y,hy,rfl⟩⟩
theorem prodSkip_succ {k:Nat} {a b:List Wd} {i:Nat} (h:i<a.length):prodSkip k (a.take (i+1)) b=prodSkip k (a.take i) b++rowProd k a[i] (rowSkip k a[i] b):=by
 unfold prodSkip
 rw[List.take_succ_eq_append_getElem h,List.flatMap_append]
 simp
def SoFar (L P:List Wd):Prop:=L.Nodup∧∀ z,z∈L↔z∈P
theorem SoFar.put {L P:List Wd} (h:SoFar L P) (x:Wd):SoFar (putW L x) (P++[x]):=by
 refine⟨?_,fun z=>by rw[mem_putW,h.2,List.mem_append,List.mem_singleton]⟩
 unfold putW
 split
 ·exact h.1
 ·rename_i hn
  rw[List.nodup_append]
  exact⟨h.1,by simp,fun a ha b hb e=>by rw[List.mem_singleton] at hb;subst e hb;exact hn ha⟩
theorem SoFar.over {L P:List Wd} (h:SoFar L P) {k:Int} {a b:List Wd} (hs:∀ z∈P,z∈prodW k a b) (hl:4096<L.length):catW k a b=none:=by
 unfold catW
 rw[if_neg]
 have:=h.1.length_le_of_subset (fun z hz=>mem_setOf.2 (hs z ((h.2 z).1 hz)):L ⊆ setOf (prodW k a b))
 omega
theorem SoFar.full {L P:List Wd} (h:SoFar L P) {k:Int} {a b:List Wd} (hs:∀ z,z∈P↔z∈prodW k a b) (hl:L.length≤4096):catW k a b=some (setOf L):=by
 have e:setOf L=setOf (prodW k a b):=setOf_congr fun z=>(h.2 z).trans (hs z)
 unfold catW
 rw[←e,if_pos (Nat.le_trans (setOf_le L) hl)]
def CatRes (w:World) (o:Option (List Wd)) (e:Ending) (w':World):Prop :=
 Below w.heap.size w w'∧match o with
 |none=>e=.returned (.tuple #[.slice none 0 0,.bool false])
 |some l=>∃ v,e=.returned (.tuple #[v,.bool true])∧w'.ownsRow w.heap.size 9 1 v l.length (wcells l)
theorem take_all {α:Type} {l:List α} {j:Nat} (h:l.length≤j):l.take j=l:=List.take_of_length_le h
theorem rowProd_len (k:Nat) (x:Wd) (b:List Wd):(rowProd k x b).length=b.length:=by simp[rowProd]
theorem take_cons_get {α:Type} (l:List α) {j:Nat} (h:j<l.length):l.take (j+1)=l.take j++[l[j]]:=List.take_succ_eq_append_getElem h
theorem catSt_below {w w':World} {g S O C B0:Nat} {L:List Wd} {N:Nat} (h:CatSt w g S O C B0 L N) (hb:Below w.heap.size w w'):CatSt w' g S O C B0 L N:=by
 obtain⟨l,hm,hs⟩:=h.map
 obtain⟨v,ho,hown⟩:=h.out
 obtain⟨l1,l2,l3,l4,l5,l6,l7,l8,l9,l10⟩:=h.le
 exact⟨⟨l,hm.below hb hm.lt,hs⟩,(hb.block S (by omega)).trans h.seen,⟨v,(hb.block O (by omega)).trans ho,own_below hown hb⟩,l1,l2,l3,l4,l5,l6,l7,l8,l9,Nat.le_trans l10 hb.size⟩
set_option maxRecDepth 100000 in
set_option maxHeartbeats 16000000 in
theorem wsetCat_any (k:Nat) (A B:Option Addr) (ca cb:Nat) (a b:List Wd) (w:World) (hk1:1≤k) (hk2:k≤4) (ha:SlR eW w w.heap.size (.slice A a.length ca) a) (hb:SlR eW w w.heap.size (.slice B b.length cb) b) (sa:Short a) (sb:Short b) (hN:a.length*b.length≤1152921504606846000) :
  Calls Tryz.prog 93 #[.int .i64 k,.slice A a.length ca,.slice B b.length cb] w (CatRes w (catW k a b)):=by
 have hna:=ha.n_le
 have hnb:=hb.n_le
 have HA:=Lib.hid ha
 have HB:=Lib.hid hb
 have HSA:=Lib.hid sa
 have HSB:=Lib.hid sb
 have HNN:=Lib.hid hN
 obtain⟨na,hla⟩:∃ n,n=a.length:=⟨_,rfl⟩
 obtain⟨nb,hlb⟩:∃ n,n=b.length:=⟨_,rfl⟩
 rw[←hla] at HA hna ⊢
 rw[←hlb] at HB hnb ⊢
 have HLA:=Lib.hid hla
 have HLB:=Lib.hid hlb
 clear ha hb sa sb hN hla hlb
 have hmm:=@run_makeMap Tryz.prog
 go_enter Tryz.func93,Tryz.ntmps93
 go_wp2_with fail
 have HS1:=Lib.hid (show CatSt (((w.alloc (.map #[] 0)).alloc (.cells #[.map (some w.heap.size)] 98)).alloc (.cells #[.slice none 0 0] 22)) w.heap.size (w.heap.size+1) (w.heap.size+1+1) w.heap.size (w.heap.size+3) [] 0 by
  have z1:((w.alloc (.map #[] 0)).alloc (.cells #[.map (some w.heap.size)] 98)).heap.size=w.heap.size+1+1:=by rw[World.size_alloc,World.size_alloc]
  refine⟨⟨[],((MapR.made w).alloc _).alloc _,SeenL.nil⟩,?_,⟨_,by rw[←z1];exact Go.heap_alloc_new _ _,World.ownsRow_nil _ _ _ _⟩,by omega,by omega,by omega,by omega,by omega,by omega,by omega,by omega,by omega,by rw[World.size_alloc,z1];omega⟩
  rw[Below.heap_alloc _ _ _ (by rw[z1];omega)]
  have:=Go.heap_alloc_new (w.alloc (.map #[] 0)) (.cells #[.map (some w.heap.size)] 98)
  rw[World.size_alloc] at this
  exact this)
 have HB1:=Lib.hid (((((Below.refl w.heap.size w).alloc (Nat.le_refl _) (.map #[] 0)).alloc (by rw[World.size_alloc];omega) (.cells #[.map (some w.heap.size)] 98)).alloc (by rw[World.size_alloc,World.size_alloc];omega) (.cells #[.slice none 0 0] 22)))
 generalize hw1:((w.alloc (.map #[] 0)).alloc (.cells #[.map (some w.heap.size)] 98)).alloc (.cells #[.slice none 0 0] 22)=w1 at *
 clear hw1 hmm
 go_loopw [20] (fun v20 wr=>∃ (i N:Nat) (L:List Wd),i≤na∧v20=.int .i64 i∧Hid (CatSt wr w.heap.size (w.heap.size+1) (w.heap.size+1+1) w.heap.size (w.heap.size+3) L N)∧Hid (SoFar L (prodSkip k (a.take i) b))∧Hid (L.length≤4096)∧Hid (N≤i*nb)∧Hid (Below w.heap.size w wr)) (fun v20 _=>na - (intOf v20).toNat)
 case atStart=>exact⟨0,0,[],by omega,rfl,HS1.out,⟨by simp,by simp[prodSkip]⟩,(by simp:([]:List Wd).length≤4096),Nat.zero_le _,HB1.out⟩
 case round =>
  clear HS1 HB1
  obtain⟨i,N,L,hi,rfl,HST,HSF,HL,HNI,HBR⟩:=hrel
  by_cases hlt:i<na
  ·have hlt':i<a.length:=by rw[←HLA.out];exact hlt
   obtain⟨b1,o1,rfl,_,hb1,hc1⟩:=(HA.out.below HBR.out).wd hlt'
   have HXP:=Lib.hid (prodSkip_succ (k:=k) (b:=b) hlt')
   have HXM:=Lib.hid (List.getElem_mem hlt')
   obtain⟨x,hx⟩:∃ x,x=a[i]:=⟨_,rfl⟩
   rw[←hx] at hc1 HXP HXM
   clear hx hlt'
   have HSX:=Lib.hid (HSA.out x HXM.out)
   have hsz:(⟨x.toArray⟩:ByteArray).size=x.length:=wv_size x
   by_cases hcond:k≤x.length∧0<nb
   ·obtain⟨hge,hpos⟩:=hcond
    obtain⟨b0,o0,rfl,_,_,_⟩:=HB.out.wd (k:=0) (by rw[←HLB.out];exact hpos)
    have HRS:=Lib.hid (HB.out.take_ 1 (n':=1) (by rw[List.length_take,←HLB.out];omega))
    have HXR:=Lib.hid (show rowProd k x (b.take 1)=rowProd k x (rowSkip k x b) by unfold rowSkip;rw[if_pos ⟨hge,by rw[←HLB.out];exact hpos⟩])
    have HRL:=Lib.hid (show 1=(b.take 1).length by rw[List.length_take,←HLB.out];omega)
    have HSUB:=Lib.hid (show ∀ y∈b.take 1,y∈b from fun y hy=>List.mem_of_mem_take hy)
    have HRNB:=Lib.hid (show 1≤nb from hpos)
    go_wp2_with fail

    -- the inner loop
    have HP0:=Lib.hid (show SoFar L (prodSkip k (a.take i) b++(rowProd k x (b.take 1)).take 0) by rw[List.take_zero,List.append_nil];exact HSF.out)
    have HN0:=Lib.hid (show N≤i*nb+0 by rw[Nat.add_zero];exact HNI.out)
    clear HSF HNI
    go_loopw [38] (fun v38 wt=>∃ (j N:Nat) (L:List Wd),j≤1∧v38=.int .i64 j∧Hid (CatSt wt w.heap.size (w.heap.size+1) (w.heap.size+1+1) w.heap.size (w.heap.size+3) L N)∧Hid (SoFar L (prodSkip k (a.take i) b++(rowProd k x (b.take 1)).take j))∧Hid (L.length≤4096)∧Hid (N≤i*nb+j)∧Hid (Below w.heap.size w wt)) (fun v38 _=>1 - (intOf v38).toNat)
    case atStart=>exact⟨0,N,L,by omega,rfl,HST.out,HP0.out,HL.out,HN0.out,HBR.out⟩
    case round =>
     clear HST HP0 HL HN0 HBR
     obtain⟨j,N,L,hj,rfl,HST,HSF,HL,HNJ,HBR⟩:=hrel
     by_cases hjr:j<1
     ·have hjl:j<(b.take 1).length:=by rw[←HRL.out];exact hjr
      obtain⟨b2,o2,eB,_,hb2,hc2⟩:=(HRS.out.below HBR.out).wd hjl
      injection eB with eB
      injection eB with e1 e2
      subst e1 e2
      have HPS:=Lib.hid (show (rowProd k x (b.take 1)).take (j+1)=(rowProd k x (b.take 1)).take j++[(x++(b.take 1)[j]).take k] by rw[take_cons_get _ (by unfold rowProd;rw[List.length_map];exact hjl)];simp[rowProd])
      have HYM:=Lib.hid (show (b.take 1)[j]∈b from HSUB.out _ (List.getElem_mem hjl))
      obtain⟨y,hy⟩:∃ y,y=(b.take 1)[j]:=⟨_,rfl⟩
      rw[←hy] at hc2 HPS HYM
      clear hjl hy
      have HSY:=Lib.hid (HSB.out y HYM.out)
      have HNB:=Lib.hid (show N≤1152921504606846976 by
       have e1:=HNJ.out
       have e2:(i+1)*nb≤na*nb:=Nat.mul_le_mul_right nb (by omega)
       have e3:=HNN.out
       rw[←HLA.out,←HLB.out] at e3
       rw[Nat.add_mul,Nat.one_mul] at e2
       have e4:=HRNB.out
       omega)
      go_wp2_with fail
      have HCA:=Lib.hid ((Below.refl _ _).alloc (Nat.le_refl _) (.cells #[wv x,wv y] 9):Below wr.heap.size wr _)
      have HCS:=Lib.hid (Go.heap_alloc_new wr (.cells #[wv x,wv y] 9))
      have HCZ:=Lib.hid (World.size_alloc wr (.cells #[wv x,wv y] 9))
      generalize hw3:wr.alloc (.cells #[wv x,wv y] 9)=w3 at *
      clear hw3
      have hsl:SlR eW w3 w3.heap.size (.slice (some ⟨wr.heap.size,0,none⟩) 2 2) [x,y]:=slW_of (xs:=[x,y]) (fun z hz=>by
       have:=HSX.out;have:=HSY.out
       rw[List.mem_cons,List.mem_singleton] at hz
       unfold maxLen
       rcases hz with rfl | rfl <;> omega) (Rd.row HCS.out (by rw[HCZ.out];omega)) (Nat.le_refl _) (by unfold maxLen;omega)
      refine (wordCat_any x y k _ 2 w3 hk1 (by omega) (by have:=HSX.out;have:=HSY.out;omega) hsl).mono ?_
      rintro e w4 ⟨rfl,rfl⟩
      have HST3:=Lib.hid (catSt_below HST.out HCA.out)
      have HBR3:=Lib.hid (HBR.out.trans (HCA.out.mono HBR.out.size))
      obtain⟨z,hz⟩:∃ z,z=(x++y).take k:=⟨_,rfl⟩
      rw[←hz] at HPS ⊢
      have HZ:=Lib.hid hz
      clear hsl HCA HCS HCZ HST HBR hz
      go_wp2_with fail
      refine (catClo_any _ _ _ _ _ _ L N z HST3.out HL.out HNB.out).mono ?_
      rintro e w5 ⟨rfl,hst5,hb5⟩
      have HST5:=Lib.hid hst5
      have HBR5:=Lib.hid (HBR3.out.trans hb5)
      have HSF5:=Lib.hid (show SoFar (putW L z) (prodSkip k (a.take i) b++(rowProd k x (b.take 1)).take (j+1)) by rw[HPS.out,←List.append_assoc];exact HSF.out.put z)
      clear hst5 hb5 HST3 HBR3 HPS HSF
      obtain⟨M,hM⟩:∃ M,M=putW L z:=⟨_,rfl⟩
      rw[←hM] at HST5 HSF5 ⊢
      clear hM
      by_cases h4:M.length≤4096
      ·rw[decide_eq_true h4]
       have H4:=Lib.hid h4
       clear h4
       go_wp2_with fail
       exact⟨⟨j+1,N+1,M,by omega,by go_num,HST5.out,HSF5.out,H4.out,(show N+1≤i*nb+(j+1) by have:=HNJ.out;omega),HBR5.out⟩,by simp[intOf];omega⟩
      ·rw[decide_eq_false h4]
       have HOV:=Lib.hid (show catW (k:Int) a b=none from HSF5.out.over (fun q hq=>by
        rw[List.mem_append] at hq
        rcases hq with hq | hq
        ·obtain⟨p,hp,q',hq',rfl⟩:=mem_prodW.1 (mem_prodSkip.1 hq)
         exact mem_prodW.2 ⟨p,List.mem_of_mem_take hp,q',hq',rfl⟩
        ·have:=List.mem_of_mem_take hq
         obtain⟨y',hy',rfl⟩:=List.mem_map.1 this
         exact mem_prodW.2 ⟨x,HXM.out,y',HSUB.out y' hy',by simp⟩) (by omega))
       clear h4
       go_wp2_with fail
       go_ret2
       exact⟨HBR5.out,by rw[HOV.out];rfl⟩
     ·have hjr':j=1:=by omega
      have HSF2:=Lib.hid (show SoFar L (prodSkip k (a.take (i+1)) b) by
       have:=HSF.out
       rw[take_all (l:=rowProd k x (b.take 1)) (by rw[rowProd_len,hjr'];exact Nat.le_of_eq HRL.out.symm),HXR.out,←HXP.out] at this
       exact this)
      have HNE:=Lib.hid (show N≤(i+1)*nb by have:=HNJ.out;have:=HRNB.out;rw[Nat.add_mul,Nat.one_mul];omega)
      clear hjr' HSF
      go_wp2_with fail
      exact⟨⟨i+1,N,L,by omega,by go_num,HST.out,HSF2.out,HL.out,HNE.out,HBR.out⟩,by simp[intOf];omega⟩

   ·have HXR:=Lib.hid (show rowProd k x b=rowProd k x (rowSkip k x b) by unfold rowSkip;rw[if_neg (by rw[←HLB.out];exact hcond)])
    have HRS:=HB
    have HRL:=HLB
    have HSUB:=Lib.hid (show ∀ y∈b,y∈b from fun y hy=>hy)
    have HRNB:=Lib.hid (show nb≤nb from Nat.le_refl _)
    by_cases hge:k≤x.length
    ·have hpos:¬ 0<nb:=fun h=>hcond ⟨hge,h⟩
     clear hcond
     go_wp2_with fail

     -- the inner loop
     have HP0:=Lib.hid (show SoFar L (prodSkip k (a.take i) b++(rowProd k x b).take 0) by rw[List.take_zero,List.append_nil];exact HSF.out)
     have HN0:=Lib.hid (show N≤i*nb+0 by rw[Nat.add_zero];exact HNI.out)
     clear HSF HNI
     go_loopw [38] (fun v38 wt=>∃ (j N:Nat) (L:List Wd),j≤nb∧v38=.int .i64 j∧Hid (CatSt wt w.heap.size (w.heap.size+1) (w.heap.size+1+1) w.heap.size (w.heap.size+3) L N)∧Hid (SoFar L (prodSkip k (a.take i) b++(rowProd k x b).take j))∧Hid (L.length≤4096)∧Hid (N≤i*nb+j)∧Hid (Below w.heap.size w wt)) (fun v38 _=>nb - (intOf v38).toNat)
     case atStart=>exact⟨0,N,L,by omega,rfl,HST.out,HP0.out,HL.out,HN0.out,HBR.out⟩
     case round =>
      clear HST HP0 HL HN0 HBR
      obtain⟨j,N,L,hj,rfl,HST,HSF,HL,HNJ,HBR⟩:=hrel
      by_cases hjr:j<nb
      ·exact absurd (Nat.lt_of_le_of_lt (Nat.zero_le _) hjr) hpos
      ·have hjr':j=nb:=by omega
       have HSF2:=Lib.hid (show SoFar L (prodSkip k (a.take (i+1)) b) by
        have:=HSF.out
        rw[take_all (l:=rowProd k x b) (by rw[rowProd_len,hjr'];exact Nat.le_of_eq HRL.out.symm),HXR.out,←HXP.out] at this
        exact this)
       have HNE:=Lib.hid (show N≤(i+1)*nb by have:=HNJ.out;have:=HRNB.out;rw[Nat.add_mul,Nat.one_mul];omega)
       clear hjr' HSF
       go_wp2_with fail
       exact⟨⟨i+1,N,L,by omega,by go_num,HST.out,HSF2.out,HL.out,HNE.out,HBR.out⟩,by simp[intOf];omega⟩

    ·clear hcond
     go_wp2_with fail

     -- the inner loop
     have HP0:=Lib.hid (show SoFar L (prodSkip k (a.take i) b++(rowProd k x b).take 0) by rw[List.take_zero,List.append_nil];exact HSF.out)
     have HN0:=Lib.hid (show N≤i*nb+0 by rw[Nat.add_zero];exact HNI.out)
     clear HSF HNI
     go_loopw [38] (fun v38 wt=>∃ (j N:Nat) (L:List Wd),j≤nb∧v38=.int .i64 j∧Hid (CatSt wt w.heap.size (w.heap.size+1) (w.heap.size+1+1) w.heap.size (w.heap.size+3) L N)∧Hid (SoFar L (prodSkip k (a.take i) b++(rowProd k x b).take j))∧Hid (L.length≤4096)∧Hid (N≤i*nb+j)∧Hid (Below w.heap.size w wt)) (fun v38 _=>nb - (intOf v38).toNat)
     case atStart=>exact⟨0,N,L,by omega,rfl,HST.out,HP0.out,HL.out,HN0.out,HBR.out⟩
     case round =>
      clear HST HP0 HL HN0 HBR
      obtain⟨j,N,L,hj,rfl,HST,HSF,HL,HNJ,HBR⟩:=hrel
      by_cases hjr:j<nb
      ·have hjl:j<b.length:=by rw[←HRL.out];exact hjr
       obtain⟨b2,o2,eB,_,hb2,hc2⟩:=(HRS.out.below HBR.out).wd hjl
       subst eB
       have HPS:=Lib.hid (show (rowProd k x b).take (j+1)=(rowProd k x b).take j++[(x++b[j]).take k] by rw[take_cons_get _ (by unfold rowProd;rw[List.length_map];exact hjl)];simp[rowProd])
       have HYM:=Lib.hid (show b[j]∈b from HSUB.out _ (List.getElem_mem hjl))
       obtain⟨y,hy⟩:∃ y,y=b[j]:=⟨_,rfl⟩
       rw[←hy] at hc2 HPS HYM
       clear hjl hy
       have HSY:=Lib.hid (HSB.out y HYM.out)
       have HNB:=Lib.hid (show N≤1152921504606846976 by
        have e1:=HNJ.out
        have e2:(i+1)*nb≤na*nb:=Nat.mul_le_mul_right nb (by omega)
        have e3:=HNN.out
        rw[←HLA.out,←HLB.out] at e3
        rw[Nat.add_mul,Nat.one_mul] at e2
        have e4:=HRNB.out
        omega)
       go_wp2_with fail
       have HCA:=Lib.hid ((Below.refl _ _).alloc (Nat.le_refl _) (.cells #[wv x,wv y] 9):Below wr.heap.size wr _)
       have HCS:=Lib.hid (Go.heap_alloc_new wr (.cells #[wv x,wv y] 9))
       have HCZ:=Lib.hid (World.size_alloc wr (.cells #[wv x,wv y] 9))
       generalize hw3:wr.alloc (.cells #[wv x,wv y] 9)=w3 at *
       clear hw3
       have hsl:SlR eW w3 w3.heap.size (.slice (some ⟨wr.heap.size,0,none⟩) 2 2) [x,y]:=slW_of (xs:=[x,y]) (fun z hz=>by
        have:=HSX.out;have:=HSY.out
        rw[List.mem_cons,List.mem_singleton] at hz
        unfold maxLen
        rcases hz with rfl | rfl <;> omega) (Rd.row HCS.out (by rw[HCZ.out];omega)) (Nat.le_refl _) (by unfold maxLen;omega)
       refine (wordCat_any x y k _ 2 w3 hk1 (by omega) (by have:=HSX.out;have:=HSY.out;omega) hsl).mono ?_
       rintro e w4 ⟨rfl,rfl⟩
       have HST3:=Lib.hid (catSt_below HST.out HCA.out)
       have HBR3:=Lib.hid (HBR.out.trans (HCA.out.mono HBR.out.size))
       obtain⟨z,hz⟩:∃ z,z=(x++y).take k:=⟨_,rfl⟩
       rw[←hz] at HPS ⊢
       have HZ:=Lib.hid hz
       clear hsl HCA HCS HCZ HST HBR hz
       go_wp2_with fail
       refine (catClo_any _ _ _ _ _ _ L N z HST3.out HL.out HNB.out).mono ?_
       rintro e w5 ⟨rfl,hst5,hb5⟩
       have HST5:=Lib.hid hst5
       have HBR5:=Lib.hid (HBR3.out.trans hb5)
       have HSF5:=Lib.hid (show SoFar (putW L z) (prodSkip k (a.take i) b++(rowProd k x b).take (j+1)) by rw[HPS.out,←List.append_assoc];exact HSF.out.put z)
       clear hst5 hb5 HST3 HBR3 HPS HSF
       obtain⟨M,hM⟩:∃ M,M=putW L z:=⟨_,rfl⟩
       rw[←hM] at HST5 HSF5 ⊢
       clear hM
       by_cases h4:M.length≤4096
       ·rw[decide_eq_true h4]
        have H4:=Lib.hid h4
        clear h4
        go_wp2_with fail
        exact⟨⟨j+1,N+1,M,by omega,by go_num,HST5.out,HSF5.out,H4.out,(show N+1≤i*nb+(j+1) by have:=HNJ.out;omega),HBR5.out⟩,by simp[intOf];omega⟩
       ·rw[decide_eq_false h4]
        have HOV:=Lib.hid (show catW (k:Int) a b=none from HSF5.out.over (fun q hq=>by
         rw[List.mem_append] at hq
         rcases hq with hq | hq
         ·obtain⟨p,hp,q',hq',rfl⟩:=mem_prodW.1 (mem_prodSkip.1 hq)
          exact mem_prodW.2 ⟨p,List.mem_of_mem_take hp,q',hq',rfl⟩
         ·have:=List.mem_of_mem_take hq
          obtain⟨y',hy',rfl⟩:=List.mem_map.1 this
          exact mem_prodW.2 ⟨x,HXM.out,y',HSUB.out y' hy',by simp⟩) (by omega))
        clear h4
        go_wp2_with fail
        go_ret2
        exact⟨HBR5.out,by rw[HOV.out];rfl⟩
      ·have hjr':j=nb:=by omega
       have HSF2:=Lib.hid (show SoFar L (prodSkip k (a.take (i+1)) b) by
        have:=HSF.out
        rw[take_all (l:=rowProd k x b) (by rw[rowProd_len,hjr'];exact Nat.le_of_eq HRL.out.symm),HXR.out,←HXP.out] at this
        exact this)
       have HNE:=Lib.hid (show N≤(i+1)*nb by have:=HNJ.out;have:=HRNB.out;rw[Nat.add_mul,Nat.one_mul];omega)
       clear hjr' HSF
       go_wp2_with fail
       exact⟨⟨i+1,N,L,by omega,by go_num,HST.out,HSF2.out,HL.out,HNE.out,HBR.out⟩,by simp[intOf];omega⟩

  ·have him:i=na:=by omega
   have HCW:=Lib.hid (show catW (k:Int) a b=some (setOf L) by
    have:=HSF.out
    rw[him,HLA.out,List.take_of_length_le (Nat.le_refl _)] at this
    exact this.full (fun z=>mem_prodSkip) HL.out)
   obtain⟨v,ho,hown⟩:=HST.out.out
   have c9:=cell0 ho
   obtain⟨A9,c8,rfl,_,_⟩:=own_form hown
   have HFT:=Lib.hid (show Fits L from fun z hz=>by
    obtain⟨p,hp,q,hq,rfl⟩:=mem_prodW.1 (mem_prodSkip.1 ((HSF.out.2 z).1 hz))
    rw[List.length_take]
    unfold maxLen
    simp
    omega)
   have HO:=Lib.hid hown
   clear ho hown
   go_wp2_with fail
   refine (wsetOf_any _ _ L _ (slW_own HFT.out HO.out) (by have:=HL.out;omega)).mono ?_
   rintro e w5 ⟨v5,rfl,h5,hb5⟩
   have HO5:=Lib.hid (own_more h5 HBR.out.size)
   have HB5:=Lib.hid (HBR.out.trans (hb5.mono HBR.out.size))
   obtain⟨A5,c5,rfl,_,_⟩:=own_form h5
   clear h5 hb5
   go_wp2_with fail
   go_ret2
   refine⟨HB5.out,?_⟩
   rw[HCW.out]
   exact⟨_,rfl,HO5.out⟩
end Go.Proofs.YtfpihflepeiagaaGreatDoor
namespace Go.Proofs.YtfpihflepeiagaaGreatDoor
open Go.RowKit Go.Sort

def OneRes (w:World) (o:Option (List Wd)) (e:Ending) (w':World):Prop :=
 Below w.heap.size w w'∧match o with
 |none=>∃ v,e=.returned (.tuple #[v,.bool false])
 |some x=>∃ A c,e=.returned (.tuple #[.slice A x.length c,.bool true])∧SlR eW w' w'.heap.size (.slice A x.length c) x
set_option maxRecDepth 100000 in
set_option maxHeartbeats 4000000 in
theorem one_any (A:Option Addr) (c:Nat) (ss:Sets) (s:Int) (w:World) (h:SlR (eSl eW) w w.heap.size (.slice A ss.length c) ss) (h1:-9223372036854775808≤s) (h2:s≤9223372036854775807) :
  Calls Tryz.prog 124 #[.slice A ss.length c,.int .i64 s] w (OneRes w (oneW ss s)):=by
 have HH:=Lib.hid h
 have hn:=h.n_le
 obtain⟨n,hl⟩:∃ n,n=ss.length:=⟨_,rfl⟩
 rw[←hl] at HH hn ⊢
 have HL:=Lib.hid hl
 clear h hl
 by_cases hs:s<0
 ·have hd:decide (s<0)=true:=by simpa using hs
  have hcell:(Value.int .u8 ((-1 - s)%256))=bcell (tb s):=by
   unfold bcell tb
   rw[UInt8.toNat_ofNat']
   congr 1
   omega
  have hcv:(convert 70 9 (.slice (some ⟨w.heap.size,0,none⟩) 1 1)).run Tryz.prog (w.alloc (.cells #[.int .u8 ((-1 - s)%256)] 5))=.ok (wv [tb s]) (w.alloc (.cells #[.int .u8 ((-1 - s)%256)] 5)):=by
   rw[hcell]
   exact conv_bytes (l:=[tb s]) (B:=w.heap.size+1) (Rd.row (Go.heap_alloc_new w _) (by omega)) Tryz.underlying70 Tryz.underlying5 Tryz.underlying9 1 rfl 1
  clear hcell
  by_cases hm:-256≤s
  ·have hmd:decide (-256≤s)=true:=by simpa using hm
   rw[show (-1 - s)%256=-1 - s by omega] at hcv
   have HO:=Lib.hid (show oneW ss s=some [[tb s]] by unfold oneW;rw[if_pos hs,if_pos hm])
   go_enter Tryz.func124,Tryz.ntmps124
   go_wp2_with fail
   refine (isTermSym_any s w).mono ?_
   rintro e w1 ⟨rfl,rfl⟩
   go_wp2_with fail
   go_ret2
   refine⟨by go_grown,?_⟩
   rw[HO.out]
   refine⟨_,_,rfl,slW_of (xs:=[[tb s]]) (fun x hx=>by rw[List.mem_singleton] at hx;subst hx;unfold maxLen;simp) (Rd.row (heap_two w _ _) (by rw[World.size_alloc,World.size_alloc];omega)) (Nat.le_refl _) (by unfold maxLen;omega)⟩
  ·have hmd:decide (-256≤s)=false:=by simpa using hm
   have HO:=Lib.hid (show oneW ss s=none by unfold oneW;rw[if_pos hs,if_neg hm])
   go_enter Tryz.func124,Tryz.ntmps124
   go_wp2_with fail
   refine (isTermSym_any s w).mono ?_
   rintro e w1 ⟨rfl,rfl⟩
   go_wp2_with fail
   go_ret2
   refine⟨by go_grown,?_⟩
   rw[HO.out]
   exact⟨_,rfl⟩
 ·have hd:decide (s<0)=false:=by simpa using hs
  obtain⟨k,rfl⟩:∃ k:Nat,s=(k:Int):=⟨s.toNat,by omega⟩
  by_cases hk:k<n
  ·have hk':k<ss.length:=by rw[←HL.out];exact hk
   have HO:=Lib.hid (show oneW ss (k:Int)=some ss[k] by unfold oneW;rw[if_neg (by omega)];exact List.getElem?_eq_getElem hk')
   obtain⟨b,off,A2,c2,rfl,_,hbl,hcell,hsl,h5,h6⟩:=HH.out.row1 hk'
   have HSL:=Lib.hid hsl
   obtain⟨x,hx⟩:∃ x,x=ss[k]:=⟨_,rfl⟩
   rw[←hx] at hcell HSL HO
   clear hsl h5 hx hk'
   go_enter Tryz.func124,Tryz.ntmps124
   go_wp2_with fail
   refine (isTermSym_any _ w).mono ?_
   rintro e w1 ⟨rfl,rfl⟩
   rw[hd]
   go_wp2_with fail
   go_ret2
   refine⟨Below.refl _ _,?_⟩
   rw[HO.out]
   exact⟨_,_,rfl,HSL.out⟩
  ·have HO:=Lib.hid (show oneW ss (k:Int)=none by unfold oneW;rw[if_neg (by omega)];exact List.getElem?_eq_none (by rw[←HL.out];omega))
   go_enter Tryz.func124,Tryz.ntmps124
   go_wp2_with fail
   refine (isTermSym_any _ w).mono ?_
   rintro e w1 ⟨rfl,rfl⟩
   rw[hd]
   go_wp2_with fail
   go_ret2
   refine⟨Below.refl _ _,?_⟩
   rw[HO.out]
   exact⟨_,rfl⟩
def Sized (ss:Sets):Prop:=∀ (i:Nat) (x:List Wd),ss[i]? = some x→Short x∧x.length≤1099511627776
theorem ofFrom_step {sets:Sets} {k:Int} {acc:List Wd} {s:Int} {l:List Int}:ofFrom sets k acc (s :: l)=(oneW sets s).bind fun x=>(catW k acc x).bind fun o=>ofFrom sets k o l:=rfl
theorem drop_cons {α:Type} (l:List α) {i:Nat} (h:i<l.length):l.drop i=l[i] :: l.drop (i+1):=List.drop_eq_getElem_cons h
theorem catW_small {k:Nat} (hk:k≤4) {a b o:List Wd} (h:catW k a b=some o):Short o∧o.length≤4096:=by
 refine⟨fun z hz=>?_,?_⟩
 ·obtain⟨x,_,y,_,rfl⟩:=(mem_catW h).1 hz
  rw[List.length_take]
  simp
  omega
 ·unfold catW at h
  split at h
  ·injection h with h;subst h;assumption
  ·cases h
theorem oneW_small {ss:Sets} (h:Sized ss) {s:Int} {x:List Wd} (hx:oneW ss s=some x):Short x∧x.length≤1099511627776:=by
 unfold oneW at hx
 split at hx
 ·split at hx
  ·injection hx with hx
   subst hx
   exact⟨fun z hz=>by rw[List.mem_singleton] at hz;subst hz;simp,by simp⟩
  ·cases hx
 ·exact h _ _ hx
def OfRes (w:World) (o:Option (List Wd)) (e:Ending) (w':World):Prop :=
 Below w.heap.size w w'∧match o with
 |none=>e=.returned (.tuple #[.slice none 0 0,.bool false])
 |some x=>∃ A c,e=.returned (.tuple #[.slice A x.length c,.bool true])∧SlR eW w' w'.heap.size (.slice A x.length c) x
set_option maxRecDepth 100000 in
set_option maxHeartbeats 8000000 in
theorem firstOf_any (A B:Option Addr) (c d k:Nat) (ss:Sets) (syms:List Int) (w:World) (hk1:1≤k) (hk2:k≤4) (h:SlR (eSl eW) w w.heap.size (.slice A ss.length c) ss) (hs:SlR eInt w w.heap.size (.slice B syms.length d) syms) (hz:Sized ss) :
  Calls Tryz.prog 92 #[.slice A ss.length c,.int .i64 k,.slice B syms.length d] w (OfRes w (ofW ss k syms)):=by
 have HH:=Lib.hid h
 have HS:=Lib.hid hs
 have HZ:=Lib.hid hz
 have hn:=h.n_le
 have hm:=hs.n_le
 obtain⟨n,hl⟩:∃ n,n=ss.length:=⟨_,rfl⟩
 obtain⟨m,hl2⟩:∃ n,n=syms.length:=⟨_,rfl⟩
 rw[←hl] at HH hn ⊢
 rw[←hl2] at HS hm ⊢
 have HL:=Lib.hid hl
 have HL2:=Lib.hid hl2
 clear h hl hs hl2 hz
 obtain⟨o,ho⟩:∃ o,o=ofW ss k syms:=⟨_,rfl⟩
 rw[←ho]
 have HO:=Lib.hid ho
 clear ho
 go_enter Tryz.func92,Tryz.ntmps92
 go_wp2_with fail
 have HB1:=Lib.hid ((Below.refl w.heap.size w).alloc (Nat.le_refl _) (.cells #[.string ⟨#[]⟩] 9))
 have HS1:=Lib.hid (show SlR eW (w.alloc (.cells #[.string ⟨#[]⟩] 9)) (w.alloc (.cells #[.string ⟨#[]⟩] 9)).heap.size (.slice (some ⟨w.heap.size,0,none⟩) 1 1) [[]] from slW_of (xs:=[[]]) (fun x hx=>by rw[List.mem_singleton] at hx;subst hx;unfold maxLen;simp) (Rd.row (Go.heap_alloc_new w _) (by rw[World.size_alloc];omega)) (Nat.le_refl _) (by unfold maxLen;omega))
 generalize w.alloc (.cells #[.string ⟨#[]⟩] 9)=w1 at *
 go_loopw [16,8] (fun v16 v8 wr=>∃ (i q:Nat) (acc:List Wd) (A8:Option Addr) (c8:Nat),i≤m∧v16=.int .i64 i∧v8=.slice A8 q c8∧Hid (q=acc.length)∧Hid (o=ofFrom ss k acc (syms.drop i))∧Hid (SlR eW wr wr.heap.size (.slice A8 acc.length c8) acc)∧Hid (Short acc∧acc.length≤4096)∧Hid (Below w.heap.size w wr)) (fun v16 _ _=>m - (intOf v16).toNat)
 case atStart=>exact⟨0,1,[[]],_,1,by omega,rfl,rfl,rfl,HO.out,HS1.out,⟨fun x hx=>by rw[List.mem_singleton] at hx;subst hx;simp,by simp⟩,HB1.out⟩
 case round =>
  clear HS1 HB1
  obtain⟨i,q,acc,A8,c8,hi,rfl,rfl,HQ,HOF,HSA,HSH,HBR⟩:=hrel
  by_cases hlt:i<m
  ·have hlt':i<syms.length:=by rw[←HL2.out];exact hlt
   obtain⟨b,off,cs,rfl,_,hbl,hrep,hcell⟩:=(HS.out.below HBR.out).get (k:=i) hlt' (by decide)
   obtain⟨rfl,hx1,hx2⟩:=hrep
   have hc0:=hcell 0 _ rfl
   simp only[show eInt.size=1 from rfl,Nat.mul_one,Nat.add_zero] at hc0
   have HD:=Lib.hid (drop_cons syms hlt')
   obtain⟨s,hse⟩:∃ s,s=syms[i]:=⟨_,rfl⟩
   rw[←hse] at hc0 hx1 hx2 HD
   clear hcell hse hlt'
   have HOF2:=Lib.hid (show o=(oneW ss s).bind fun x=>(catW k acc x).bind fun o=>ofFrom ss k o (syms.drop (i+1)) by rw[HOF.out,HD.out,ofFrom_step])
   clear HOF HD
   go_wp2_with fail
   have hone:=one_any A c ss s wr (by rw[←HL.out];exact HH.out.next HBR.out HBR.out.size) hx1 hx2
   rw[←HL.out] at hone
   refine hone.mono ?_
   rintro e w2 ⟨hb2,he⟩
   have HB2:=Lib.hid (HBR.out.trans (hb2.mono HBR.out.size))
   have HSA2:=Lib.hid (HSA.out.next hb2 hb2.size)
   cases h1:oneW ss s with
   |none =>
    rw[h1] at he
    obtain⟨v,rfl⟩:=he
    have HN:=Lib.hid (show o=none by rw[HOF2.out,h1];rfl)
    clear h1 hb2 hone
    go_wp2_with fail
    go_ret2
    refine⟨HB2.out,?_⟩
    rw[HN.out]
    rfl
   |some x =>
    rw[h1] at he
    obtain⟨A3,c3,rfl,hsx⟩:=he
    have HSM:=Lib.hid (oneW_small HZ.out h1)
    have HOF3:=Lib.hid (show o=(catW k acc x).bind fun o=>ofFrom ss k o (syms.drop (i+1)) by rw[HOF2.out,h1];rfl)
    have HSX:=Lib.hid hsx
    obtain⟨r,hr⟩:∃ r,r=x.length:=⟨_,rfl⟩
    rw[←hr]
    have HR:=Lib.hid hr
    clear h1 hb2 hone hsx HOF2 hr
    go_wp2_with fail
    have hcat:=wsetCat_any k A8 A3 c8 c3 acc x w2 hk1 hk2 HSA2.out HSX.out HSH.out.1 HSM.out.1 (by
     have e1:=HSH.out.2;have e2:=HSM.out.2
     exact Nat.le_trans (Nat.mul_le_mul e1 e2) (by decide))
    rw[←HQ.out,←HR.out] at hcat
    refine hcat.mono ?_
    rintro e w3 ⟨hb3,he⟩
    have HB3:=Lib.hid (HB2.out.trans (hb3.mono HB2.out.size))
    cases h2:catW (k:Int) acc x with
    |none =>
     rw[h2] at he
     subst he
     have HN:=Lib.hid (show o=none by rw[HOF3.out,h2];rfl)
     clear h2 hb3 hcat
     go_wp2_with fail
     go_ret2
     refine⟨HB3.out,?_⟩
     rw[HN.out]
     rfl
    |some z =>
     rw[h2] at he
     obtain⟨v,rfl,hown⟩:=he
     have HZ2:=Lib.hid (catW_small hk2 h2)
     have HOF4:=Lib.hid (show o=ofFrom ss k z (syms.drop (i+1)) by rw[HOF3.out,h2];rfl)
     have HSZ:=Lib.hid (slW_own (fun y hy=>by have:=HZ2.out.1 y hy;unfold maxLen;omega) hown)
     obtain⟨A9,c9,rfl,_,_⟩:=own_form hown
     obtain⟨t,ht⟩:∃ t,t=z.length:=⟨_,rfl⟩
     have HT:=Lib.hid ht
     rw[←ht]
     clear h2 hb3 hcat hown HOF3 ht
     go_wp2_with fail
     exact⟨⟨i+1,t,z,A9,c9,by omega,by go_num,rfl,HT.out,HOF4.out,HSZ.out,HZ2.out,HB3.out⟩,by simp[intOf];omega⟩
  ·have him:i=m:=by omega
   have HFIN:=Lib.hid (show o=some acc by rw[HOF.out,him,HL2.out,List.drop_length];rfl)
   clear HOF him
   go_wp2_with fail
   go_ret2
   refine⟨HBR.out,?_⟩
   rw[HFIN.out]
   refine⟨A8,c8,?_,HSA.out⟩
   rw[HQ.out]
   rfl
end Go.Proofs.YtfpihflepeiagaaGreatDoor
namespace Go.Proofs.YtfpihflepeiagaaGreatDoor

abbrev Row:=Int×Wd×Int
abbrev Clash:=Int×Wd×Int×Int
def rowsFrom:Nat→RuleL→Sets→List Row
 |i,r :: rs,s :: ss=>s.map (fun w=>(r.1,w,(i:Int)))++rowsFrom (i+1) rs ss
 |_,_,_=>[]
def rowLt (a b:Row):Prop:=a.1<b.1∨a.1=b.1∧a.2.1<b.2.1
def rulesOf (rs:RuleL) (left:Int):List Nat:=(List.range rs.length).filter fun i=>decide ((rs.getD i (0,[])).1=left)
def commonW (a b:List Wd):Option Wd:=(a.filter fun w=>decide (w∈b)).head?
def pairW (left:Int) (sets:Sets) (a b:Nat):List Clash :=
 match commonW (sets.getD a []) (sets.getD b []) with
 |none=>[]
 |some w=>[(left,w,(a:Int),(b:Int))]
def pairsW (left:Int) (sets:Sets):List Nat→List Clash
 |[]=>[]
 |a :: l=>l.flatMap (pairW left sets a)++pairsW left sets l
def clashW (rs:RuleL) (n:Nat) (sets:Sets):List Clash:=(List.range n).flatMap fun left:Nat=>pairsW (left:Int) sets (rulesOf rs left)

theorem mem_rowsFrom:∀ (i:Nat) (rs:RuleL) (ss:Sets),ss.length=rs.length→∀ x:Row,x∈rowsFrom i rs ss↔∃ (j:Nat) (r:Int×List Int) (s:List Wd),rs[j]? = some r∧ss[j]? = some s∧x.1=r.1∧x.2.1∈s∧x.2.2=((i+j:Nat):Int)
 |i,[],[],_,x=>by simp[rowsFrom]
 |i,r :: rs,s :: ss,h,x=>by
  have ih:=mem_rowsFrom (i+1) rs ss (by simpa using h) x
  simp only[rowsFrom,List.mem_append,List.mem_map]
  rw[ih]
  constructor
  ·rintro (⟨w,hw,rfl⟩ | ⟨j,r',s',h1,h2,h3,h4,h5⟩)
   ·exact⟨0,r,s,by simp,by simp,rfl,hw,by simp⟩
   ·exact⟨j+1,r',s',by simpa using h1,by simpa using h2,h3,h4,by rw[h5];congr 1;omega⟩
  ·rintro⟨j,r',s',h1,h2,h3,h4,h5⟩
   cases j with
   |zero =>
    simp only[List.getElem?_cons_zero,Option.some.injEq] at h1 h2
    subst h1 h2
    left
    exact⟨x.2.1,h4,by rw[←h3];obtain⟨a,b,c⟩:=x;simp only at h5 ⊢;rw[h5];simp⟩
   |succ j =>
    right
    exact⟨j,r',s',by simpa using h1,by simpa using h2,h3,h4,by rw[h5];congr 1;omega⟩
theorem mem_rulesOf {rs:RuleL} {left:Int} {i:Nat}:i∈rulesOf rs left↔∃ r,rs[i]? = some r∧r.1=left:=by
 unfold rulesOf
 simp only[List.mem_filter,List.mem_range,decide_eq_true_eq,List.getD_eq_getElem?_getD]
 constructor
 ·rintro⟨h1,h2⟩
  rw[List.getElem?_eq_getElem h1] at h2 ⊢
  exact⟨_,rfl,h2⟩
 ·rintro⟨r,h1,h2⟩
  have:=(List.getElem?_eq_some_iff.1 h1).1
  rw[h1]
  exact⟨this,h2⟩
theorem rulesOf_lt (rs:RuleL) (left:Int):(rulesOf rs left).Pairwise (·<·):=List.Pairwise.filter _ List.pairwise_lt_range
theorem commonW_some {a b:List Wd} {w:Wd} (h:commonW a b=some w):w∈a∧w∈b:=by
 have:=List.mem_of_head? h
 simpa using this
theorem commonW_none {a b:List Wd} (h:commonW a b=none):∀ w,w∈a→w∉b:=by
 unfold commonW at h
 rw[List.head?_eq_none_iff,List.filter_eq_nil_iff] at h
 intro w ha hb
 exact h w ha (by simpa using hb)
theorem mem_pairsW {left:Int} {sets:Sets}:∀ (l:List Nat),l.Pairwise (·<·)→∀ c:Clash,c∈pairsW left sets l↔∃ a b:Nat,a∈l∧b∈l∧a<b∧∃ w,commonW (sets.getD a []) (sets.getD b [])=some w∧c=(left,w,(a:Int),(b:Int))
 |[],_,c=>by simp[pairsW]
 |x :: l,hp,c=>by
  obtain⟨h1,h2⟩:=List.pairwise_cons.1 hp
  have ih:=mem_pairsW (left:=left) (sets:=sets) l h2 c
  simp only[pairsW,List.mem_append,List.mem_flatMap]
  rw[ih]
  have hpw:∀ b,c∈pairW left sets x b↔∃ w,commonW (sets.getD x []) (sets.getD b [])=some w∧c=(left,w,(x:Int),(b:Int)):=by
   intro b
   unfold pairW
   cases commonW (sets.getD x []) (sets.getD b []) with
   |none=>simp
   |some w=>simp
  constructor
  ·rintro (⟨b,hb,hc⟩ | ⟨a,b,ha,hb,hab,h⟩)
   ·exact⟨x,b,by simp,by simp[hb],h1 b hb,(hpw b).1 hc⟩
   ·exact⟨a,b,by simp[ha],by simp[hb],hab,h⟩
  ·rintro⟨a,b,ha,hb,hab,h⟩
   rw[List.mem_cons] at ha hb
   rcases ha with rfl | ha
   ·rcases hb with rfl | hb
    ·omega
    ·exact .inl ⟨b,hb,(hpw b).2 h⟩
   ·rcases hb with rfl | hb
    ·have:=h1 a ha;omega
    ·exact .inr ⟨a,b,ha,hb,hab,h⟩
theorem mem_clashW {rs:RuleL} {n:Nat} {sets:Sets} {c:Clash}:c∈clashW rs n sets↔∃ (a b:Nat) (ra rb:Int×List Int) (w:Wd),rs[a]? = some ra∧rs[b]? = some rb∧a<b∧ra.1=c.1∧rb.1=c.1∧0≤c.1∧c.1<n∧commonW (sets.getD a []) (sets.getD b [])=some w∧c=(c.1,w,(a:Int),(b:Int)):=by
 unfold clashW
 rw[List.mem_flatMap]
 constructor
 ·rintro⟨left,hl,hc⟩
  obtain⟨a,b,ha,hb,hab,w,hw,rfl⟩:=(mem_pairsW _ (rulesOf_lt rs left) c).1 hc
  obtain⟨ra,hra,ea⟩:=mem_rulesOf.1 ha
  obtain⟨rb,hrb,eb⟩:=mem_rulesOf.1 hb
  have:=List.mem_range.1 hl
  exact⟨a,b,ra,rb,w,hra,hrb,hab,ea,eb,by simp only;omega,by simp only;omega,hw,rfl⟩
 ·rintro⟨a,b,ra,rb,w,hra,hrb,hab,ea,eb,h0,hn,hw,e⟩
  have e1:((c.1.toNat:Nat):Int)=c.1:=Int.toNat_of_nonneg h0
  refine⟨c.1.toNat,List.mem_range.2 (by omega),(mem_pairsW _ (rulesOf_lt rs _) c).2 ⟨a,b,mem_rulesOf.2 ⟨ra,hra,by rw[ea,e1]⟩,mem_rulesOf.2 ⟨rb,hrb,by rw[eb,e1]⟩,hab,w,hw,by rw[e1];exact e⟩⟩
end Go.Proofs.YtfpihflepeiagaaGreatDoor
