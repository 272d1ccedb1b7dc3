/- Texts of this proof joined: Rf20c, Rf20d. -/
import Derived.Test.YtfpihflepeiagaaGreatDoorLN11
namespace Go.Proofs.YtfpihflepeiagaaGreatDoor
open Go.RowKit

set_option maxRecDepth 100000 in
set_option maxHeartbeats 16000000 in
theorem begins_any {A1 A2 A3 AE AF Ar:Option Addr} {n m q c1 c2 c3 ce cf p cr:Nat} {T:TabD} (wd:Wd) (right:List Int) (at_:Nat) (w:World) (hT:TabR w w.heap.size AE ce AF cf n wd.length T) (hr:SlR eInt w w.heap.size (.slice Ar p cr) right) (hs:∀ s∈right,s<(n:Int)∧-256≤s) (ha:at_≤wd.length) (hL:wd.length≤4096) (hn:n≤4096) :
  Calls Tryz.prog 46 #[tabV A1 A2 A3 n m q c1 c2 c3 wd AE ce AF cf,.slice Ar p cr,.int .i64 at_] w (fun e w'=>e=.returned (.bool (beginsL wd T right at_))∧Below w.heap.size w w'):=by
 have HMV0:=Lib.hid (fun (s:Int) (now:List Bool) (w':World) (An:Option Addr) (cn:Nat) (hT:TabR w' w'.heap.size AE ce AF cf n wd.length T) (hnow:SlR eBool w' w'.heap.size (.slice An (wd.length+1) cn) now) (h1:s<(n:Int)) (h2:-256≤s)=>move_any (A1:=A1) (A2:=A2) (A3:=A3) (m:=m) (q:=q) (c1:=c1) (c2:=c2) (c3:=c3) wd s now w' hT hnow h1 h2 hL hn)
 have hbx:=(Below.refl w.heap.size w).alloc (Nat.le_refl _) (.cells #[.slice A1 n c1,.slice A2 m c2,.slice A3 q c3,wv wd,.slice AE n ce,.slice AF n cf] 66)
 have HK:=Lib.hid (Go.heap_alloc_new w (.cells #[.slice A1 n c1,.slice A2 m c2,.slice A3 q c3,wv wd,.slice AE n ce,.slice AF n cf] 66))
 have HZ:=Lib.hid (World.size_alloc w (.cells #[.slice A1 n c1,.slice A2 m c2,.slice A3 q c3,wv wd,.slice AE n ce,.slice AF n cf] 66))
 have HBX:=Lib.hid hbx
 have HT:=Lib.hid (hT.fut (B':=w.heap.size+1) hbx (Nat.le_refl _) (by omega))
 have HRT:=Lib.hid (hr.fut (B':=w.heap.size+1) hbx (Nat.le_refl _) (by omega))
 have HP:=Lib.hid hr.n_eq
 have hcr:=hr.n_le
 have HSS:=Lib.hid hs
 obtain⟨X,hX⟩:∃ X:ByteArray,X=⟨wd.toArray⟩:=⟨_,rfl⟩
 have hXs:X.size=wd.length:=by rw[hX];rfl
 unfold tabV at HMV0
 rw[show wv wd=Value.string X by rw[hX]] at hbx HK HZ HBX HT HRT
 have HMV:=Lib.hid (show ∀ (s:Int) (now:List Bool) (w':World) (An:Option Addr) (cn:Nat),TabR w' w'.heap.size AE ce AF cf n wd.length T→SlR eBool w' w'.heap.size (.slice An (wd.length+1) cn) now→s<(n:Int)→-256≤s→Calls Tryz.prog 73 #[.agg #[.slice A1 n c1,.slice A2 m c2,.slice A3 q c3,.string X,.slice AE n ce,.slice AF n cf],.int .i64 s,.slice An (wd.length+1) cn] w' (OwnBools w' (moveL wd T.E now s)) from fun s now w' An cn h1 h2 h3 h4=>by rw[hX];exact HMV0.out s now w' An cn h1 h2 h3 h4)
 unfold tabV
 rw[show wv wd=Value.string X by rw[hX]]
 have HCELL:Hid (∀ (w2:World),w2.heap[w.heap.size]? = some (.cells #[.slice A1 n c1,.slice A2 m c2,.slice A3 q c3,.string X,.slice AE n ce,.slice AF n cf] 66 (0,0))→w2.cell? ⟨w.heap.size,0,none⟩=some (.slice A1 n c1)∧w2.cell? ⟨w.heap.size,1,none⟩=some (.slice A2 m c2)∧w2.cell? ⟨w.heap.size,2,none⟩=some (.slice A3 q c3)∧w2.cell? ⟨w.heap.size,3,none⟩=some (.string X)∧w2.cell? ⟨w.heap.size,4,none⟩=some (.slice AE n ce)∧w2.cell? ⟨w.heap.size,5,none⟩=some (.slice AF n cf)):=fun w2 hk=>⟨by rw[cell_of_row _ _ _ _ _ _ hk];rfl,by rw[cell_of_row _ _ _ _ _ _ hk];rfl,by rw[cell_of_row _ _ _ _ _ _ hk];rfl,by rw[cell_of_row _ _ _ _ _ _ hk];rfl,by rw[cell_of_row _ _ _ _ _ _ hk];rfl,by rw[cell_of_row _ _ _ _ _ _ hk];rfl⟩
 have HST:=Lib.hid (show bcellsB (List.replicate (wd.length+1) false)=List.replicate (wd.length+1) (Value.bool false) by simp[bcellsB])
 have HON:=Lib.hid (show oneAt wd.length at_=(List.replicate (wd.length+1) false).set at_ true from rfl)
 have HOL:=Lib.hid (oneAt_len wd.length at_)
 have HML:=Lib.hid (show ∀ now s,(moveL wd T.E now s).length=wd.length+1 from fun now s=>moveL_len wd T.E now s)
 have HEL:=Lib.hid (show (beginsL wd T right at_)=(beginsL wd T right at_) from rfl)
 obtain⟨tot,htot⟩:∃ tot,tot=beginsL wd T right at_:=⟨_,rfl⟩
 rw[←htot] at HEL ⊢
 have HTOT:=Lib.hid htot
 obtain⟨L,hLL⟩:∃ L,L=wd.length:=⟨_,rfl⟩
 rw[←hLL] at hXs HT HMV HST HON HOL HML hL ha
 have HLW:=Lib.hid hLL
 clear hX hLL hT hr hbx HMV0 hs htot HEL
 have hmk:(Instr.makeSlice 60 (.int .i64 ((L:Int)+1)) (.int .i64 ((L:Int)+1))).run Tryz.prog (w.alloc (.cells #[.slice A1 n c1,.slice A2 m c2,.slice A3 q c3,.string X,.slice AE n ce,.slice AF n cf] 66))=_:=bool_make (L+1) (by omega) (w.alloc (.cells #[.slice A1 n c1,.slice A2 m c2,.slice A3 q c3,.string X,.slice AE n ce,.slice AF n cf] 66))
 rw[World.size_alloc] at hmk
 have HK2:=Lib.hid (Go.heap_alloc_new (w.alloc (.cells #[.slice A1 n c1,.slice A2 m c2,.slice A3 q c3,.string X,.slice AE n ce,.slice AF n cf] 66)) (.cells (List.replicate (L+1) (Value.bool false)).toArray 4))
 rw[World.size_alloc] at HK2
 have HB2:=Lib.hid ((Below.refl (w.heap.size+1) (w.alloc (.cells #[.slice A1 n c1,.slice A2 m c2,.slice A3 q c3,.string X,.slice AE n ce,.slice AF n cf] 66))).alloc (Nat.le_of_eq (World.size_alloc _ _).symm) (.cells (List.replicate (L+1) (Value.bool false)).toArray 4))
 obtain⟨w2,hw2⟩:∃ w2,w2=(w.alloc (.cells #[.slice A1 n c1,.slice A2 m c2,.slice A3 q c3,.string X,.slice AE n ce,.slice AF n cf] 66)).alloc (.cells (List.replicate (L+1) (Value.bool false)).toArray 4):=⟨_,rfl⟩
 rw[←hw2] at hmk HK2 HB2
 rw[←HST.out] at HK2
 have c9:w2.cell? ⟨w.heap.size+1,at_,none⟩=some (.bool false):=by
  rw[bool_row_get HK2.out (by rw[List.length_replicate];omega)]
  simp
 have f9:w2.frozen? ⟨w.heap.size+1,at_,none⟩=false:=by simp[World.frozen?,HK2.out]
 have HR3:=Lib.hid (bool_row_set HK2.out (k:=at_) true)
 rw[←HON.out] at HR3
 have HB3:=Lib.hid (Below.setCell (p:=⟨w.heap.size+1,at_,none⟩) HB2.out (Nat.le_refl _) (.bool true))
 clear HK2 HB2 hw2
 obtain⟨d1,d2,d3,d4,d5,d6⟩:=HCELL.out _ HK.out
 go_enter Tryz.func46,Tryz.ntmps46
 go_wp2_with fail
 generalize w.alloc (.cells #[.slice A1 n c1,.slice A2 m c2,.slice A3 q c3,.string X,.slice AE n ce,.slice AF n cf] 66)=w1 at *
 clear hmk c9 f9 d1 d2 d3 d4 d5 d6
 have HTF:=Lib.hid (show tot=beginsFrom wd T (oneAt L at_) right by rw[HTOT.out,HLW.out];rfl)
 have HBF:=Lib.hid (show ∀ S:List Bool,S.getD L false=true→∀ l,beginsFrom wd T S l=true from fun S h l=>by
  rw[HLW.out] at h
  cases l with
  |nil=>exact h
  |cons s l=>show (_||_)=true;rw[h];rfl)
 have HBC:=Lib.hid (show ∀ (S:List Bool) (s:Int) (l:List Int),S.getD L false=false→beginsFrom wd T S (s :: l)=((decide (0≤s)&&(List.range (L+1)).any fun p=>S.getD p false&&T.F s.toNat p)||beginsFrom wd T (moveL wd T.E S s) l) from fun S s l h=>by
  rw[HLW.out] at h ⊢
  show (_||_)=_
  rw[h,Bool.false_or])
 have HBN:=Lib.hid (show ∀ S:List Bool,beginsFrom wd T S []=S.getD L false from fun S=>by rw[HLW.out];rfl)
 go_loopg [8,9] p (fun left v8 v9 wr=>∃ (i g:Nat) (S:List Bool),i≤p∧p - i≤left∧v9=.int .i64 i∧v8=.slice (some ⟨g,0,none⟩) (L+1) (L+1)∧Hid (wr.heap[g]? = some (.cells (bcellsB S).toArray 4 (0,0)))∧Hid (S.length=L+1)∧Hid (w.heap.size+1≤g)∧Hid (tot=beginsFrom wd T S (right.drop i))∧Hid (Below (w.heap.size+1) w1 wr))
 case atStart=>exact⟨0,w.heap.size+1,oneAt L at_,by omega,by omega,rfl,rfl,HR3.out,HOL.out,Nat.le_refl _,HTF.out,HB3.out⟩
 case round =>
  clear HR3 HB3
  obtain⟨i,g,S,hi,hleft,rfl,rfl,HR,HSL,HG,HF,HB⟩:=hrel
  obtain⟨gas,hgas⟩:∃ gas,gas=gk:=⟨_,rfl⟩
  rw[←hgas] at hleft
  have HGK:=Lib.hid hgas
  clear hgas
  obtain⟨d1,d2,d3,d4,d5,d6⟩:=HCELL.out wr ((HB.out.block w.heap.size (by omega)).trans HK.out)
  have HBS:=Lib.hid (show w.heap.size+1≤wr.heap.size by have:=HB.out.size;have:=HZ.out;omega)
  have hLS:L<S.length:=by rw[HSL.out];omega
  have cL:=bool_row_get HR.out hLS
  have HGL:=Lib.hid (show S.getD L false=S[L] by rw[List.getD_eq_getElem?_getD,List.getElem?_eq_getElem hLS];rfl)
  obtain⟨bL,hbL⟩:∃ bL,bL=S[L]:=⟨_,rfl⟩
  rw[←hbL] at cL HGL
  clear hbL hLS
  by_cases hip:i<p
  case pos =>
    have hil:i<right.length:=by rw[←HP.out];exact hip
    obtain⟨b4,o4,cs4,rfl,-,-,hrep4,hcell4⟩:=(HRT.out.below HB.out).get (k:=i) hil (by decide)
    obtain⟨rfl,hx1,hx2⟩:=hrep4
    have hc4:=hcell4 0 _ rfl
    simp only[show eInt.size=1 from rfl,Nat.mul_one,Nat.add_zero] at hc4
    have HDR:=Lib.hid (List.drop_eq_getElem_cons hil)
    obtain⟨hsn,hs2⟩:=HSS.out _ (List.getElem_mem hil)
    obtain⟨s,hse⟩:∃ s,s=right[i]:=⟨_,rfl⟩
    rw[←hse] at hc4 HDR hsn hs2 hx1 hx2
    have HCALL:=Lib.hid (fun w' (hb:Below wr.heap.size wr w')=>HMV.out s S w' (some ⟨g,0,none⟩) (L+1) (HT.out.fut (HB.out.trans (hb.mono HBS.out)) (Nat.le_refl _) (Nat.le_trans HBS.out hb.size)) ((rd_bools HR.out HSL.out.symm (by unfold maxLen;omega)).fut hb (Nat.le_refl _) hb.size) hsn hs2)
    clear hcell4 hse hil

    cases bL with
    |true =>
     have HE:=Lib.hid (show tot=true by rw[HF.out,HBF.out S HGL.out])
     go_wp2_with fail
     go_ret
     exact⟨rt1 (vbool HE.out.symm),HBX.out.trans (HB.out.mono (Nat.le_succ _))⟩
    |false =>
    have HF2:=Lib.hid (show tot=((decide (0≤s)&&(List.range (L+1)).any fun p=>S.getD p false&&T.F s.toNat p)||beginsFrom wd T (moveL wd T.E S s) (right.drop (i+1))) by rw[HF.out,HDR.out,HBC.out S s _ HGL.out])
    generalize wr=wo at *
    go_wp2_with fail
    go_loopg [10] (L+1) (fun lf2 v10 wt=>∃ (P:Nat),P≤L+1∧L+1 - P≤lf2∧v10=.int .i64 P∧Hid ((decide (0≤s)&&(List.range P).any fun p=>S.getD p false&&T.F s.toNat p)=false)∧Hid (Below wo.heap.size wo wt))
    case atStart=>exact⟨0,by omega,by omega,rfl,by simp[Hid],Below.refl _ _⟩
    case round =>
     obtain⟨P,hP,hlf2,rfl,HNO,HBW⟩:=hrel
     have HB':=Lib.hid (HB.out.trans (HBW.out.mono HBS.out))
     have HBS':=Lib.hid (Nat.le_trans HBS.out HBW.out.size)
     have HR':=Lib.hid ((HBW.out.block g (Array.getElem?_eq_some_iff.1 HR.out).1).trans HR.out)
     have hc4':=(HBW.out.cell (World.block_lt_of_cell? wo _ hc4)).trans hc4
     obtain⟨d1,d2,d3,d4,d5,d6⟩:=HCELL.out wr ((HB'.out.block w.heap.size (by omega)).trans HK.out)
     by_cases hs0:s<0
     ·have hds:decide (0≤s)=false:=by rw[decide_eq_false_iff_not];omega
      have HF3:=Lib.hid (show tot=beginsFrom wd T (moveL wd T.E S s) (right.drop (i+1)) by rw[HF2.out,hds,Bool.false_and,Bool.false_or])
      by_cases hPL:P<L+1
      ·have hdP:decide ((P:Int)≤(L:Int))=true:=by rw[decide_eq_true_eq];omega
       go_wp2_with fail
       refine Text.wp_grow [6] [0,4] [] (by kernel_rfl) (by kernel_rfl) ?_
       refine Text.wpS_seg 6 _ _ _ _ (by decide) (fun Q' hQ'=>?_)
       simp only[List.take_succ_cons,List.take_zero]
       go_wp2_with fail
       try simp only[Nat.zero_add,List.drop_succ_cons,List.drop_zero]
       refine Text.wpS_one (fun Q' hQ'=>?_)
       go_wp2_with fail
       refine (HCALL.out _ (HBW.out.trans (below_drew1.mono HBW.out.size))).mono ?_
       rintro e w5 ⟨g5,rfl,hg5,hge5,hb5⟩
       rw[HML.out]
       have hb5':Below wr.heap.size wr w5:=below_drew1.trans hb5
       have HR5:=Lib.hid hg5
       have HG5:=Lib.hid (show w.heap.size+1≤g5 from Nat.le_trans HBS'.out hge5)
       have HB5:=Lib.hid (HB'.out.trans (hb5'.mono HBS'.out))
       go_wp2_with fail
       refine⟨hb5,?_⟩
       refine Text.wpS_seg 1 _ _ _ _ (by decide) (fun Q' hQ'=>?_)
       simp only[List.take_succ_cons,List.take_zero]
       go_wp2_with fail
       refine⟨by rfl,?_,?_⟩
       ·exact⟨fun _=>⟨_,_,rfl,d1⟩,fun _=>⟨_,_,rfl,hc4'⟩,trivial⟩
       clear hb5 hb5' hg5 hge5
       go_wp2_with fail
       go_roundg (gas - 1)
       case measure=>have:=HGK.out;omega
       case rel=>exact⟨i+1,g5,moveL wd T.E S s,by omega,by omega,by go_num,rfl,HR5.out,HML.out _ _,HG5.out,HF3.out,HB5.out⟩
      ·have hdP:decide ((P:Int)≤(L:Int))=false:=by rw[decide_eq_false_iff_not];omega
       go_wp2_with fail
       refine Text.wp_grow [6] [0,4] [] (by kernel_rfl) (by kernel_rfl) ?_
       refine Text.wpS_seg 6 _ _ _ _ (by decide) (fun Q' hQ'=>?_)
       simp only[List.take_succ_cons,List.take_zero]
       go_wp2_with fail
       try simp only[Nat.zero_add,List.drop_succ_cons,List.drop_zero]
       refine Text.wpS_one (fun Q' hQ'=>?_)
       go_wp2_with fail
       refine (HCALL.out _ (HBW.out.trans (below_drew1.mono HBW.out.size))).mono ?_
       rintro e w5 ⟨g5,rfl,hg5,hge5,hb5⟩
       rw[HML.out]
       have hb5':Below wr.heap.size wr w5:=below_drew1.trans hb5
       have HR5:=Lib.hid hg5
       have HG5:=Lib.hid (show w.heap.size+1≤g5 from Nat.le_trans HBS'.out hge5)
       have HB5:=Lib.hid (HB'.out.trans (hb5'.mono HBS'.out))
       go_wp2_with fail
       refine⟨hb5,?_⟩
       refine Text.wpS_seg 1 _ _ _ _ (by decide) (fun Q' hQ'=>?_)
       simp only[List.take_succ_cons,List.take_zero]
       go_wp2_with fail
       refine⟨by rfl,?_,?_⟩
       ·exact⟨fun _=>⟨_,_,rfl,d1⟩,fun _=>⟨_,_,rfl,hc4'⟩,trivial⟩
       clear hb5 hb5' hg5 hge5
       go_wp2_with fail
       go_roundg (gas - 1)
       case measure=>have:=HGK.out;omega
       case rel=>exact⟨i+1,g5,moveL wd T.E S s,by omega,by omega,by go_num,rfl,HR5.out,HML.out _ _,HG5.out,HF3.out,HB5.out⟩
     ·have hds:decide (0≤s)=true:=by rw[decide_eq_true_eq];omega
      by_cases hPL:P<L+1
      ·have hdP:decide ((P:Int)≤(L:Int))=true:=by rw[decide_eq_true_eq];omega
       obtain⟨t,rfl⟩:∃ t:Nat,s=(t:Int):=⟨s.toNat,by omega⟩
       have htn:t<n:=by omega
       have hPS:P<S.length:=by rw[HSL.out];exact hPL
       have cP:=bool_row_get HR'.out hPS
       have HGP:=Lib.hid (show S.getD P false=S[P] by rw[List.getD_eq_getElem?_getD,List.getElem?_eq_getElem hPS];rfl)
       obtain⟨bp,hbp⟩:∃ bp,bp=S[P]:=⟨_,rfl⟩
       rw[←hbp] at cP HGP
       obtain⟨b5,o5,b6,o6,c6,rfl,e1,e2,z1,z2,-⟩:=sq_at ((HT.out.fut (B':=w.heap.size+1) HB'.out (Nat.le_refl _) (Nat.le_refl _)).fr) (a:=t) (p:=P) htn (by omega)
       obtain⟨bf,hbf⟩:∃ bf,bf=T.F t P:=⟨_,rfl⟩
       rw[←hbf] at z2
       have HBFE:=Lib.hid hbf
       clear hbp hPS hbf
       cases bp with
       |false =>
        have HNO2:=Lib.hid (show (decide ((0:Int)≤(t:Int))&&(List.range (P+1)).any fun p=>S.getD p false&&T.F (t:Int).toNat p)=false by
         have:=HNO.out
         rw[hds,Bool.true_and] at this ⊢
         rw[List.range_succ,List.any_append,this]
         simp only[List.any_cons,List.any_nil,HGP.out,Bool.false_and,Bool.or_false])
        go_wp2_with fail
        refine Text.wp_text [] (by kernel_rfl) (by kernel_rfl) (fun Q' hQ'=>?_)
        go_wp2_with fail
        refine⟨by rfl,?_⟩
        go_wp2_with fail
        go_roundg (gk - 1)
        case measure=>omega
        case rel=>exact⟨P+1,by omega,by omega,by go_num,HNO2.out,HBW.out.drew⟩
       |true =>
        cases bf with
        |false =>
         have HNO2:=Lib.hid (show (decide ((0:Int)≤(t:Int))&&(List.range (P+1)).any fun p=>S.getD p false&&T.F (t:Int).toNat p)=false by
          have:=HNO.out
          rw[hds,Bool.true_and] at this ⊢
          rw[List.range_succ,List.any_append,this]
          simp only[List.any_cons,List.any_nil,Int.toNat_natCast,←HBFE.out,Bool.and_false,Bool.or_false])
         go_wp2_with fail
         refine Text.wp_text [] (by kernel_rfl) (by kernel_rfl) (fun Q' hQ'=>?_)
         go_wp2_with fail
         refine⟨by rfl,?_⟩
         go_wp2_with fail
         go_roundg (gk - 1)
         case measure=>omega
         case rel=>exact⟨P+1,by omega,by omega,by go_num,HNO2.out,HBW.out.drew⟩
        |true =>
         have HE:=Lib.hid (show tot=true by
          rw[HF2.out,hds,Bool.true_and]
          rw[show ((List.range (L+1)).any fun p=>S.getD p false&&T.F (t:Int).toNat p)=true from List.any_eq_true.2 ⟨P,List.mem_range.2 hPL,by rw[HGP.out,Int.toNat_natCast,←HBFE.out];rfl⟩]
          rfl)
         go_wp2_with fail
         refine Text.wp_text [] (by kernel_rfl) (by kernel_rfl) (fun Q' hQ'=>?_)
         go_wp2_with fail
         refine⟨by rfl,?_⟩
         go_wp2_with fail
         go_ret
         exact⟨rt1 (vbool HE.out.symm),HBX.out.trans (HB'.out.drew.mono (Nat.le_succ _))⟩
      ·have hdP:decide ((P:Int)≤(L:Int))=false:=by rw[decide_eq_false_iff_not];omega
       have HF3:=Lib.hid (show tot=beginsFrom wd T (moveL wd T.E S s) (right.drop (i+1)) by
        have:=HNO.out
        rw[show P=L+1 by omega] at this
        rw[HF2.out,this,Bool.false_or])
       go_wp2_with fail
       refine Text.wp_grow [6] [0,4] [] (by kernel_rfl) (by kernel_rfl) ?_
       refine Text.wpS_seg 6 _ _ _ _ (by decide) (fun Q' hQ'=>?_)
       simp only[List.take_succ_cons,List.take_zero]
       go_wp2_with fail
       try simp only[Nat.zero_add,List.drop_succ_cons,List.drop_zero]
       refine Text.wpS_one (fun Q' hQ'=>?_)
       go_wp2_with fail
       refine (HCALL.out _ (HBW.out.trans (below_drew1.mono HBW.out.size))).mono ?_
       rintro e w5 ⟨g5,rfl,hg5,hge5,hb5⟩
       rw[HML.out]
       have hb5':Below wr.heap.size wr w5:=below_drew1.trans hb5
       have HR5:=Lib.hid hg5
       have HG5:=Lib.hid (show w.heap.size+1≤g5 from Nat.le_trans HBS'.out hge5)
       have HB5:=Lib.hid (HB'.out.trans (hb5'.mono HBS'.out))
       go_wp2_with fail
       refine⟨hb5,?_⟩
       refine Text.wpS_seg 1 _ _ _ _ (by decide) (fun Q' hQ'=>?_)
       simp only[List.take_succ_cons,List.take_zero]
       go_wp2_with fail
       refine⟨by rfl,?_,?_⟩
       ·exact⟨fun _=>⟨_,_,rfl,d1⟩,fun _=>⟨_,_,rfl,hc4'⟩,trivial⟩
       clear hb5 hb5' hg5 hge5
       go_wp2_with fail
       go_roundg (gas - 1)
       case measure=>have:=HGK.out;omega
       case rel=>exact⟨i+1,g5,moveL wd T.E S s,by omega,by omega,by go_num,rfl,HR5.out,HML.out _ _,HG5.out,HF3.out,HB5.out⟩
  ·have HE:=Lib.hid (show tot=bL by rw[HF.out,List.drop_eq_nil_of_le (by rw[←HP.out];omega),HBN.out,HGL.out])
   go_wp2_with fail
   go_ret
   exact⟨rt1 (vbool HE.out.symm),HBX.out.trans (HB.out.mono (Nat.le_succ _))⟩
end Go.Proofs.YtfpihflepeiagaaGreatDoor
namespace Go.Proofs.YtfpihflepeiagaaGreatDoor
open Go.RowKit

set_option maxRecDepth 100000 in
set_option maxHeartbeats 16000000 in
theorem behind20_any {A1 A2 A3 AE AF Ar Ao:Option Addr} {n m q c1 c2 c3 ce cf p cr co:Nat} {T:TabD} (wd:Wd) (k:Int) (right:List Int) (fol:Nat→Bool) (at_:Nat) (w:World) (hT:TabR w w.heap.size AE ce AF cf n wd.length T) (hr:SlR eInt w w.heap.size (.slice Ar p cr) right) (hf:SlR eBool w w.heap.size (.slice Ao (wd.length+1) co) (bl wd.length fol)) (hs:∀ s∈right,s<(n:Int)∧-256≤s) (ha:at_≤wd.length) (hL:wd.length≤4096) (hn:n≤4096) :
  Calls Tryz.prog 47 #[tabV A1 A2 A3 n m q c1 c2 c3 wd AE ce AF cf,.int .i64 k,.slice Ar p cr,.slice Ao (wd.length+1) co,.int .i64 at_] w fun e w'=>e=.returned (.bool (behindL wd T k right fol at_))∧Below w.heap.size w w':=by
 have HEN0:=Lib.hid (fun (w':World) (hT:TabR w' w'.heap.size AE ce AF cf n wd.length T) (hr:SlR eInt w' w'.heap.size (.slice Ar p cr) right)=>ends_any (A1:=A1) (A2:=A2) (A3:=A3) (m:=m) (q:=q) (c1:=c1) (c2:=c2) (c3:=c3) wd right at_ w' hT hr hs ha hL hn)
 have HBE0:=Lib.hid (fun (w':World) (hT:TabR w' w'.heap.size AE ce AF cf n wd.length T) (hr:SlR eInt w' w'.heap.size (.slice Ar p cr) right)=>begins_any (A1:=A1) (A2:=A2) (A3:=A3) (m:=m) (q:=q) (c1:=c1) (c2:=c2) (c3:=c3) wd right at_ w' hT hr hs ha hL hn)
 have hbx:=(Below.refl w.heap.size w).alloc (Nat.le_refl _) (.cells #[.slice A1 n c1,.slice A2 m c2,.slice A3 q c3,wv wd,.slice AE n ce,.slice AF n cf] 66)
 have HK:=Lib.hid (Go.heap_alloc_new w (.cells #[.slice A1 n c1,.slice A2 m c2,.slice A3 q c3,wv wd,.slice AE n ce,.slice AF n cf] 66))
 have HZ:=Lib.hid (World.size_alloc w (.cells #[.slice A1 n c1,.slice A2 m c2,.slice A3 q c3,wv wd,.slice AE n ce,.slice AF n cf] 66))
 have HBX:=Lib.hid hbx
 have HT:=Lib.hid (hT.fut (B':=w.heap.size+1) hbx (Nat.le_refl _) (by omega))
 have HRT:=Lib.hid (hr.fut (B':=w.heap.size+1) hbx (Nat.le_refl _) (by omega))
 have HFO:=Lib.hid (hf.fut (B':=w.heap.size+1) hbx (Nat.le_refl _) (by omega))
 have hcr:=hr.n_le
 have hco:=hf.n_le
 obtain⟨X,hX⟩:∃ X:ByteArray,X=⟨wd.toArray⟩:=⟨_,rfl⟩
 have hXs:X.size=wd.length:=by rw[hX];rfl
 unfold tabV at HEN0 HBE0 ⊢
 rw[show wv wd=Value.string X by rw[hX]] at hbx HK HZ HBX HT HRT HFO ⊢
 have HEN:=Lib.hid (show ∀ (w':World),TabR w' w'.heap.size AE ce AF cf n wd.length T→SlR eInt w' w'.heap.size (.slice Ar p cr) right→Calls Tryz.prog 45 #[.agg #[.slice A1 n c1,.slice A2 m c2,.slice A3 q c3,.string X,.slice AE n ce,.slice AF n cf],.slice Ar p cr,.int .i64 at_] w' (OwnBools w' (endsL wd T.E right at_)) from fun w' h1 h2=>by rw[hX];exact HEN0.out w' h1 h2)
 have HBE:=Lib.hid (show ∀ (w':World),TabR w' w'.heap.size AE ce AF cf n wd.length T→SlR eInt w' w'.heap.size (.slice Ar p cr) right→Calls Tryz.prog 46 #[.agg #[.slice A1 n c1,.slice A2 m c2,.slice A3 q c3,.string X,.slice AE n ce,.slice AF n cf],.slice Ar p cr,.int .i64 at_] w' (fun e w''=>e=.returned (.bool (beginsL wd T right at_))∧Below w'.heap.size w' w'') from fun w' h1 h2=>by rw[hX];exact HBE0.out w' h1 h2)
 have HCELL:Hid (∀ (w2:World),w2.heap[w.heap.size]? = some (.cells #[.slice A1 n c1,.slice A2 m c2,.slice A3 q c3,.string X,.slice AE n ce,.slice AF n cf] 66 (0,0))→w2.cell? ⟨w.heap.size,0,none⟩=some (.slice A1 n c1)∧w2.cell? ⟨w.heap.size,1,none⟩=some (.slice A2 m c2)∧w2.cell? ⟨w.heap.size,2,none⟩=some (.slice A3 q c3)∧w2.cell? ⟨w.heap.size,3,none⟩=some (.string X)∧w2.cell? ⟨w.heap.size,4,none⟩=some (.slice AE n ce)∧w2.cell? ⟨w.heap.size,5,none⟩=some (.slice AF n cf)):=fun w2 hk=>⟨by rw[cell_of_row _ _ _ _ _ _ hk];rfl,by rw[cell_of_row _ _ _ _ _ _ hk];rfl,by rw[cell_of_row _ _ _ _ _ _ hk];rfl,by rw[cell_of_row _ _ _ _ _ _ hk];rfl,by rw[cell_of_row _ _ _ _ _ _ hk];rfl,by rw[cell_of_row _ _ _ _ _ _ hk];rfl⟩
 have HBH:=Lib.hid (show behindL wd T k right fol at_=((decide ((wd.length:Int)=k)&&beginsL wd T right at_)||(List.range (wd.length+1)).any fun q=>(endsL wd T.E right at_).getD q false&&fol q) from rfl)
 have HEL:=Lib.hid (endsL_len wd T.E right at_)
 obtain⟨tot,htot⟩:∃ tot,tot=behindL wd T k right fol at_:=⟨_,rfl⟩
 rw[←htot] at HBH ⊢
 obtain⟨bb,hbb⟩:∃ bb,bb=beginsL wd T right at_:=⟨_,rfl⟩
 rw[←hbb] at HBH HBE
 obtain⟨S,hS⟩:∃ S,S=endsL wd T.E right at_:=⟨_,rfl⟩
 rw[←hS] at HBH HEN HEL
 obtain⟨L,hLL⟩:∃ L,L=wd.length:=⟨_,rfl⟩
 rw[←hLL] at hXs HT HEN HBE HEL HBH HFO hco hL ha ⊢
 clear hX hLL hT hr hf hbx HEN0 HBE0 hs htot hbb hS
 obtain⟨d1,d2,d3,d4,d5,d6⟩:=HCELL.out _ HK.out
 go_enter Tryz.func47,Tryz.ntmps47
 obtain⟨hk0,hhk⟩:∃ hk0,hk0=((L:Int)==k):=⟨_,rfl⟩
 have HKD:=Lib.hid (show decide ((L:Int)=k)=hk0 by rw[hhk];by_cases e:(L:Int)=k <;> simp[e])
 cases hk0 with
 |true =>
  have hkk:((L:Int)==k)=true:=hhk.symm
  clear hhk
  go_wp2_with fail
  generalize w.alloc (.cells #[.slice A1 n c1,.slice A2 m c2,.slice A3 q c3,.string X,.slice AE n ce,.slice AF n cf] 66)=w1 at *
  refine (HBE.out w1 (HT.out.fut (Below.refl (w.heap.size+1) _) (Nat.le_refl _) (by rw[HZ.out];exact Nat.le_refl _)) (HRT.out.fut (Below.refl (w.heap.size+1) _) (Nat.le_refl _) (by rw[HZ.out];exact Nat.le_refl _))).mono ?_
  rintro e w2 ⟨rfl,hb2⟩
  have HB2:=Lib.hid (hb2.mono (Nat.le_of_eq HZ.out.symm))
  have HS2:=Lib.hid (show w.heap.size+1≤w2.heap.size by have:=hb2.size;have:=HZ.out;omega)
  clear hb2 d1 d2 d3 d4 d5 d6
  obtain⟨d1,d2,d3,d4,d5,d6⟩:=HCELL.out w2 ((HB2.out.block w.heap.size (by omega)).trans HK.out)
  cases bb with
  |true =>
   have HE:=Lib.hid (show tot=true by rw[HBH.out,HKD.out];rfl)
   go_wp2_with fail
   go_ret
   exact⟨rt1 (vbool HE.out.symm),HBX.out.trans (HB2.out.mono (Nat.le_succ _))⟩
  |false =>
   have HE:=Lib.hid (show tot=(List.range (L+1)).any fun q=>S.getD q false&&fol q by rw[HBH.out,HKD.out];rfl)
   clear HBH
   go_wp2_with fail
   refine (HEN.out w2 (HT.out.fut HB2.out (Nat.le_refl _) HS2.out) (HRT.out.fut HB2.out (Nat.le_refl _) HS2.out)).mono ?_
   rintro e w3 ⟨g,rfl,hg,hge,hb3⟩
   have HR:=Lib.hid hg
   have HB3:=Lib.hid (HB2.out.trans (hb3.mono HS2.out))
   rw[HEL.out]
   clear hg hge hb3 d1 d2 d3 d4 d5 d6
   go_wp2_with fail
   go_loopg [13] (L+1) (fun left v13 wr=>∃ (P:Nat),P≤L+1∧L+1 - P≤left∧v13=.int .i64 P∧Hid (((List.range P).any fun q=>S.getD q false&&fol q)=false)∧wr=w3)
   case atStart=>exact⟨0,by omega,by omega,rfl,by simp[Hid],rfl⟩
   case round =>
    obtain⟨P,hP,hleft,rfl,HNO,rfl⟩:=hrel
    by_cases hPL:P<L+1
    ·have hdP:decide ((P:Int)≤(L:Int))=true:=by rw[decide_eq_true_eq];omega
     have hPS:P<S.length:=by rw[HEL.out];exact hPL
     have cP:=bool_row_get HR.out hPS
     have HGP:=Lib.hid (show S.getD P false=S[P] by rw[List.getD_eq_getElem?_getD,List.getElem?_eq_getElem hPS];rfl)
     obtain⟨bp,hbp⟩:∃ bp,bp=S[P]:=⟨_,rfl⟩
     rw[←hbp] at cP HGP
     obtain⟨b6,o6,rfl,-,-,hcf⟩:=(HFO.out.below HB3.out).boolAt (k:=P) (by rw[bl_len];exact hPL)
     rw[bl_at (by omega)] at hcf
     obtain⟨bf,hbf⟩:∃ bf,bf=fol P:=⟨_,rfl⟩
     rw[←hbf] at hcf
     have HBF:=Lib.hid hbf
     clear hbp hPS hbf
     cases bp with
     |false =>
      have HNO2:=Lib.hid (show ((List.range (P+1)).any fun q=>S.getD q false&&fol q)=false by
       rw[List.range_succ,List.any_append,HNO.out]
       simp only[List.any_cons,List.any_nil,HGP.out,Bool.false_and,Bool.or_false])
      go_wp2_with fail
      go_roundg (gk - 1)
      case measure=>omega
      case rel=>exact⟨P+1,by omega,by omega,by go_num,HNO2.out,rfl⟩
     |true =>
      cases bf with
      |false =>
       have HNO2:=Lib.hid (show ((List.range (P+1)).any fun q=>S.getD q false&&fol q)=false by
        rw[List.range_succ,List.any_append,HNO.out]
        simp only[List.any_cons,List.any_nil,←HBF.out,Bool.and_false,Bool.or_false])
       go_wp2_with fail
       go_roundg (gk - 1)
       case measure=>omega
       case rel=>exact⟨P+1,by omega,by omega,by go_num,HNO2.out,rfl⟩
      |true =>
       have HEE:=Lib.hid (show tot=true by
        rw[HE.out]
        exact List.any_eq_true.2 ⟨P,List.mem_range.2 hPL,by rw[HGP.out,←HBF.out];rfl⟩)
       go_wp2_with fail
       go_ret
       exact⟨rt1 (vbool HEE.out.symm),HBX.out.trans (HB3.out.mono (Nat.le_succ _))⟩
    ·have hdP:decide ((P:Int)≤(L:Int))=false:=by rw[decide_eq_false_iff_not];omega
     have HEE:=Lib.hid (show tot=false by
      rw[HE.out]
      have:=HNO.out
      rwa [show P=L+1 by omega] at this)
     go_wp2_with fail
     go_ret
     exact⟨rt1 (vbool HEE.out.symm),HBX.out.trans (HB3.out.mono (Nat.le_succ _))⟩
 |false =>
  have hkk:((L:Int)==k)=false:=hhk.symm
  clear hhk
  have HE:=Lib.hid (show tot=(List.range (L+1)).any fun q=>S.getD q false&&fol q by rw[HBH.out,HKD.out];rfl)
  have HB2:=Lib.hid (Below.refl (w.heap.size+1) (w.alloc (.cells #[.slice A1 n c1,.slice A2 m c2,.slice A3 q c3,.string X,.slice AE n ce,.slice AF n cf] 66)))
  have HS2:=Lib.hid (Nat.le_of_eq HZ.out.symm)
  clear HBH
  go_wp2_with fail
  generalize w.alloc (.cells #[.slice A1 n c1,.slice A2 m c2,.slice A3 q c3,.string X,.slice AE n ce,.slice AF n cf] 66)=w2 at *
  refine (HEN.out w2 (HT.out.fut HB2.out (Nat.le_refl _) HS2.out) (HRT.out.fut HB2.out (Nat.le_refl _) HS2.out)).mono ?_
  rintro e w3 ⟨g,rfl,hg,hge,hb3⟩
  have HR:=Lib.hid hg
  have HB3:=Lib.hid (HB2.out.trans (hb3.mono HS2.out))
  rw[HEL.out]
  clear hg hge hb3 d1 d2 d3 d4 d5 d6
  go_wp2_with fail
  go_loopg [13] (L+1) (fun left v13 wr=>∃ (P:Nat),P≤L+1∧L+1 - P≤left∧v13=.int .i64 P∧Hid (((List.range P).any fun q=>S.getD q false&&fol q)=false)∧wr=w3)
  case atStart=>exact⟨0,by omega,by omega,rfl,by simp[Hid],rfl⟩
  case round =>
   obtain⟨P,hP,hleft,rfl,HNO,rfl⟩:=hrel
   by_cases hPL:P<L+1
   ·have hdP:decide ((P:Int)≤(L:Int))=true:=by rw[decide_eq_true_eq];omega
    have hPS:P<S.length:=by rw[HEL.out];exact hPL
    have cP:=bool_row_get HR.out hPS
    have HGP:=Lib.hid (show S.getD P false=S[P] by rw[List.getD_eq_getElem?_getD,List.getElem?_eq_getElem hPS];rfl)
    obtain⟨bp,hbp⟩:∃ bp,bp=S[P]:=⟨_,rfl⟩
    rw[←hbp] at cP HGP
    obtain⟨b6,o6,rfl,-,-,hcf⟩:=(HFO.out.below HB3.out).boolAt (k:=P) (by rw[bl_len];exact hPL)
    rw[bl_at (by omega)] at hcf
    obtain⟨bf,hbf⟩:∃ bf,bf=fol P:=⟨_,rfl⟩
    rw[←hbf] at hcf
    have HBF:=Lib.hid hbf
    clear hbp hPS hbf
    cases bp with
    |false =>
     have HNO2:=Lib.hid (show ((List.range (P+1)).any fun q=>S.getD q false&&fol q)=false by
      rw[List.range_succ,List.any_append,HNO.out]
      simp only[List.any_cons,List.any_nil,HGP.out,Bool.false_and,Bool.or_false])
     go_wp2_with fail
     go_roundg (gk - 1)
     case measure=>omega
     case rel=>exact⟨P+1,by omega,by omega,by go_num,HNO2.out,rfl⟩
    |true =>
     cases bf with
     |false =>
      have HNO2:=Lib.hid (show ((List.range (P+1)).any fun q=>S.getD q false&&fol q)=false by
       rw[List.range_succ,List.any_append,HNO.out]
       simp only[List.any_cons,List.any_nil,←HBF.out,Bool.and_false,Bool.or_false])
      go_wp2_with fail
      go_roundg (gk - 1)
      case measure=>omega
      case rel=>exact⟨P+1,by omega,by omega,by go_num,HNO2.out,rfl⟩
     |true =>
      have HEE:=Lib.hid (show tot=true by
       rw[HE.out]
       exact List.any_eq_true.2 ⟨P,List.mem_range.2 hPL,by rw[HGP.out,←HBF.out];rfl⟩)
      go_wp2_with fail
      go_ret
      exact⟨rt1 (vbool HEE.out.symm),HBX.out.trans (HB3.out.mono (Nat.le_succ _))⟩
   ·have hdP:decide ((P:Int)≤(L:Int))=false:=by rw[decide_eq_false_iff_not];omega
    have HEE:=Lib.hid (show tot=false by
     rw[HE.out]
     have:=HNO.out
     rwa [show P=L+1 by omega] at this)
    go_wp2_with fail
    go_ret
    exact⟨rt1 (vbool HEE.out.symm),HBX.out.trans (HB3.out.mono (Nat.le_succ _))⟩
set_option maxRecDepth 100000 in
set_option maxHeartbeats 16000000 in
theorem ahead_any {A1 A2 A3 AE AF AO:Option Addr} {n m q c1 c2 c3 ce cf co:Nat} {T:TabD} {rs:RuleL} (wd:Wd) (k:Int) (O:Nat→Nat→Bool) (i:Nat) (hi:i<rs.length) (w:World) (hR:SlR eRule w w.heap.size (.slice A3 q c3) rs) (hT:TabR w w.heap.size AE ce AF cf n wd.length T) (hO:SlR (eSl eBool) w w.heap.size (.slice AO n co) (sqL n wd.length O)) (hw:∀ r∈rs,0≤r.1∧r.1<(n:Int)∧∀ s∈r.2,s<(n:Int)∧-256≤s) (hL:wd.length≤4096) (hn:n≤4096) :
  Calls Tryz.prog 26 #[tabV A1 A2 A3 n m q c1 c2 c3 wd AE ce AF cf,.int .i64 k,.slice AO n co,.int .i64 i] w fun e w'=>e=.returned (.bool (aheadB wd T k O rs[i]))∧Below w.heap.size w w':=by
 have hbx:=(Below.refl w.heap.size w).alloc (Nat.le_refl _) (.cells #[.slice A1 n c1,.slice A2 m c2,.slice A3 q c3,wv wd,.slice AE n ce,.slice AF n cf] 66)
 have HK:=Lib.hid (Go.heap_alloc_new w (.cells #[.slice A1 n c1,.slice A2 m c2,.slice A3 q c3,wv wd,.slice AE n ce,.slice AF n cf] 66))
 have HZ:=Lib.hid (World.size_alloc w (.cells #[.slice A1 n c1,.slice A2 m c2,.slice A3 q c3,wv wd,.slice AE n ce,.slice AF n cf] 66))
 have HBX:=Lib.hid hbx
 have hiq:i<q:=by have:=hR.n_eq;omega
 have hcq:=hR.n_le
 have hnco:=hO.n_le
 obtain⟨b,off,cs,rfl,-,hbl,hrep,hcell⟩:=(hR.fut (B':=w.heap.size+1) hbx (Nat.le_refl _) (by omega)).get (k:=i) hi (by decide)
 obtain⟨v,rfl,hsl,hz1,hz2⟩:=eRule_open hrep
 obtain⟨A5,c5,rfl,hl5,hl6⟩:=hsl.form
 have hc0:=hcell 0 _ rfl
 have hc1:=hcell 1 _ rfl
 simp only[show eRule.size=2 from rfl,Nat.add_zero,←Nat.add_assoc] at hc0 hc1
 obtain⟨f1,f2,f3⟩:=hw rs[i] (List.getElem_mem hi)
 obtain⟨r,hr⟩:∃ r,r=rs[i]:=⟨_,rfl⟩
 rw[←hr] at hc0 hc1 hsl hl5 f1 f2 f3 ⊢
 obtain⟨a,right⟩:=r
 simp only at hc0 hc1 hsl hl5 f1 f2 f3
 obtain⟨lf,rfl⟩:∃ lf:Nat,a=(lf:Int):=⟨a.toNat,by omega⟩
 have hln:lf<n:=by omega
 obtain⟨b1,o1,b2,o2,c4,rfl,e1,e2,z1,z2,hrow⟩:=sq_at (hO.fut (B':=w.heap.size+1) hbx (Nat.le_refl _) (by omega)) (a:=lf) (p:=0) hln (Nat.zero_le _)
 have HRW:=Lib.hid hrow
 have HSL:=Lib.hid hsl
 have HT:=Lib.hid (hT.fut (B':=w.heap.size+1) hbx (Nat.le_refl _) (by omega))
 have HBH0:=Lib.hid (fun (w':World) (hT:TabR w' w'.heap.size AE ce AF cf n wd.length T) (hr:SlR eInt w' w'.heap.size (.slice A5 right.length c5) right) (hf:SlR eBool w' w'.heap.size (.slice (some ⟨b2,o2,none⟩) (wd.length+1) c4) (bl wd.length (O lf)))=>behind20_any (A1:=A1) (A2:=A2) (A3:=some ⟨b,off,none⟩) (m:=m) (q:=q) (c1:=c1) (c2:=c2) (c3:=c3) wd k right (O lf) 0 w' hT hr hf f3 (Nat.zero_le _) hL hn)
 obtain⟨X,hX⟩:∃ X:ByteArray,X=⟨wd.toArray⟩:=⟨_,rfl⟩
 have hXs:X.size=wd.length:=by rw[hX];rfl
 unfold tabV at HBH0 ⊢
 rw[show wv wd=Value.string X by rw[hX]] at hbx HK HZ HBX HT HRW HSL hc0 hc1 z1 z2 ⊢
 have HBH:=Lib.hid (show ∀ (w':World),TabR w' w'.heap.size AE ce AF cf n wd.length T→SlR eInt w' w'.heap.size (.slice A5 right.length c5) right→SlR eBool w' w'.heap.size (.slice (some ⟨b2,o2,none⟩) (wd.length+1) c4) (bl wd.length (O lf))→Calls Tryz.prog 47 #[.agg #[.slice A1 n c1,.slice A2 m c2,.slice (some ⟨b,off,none⟩) q c3,.string X,.slice AE n ce,.slice AF n cf],.int .i64 k,.slice A5 right.length c5,.slice (some ⟨b2,o2,none⟩) (wd.length+1) c4,.int .i64 0] w' (fun e w''=>e=.returned (.bool (behindL wd T k right (O lf) 0))∧Below w'.heap.size w' w'') from fun w' h1 h2 h3=>by rw[hX];exact HBH0.out w' h1 h2 h3)
 have HAH:=Lib.hid (show aheadB wd T k O ((lf:Int),right)=(decide ((wd.length:Int)≤k)&&behindL wd T k right (O lf) 0) from rfl)
 obtain⟨bh,hbh⟩:∃ bh,bh=behindL wd T k right (O lf) 0:=⟨_,rfl⟩
 rw[←hbh] at HBH HAH
 obtain⟨tot,htot⟩:∃ tot,tot=aheadB wd T k O ((lf:Int),right):=⟨_,rfl⟩
 rw[←htot] at HAH ⊢
 obtain⟨L,hLL⟩:∃ L,L=wd.length:=⟨_,rfl⟩
 rw[←hLL] at hXs HT HBH HAH HRW e2 z1 hL
 have HP:=Lib.hid (show right.length=right.length from rfl)
 obtain⟨p,hp⟩:∃ p,p=right.length:=⟨_,rfl⟩
 rw[←hp] at HBH HSL hc1 hl5
 have HCELL:Hid (∀ (w2:World),w2.heap[w.heap.size]? = some (.cells #[.slice A1 n c1,.slice A2 m c2,.slice (some ⟨b,off,none⟩) q c3,.string X,.slice AE n ce,.slice AF n cf] 66 (0,0))→w2.cell? ⟨w.heap.size,0,none⟩=some (.slice A1 n c1)∧w2.cell? ⟨w.heap.size,1,none⟩=some (.slice A2 m c2)∧w2.cell? ⟨w.heap.size,2,none⟩=some (.slice (some ⟨b,off,none⟩) q c3)∧w2.cell? ⟨w.heap.size,3,none⟩=some (.string X)∧w2.cell? ⟨w.heap.size,4,none⟩=some (.slice AE n ce)∧w2.cell? ⟨w.heap.size,5,none⟩=some (.slice AF n cf)):=fun w2 hk=>⟨by rw[cell_of_row _ _ _ _ _ _ hk];rfl,by rw[cell_of_row _ _ _ _ _ _ hk];rfl,by rw[cell_of_row _ _ _ _ _ _ hk];rfl,by rw[cell_of_row _ _ _ _ _ _ hk];rfl,by rw[cell_of_row _ _ _ _ _ _ hk];rfl,by rw[cell_of_row _ _ _ _ _ _ hk];rfl⟩
 clear hX hLL hT hR hO hbx HBH0 hw htot hbh hp hsl hrow hr hi hcell hrep hz1 hz2 f1 f2 f3 HP
 obtain⟨d1,d2,d3,d4,d5,d6⟩:=HCELL.out _ HK.out
 go_enter Tryz.func26,Tryz.ntmps26
 go_upto_region 2 with fail
 generalize w.alloc (.cells #[.slice A1 n c1,.slice A2 m c2,.slice (some ⟨b,off,none⟩) q c3,.string X,.slice AE n ce,.slice AF n cf] 66)=w1 at *
 have hb2:=(Below.refl w1.heap.size w1).alloc (Nat.le_refl _) (.cells #[.int .i64 lf,.slice A5 p c5] 55)
 have HK2:=Lib.hid (Go.heap_alloc_new w1 (.cells #[.int .i64 lf,.slice A5 p c5] 55))
 have HZ2:=Lib.hid (World.size_alloc w1 (.cells #[.int .i64 lf,.slice A5 p c5] 55))
 have HB2:=Lib.hid (hb2.mono (Nat.le_of_eq HZ.out.symm))
 have hz1:=(hb2.cell (World.block_lt_of_cell? w1 _ z1)).trans z1
 generalize w1.alloc (.cells #[.int .i64 lf,.slice A5 p c5] 55)=w2 at *
 clear d1 d2 d3 d4 d5 d6 hb2 z1 z2 hc0 hc1
 obtain⟨d1,d2,d3,d4,d5,d6⟩:=HCELL.out w2 ((HB2.out.block w.heap.size (by omega)).trans HK.out)
 have hk2:=HK2.out
 rw[HZ.out] at hk2
 have r0:w2.cell? ⟨w.heap.size+1,0,none⟩=some (.int .i64 lf):=by rw[cell_of_row _ _ _ _ _ _ hk2];rfl
 have r1:w2.cell? ⟨w.heap.size+1,1,none⟩=some (.slice A5 p c5):=by rw[cell_of_row _ _ _ _ _ _ hk2];rfl
 clear hk2
 have HS2:=Lib.hid (show w.heap.size+1≤w2.heap.size by have:=HZ2.out;have:=HZ.out;omega)
 by_cases hLk:(L:Int)≤k
 ·have hd:decide ((L:Int)≤k)=true:=by simpa using hLk
  have HE:=Lib.hid (show tot=bh by rw[HAH.out,hd,Bool.true_and])
  clear hLk
  refine Text.wp_grow [15] [1,6,9,12,14] [] (by kernel_rfl) (by kernel_rfl) ?_
  refine Text.wpS_seg 15 _ _ _ _ (by decide) (fun Q' hQ'=>?_)
  simp only[List.take_succ_cons,List.take_zero]
  go_wp2_with fail
  try simp only[Nat.zero_add,List.drop_succ_cons,List.drop_zero]
  refine Text.wpS_one (fun Q' hQ'=>?_)
  go_wp2_with fail
  refine (HBH.out _ (HT.out.fut (HB2.out.trans (below_drew1.mono HS2.out)) (Nat.le_refl _) HS2.out) (HSL.out.fut (HB2.out.trans (below_drew1.mono HS2.out)) (Nat.le_refl _) HS2.out) (HRW.out.fut (HB2.out.trans (below_drew1.mono HS2.out)) (Nat.le_refl _) HS2.out)).mono ?_
  rintro e w5 ⟨rfl,hb5⟩
  go_wp2_with fail
  refine⟨hb5,?_⟩
  refine Text.wpS_seg 2 _ _ _ _ (by decide) (fun Q' hQ'=>?_)
  simp only[List.take_succ_cons,List.take_zero]
  go_wp2_with fail
  refine⟨by rfl,?_,?_⟩
  ·exact⟨fun _=>⟨_,_,rfl,d4⟩,fun _=>⟨_,_,rfl,d1⟩,fun _=>⟨_,_,rfl,r1⟩,fun _=>⟨_,_,rfl,r0⟩,fun _=>⟨_,_,rfl,hz1⟩,trivial⟩
  go_wp2_with fail
  go_ret
  exact⟨rt1 (vbool HE.out.symm),HBX.out.trans ((HB2.out.trans ((below_drew1.trans hb5).mono HS2.out)).mono (Nat.le_succ _))⟩
 ·have hd:decide ((L:Int)≤k)=false:=by simpa using hLk
  have HE:=Lib.hid (show tot=false by rw[HAH.out,hd,Bool.false_and])
  clear hLk
  refine Text.wp_grow [15] [1,6,9,12,14] [] (by kernel_rfl) (by kernel_rfl) ?_
  refine Text.wpS_seg 15 _ _ _ _ (by decide) (fun Q' hQ'=>?_)
  simp only[List.take_succ_cons,List.take_zero]
  go_wp2_with fail
  try simp only[Nat.zero_add,List.drop_succ_cons,List.drop_zero]
  refine Text.wpS_one (fun Q' hQ'=>?_)
  go_wp2_with fail
  refine⟨Below.refl _ _,?_⟩
  refine Text.wpS_seg 2 _ _ _ _ (by decide) (fun Q' hQ'=>?_)
  simp only[List.take_succ_cons,List.take_zero]
  go_wp2_with fail
  refine⟨by rfl,?_,?_⟩
  ·exact⟨fun _=>⟨_,_,rfl,d4⟩,Text.no_want rfl,Text.no_want rfl,Text.no_want rfl,Text.no_want rfl,trivial⟩
  go_wp2_with fail
  go_ret
  exact⟨rt1 (vbool HE.out.symm),HBX.out.trans ((HB2.out.drew).mono (Nat.le_succ _))⟩
end Go.Proofs.YtfpihflepeiagaaGreatDoor
