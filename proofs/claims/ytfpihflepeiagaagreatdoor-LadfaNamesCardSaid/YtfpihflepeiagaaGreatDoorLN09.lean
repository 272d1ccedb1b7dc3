/- Texts of this proof joined: Well5, Well6. -/
import Derived.Test.YtfpihflepeiagaaGreatDoorLN08
namespace Go.Proofs.YtfpihflepeiagaaGreatDoor
open Go.RowKit

theorem bool_appW:AppTy Tryz.prog 60 4 1 1 (.bool false):=appTy Tryz.underlying60 (by kernel_rfl) rfl (by omega)
def BoolsTo (w:World) (P:List Bool) (e:Ending) (w':World):Prop:=∃ A c,e=.returned (.slice A P.length c)∧Rd w' w'.heap.size A (bcellsB P)∧Below w.heap.size w w'
theorem bcellsB_snoc (P:List Bool) {k:Nat} (h:k<P.length):bcellsB (P.take (k+1))=bcellsB (P.take k)++[.bool P[k]]:=by
 unfold bcellsB
 rw[List.take_succ_eq_append_getElem h,List.map_append]
 rfl
set_option maxRecDepth 100000 in
set_option maxHeartbeats 8000000 in
theorem productive_any {A1 A2 A3:Option Addr} {n m q c1 c2 c3:Nat} {g:Gram} (w:World) (h:GramR w w.heap.size A1 A2 A3 n m q c1 c2 c3 g) (hv:gramB g=true) :
  Calls Tryz.prog 121 #[gramV A1 A2 A3 n m q c1 c2 c3] w (BoolsTo w (productive g.2.2 n)):=by
 have hbx:=(Below.refl w.heap.size w).alloc (Nat.le_refl _) (.cells #[.slice A1 n c1,.slice A2 m c2,.slice A3 q c3] 25)
 have HZ:=Lib.hid (World.size_alloc w (.cells #[.slice A1 n c1,.slice A2 m c2,.slice A3 q c3] 25))
 have HS:=Lib.hid (shortest_any (w.alloc (.cells #[.slice A1 n c1,.slice A2 m c2,.slice A3 q c3] 25)) (h.fut hbx (Nat.le_refl _) (by rw[World.size_alloc];omega)) hv)
 have HBX:=Lib.hid hbx
 have HN2:=Lib.hid (show n≤256 by have:=(gramB_good hv).nm;have:=h.ln.1;omega)
 have HPL:=Lib.hid (show (productive g.2.2 n).length=n by unfold productive;rw[roundsOf_len prodStep_len,List.length_replicate])
 clear h hv hbx
 obtain⟨P,hP⟩:∃ P,P=productive g.2.2 n:=⟨_,rfl⟩
 rw[←hP] at HS HPL ⊢
 clear hP
 go_enter Tryz.func121,Tryz.ntmps121
 go_wp2_with fail
 generalize w.alloc (.cells #[.slice A1 n c1,.slice A2 m c2,.slice A3 q c3] 25)=w1 at *
 refine HS.out.mono ?_
 rintro e w2 ⟨gr,vals,rfl,hg,hr,hb2⟩
 have HG:=Lib.hid hg
 have HR:=Lib.hid hr
 have HB2:=Lib.hid (HBX.out.trans (hb2.mono (by rw[HZ.out];omega)))
 have HLN:=Lib.hid (show vals.length=n by rw[hr.len,HPL.out])
 have HLG:=Lib.hid (Array.getElem?_eq_some_iff.1 hg).1
 clear hg hr hb2
 rw[HLN.out]
 go_wp2_with fail
 go_loopw [9,3] (fun v9 v3 wr=>∃ i:Nat,i≤n∧v9=.int .i64 i∧Hid (wr.ownsRow w2.heap.size 4 1 v3 i (bcellsB (P.take i)))∧Hid (Below w2.heap.size w2 wr)) (fun v9 _ _=>n - (intOf v9).toNat)
 case atStart=>exact⟨0,by omega,rfl,World.ownsRow_nil _ _ _ _,Below.refl _ _⟩
 case round =>
  obtain⟨i,hi,rfl,HO,HB⟩:=hrel
  have hn256:=HN2.out
  by_cases hlt:i<n
  ·have hlt':i<vals.length:=by rw[HLN.out];exact hlt
   have hcell:=int_row_get ((HB.out.block gr HLG.out).trans HG.out) hlt'
   obtain⟨y1,y2,y3⟩:=HR.out.val i _ (List.getElem?_eq_getElem hlt')
   have hltP:i<P.length:=by rw[HPL.out];exact hlt
   rw[List.getElem?_eq_getElem hltP] at y3
   have HSN:=Lib.hid (bcellsB_snoc P hltP)
   obtain⟨x,hx⟩:∃ x,x=vals[i]:=⟨_,rfl⟩
   rw[←hx] at hcell y1 y2 y3
   injection y3 with y3
   rw[y3] at HSN
   clear hx y3 hlt' hltP
   obtain⟨A5,c5,rfl,hl5,hl6⟩:=own_form HO.out
   go_wp2_with (at_builtin;refine wpList_app (m:=1) (n:=i) bool_appW rfl rfl rfl rfl (HO.out.alloc _) (Rd.row (B:=wr.heap.size+1) (Go.heap_alloc_new wr _) (by omega)) rfl (fun u hu=>by simp at hu;subst hu;rfl) (by have:=HN2.out;unfold maxLen;omega) (by have:=HN2.out;omega) (by rw[World.size_alloc];have:=HB.out.size;omega) ?_)
   intro v' w' ho hg _ _
   have HO2:Hid (w'.ownsRow _ 4 1 v' (i+1) (bcellsB (P.take (i+1)))):=Lib.hid (by rw[HSN.out];exact ho)
   have HB3:=Lib.hid (grown_below (HB.out.alloc HB.out.size _) hg (HO.out.alloc _) (Nat.le_refl _) (by rw[World.size_alloc];have:=HB.out.size;omega))
   obtain⟨A6,c6,rfl,hl7,hl8⟩:=own_form ho
   clear ho hg
   go_wp2_with fail
   go_roundw
   case rel=>exact⟨i+1,by omega,by go_num,HO2.out,HB3.out⟩
   case measure=>simp[intOf];omega
  ·have him:i=n:=by omega
   have HO9:Hid (wr.ownsRow w2.heap.size 4 1 u3 n (bcellsB P)):=Lib.hid (by
    have:=HO.out
    rw[him,List.take_of_length_le (by rw[HPL.out];omega)] at this
    exact this)
   clear HO him
   obtain⟨A5,c5,rfl,hl5,hl6⟩:=own_form HO9.out
   go_wp2_with fail
   go_ret
   exact⟨A5,c5,by rw[HPL.out];rfl,Rd.of_own HO9.out,HB2.out.trans (HB.out.mono HB2.out.size)⟩
structure ReachSt (g SB n:Nat) (R:List Bool) (w:World):Prop where
 row:w.heap[g]? = some (.cells (bcellsB R).toArray 4 (0,0))
 len:R.length=n
 box:w.heap[SB]? = some (.cells #[.slice (some ⟨g,0,none⟩) n n] 60 (0,0))
 ne:g≠SB
theorem ReachSt.below {g SB n:Nat} {R:List Bool} {w w':World} (h:ReachSt g SB n R w) (hb:Below w.heap.size w w'):ReachSt g SB n R w' :=
 ⟨(hb.block g (Array.getElem?_eq_some_iff.1 h.row).1).trans h.row,h.len,(hb.block SB (Array.getElem?_eq_some_iff.1 h.box).1).trans h.box,h.ne⟩
theorem bool_row_get {w:World} {g k:Nat} {l:List Bool} (h:w.heap[g]? = some (.cells (bcellsB l).toArray 4 (0,0))) (hk:k<l.length):w.cell? ⟨g,k,none⟩=some (.bool l[k]):=by
 rw[cell_of_row w g k _ _ _ h]
 simp[bcellsB,hk]
theorem bool_row_set {w:World} {g k:Nat} {l:List Bool} (h:w.heap[g]? = some (.cells (bcellsB l).toArray 4 (0,0))) (x:Bool):(w.setCell ⟨g,k,none⟩ (.bool x)).heap[g]? = some (.cells (bcellsB (l.set k x)).toArray 4 (0,0)):=by
 simp only[World.setCell,Array.getElem?_modify,if_true,h,Option.map_some]
 congr 2
 simp[bcellsB,List.map_set]
theorem reachSym_len (R:List Bool) (l s:Int):(reachSym R l s).length=R.length:=by
 unfold reachSym
 split
 ·rw[List.length_set]
 ·rfl
set_option maxRecDepth 100000 in
set_option maxHeartbeats 8000000 in
theorem reachStep_any (g SB n N:Nat) (R:List Bool) (k:Nat) (r:List Int) (A:Option Addr) (q c:Nat) (w:World) (h:ReachSt g SB n R w) (hk:k<n) (hq:q=r.length) (hr:∀ s∈r,s<(n:Int)) (hs:SlR eInt w N (.slice A q c) r) (hN:N≤g) (hN2:N≤w.heap.size) :
  Calls Tryz.prog 148 #[ruleV k A q c,.pointer (some ⟨SB,0,none⟩)] w fun e w'=>e=.returned (.tuple #[])∧ReachSt g SB n (reachStep R ((k:Int),r)) w'∧w.grownBy w' (some g):=by
 have HH:=Lib.hid h
 have HS:=Lib.hid hs
 have HR:=Lib.hid hr
 have HQ:=Lib.hid hq
 have hq9:=hs.n_le
 have HB:=Lib.hid ((Below.refl w.heap.size w).alloc (Nat.le_refl _) (.cells #[.int .i64 k,.slice A q c] 55))
 have HK:=Lib.hid (Go.heap_alloc_new w (.cells #[.int .i64 k,.slice A q c] 55))
 have HZ:=Lib.hid (World.size_alloc w (.cells #[.int .i64 k,.slice A q c] 55))
 have HGN:=Lib.hid (World.grownBy_alloc w (.cells #[.int .i64 k,.slice A q c] 55) (some g))
 have HLG:=Lib.hid (Array.getElem?_eq_some_iff.1 h.row).1
 obtain⟨fin,hfin⟩:∃ fin,fin=reachStep R ((k:Int),r):=⟨_,rfl⟩
 rw[←hfin]
 have HF:=Lib.hid hfin
 clear h hs hr hq hfin
 go_enter Tryz.func148,Tryz.ntmps148
 go_wp2_with fail
 have HST:=Lib.hid (HH.out.below HB.out)
 have c1:(w.alloc (.cells #[.int .i64 k,.slice A q c] 55)).cell? ⟨w.heap.size,1,none⟩=some (.slice A q c):=by rw[cell_of_row _ _ _ _ _ _ HK.out];rfl
 generalize w.alloc (.cells #[.int .i64 k,.slice A q c] 55)=w1 at *
 go_loopw [8] (fun v8 wr=>∃ (j:Nat) (S:List Bool),j≤q∧v8=.int .i64 j∧Hid (fin=(r.drop j).foldl (fun R s=>reachSym R k s) S)∧Hid (ReachSt g SB n S wr)∧Hid (w1.grownBy wr (some g))) (fun v8 _=>q - (intOf v8).toNat)
 case atStart=>exact⟨0,R,by omega,rfl,HF.out,HST.out,World.grownBy.refl _ _⟩
 case round =>
  clear HST c1
  obtain⟨j,S,hj,rfl,HFD,HST,HGR⟩:=hrel
  have HBN:=Lib.hid (show Below N w wr from (HB.out.mono hN2).trans (below_of_grown HGR.out hN (by rw[HZ.out];omega)))
  have k1:=(HGR.out.block w.heap.size (by rw[HZ.out];omega) (fun e=>by injection e with e;have:=HLG.out;omega)).trans HK.out
  have c0:wr.cell? ⟨w.heap.size,0,none⟩=some (.int .i64 k):=by rw[cell_of_row _ _ _ _ _ _ k1];rfl
  by_cases hlt:j<q
  ·have hlt':j<r.length:=by rw[←HQ.out];exact hlt
   obtain⟨b,off,cs,rfl,_,hbl,hrep,hcell⟩:=(HS.out.below HBN.out).get (k:=j) hlt' (by decide)
   obtain⟨rfl,hx1,hx2⟩:=hrep
   have hc0:=hcell 0 _ rfl
   simp only[show eInt.size=1 from rfl,Nat.mul_one,Nat.add_zero] at hc0
   have HFD2:=Lib.hid (show fin=(r.drop (j+1)).foldl (fun R s=>reachSym R k s) (reachSym S k r[j]) by rw[HFD.out,List.drop_eq_getElem_cons hlt',List.foldl_cons])
   have hsm:=HR.out _ (List.getElem_mem hlt')
   obtain⟨s,hse⟩:∃ s,s=r[j]:=⟨_,rfl⟩
   rw[←hse] at hc0 hx1 hx2 HFD2 hsm
   have cS:=cell0 HST.out.box
   have hkS:k<S.length:=by rw[HST.out.len];exact hk
   have cK:=bool_row_get HST.out.row hkS
   have HKB:=Lib.hid (show S.getD k false=S[k] by rw[List.getD_eq_getElem?_getD,List.getElem?_eq_getElem hkS];rfl)
   obtain⟨bk,hbk⟩:∃ bk,bk=S[k]:=⟨_,rfl⟩
   rw[←hbk] at cK HKB
   clear hcell hse hlt' hbk hkS HFD
   cases bk with
   |false =>
    have HSY:=Lib.hid (show reachSym S k s=S by unfold reachSym;rw[Int.toNat_natCast,HKB.out];simp)
    go_wp2_with fail
    go_roundw
    case rel=>exact⟨j+1,S,by omega,by go_num,by have:=HFD2.out;rw[HSY.out] at this;exact this,HST.out,HGR.out⟩
    case measure=>simp[intOf];omega
   |true =>
    by_cases hs0:s<0
    ·have hd:decide (s<0)=true:=by simpa using hs0
     have HSY:=Lib.hid (show reachSym S k s=S by unfold reachSym;rw[Int.toNat_natCast,HKB.out];simp;omega)
     go_wp2_with fail
     refine (isTermSym_any s _).mono ?_
     rintro e w5 ⟨rfl,rfl⟩
     rw[hd]
     go_wp2_with fail
     go_roundw
     case rel=>exact⟨j+1,S,by omega,by go_num,by have:=HFD2.out;rw[HSY.out] at this;exact this,HST.out,HGR.out⟩
     case measure=>simp[intOf];omega
    ·have hd:decide (s<0)=false:=by simpa using hs0
     obtain⟨t,rfl⟩:∃ t:Nat,s=(t:Int):=⟨s.toNat,by omega⟩
     have HSY:=Lib.hid (show reachSym S k (t:Int)=S.set t true by unfold reachSym;rw[Int.toNat_natCast,HKB.out];simp)
     have htS:t<S.length:=by rw[HST.out.len];omega
     have cT:=bool_row_get HST.out.row htS
     have fT:wr.frozen? ⟨g,t,none⟩=false:=by simp[World.frozen?,HST.out.row]
     obtain⟨bt,hbt⟩:∃ bt,bt=S[t]:=⟨_,rfl⟩
     rw[←hbt] at cT
     clear hbt htS
     have HST2:=Lib.hid (show ReachSt g SB n (S.set t true) (wr.setCell ⟨g,t,none⟩ (.bool true)) from ⟨bool_row_set HST.out.row true,by rw[List.length_set];exact HST.out.len,by rw[Below.heap_setCell _ _ _ _ (fun e=>HST.out.ne e.symm)];exact HST.out.box,HST.out.ne⟩)
     go_wp2_with fail
     refine (isTermSym_any _ _).mono ?_
     rintro e w5 ⟨rfl,rfl⟩
     rw[hd]
     go_wp2_with fail
     go_roundw
     case rel=>exact⟨j+1,S.set t true,by omega,by go_num,by have:=HFD2.out;rw[HSY.out] at this;exact this,HST2.out,HGR.out.trans (grown_set _ g t _)⟩
     case measure=>simp[intOf];omega
  ·have HFIN:=Lib.hid (show fin=S by rw[HFD.out,show j=r.length by rw[←HQ.out];omega,List.drop_length];rfl)
   go_wp2_with fail
   go_end0
   exact⟨rfl,by rw[HFIN.out];exact HST.out,HGN.out.trans HGR.out⟩
def reachStart (n:Nat):List Bool:=(List.replicate n false).set 0 true
set_option maxRecDepth 100000 in
set_option maxHeartbeats 8000000 in
theorem reached_any {A1 A2 A3:Option Addr} {n m q c1 c2 c3:Nat} {g:Gram} (w:World) (h:GramR w w.heap.size A1 A2 A3 n m q c1 c2 c3 g) (hv:gramB g=true) :
  Calls Tryz.prog 122 #[gramV A1 A2 A3 n m q c1 c2 c3] w (BoolsTo w (reached g.2.2 n)):=by
 have hbx:=(Below.refl w.heap.size w).alloc (Nat.le_refl _) (.cells #[.slice A1 n c1,.slice A2 m c2,.slice A3 q c3] 25)
 have HV:=Lib.hid ((h.fut (B':=w.heap.size+1) hbx (Nat.le_refl _) (by omega)))
 have HK:=Lib.hid (Go.heap_alloc_new w (.cells #[.slice A1 n c1,.slice A2 m c2,.slice A3 q c3] 25))
 have HZ:=Lib.hid (World.size_alloc w (.cells #[.slice A1 n c1,.slice A2 m c2,.slice A3 q c3] 25))
 have HBX:=Lib.hid hbx
 have HG:=Lib.hid (gramB_good hv)
 have HVV:=Lib.hid hv
 have HL:=Lib.hid h.ln
 have hsm:=h.small
 have HN1:=Lib.hid (show 1≤n by have:=HG.out.n1;have:=HL.out.1;omega)
 have HN2:=Lib.hid (show n≤256 by have:=HG.out.nm;have:=HL.out.1;omega)
 clear h hv hbx
 go_enter Tryz.func122,Tryz.ntmps122
 go_wp2_with fail
 generalize w.alloc (.cells #[.slice A1 n c1,.slice A2 m c2,.slice A3 q c3] 25)=w1 at *
 refine (GramR.valid (w:=w1) (by rw[HZ.out];exact HV.out)).mono ?_
 rintro e w2 ⟨rfl,hb2⟩
 rw[HVV.out]
 have HB2:=Lib.hid hb2
 have hz2:w.heap.size<w2.heap.size:=by have:=hb2.size;have:=HZ.out;omega
 have k2:=(hb2.block w.heap.size (by rw[HZ.out];omega)).trans HK.out
 have c0:w2.cell? ⟨w.heap.size,0,none⟩=some (.slice A1 n c1):=by rw[cell_of_row _ _ _ _ _ _ k2];rfl
 have hmk:=bool_make n (by have:=HN2.out;omega) w2
 have hb3:=(Below.refl w2.heap.size w2).alloc (Nat.le_refl _) (.cells (bcellsB (List.replicate n false)).toArray 4)
 rw[show List.replicate n (Value.bool false)=bcellsB (List.replicate n false) by simp[bcellsB]] at hmk
 have HK3:=Lib.hid (Go.heap_alloc_new w2 (.cells (bcellsB (List.replicate n false)).toArray 4))
 have HZ3:=Lib.hid (World.size_alloc w2 (.cells (bcellsB (List.replicate n false)).toArray 4))
 have HKG:=Lib.hid ((hb3.block w.heap.size hz2).trans k2)
 have HB3:=Lib.hid hb3
 obtain⟨w3,hw3⟩:∃ w3,w3=w2.alloc (.cells (bcellsB (List.replicate n false)).toArray 4):=⟨_,rfl⟩
 rw[←hw3] at hmk HK3 HZ3 HB3 HKG
 have hz3:w2.heap.size<w3.heap.size:=by rw[HZ3.out];omega
 have hz3':w.heap.size<w3.heap.size:=by omega
 have c9:w3.cell? ⟨w2.heap.size,0,none⟩=some (.bool false):=by
  rw[bool_row_get HK3.out (by rw[List.length_replicate];exact HN1.out)]
  simp
 have f9:w3.frozen? ⟨w2.heap.size,0,none⟩=false:=by simp[World.frozen?,HK3.out]
 have d0:w3.cell? ⟨w.heap.size,0,none⟩=some (.slice A1 n c1):=by rw[cell_of_row _ _ _ _ _ _ HKG.out];rfl
 have d1:w3.cell? ⟨w.heap.size,1,none⟩=some (.slice A2 m c2):=by rw[cell_of_row _ _ _ _ _ _ HKG.out];rfl
 have d2:w3.cell? ⟨w.heap.size,2,none⟩=some (.slice A3 q c3):=by rw[cell_of_row _ _ _ _ _ _ HKG.out];rfl
 have hne:w.heap.size≠w2.heap.size:=by omega
 have hn0:0<n:=HN1.out
 have HW3:=Lib.hid (show Below (w.heap.size+1) w1 w3 from (HB2.out.mono (Nat.le_of_eq HZ.out.symm)).trans (HB3.out.mono hz2))
 clear hw3 hb2 k2 hb3
 go_wp2_with fail
 have HB4:=Lib.hid ((Below.refl (w3.setCell ⟨w2.heap.size,0,none⟩ (.bool true)).heap.size (w3.setCell ⟨w2.heap.size,0,none⟩ (.bool true))).alloc (Nat.le_refl _) (.cells #[.slice (some ⟨w2.heap.size,0,none⟩) n n] 60))
 have HK4:=Lib.hid (Go.heap_alloc_new (w3.setCell ⟨w2.heap.size,0,none⟩ (.bool true)) (.cells #[.slice (some ⟨w2.heap.size,0,none⟩) n n] 60))
 have HZ4:=Lib.hid (World.size_alloc (w3.setCell ⟨w2.heap.size,0,none⟩ (.bool true)) (.cells #[.slice (some ⟨w2.heap.size,0,none⟩) n n] 60))
 have hsz:(w3.setCell ⟨w2.heap.size,0,none⟩ (.bool true)).heap.size=w3.heap.size:=by simp[World.setCell]
 have HR4:=Lib.hid (bool_row_set HK3.out (k:=0) true)
 have HBS:=Lib.hid (show Below w2.heap.size w3 (w3.setCell ⟨w2.heap.size,0,none⟩ (.bool true)) from Below.setCell (p:=⟨w2.heap.size,0,none⟩) (Below.refl _ _) (Nat.le_refl _) _)
 rw[hsz] at HB4 HK4 HZ4
 generalize (w3.setCell ⟨w2.heap.size,0,none⟩ (.bool true))=ws at *
 generalize ws.alloc (.cells #[.slice (some ⟨w2.heap.size,0,none⟩) n n] 60)=w5 at *
 have HST:=Lib.hid (show ReachSt w2.heap.size w3.heap.size n (reachStart n) w5 from ⟨(HB4.out.block w2.heap.size hz3).trans HR4.out,by simp[reachStart],HK4.out,by omega⟩)
 have HBA:=Lib.hid (show Below (w.heap.size+1) w1 w5 from (HW3.out.trans (HBS.out.mono hz2)).trans (HB4.out.mono hz3'))
 have hrd:=rounds_any 148 #[.pointer (some ⟨w3.heap.size,0,none⟩)] (fun _ _=>by kernel_rfl) reachStep (ReachSt w2.heap.size w3.heap.size n) (.slice A2 m c2) A1 A3 n c1 c3 (w.heap.size+1) w2.heap.size g.2.2 (reachStart n) w5 HN2.out (by rw[←HL.out.2.2];exact HV.out.rules.below HBA.out) hz2 (by rw[HZ4.out];omega) (fun s w1 w2 h hb=>h.below hb) HST.out (fun s wx r A qq cc hr hs hgl hq hsl=>by
  obtain⟨f1,f2,f3,f4⟩:=HG.out.fit r hr
  obtain⟨k,hk⟩:∃ k:Nat,r.1=(k:Int):=⟨r.1.toNat,by omega⟩
  have:=reachStep_any w2.heap.size w3.heap.size n (w.heap.size+1) s k r.2 A qq cc wx hs (by have:=HL.out.1;omega) hq (fun x hx=>by have:=(f4 x hx).1;have:=HL.out.1;omega) hsl hz2 (by omega)
  rw[←hk] at this
  exact this)
 rw[←HL.out.2.2] at hrd
 have HRD:=Lib.hid hrd
 clear hrd
 refine HRD.out.mono ?_
 rintro e w6 ⟨rfl,hst,hgw⟩
 have c6:=cell0 hst.box
 have HFIN:=Lib.hid (show BoolsTo w (reached g.2.2 n) (.returned (.slice (some ⟨w2.heap.size,0,none⟩) n n)) w6 from by
  have hlen:(reached g.2.2 n).length=n:=hst.len
  have hrow:Rd w6 w6.heap.size (some ⟨w2.heap.size,0,none⟩) (bcellsB (reached g.2.2 n)).toArray.toList:=Rd.row hst.row (Array.getElem?_eq_some_iff.1 hst.row).1
  exact⟨some ⟨w2.heap.size,0,none⟩,n,by rw[hlen],hrow,(HBX.out.trans (HBA.out.mono (by omega))).trans (below_of_grown hgw (Nat.le_of_lt hz2) (by rw[HZ4.out];omega))⟩)
 clear hst hgw HRD
 go_wp2_with fail
 go_ret
 exact HFIN.out
end Go.Proofs.YtfpihflepeiagaaGreatDoor
namespace Go.Proofs.YtfpihflepeiagaaGreatDoor
open Go.RowKit

def countT (m:Nat) (l:List Int):List Int:=(List.range m).map fun t:Nat=>((l.count (-1 - (t:Int)):Nat):Int)
theorem countT_len (m:Nat) (l:List Int):(countT m l).length=m:=by simp[countT]
theorem countT_get {m:Nat} {l:List Int} {t:Nat} (h:t<m):(countT m l)[t]? = some ((l.count (-1 - (t:Int)):Nat):Int):=by simp[countT,h]
theorem countT_term {m:Nat} {l:List Int} {k:Nat} (h:k<m):(countT m l).set k (((l.count (-1 - (k:Int)):Nat):Int)+1)=countT m (l++[-1 - (k:Int)]):=by
 apply List.ext_getElem?
 intro t
 by_cases ht:t<m
 ·rw[countT_get ht,List.getElem?_set]
  by_cases e:k=t
  ·subst e
   rw[if_pos rfl,if_pos (by rw[countT_len];exact h),List.count_append]
   simp
  ·rw[if_neg e,countT_get ht,List.count_append]
   have:((-1 - (k:Int))==-1 - (t:Int))=false:=by rw[beq_eq_false_iff_ne];omega
   rw[List.count_singleton,this]
   simp
 ·rw[List.getElem?_eq_none (by rw[List.length_set,countT_len];omega),List.getElem?_eq_none (by rw[countT_len];omega)]
theorem countT_nont {m:Nat} {l:List Int} {s:Int} (h:0≤s):countT m (l++[s])=countT m l:=by
 unfold countT
 apply List.map_congr_left
 intro t _
 rw[List.count_append]
 rw[List.count_singleton]
 have:(s==-1 - (t:Int))=false:=by rw[beq_eq_false_iff_ne];omega
 rw[this]
 simp
def flatS (rs:RuleL):List Int:=rs.flatMap (·.2)
theorem flatS_take (rs:RuleL) {i:Nat} (h:i<rs.length):flatS (rs.take (i+1))=flatS (rs.take i)++rs[i].2:=by
 unfold flatS
 rw[List.take_succ_eq_append_getElem h,List.flatMap_append]
 simp
theorem flatS_len:∀ (rs:RuleL),(∀ r∈rs,r.2.length≤64)→(flatS rs).length≤64*rs.length
 |[],_=>by simp[flatS]
 |r :: rs,h=>by
  have ih:=flatS_len rs (fun r hr=>h r (by simp[hr]))
  have:=h r (by simp)
  unfold flatS at *
  rw[List.flatMap_cons,List.length_append,List.length_cons]
  omega
theorem contains_count (m:Nat) (rs:RuleL):(countT m (flatS rs)).contains 0=!(List.range m).all (usedT rs):=by
 rw[Bool.eq_iff_iff,List.contains_iff_mem,Bool.not_eq_true',←Bool.not_eq_true,List.all_eq_true]
 unfold countT
 rw[List.mem_map]
 constructor
 ·rintro⟨t,ht,h⟩ hall
  have h1:=hall t ht
  unfold usedT at h1
  rw[List.any_eq_true] at h1
  obtain⟨r,hr,h2⟩:=h1
  rw[List.any_eq_true] at h2
  obtain⟨s,hs,h3⟩:=h2
  have h3:=of_decide_eq_true h3
  have h0:(flatS rs).count (-1 - (t:Int))=0:=by omega
  rw[List.count_eq_zero] at h0
  exact h0 (by rw[←h3];unfold flatS;exact List.mem_flatMap.2 ⟨r,hr,hs⟩)
 ·intro h
  refine Classical.byContradiction fun hno=>h fun t ht=>?_
  unfold usedT
  rw[List.any_eq_true]
  have:(flatS rs).count (-1 - (t:Int))≠0:=fun e=>hno ⟨t,ht,by omega⟩
  have hm:=List.count_pos_iff.1 (Nat.pos_of_ne_zero this)
  obtain⟨r,hr,hs⟩:=List.mem_flatMap.1 hm
  exact⟨r,hr,List.any_eq_true.2 ⟨_,hs,by simp⟩⟩
set_option maxRecDepth 100000 in
set_option maxHeartbeats 8000000 in
theorem terms_any {A1 A2 A3:Option Addr} {n m q c1 c2 c3:Nat} {g:Gram} (w:World) (h:GramR w w.heap.size A1 A2 A3 n m q c1 c2 c3 g) (hg:GoodG g) :
  Calls Tryz.prog 123 #[gramV A1 A2 A3 n m q c1 c2 c3] w fun e w'=>e=.returned (.bool ((List.range m).all (usedT g.2.2)))∧Below w.heap.size w w':=by
 have hbx:=(Below.refl w.heap.size w).alloc (Nat.le_refl _) (.cells #[.slice A1 n c1,.slice A2 m c2,.slice A3 q c3] 25)
 have HK:=Lib.hid (Go.heap_alloc_new w (.cells #[.slice A1 n c1,.slice A2 m c2,.slice A3 q c3] 25))
 have HZ:=Lib.hid (World.size_alloc w (.cells #[.slice A1 n c1,.slice A2 m c2,.slice A3 q c3] 25))
 have HBX:=Lib.hid hbx
 have HG:=Lib.hid hg
 have HL:=Lib.hid h.ln
 have HRS:=Lib.hid h.rules
 have hsm:=h.small
 have HM2:=Lib.hid (show m≤256 by have:=hg.nm;have:=h.ln.2.1;omega)
 have hc1:(w.alloc (.cells #[.slice A1 n c1,.slice A2 m c2,.slice A3 q c3] 25)).cell? ⟨w.heap.size,1,none⟩=some (.slice A2 m c2):=by rw[cell_of_row _ _ _ _ _ _ HK.out];rfl
 have hmk:=int_make m (by have:=HM2.out;omega) (w.alloc (.cells #[.slice A1 n c1,.slice A2 m c2,.slice A3 q c3] 25))
 rw[show List.replicate m (Value.int .i64 0)=icells (countT m []) by
  unfold icells countT
  rw[List.map_map]
  apply List.ext_getElem
  ·simp
  ·intro i h1 h2;simp] at hmk
 clear h hg hbx
 go_enter Tryz.func123,Tryz.ntmps123
 go_wp2_with fail
 generalize w.alloc (.cells #[.slice A1 n c1,.slice A2 m c2,.slice A3 q c3] 25)=w1 at *
 have hz1:w.heap.size<w1.heap.size:=by rw[HZ.out];omega
 obtain⟨gt,hgt⟩:∃ gt,gt=w.heap.size+1:=⟨_,rfl⟩
 have hgt1:w1.heap.size=gt:=by rw[HZ.out,hgt]
 have HK2:=Lib.hid (show (w1.alloc (.cells (icells (countT m [])).toArray 3)).heap[gt]? = some (.cells (icells (countT m [])).toArray 3 (0,0)) by rw[←hgt1];exact Go.heap_alloc_new w1 _)
 have HZ2:=Lib.hid (World.size_alloc w1 (.cells (icells (countT m [])).toArray 3))
 have HB2:=Lib.hid (HBX.out.trans (((Below.refl w1.heap.size w1).alloc (Nat.le_refl _) (.cells (icells (countT m [])).toArray 3)).mono (by rw[HZ.out];omega)))
 clear hc1 hmk
 generalize w1.alloc (.cells (icells (countT m [])).toArray 3)=w2 at *
 rw[←hgt]
 have HGT:=Lib.hid hgt
 clear hgt
 go_loopw [15] (fun v15 wr=>∃ i:Nat,i≤q∧v15=.int .i64 i∧Hid (wr.heap[gt]? = some (.cells (icells (countT m (flatS (g.2.2.take i)))).toArray 3 (0,0)))∧Hid (w2.grownBy wr (some gt))) (fun v15 _=>q - (intOf v15).toNat)
 case atStart=>exact⟨0,by omega,rfl,HK2.out,World.grownBy.refl _ _⟩
 case round =>
  clear HK2
  obtain⟨i,hi,rfl,HK2,HGR⟩:=hrel
  have HBN:=Lib.hid (show Below w.heap.size w wr from HB2.out.trans (below_of_grown HGR.out (by have:=HGT.out;omega) (by rw[HZ2.out];omega)))
  by_cases hlt:i<q
  ·have hil:i<g.2.2.length:=by rw[←HL.out.2.2];exact hlt
   obtain⟨b,off,cs,rfl,_,hbl,hrep,hcell⟩:=(HRS.out.below HBN.out).get (k:=i) hil (by decide)
   obtain⟨v,rfl,hsl,hz1',hz2'⟩:=eRule_open hrep
   obtain⟨A5,c5,rfl,hl5,hl6⟩:=hsl.form
   have hc0:=hcell 0 _ rfl
   have hc1:=hcell 1 _ rfl
   simp only[show eRule.size=2 from rfl,Nat.add_zero,←Nat.add_assoc] at hc0 hc1
   have HFT:=Lib.hid (flatS_take g.2.2 hil)
   have HFL:=Lib.hid (flatS_len g.2.2 (fun r hr=>(HG.out.fit r hr).2.2.1))
   have HFLI:=Lib.hid (show (flatS (g.2.2.take (i+1))).length≤262144 by
    have:=flatS_len (g.2.2.take (i+1)) (fun r hr=>(HG.out.fit r (List.mem_of_mem_take hr)).2.2.1)
    rw[List.length_take] at this
    have:=HG.out.q
    omega)
   have HFIT:=Lib.hid (HG.out.fit _ (List.getElem_mem hil)).2.2.2
   have h64:=(HG.out.fit _ (List.getElem_mem hil)).2.2.1
   obtain⟨r,hr⟩:∃ r,r=g.2.2[i]:=⟨_,rfl⟩
   rw[←hr] at hc0 hc1 HFT hsl hz1' hz2' hl5
   rw[←hr] at HFIT h64
   obtain⟨ql,hql⟩:∃ ql,ql=r.2.length:=⟨_,rfl⟩
   rw[←hql] at hc1 hsl hl5 h64
   have HQL:=Lib.hid hql
   have HSL:=Lib.hid hsl
   clear hcell hrep hr hql hsl hil
   go_wp2_with fail
   have HB5:=Lib.hid (World.grownBy_alloc wr (.cells #[.int .i64 r.1,.slice A5 ql c5] 55) (some gt))
   have HK5:=Lib.hid (((Below.refl wr.heap.size wr).alloc (Nat.le_refl _) (.cells #[.int .i64 r.1,.slice A5 ql c5] 55)).block gt (Array.getElem?_eq_some_iff.1 HK2.out).1)
   have HGR5:=Lib.hid (HGR.out.trans HB5.out)
   have HK6:=Lib.hid (HK5.out.trans HK2.out)
   generalize wr.alloc (.cells #[.int .i64 r.1,.slice A5 ql c5] 55)=w5 at *
   go_loopw [22] (fun v22 wt=>∃ j:Nat,j≤ql∧v22=.int .i64 j∧Hid (wt.heap[gt]? = some (.cells (icells (countT m (flatS (g.2.2.take i)++r.2.take j))).toArray 3 (0,0)))∧Hid (w2.grownBy wt (some gt))) (fun v22 _=>ql - (intOf v22).toNat)
   case atStart=>exact⟨0,by omega,rfl,by rw[List.take_zero,List.append_nil];exact HK6.out,HGR5.out⟩
   case round =>
    clear HK5 HK6 HGR5 HB5 HK2 HGR hc0 hc1
    obtain⟨j,hj,rfl,HK2,HGR⟩:=hrel
    have HBT:=Lib.hid (show Below w.heap.size w wr from HB2.out.trans (below_of_grown HGR.out (by have:=HGT.out;omega) (by rw[HZ2.out];omega)))
    by_cases hjl:j<ql
    ·have hjl':j<r.2.length:=by rw[←HQL.out];exact hjl
     have hsl2:SlR eInt wr w.heap.size (.slice A5 ql c5) r.2:=by
      have:=HSL.out
      exact this.keep fun p hp=>(HBT.out.cell hp).trans (HBN.out.cell hp).symm
     obtain⟨b2,o2,cs,rfl,_,hbl2,hrep,hcell⟩:=hsl2.get (k:=j) hjl' (by decide)
     obtain⟨rfl,hx1,hx2⟩:=hrep
     have hc0:=hcell 0 _ rfl
     simp only[show eInt.size=1 from rfl,Nat.mul_one,Nat.add_zero] at hc0
     have HT:=Lib.hid (List.take_succ_eq_append_getElem hjl')
     have hft:=HFIT.out _ (List.getElem_mem hjl')
     have HLE:=Lib.hid (show (flatS (g.2.2.take i)++r.2.take j).length≤262144 by
      have h1:=HFLI.out
      rw[HFT.out,List.length_append] at h1
      rw[List.length_append,List.length_take]
      omega)
     obtain⟨s,hs⟩:∃ s,s=r.2[j]:=⟨_,rfl⟩
     rw[←hs] at hc0 hx1 hx2 HT hft
     obtain⟨pre,hpre⟩:∃ pre,pre=flatS (g.2.2.take i)++r.2.take j:=⟨_,rfl⟩
     rw[←hpre] at HK2 HLE
     have HPRE:=Lib.hid (show flatS (g.2.2.take i)++r.2.take (j+1)=pre++[s] by rw[HT.out,hpre,List.append_assoc])
     clear hs hcell hpre hjl' hsl2
     by_cases hs0:s<0
     ·have hd:decide (s<0)=true:=by simpa using hs0
      obtain⟨k,hk⟩:∃ k:Nat,s=-1 - (k:Int):=⟨(-1 - s).toNat,by omega⟩
      subst hk
      have hkm:k<m:=by have:=HL.out.2.1;omega
      have hkl:k<(countT m pre).length:=by rw[countT_len];exact hkm
      have hcv:=int_row_get HK2.out hkl
      have hcg:=countT_get (l:=pre) hkm
      rw[List.getElem?_eq_getElem hkl] at hcg
      injection hcg with hcg
      rw[hcg] at hcv
      have HST:=Lib.hid (countT_term (l:=pre) hkm)
      have HCB:=List.count_le_length (a:=-1 - (k:Int)) (l:=pre)
      have HL2:=HLE.out
      obtain⟨x,hx⟩:∃ x,x=pre.count (-1 - (k:Int)):=⟨_,rfl⟩
      rw[←hx] at hcv HST HCB
      have hxb:(x:Int)≤262144:=by omega
      have fK:wr.frozen? ⟨gt,k,none⟩=false:=by simp[World.frozen?,HK2.out]
      have he:-1 - (-1 - (k:Int))=k:=by omega
      have HSET:=Lib.hid (int_row_set HK2.out (k:=k) ((x:Int)+1))
      clear hcg hx hkl HL2 HCB
      go_wp2_with fail
      refine (isTermSym_any _ _).mono ?_
      rintro e w5 ⟨rfl,rfl⟩
      rw[hd]
      go_wp2_with fail
      go_roundw
      case rel=>exact⟨j+1,by omega,by go_num,by rw[HPRE.out,←HST.out];exact HSET.out,HGR.out.trans (grown_set _ gt k _)⟩
      case measure=>simp[intOf];omega
     ·have hd:decide (s<0)=false:=by simpa using hs0
      have HCN:=Lib.hid (countT_nont (m:=m) (l:=pre) (s:=s) (by omega))
      go_wp2_with fail
      refine (isTermSym_any _ _).mono ?_
      rintro e w5 ⟨rfl,rfl⟩
      rw[hd]
      go_wp2_with fail
      go_roundw
      case rel=>exact⟨j+1,by omega,by go_num,by rw[HPRE.out,HCN.out];exact HK2.out,HGR.out⟩
      case measure=>simp[intOf];omega
    ·have HEND:=Lib.hid (show flatS (g.2.2.take i)++r.2.take j=flatS (g.2.2.take (i+1)) by
      rw[HFT.out,List.take_of_length_le (l:=r.2) (by rw[←HQL.out];omega)])
     rw[HEND.out] at HK2
     go_wp2_with fail
     go_roundw
     case rel=>exact⟨i+1,by omega,by go_num,HK2.out,HGR.out⟩
     case measure=>simp[intOf];omega
  ·have HALL:=Lib.hid (show g.2.2.take i=g.2.2 from List.take_of_length_le (by rw[←HL.out.2.2];omega))
   rw[HALL.out] at HK2
   have HCON:=Lib.hid (show Calls Tryz.prog 149 #[.slice (some ⟨gt,0,none⟩) m m,.int .i64 0] wr fun e w'=>e=.returned (.bool (!(List.range m).all (usedT g.2.2)))∧w'=wr by
    rcases Nat.eq_zero_or_pos m with h0 | h0
    ·subst h0
     refine (Tryz.slices_Contains_int_empty (some ⟨gt,0,none⟩) 0 0 wr).mono ?_
     rintro e w' ⟨rfl,rfl⟩
     exact⟨by simp,rfl⟩
    ·have:=Tryz.slices_Contains_int gt 0 m m (countT m (flatS g.2.2)) 0 wr (by rw[countT_len];exact Nat.le_refl _) (by have:=HM2.out;omega) (fun j hj=>by
      rw[Nat.zero_add,int_row_get HK2.out hj,List.getD_eq_getElem?_getD,List.getElem?_eq_getElem hj]
      rfl)
     rw[List.take_of_length_le (by rw[countT_len];exact Nat.le_refl _),contains_count] at this
     exact this)
   go_wp2_with fail
   refine HCON.out.mono ?_
   rintro e w5 ⟨rfl,rfl⟩
   go_wp2_with fail
   go_ret
   exact⟨rt1 (vbool (by simp)),HBN.out⟩
def checkN (g:Gram):Int:=if gramB g then wellE g.1.length g.2.1.length g.2.2 else 1
set_option maxRecDepth 100000 in
set_option maxHeartbeats 8000000 in
theorem check_any {A1 A2 A3:Option Addr} {n m q c1 c2 c3:Nat} {g:Gram} (w:World) (h:GramR w w.heap.size A1 A2 A3 n m q c1 c2 c3 g) :
  Calls Tryz.prog 90 #[gramV A1 A2 A3 n m q c1 c2 c3] w fun e w'=>e=.returned (.int .i64 (checkN g))∧Below w.heap.size w w':=by
 have hbx:=(Below.refl w.heap.size w).alloc (Nat.le_refl _) (.cells #[.slice A1 n c1,.slice A2 m c2,.slice A3 q c3] 25)
 have HV:=Lib.hid ((h.fut (B':=w.heap.size+1) hbx (Nat.le_refl _) (by omega)))
 have HK:=Lib.hid (Go.heap_alloc_new w (.cells #[.slice A1 n c1,.slice A2 m c2,.slice A3 q c3] 25))
 have HZ:=Lib.hid (World.size_alloc w (.cells #[.slice A1 n c1,.slice A2 m c2,.slice A3 q c3] 25))
 have HBX:=Lib.hid hbx
 have HL:=Lib.hid h.ln
 clear h hbx
 have HSTEP:Hid (∀ (w1 w2:World),Below (w.heap.size+1) w1 w2→GramR w1 (w.heap.size+1) A1 A2 A3 n m q c1 c2 c3 g→w.heap.size+1≤w2.heap.size→GramR w2 w2.heap.size A1 A2 A3 n m q c1 c2 c3 g):=fun w1 w2 hb hg hs=>hg.fut hb (Nat.le_refl _) hs
 have HCELL:Hid (∀ (w2:World),w2.heap[w.heap.size]? = some (.cells #[.slice A1 n c1,.slice A2 m c2,.slice A3 q c3] 25 (0,0))→w2.cell? ⟨w.heap.size,0,none⟩=some (.slice A1 n c1)∧w2.cell? ⟨w.heap.size,1,none⟩=some (.slice A2 m c2)∧w2.cell? ⟨w.heap.size,2,none⟩=some (.slice A3 q c3)):=fun w2 hk=>⟨by rw[cell_of_row _ _ _ _ _ _ hk];rfl,by rw[cell_of_row _ _ _ _ _ _ hk];rfl,by rw[cell_of_row _ _ _ _ _ _ hk];rfl⟩
 go_enter Tryz.func90,Tryz.ntmps90
 go_wp2_with fail
 generalize w.alloc (.cells #[.slice A1 n c1,.slice A2 m c2,.slice A3 q c3] 25)=w1 at *
 refine (GramR.valid (w:=w1) (by rw[HZ.out];exact HV.out)).mono ?_
 rintro e w2 ⟨rfl,hb2⟩
 have HB2:=Lib.hid (show Below (w.heap.size+1) w1 w2 from hb2.mono (Nat.le_of_eq HZ.out.symm))
 have HS2:=Lib.hid (show w.heap.size+1≤w2.heap.size by have:=hb2.size;have:=HZ.out;omega)
 have HK2:=Lib.hid ((HB2.out.block w.heap.size (by omega)).trans HK.out)
 clear hb2
 cases hv:gramB g with
 |false =>
  have HC:=Lib.hid (show checkN g=1 by unfold checkN;rw[hv];rfl)
  clear hv
  go_wp2_with fail
  go_ret
  exact⟨rt1 (vint HC.out.symm),HBX.out.trans (HB2.out.mono (by omega))⟩
 |true =>
  have HVV:=Lib.hid hv
  have HC:=Lib.hid (show checkN g=wellE n m g.2.2 by unfold checkN;rw[hv,HL.out.1,HL.out.2.1];rfl)
  obtain⟨a0,a1,a2⟩:=HCELL.out w2 HK2.out
  clear hv
  go_wp2_with fail
  refine (productive_any w2 (HSTEP.out w1 w2 HB2.out HV.out HS2.out) HVV.out).mono ?_
  rintro e w3 ⟨AP,cP,rfl,hrp,hb3⟩
  have HB3:=Lib.hid (HB2.out.trans (hb3.mono HS2.out))
  have HS3:=Lib.hid (Nat.le_trans HS2.out hb3.size)
  have HK3:=Lib.hid ((HB3.out.block w.heap.size (by omega)).trans HK.out)
  have HPL:=Lib.hid (show (productive g.2.2 n).length=n by unfold productive;rw[roundsOf_len prodStep_len,List.length_replicate])
  have HN2:=Lib.hid (show n≤256 by have:=(gramB_good HVV.out).nm;have:=HL.out.1;omega)
  have HCO:=Lib.hid (containsB_any AP cP (productive g.2.2 n) w3 hrp (by rw[HPL.out];have:=HN2.out;omega))
  rw[HPL.out] at HCO ⊢
  clear a0 a1 a2 hrp hb3
  go_wp2_with fail
  refine HCO.out.mono ?_
  rintro e w4 ⟨rfl,rfl⟩
  cases hp:(productive g.2.2 n).all id with
  |false =>
   have HE:=Lib.hid (show checkN g=18 by rw[HC.out];unfold wellE;rw[hp];rfl)
   clear hp HCO
   go_wp2_with fail
   go_ret
   exact⟨rt1 (vint HE.out.symm),HBX.out.trans (HB3.out.mono (by omega))⟩
  |true =>
   have HE:=Lib.hid (show checkN g=if (reached g.2.2 n).all id&&(List.range m).all (usedT g.2.2) then 0 else 17 by rw[HC.out];unfold wellE;rw[hp];rfl)
   obtain⟨a0,a1,a2⟩:=HCELL.out w4 HK3.out
   clear hp HCO
   go_wp2_with fail
   refine (reached_any w4 (HSTEP.out w1 w4 HB3.out HV.out HS3.out) HVV.out).mono ?_
   rintro e w5 ⟨AR,cR,rfl,hrr,hb5⟩
   have HB5:=Lib.hid (HB3.out.trans (hb5.mono HS3.out))
   have HS5:=Lib.hid (Nat.le_trans HS3.out hb5.size)
   have HK5:=Lib.hid ((HB5.out.block w.heap.size (by omega)).trans HK.out)
   have HRL:=Lib.hid (show (reached g.2.2 n).length=n by
    unfold reached
    rw[roundsOf_len (f:=reachStep) (fun P r=>by
     unfold reachStep
     have:∀ (l:List Int) (R:List Bool),(l.foldl (fun R s=>reachSym R r.1 s) R).length=R.length:=by
      intro l
      induction l with
      |nil=>intro R;rfl
      |cons s l ih=>intro R;rw[List.foldl_cons,ih,reachSym_len]
     exact this _ _),List.length_set,List.length_replicate])
   have HCO:=Lib.hid (containsB_any AR cR (reached g.2.2 n) w5 hrr (by rw[HRL.out];have:=HN2.out;omega))
   rw[HRL.out] at HCO ⊢
   clear a0 a1 a2 hrr hb5
   go_wp2_with fail
   refine HCO.out.mono ?_
   rintro e w6 ⟨rfl,rfl⟩
   cases hr:(reached g.2.2 n).all id with
   |false =>
    have HE2:=Lib.hid (show checkN g=17 by rw[HE.out,hr];rfl)
    clear hr HCO HE
    go_wp2_with fail
    go_ret
    exact⟨rt1 (vint HE2.out.symm),HBX.out.trans (HB5.out.mono (by omega))⟩
   |true =>
    have HE2:=Lib.hid (show checkN g=if (List.range m).all (usedT g.2.2) then 0 else 17 by rw[HE.out,hr];rfl)
    obtain⟨a0,a1,a2⟩:=HCELL.out w6 HK5.out
    clear hr HCO HE
    go_wp2_with fail
    refine (terms_any w6 (HSTEP.out w1 w6 HB5.out HV.out HS5.out) (gramB_good HVV.out)).mono ?_
    rintro e w7 ⟨rfl,hb7⟩
    have HB7:=Lib.hid (HB5.out.trans (hb7.mono HS5.out))
    cases hu:(List.range m).all (usedT g.2.2) with
    |false =>
     have HE3:=Lib.hid (show checkN g=17 by rw[HE2.out,hu];rfl)
     clear hu HE2 hb7
     go_wp2_with fail
     go_ret
     exact⟨rt1 (vint HE3.out.symm),HBX.out.trans (HB7.out.mono (by omega))⟩
    |true =>
     have HE3:=Lib.hid (show checkN g=0 by rw[HE2.out,hu];rfl)
     clear hu HE2 hb7
     go_wp2_with fail
     go_ret
     exact⟨rt1 (vint HE3.out.symm),HBX.out.trans (HB7.out.mono (by omega))⟩
end Go.Proofs.YtfpihflepeiagaaGreatDoor
