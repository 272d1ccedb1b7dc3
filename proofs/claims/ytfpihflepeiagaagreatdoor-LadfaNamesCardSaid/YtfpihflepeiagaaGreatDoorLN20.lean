/- Texts of this proof joined: Follow2, FollowW. -/
import Derived.Test.YtfpihflepeiagaaGreatDoorLN18
import Derived.Test.YtfpihflepeiagaaGreatDoorLN17
namespace Go.Proofs.YtfpihflepeiagaaGreatDoor
open Go.RowKit Go.Sort

def SetsM (M:Nat) (s:Sets):Prop:=∀ (i:Nat) (x:List Wd),s[i]? = some x→ShortW x∧x.length≤M
theorem SetsM.mono {M M':Nat} {s:Sets} (h:SetsM M s) (hM:M≤M'):SetsM M' s:=fun i x hx=>⟨(h i x hx).1,Nat.le_trans (h i x hx).2 hM⟩
theorem SetsM.set {M:Nat} {s:Sets} (h:SetsM M s) (a:Nat) {u:List Wd} (hu:ShortW u∧u.length≤M):SetsM M (s.set a u):=by
 intro b y hy
 rw[List.getElem?_set] at hy
 split at hy
 ·split at hy
  ·injection hy with hy;subst hy;exact hu
  ·cases hy
 ·exact h b y hy
structure FolA where
 g:Nat
 SB:Nat
 FB:Nat
 KB:Nat
 LB:Nat
 GB:Nat
 lo:Nat
 e0:Nat
 C:Nat
 N0:Nat
 A1:Option Addr
 n1:Nat
 c1:Nat
 n:Nat
structure FolSt (a:FolA) (k:Nat) (sets:Sets) (w:World) (p:FolS) (M:Nat):Prop where
 row:RowHi 22 a.g a.lo a.e0 w p.fol
 len:p.fol.length=a.n
 small:SetsM M p.fol
 asc:AllAsc p.fol
 bS:w.heap[a.SB]? = some (.cells #[.slice a.A1 a.n1 a.c1] 81 (0,0))
 bF:w.heap[a.FB]? = some (.cells #[.slice (some ⟨a.g,0,none⟩) a.n a.n] 81 (0,0))
 bK:w.heap[a.KB]? = some (.cells #[.int .i64 k] 3 (0,0))
 bL:w.heap[a.LB]? = some (.cells #[.bool p.limit] 4 (0,0))
 bG:w.heap[a.GB]? = some (.cells #[.bool p.grown] 4 (0,0))
 sets:SlR (eSl eW) w a.N0 (.slice a.A1 a.n1 a.c1) sets
 le:(a.C≤a.g∧a.C≤a.FB∧a.C≤a.LB∧a.C≤a.GB∧a.SB<a.C∧a.KB<a.C∧a.N0≤a.C)∧(a.g<a.lo∧a.FB<a.lo∧a.LB<a.lo∧a.GB<a.lo∧a.lo≤w.heap.size)∧(a.g≠a.e0∧a.FB≠a.e0∧a.LB≠a.e0∧a.GB≠a.e0)∧(a.g≠a.FB∧a.g≠a.LB∧a.g≠a.GB∧a.FB≠a.LB∧a.FB≠a.GB∧a.LB≠a.GB)
theorem FolSt.below {a:FolA} {k:Nat} {sets:Sets} {w w':World} {p:FolS} {M:Nat} (h:FolSt a k sets w p M) (hb:Below w.heap.size w w'):FolSt a k sets w' p M:=by
 obtain⟨⟨l1,l2,l3,l4,l5,l6,l7⟩,⟨m1,m2,m3,m4,m5⟩,l8,l9⟩:=h.le
 exact⟨h.row.below hb,h.len,h.small,h.asc,(hb.block _ (by omega)).trans h.bS,(hb.block _ (by omega)).trans h.bF,(hb.block _ (by omega)).trans h.bK,(hb.block _ (by omega)).trans h.bL,(hb.block _ (by omega)).trans h.bG,h.sets.below (hb.mono (by omega)),⟨l1,l2,l3,l4,l5,l6,l7⟩,⟨m1,m2,m3,m4,Nat.le_trans m5 hb.size⟩,l8,l9⟩
theorem FolSt.setL {a:FolA} {k:Nat} {sets:Sets} {w:World} {p:FolS} {M:Nat} (h:FolSt a k sets w p M) (b:Bool):FolSt a k sets (w.setCell ⟨a.LB,0,none⟩ (.bool b)) ⟨p.fol,p.grown,b⟩ M:=by
 obtain⟨⟨l1,l2,l3,l4,l5,l6,l7⟩,⟨m1,m2,m3,m4,m5⟩,⟨o1,o2,o3,o4⟩,⟨d1,d2,d3,d4,d5,d6⟩⟩:=h.le
 have hk:∀ j,j≠a.LB→(w.setCell ⟨a.LB,0,none⟩ (.bool b)).heap[j]? = w.heap[j]? := fun j hj=>Below.heap_setCell _ _ _ _ hj
 have hbe:Below a.N0 w (w.setCell ⟨a.LB,0,none⟩ (.bool b)):=Below.setCell (p:=⟨a.LB,0,none⟩) (Below.refl _ _) (by show a.N0≤a.LB;omega) _
 exact⟨h.row.other _ d2 m3 o3,h.len,h.small,h.asc,(hk _ (by omega)).trans h.bS,(hk _ d4).trans h.bF,(hk _ (by omega)).trans h.bK,box_set h.bL,(hk _ (fun e=>d6 e.symm)).trans h.bG,h.sets.below hbe,⟨l1,l2,l3,l4,l5,l6,l7⟩,⟨m1,m2,m3,m4,by simpa[World.setCell] using m5⟩,⟨o1,o2,o3,o4⟩,⟨d1,d2,d3,d4,d5,d6⟩⟩
theorem FolSt.setG {a:FolA} {k:Nat} {sets:Sets} {w:World} {p:FolS} {M:Nat} (h:FolSt a k sets w p M) (b:Bool):FolSt a k sets (w.setCell ⟨a.GB,0,none⟩ (.bool b)) ⟨p.fol,b,p.limit⟩ M:=by
 obtain⟨⟨l1,l2,l3,l4,l5,l6,l7⟩,⟨m1,m2,m3,m4,m5⟩,⟨o1,o2,o3,o4⟩,⟨d1,d2,d3,d4,d5,d6⟩⟩:=h.le
 have hk:∀ j,j≠a.GB→(w.setCell ⟨a.GB,0,none⟩ (.bool b)).heap[j]? = w.heap[j]? := fun j hj=>Below.heap_setCell _ _ _ _ hj
 have hbe:Below a.N0 w (w.setCell ⟨a.GB,0,none⟩ (.bool b)):=Below.setCell (p:=⟨a.GB,0,none⟩) (Below.refl _ _) (by show a.N0≤a.GB;omega) _
 exact⟨h.row.other _ d3 m4 o4,h.len,h.small,h.asc,(hk _ (by omega)).trans h.bS,(hk _ d5).trans h.bF,(hk _ (by omega)).trans h.bK,(hk _ d6).trans h.bL,box_set h.bG,h.sets.below hbe,⟨l1,l2,l3,l4,l5,l6,l7⟩,⟨m1,m2,m3,m4,by simpa[World.setCell] using m5⟩,⟨o1,o2,o3,o4⟩,⟨d1,d2,d3,d4,d5,d6⟩⟩
theorem FolSt.setRow {a:FolA} {k:Nat} {sets:Sets} {w:World} {p:FolS} {M M':Nat} (h:FolSt a k sets w p M) {s:Nat} {v:Value} {u:List Wd} (hv:Hi a.lo a.e0 w v u) (hu:ShortW u∧u.length≤M') (ha:Asc u) (hM:M≤M'):FolSt a k sets (w.setCell ⟨a.g,s,none⟩ v) ⟨p.fol.set s u,p.grown,p.limit⟩ M':=by
 obtain⟨⟨l1,l2,l3,l4,l5,l6,l7⟩,⟨m1,m2,m3,m4,m5⟩,⟨o1,o2,o3,o4⟩,⟨d1,d2,d3,d4,d5,d6⟩⟩:=h.le
 have hk:∀ j,j≠a.g→(w.setCell ⟨a.g,s,none⟩ v).heap[j]? = w.heap[j]? := fun j hj=>Below.heap_setCell _ _ _ _ hj
 have hbe:Below a.N0 w (w.setCell ⟨a.g,s,none⟩ v):=Below.setCell (p:=⟨a.g,s,none⟩) (Below.refl _ _) (by show a.N0≤a.g;omega) _
 exact⟨h.row.set m1 o1 hv,by rw[List.length_set];exact h.len,(h.small.mono hM).set s hu,h.asc.set s ha,(hk _ (by omega)).trans h.bS,(hk _ (fun e=>d1 e.symm)).trans h.bF,(hk _ (by omega)).trans h.bK,(hk _ (fun e=>d2 e.symm)).trans h.bL,(hk _ (fun e=>d3 e.symm)).trans h.bG,h.sets.below hbe,⟨l1,l2,l3,l4,l5,l6,l7⟩,⟨m1,m2,m3,m4,by simpa[World.setCell] using m5⟩,⟨o1,o2,o3,o4⟩,⟨d1,d2,d3,d4,d5,d6⟩⟩
structure Only3 (a:FolA) (w w':World):Prop where
 os:w'.os=w.os
 tape:w'.tape=w.tape
 output:w'.output=w.output
 size:w.heap.size≤w'.heap.size
 block:∀ b,b<w.heap.size→b≠a.g→b≠a.LB→b≠a.GB→w'.heap[b]? = w.heap[b]?
theorem Only3.of_below {a:FolA} {w w':World} (h:Below w.heap.size w w'):Only3 a w w':=⟨h.os,h.tape,h.output,h.size,fun b hb _ _ _=>h.block b hb⟩
theorem Only3.set {a:FolA} {w w':World} (h:Only3 a w w') {p:Addr} (v:Value) (hp:p.block=a.g∨p.block=a.LB∨p.block=a.GB):Only3 a w (w'.setCell p v) :=
 ⟨h.os,h.tape,h.output,by simpa[World.setCell] using h.size,fun b hb h1 h2 h3=>(Below.heap_setCell _ _ _ _ (by rcases hp with e | e | e <;> rw[e] <;> assumption)).trans (h.block b hb h1 h2 h3)⟩
theorem Only3.trans {a:FolA} {w w1 w2:World} (h:Only3 a w w1) (h2:Only3 a w1 w2):Only3 a w w2:=⟨h2.os.trans h.os,h2.tape.trans h.tape,h2.output.trans h.output,Nat.le_trans h.size h2.size,fun b hb x y z=>(h2.block b (Nat.lt_of_lt_of_le hb h.size) x y z).trans (h.block b hb x y z)⟩
theorem Only3.below {a:FolA} {w w':World} {C:Nat} (h:Only3 a w w') (hc:C≤w.heap.size) (h1:C≤a.g) (h2:C≤a.LB) (h3:C≤a.GB):Below C w w':=⟨h.os,h.tape,h.output,h.size,fun b hb=>h.block b (by omega) (by omega) (by omega) (by omega)⟩
set_option maxRecDepth 100000 in
set_option maxHeartbeats 16000000 in
theorem spread_any (a:FolA) (k M N la at_:Nat) (sets:Sets) (w:World) (p:FolS) (r:List Int) (A:Option Addr) (q c:Nat) (h:FolSt a k sets w p M) (hB:SetsB sets) (hk1:1≤k) (hk2:k≤4) (hla:la<a.n) (hn:a.n≤256) (hq:q=r.length) (hq2:q≤64) (hat:at_<q) (hfit:∀ s∈r,s<(a.n:Int)) (hr:SlR eInt w N (.slice A q c) r) (hN:N≤w.heap.size) (hM:M≤549755813888) :
  Calls Tryz.prog 87 #[ruleV la A q c,.int .i64 at_,.pointer (some ⟨a.SB,0,none⟩),.pointer (some ⟨a.FB,0,none⟩),.pointer (some ⟨a.KB,0,none⟩),.pointer (some ⟨a.LB,0,none⟩),.pointer (some ⟨a.GB,0,none⟩)] w fun e w'=>e=.returned (.tuple #[])∧FolSt a k sets w' (spreadW sets k ((la:Int),r) at_ p) (M+4096)∧Only3 a w w':=by
 have hbx:=(Below.refl w.heap.size w).alloc (Nat.le_refl _) (.cells #[.int .i64 la,.slice A q c] 55)
 have hst1:=h.below hbx
 have HZ:=Lib.hid (World.size_alloc w (.cells #[.int .i64 la,.slice A q c] 55))
 have HK:=Lib.hid (Go.heap_alloc_new w (.cells #[.int .i64 la,.slice A q c] 55))
 have HH:=Lib.hid h
 have HBX:=Lib.hid hbx
 have hcw:a.C≤w.heap.size:=by have:=h.le;omega
 have hbeh:=behind_any a.A1 (some ⟨a.g,0,none⟩) A a.c1 a.n c q a.n1 a.n k la (at_+1) sets p.fol r (w.alloc (.cells #[.int .i64 la,.slice A q c] 55)) hk1 hk2 (hst1.sets.more (by rw[HZ.out];have:=h.le;omega)) (by have:=hst1.row.sl (by rw[h.len];unfold maxLen;omega);rw[h.len] at this;exact this) (hr.fut hbx hN (by rw[HZ.out];omega)) hq2 (by omega) hla (fun i x hx=>by have:=hB i x hx;exact⟨this.1,by omega⟩) (fun i x hx=>by have:=h.small i x hx;exact⟨this.1,by omega⟩)
 rw[show (((at_+1:Nat):Int) - 1)=(at_:Int) by omega] at hbeh
 have HBEH:=Lib.hid hbeh
 have H1:=Lib.hid hst1
 have HR:=Lib.hid (hr.fut hbx hN (Nat.le_refl _))
 have HRL:=Lib.hid hq
 have HFIT:=Lib.hid hfit
 have cS:=cell0 hst1.bS
 have cF:=cell0 hst1.bF
 have cK:=cell0 hst1.bK
 have b0:(w.alloc (.cells #[.int .i64 la,.slice A q c] 55)).cell? ⟨w.heap.size,0,none⟩=some (.int .i64 la):=by rw[cell_of_row _ _ _ _ _ _ HK.out];rfl
 have b1:(w.alloc (.cells #[.int .i64 la,.slice A q c] 55)).cell? ⟨w.heap.size,1,none⟩=some (.slice A q c):=by rw[cell_of_row _ _ _ _ _ _ HK.out];rfl
 have ls1:a.SB<w.heap.size:=(Array.getElem?_eq_some_iff.1 h.bS).1
 have ls2:a.FB<w.heap.size:=(Array.getElem?_eq_some_iff.1 h.bF).1
 have ls3:a.KB<w.heap.size:=(Array.getElem?_eq_some_iff.1 h.bK).1
 have dS:=cell0 h.bS
 have dF:=cell0 h.bF
 have dK:=cell0 h.bK
 clear h hbx hst1 hbeh hr hq hfit cS cF cK b0 b1
 go_enter Tryz.func87,Tryz.ntmps87
 go_wp2_with fail
 clear dS dF dK ls1 ls2 ls3
 generalize w.alloc (.cells #[.int .i64 la,.slice A q c] 55)=w1 at *
 refine HBEH.out.mono ?_
 rintro e w2 ⟨hb2,he⟩
 have HB2:=Lib.hid (HBX.out.trans (hb2.mono (by rw[HZ.out];omega)))
 have HST2:=Lib.hid (H1.out.below hb2)
 have HK2:=Lib.hid ((hb2.block w.heap.size (by rw[HZ.out];omega)).trans HK.out)
 obtain⟨o,ho⟩:∃ o,o=behindW sets p.fol k ((la:Int),r) at_:=⟨_,rfl⟩
 rw[←ho] at he
 have HO:=Lib.hid ho
 have HR2:=Lib.hid (HR.out.below (hb2.mono (by rw[HZ.out];omega)))
 clear hb2 HBEH ho
 have b0:w2.cell? ⟨w.heap.size,0,none⟩=some (.int .i64 la):=by rw[cell_of_row _ _ _ _ _ _ HK2.out];rfl
 have b1:w2.cell? ⟨w.heap.size,1,none⟩=some (.slice A q c):=by rw[cell_of_row _ _ _ _ _ _ HK2.out];rfl
 cases o with
 |none =>
  simp only at he
  subst he
  have cL:=cell0 HST2.out.bL
  have fL:w2.frozen? ⟨a.LB,0,none⟩=false:=by simp[World.frozen?,HST2.out.bL]
  have HS3:=Lib.hid (HST2.out.setL true)
  have HSP:=Lib.hid (show spreadW sets k ((la:Int),r) at_ p=⟨p.fol,p.grown,true⟩ by unfold spreadW;rw[←HO.out])
  go_wp2_with fail
  refine bodyPost_ret (results_none rfl _ _ _) rfl ?_
  refine⟨rfl,?_,(Only3.of_below HB2.out).set (p:=⟨a.LB,0,none⟩) _ (.inr (.inl rfl))⟩
  rw[HSP.out]
  obtain⟨f1,f2,f3,f4,f5,f6,f7,f8,f9,f10,f11⟩:=HS3.out
  exact⟨f1,f2,f3.mono (by omega),f4,f5,f6,f7,f8,f9,f10,f11⟩
 |some x =>
  simp only at he
  obtain⟨v,rfl,hown⟩:=he
  have hat':at_<r.length:=by rw[←HRL.out];exact hat
  obtain⟨b,off,cs,rfl,_,hbl,hrep,hcell⟩:=HR2.out.get (k:=at_) hat' (by decide)
  obtain⟨rfl,hx1,hx2⟩:=hrep
  have hc0:=hcell 0 _ rfl
  simp only[show eInt.size=1 from rfl,Nat.mul_one,Nat.add_zero] at hc0
  have HGD:=Lib.hid (show r.getD at_ 0=r[at_] by rw[List.getD_eq_getElem?_getD,List.getElem?_eq_getElem hat'];rfl)
  have hsn:=HFIT.out _ (List.getElem_mem hat')
  obtain⟨s,hs⟩:∃ s,s=r[at_]:=⟨_,rfl⟩
  rw[←hs] at hc0 hx1 hx2 HGD hsn
  clear hcell hs hat'
  have HX:=Lib.hid (show ShortW x∧x.length≤4096 by
   have:=HO.out
   unfold behindW at this
   split at this
   ·cases this
   ·cases h1:ofW sets k (((la:Int),r).2.drop ((at_:Int)+1).toNat) with
    |none=>rw[h1] at this;cases this
    |some y=>rw[h1] at this;exact catW_b hk2 this.symm)
  have HOW:=Lib.hid hown
  obtain⟨Ax,cx,rfl,hx5,hx6⟩:=own_form hown
  obtain⟨qx,hqx⟩:∃ qx,qx=x.length:=⟨_,rfl⟩
  rw[←hqx] at HOW hx5 ⊢
  have HQX:=Lib.hid hqx
  clear hown hqx
  by_cases hs0:s<0
  ·have hd:decide (s<0)=true:=by simpa using hs0
   have HSP:=Lib.hid (show spreadW sets k ((la:Int),r) at_ p=p by unfold spreadW;rw[←HO.out];simp only;rw[HGD.out,if_pos hs0])
   go_wp2_with fail
   refine (isTermSym_any s _).mono ?_
   rintro e w5 ⟨rfl,rfl⟩
   rw[hd]
   go_wp2_with fail
   go_end0
   refine⟨rfl,?_,Only3.of_below HB2.out⟩
   rw[HSP.out]
   obtain⟨f1,f2,f3,f4,f5,f6,f7,f8,f9,f10,f11⟩:=HST2.out
   exact⟨f1,f2,f3.mono (by omega),f4,f5,f6,f7,f8,f9,f10,f11⟩
  ·have hd:decide (s<0)=false:=by simpa using hs0
   obtain⟨t,rfl⟩:∃ t:Nat,s=(t:Int):=⟨s.toNat,by omega⟩
   have htn:t<a.n:=by omega
   have htl:t<p.fol.length:=by rw[HH.out.len];exact htn
   obtain⟨Ao,co,hco,ho1,ho2,hhi,hfz⟩:=HST2.out.row.get htl
   have HOLD:=Lib.hid (show p.fol.getD t []=p.fol[t] by rw[List.getD_eq_getElem?_getD,List.getElem?_eq_getElem htl];rfl)
   have HOB:=Lib.hid (HH.out.small t _ (List.getElem?_eq_getElem htl))
   obtain⟨old,hold⟩:∃ old,old=p.fol[t]:=⟨_,rfl⟩
   rw[←hold] at hco ho1 hhi HOLD HOB
   obtain⟨qo,hqo⟩:∃ qo,qo=old.length:=⟨_,rfl⟩
   rw[←hqo] at hco ho1 hhi
   have HHI:=Lib.hid hhi
   have HQO:=Lib.hid hqo
   have HSP:=Lib.hid (show spreadW sets k ((la:Int),r) at_ p=⟨p.fol.set t (unionW old x),p.grown||decide (qo<(unionW old x).length),p.limit||decide (4096<(unionW old x).length)⟩ by
    unfold spreadW
    rw[←HO.out]
    simp only
    rw[HGD.out,if_neg hs0]
    simp only[Int.toNat_natCast,HOLD.out,HQO.out])
   have cF:=cell0 HST2.out.bF
   have lF:=(Array.getElem?_eq_some_iff.1 HST2.out.bF).1
   have lL:=(Array.getElem?_eq_some_iff.1 HST2.out.bL).1
   have lG:=(Array.getElem?_eq_some_iff.1 HST2.out.bG).1
   have lg:=HST2.out.row.lt
   have lb:=(Array.getElem?_eq_some_iff.1 HK2.out).1
   clear hold hqo hhi htl
   go_wp2_with fail
   refine (isTermSym_any _ _).mono ?_
   rintro e w5 ⟨rfl,rfl⟩
   rw[hd]
   go_wp2_with fail
   have hb3:=(Below.refl w2.heap.size w2).alloc (Nat.le_refl _) (.cells #[.slice Ao qo co,.slice Ax qx cx] 22)
   have hst3:=HST2.out.below hb3
   have hk3:=Go.heap_alloc_new w2 (.cells #[.slice Ao qo co,.slice Ax qx cx] 22)
   have hsx:SlR eW w2 w2.heap.size (.slice Ax qx cx) x:=slW_own (fits_short HX.out.1) (by have:=HOW.out;rw[HQX.out] at this ⊢;exact this)
   have HU:=Lib.hid (union_any (some ⟨w2.heap.size,0,none⟩) 2 old x (w2.alloc (.cells #[.slice Ao qo co,.slice Ax qx cx] 22)) (slS_two hk3 (HHI.out.sl.fut hb3 (Nat.le_refl _) hb3.size) (hsx.fut hb3 (Nat.le_refl _) hb3.size)) (by have:=HOB.out.2;have:=HX.out.2;omega))
   have HB3:=Lib.hid hb3
   have HST3:=Lib.hid hst3
   clear hb3 hst3 hk3 hsx cF hco hfz lF lL lG lg lb b0 b1 hc0
   generalize w2.alloc (.cells #[.slice Ao qo co,.slice Ax qx cx] 22)=w3 at *
   refine HU.out.mono ?_
   rintro e w4 ⟨v4,rfl,hown,hb4⟩
   have HST4:=Lib.hid (HST3.out.below hb4)
   have HB24:=Lib.hid (HB3.out.trans (hb4.mono HB3.out.size))
   have HB4:=Lib.hid ((HB2.out.trans (HB24.out.mono HB2.out.size)))
   have HUB:=Lib.hid (show ShortW (unionW old x) from short_union HOB.out.1 HX.out.1)
   have hown':w4.ownsRow w3.heap.size 9 1 v4 (unionW old x).length (wcells (unionW old x)):=hown
   have HHU:=Lib.hid (Hi.own (lo:=a.lo) (e0:=a.e0) (fits_short HUB.out) hown' (.inl (by have:=HST3.out.le;omega)))
   obtain⟨A4,c4,rfl,h41,h42⟩:=own_form hown'
   have HULE:=Lib.hid (show (unionW old x).length≤M+4096 by
    have:=setOf_le (old++x)
    rw[List.length_append] at this
    have h1:=HOB.out.2
    have h2:=HX.out.2
    unfold unionW
    omega)
   have HUA:=Lib.hid (unionW_asc old x)
   obtain⟨u,hu⟩:∃ u,u=unionW old x:=⟨_,rfl⟩
   rw[←hu] at HSP HUB HHU h41 HULE HUA
   rw[←hu]
   clear hown hown' hb4 HU hu
   obtain⟨qu,hqu⟩:∃ qu,qu=u.length:=⟨_,rfl⟩
   rw[←hqu] at HSP HHU h41 HULE ⊢
   have HQU:=Lib.hid hqu
   clear hqu
   have hqu8:(qu:Int)≤549755818000:=by have:=HULE.out;omega
   have htl:t<p.fol.length:=by rw[HH.out.len];exact htn
   obtain⟨Ao',co',hco',ho1',ho2',hhi',hfz'⟩:=HST4.out.row.get htl
   have holdl:p.fol[t].length=qo:=by
    have:=HOLD.out
    rw[List.getD_eq_getElem?_getD,List.getElem?_eq_getElem htl] at this
    rw[HQO.out,←this]
    rfl
   rw[holdl] at hco' ho1'
   have cF:=cell0 HST4.out.bF
   have cG:=cell0 HST4.out.bG
   have cL:=cell0 HST4.out.bL
   have fG:w4.frozen? ⟨a.GB,0,none⟩=false:=by simp[World.frozen?,HST4.out.bG]
   have fL:w4.frozen? ⟨a.LB,0,none⟩=false:=by simp[World.frozen?,HST4.out.bL]
   obtain⟨⟨l1,l2,l3,l4,l5,l6,l7⟩,⟨m1,m2,m3,m4,m5⟩,⟨o1,o2,o3,o4⟩,⟨d1,d2,d3,d4,d5,d6⟩⟩:=HST4.out.le
   have HFIN:Hid (∀ (bg bl:Bool) (w6:World),w6=((w4.setCell ⟨a.GB,0,none⟩ (.bool bg)).setCell ⟨a.LB,0,none⟩ (.bool bl)).setCell ⟨a.g,t,none⟩ (.slice A4 qu c4)→bg=(p.grown||decide (qo<qu))→bl=(p.limit||decide (4096<qu))→FolSt a k sets w6 (spreadW sets k ((la:Int),r) at_ p) (M+4096)∧Only3 a w w6):=by
    rintro bg bl w6 rfl rfl rfl
    rw[HSP.out]
    have s1:=(HST4.out.setG (p.grown||decide (qo<qu))).setL (p.limit||decide (4096<qu))
    have hkeep:Hi a.lo a.e0 ((w4.setCell ⟨a.GB,0,none⟩ (.bool (p.grown||decide (qo<qu)))).setCell ⟨a.LB,0,none⟩ (.bool (p.limit||decide (4096<qu)))) (.slice A4 qu c4) u:=by
     refine HHU.out.keep (by simp[World.setCell]) fun z hz _=>?_
     rw[World.cell?_of_block (Below.heap_setCell _ _ _ _ (by show z.block≠a.LB;rcases hz with hz | hz <;> omega)),World.cell?_of_block (Below.heap_setCell _ _ _ _ (by show z.block≠a.GB;rcases hz with hz | hz <;> omega))]
    refine⟨s1.setRow hkeep ⟨HUB.out,by rw[←HQU.out];exact HULE.out⟩ HUA.out (by omega),?_⟩
    exact (((Only3.of_below HB4.out).set (p:=⟨a.GB,0,none⟩) _ (.inr (.inr rfl))).set (p:=⟨a.LB,0,none⟩) _ (.inr (.inl rfl))).set (p:=⟨a.g,t,none⟩) _ (.inl rfl)
   obtain⟨fol,gb,lb⟩:=p
   simp only at cG cL HFIN
   clear hhi' holdl htl l1 l2 l3 l4 l5 l6 l7 m1 m2 m3 m4 m5 o1 o2 o3 o4
   have hG:(gb=true)∨(gb=false∧qo<qu)∨(gb=false∧¬ qo<qu):=by cases gb <;> simp <;> omega
   have hL:(lb=true)∨(lb=false∧4096<qu)∨(lb=false∧¬ 4096<qu):=by cases lb <;> simp <;> omega
   rcases hG with rfl | ⟨rfl,hg⟩ | ⟨rfl,hg⟩
   ·rcases hL with rfl | ⟨rfl,hl⟩ | ⟨rfl,hl⟩
    ·go_wp2_with fail
     go_end0
     exact⟨rfl,HFIN.out true true _ rfl rfl rfl⟩
    ·have hld:decide ((4096:Int)<(qu:Int))=true:=by rw[decide_eq_true_eq];omega
     go_wp2_with fail
     go_end0
     exact⟨rfl,HFIN.out true true _ rfl rfl (by rw[decide_eq_true hl];rfl)⟩
    ·have hld:decide ((4096:Int)<(qu:Int))=false:=by rw[decide_eq_false_iff_not];omega
     go_wp2_with fail
     go_end0
     exact⟨rfl,HFIN.out true false _ rfl rfl (by rw[decide_eq_false hl];rfl)⟩
   ·rcases hL with rfl | ⟨rfl,hl⟩ | ⟨rfl,hl⟩
    ·go_wp2_with fail
     go_end0
     exact⟨rfl,HFIN.out true true _ rfl (by rw[decide_eq_true hg];rfl) rfl⟩
    ·have hld:decide ((4096:Int)<(qu:Int))=true:=by rw[decide_eq_true_eq];omega
     go_wp2_with fail
     go_end0
     exact⟨rfl,HFIN.out true true _ rfl (by rw[decide_eq_true hg];rfl) (by rw[decide_eq_true hl];rfl)⟩
    ·have hld:decide ((4096:Int)<(qu:Int))=false:=by rw[decide_eq_false_iff_not];omega
     go_wp2_with fail
     go_end0
     exact⟨rfl,HFIN.out true false _ rfl (by rw[decide_eq_true hg];rfl) (by rw[decide_eq_false hl];rfl)⟩
   ·rcases hL with rfl | ⟨rfl,hl⟩ | ⟨rfl,hl⟩
    ·go_wp2_with fail
     go_end0
     exact⟨rfl,HFIN.out false true _ rfl (by rw[decide_eq_false hg];rfl) rfl⟩
    ·have hld:decide ((4096:Int)<(qu:Int))=true:=by rw[decide_eq_true_eq];omega
     go_wp2_with fail
     go_end0
     exact⟨rfl,HFIN.out false true _ rfl (by rw[decide_eq_false hg];rfl) (by rw[decide_eq_true hl];rfl)⟩
    ·have hld:decide ((4096:Int)<(qu:Int))=false:=by rw[decide_eq_false_iff_not];omega
     go_wp2_with fail
     go_end0
     exact⟨rfl,HFIN.out false false _ rfl (by rw[decide_eq_false hg];rfl) (by rw[decide_eq_false hl];rfl)⟩
end Go.Proofs.YtfpihflepeiagaaGreatDoor
namespace Go.Proofs.YtfpihflepeiagaaGreatDoor

structure FolP (t0 n:Nat) (p:FolS):Prop where
 asc:AllAsc p.fol
 len:p.fol.length=n
 small:p.limit=false→SetsB p.fol
 more:t0≤tot p.fol
 grew:p.grown=true→t0<tot p.fol
theorem behindW_b {k:Nat} (hk:k≤4) {sets fol:Sets} {r:Int×List Int} {at_:Int} {x:List Wd} (h:behindW sets fol k r at_=some x):ShortW x∧x.length≤4096:=by
 unfold behindW at h
 split at h
 ·cases h
 ·cases h1:ofW sets k (r.2.drop (at_+1).toNat) with
  |none=>rw[h1] at h;cases h
  |some y=>rw[h1,Option.bind_some] at h;exact catW_b hk h
theorem FolP.step {t0 n k:Nat} (hk:k≤4) {sets:Sets} {r:Int×List Int} {at_:Nat} {p:FolS} (h:FolP t0 n p) (hs:0≤r.2.getD at_ 0→r.2.getD at_ 0<(n:Int)):FolP t0 n (spreadW sets k r at_ p):=by
 unfold spreadW
 cases h1:behindW sets p.fol k r at_ with
 |none=>exact⟨h.asc,h.len,fun e=>(by cases e),h.more,h.grew⟩
 |some x =>
  simp only
  split
  ·exact h
  ·rename_i hpos
   have hx:=behindW_b hk h1
   have hl:(r.2.getD at_ 0).toNat<p.fol.length:=by rw[h.len];have:=hs (by omega);omega
   have ht:=tot_set p.fol (r.2.getD at_ 0).toNat (unionW (p.fol.getD (r.2.getD at_ 0).toNat []) x) hl
   have hu:=(union_len (b:=x) (h.asc.getD (r.2.getD at_ 0).toNat)).1
   change (p.fol.getD (r.2.getD at_ 0).toNat []).length≤(unionW (p.fol.getD (r.2.getD at_ 0).toNat []) x).length at hu
   have hm:=h.more
   refine⟨h.asc.set _ (unionW_asc _ _),by simpa using h.len,fun e=>?_,by simp only;omega,fun e=>?_⟩
   ·simp only[Bool.or_eq_false_iff,decide_eq_false_iff_not] at e
    have hb:=h.small e.1
    exact hb.set _ ⟨short_union (hb.getD _).1 hx.1,by omega⟩
   ·simp only[Bool.or_eq_true,decide_eq_true_eq] at e
    rcases e with e | e
    ·have:=h.grew e;simp only;omega
    ·simp only;omega
theorem spreadsW_succ {sets:Sets} {k:Int} {r:Int×List Int} {m at_:Nat} {p:FolS}:spreadsW sets k r (m+1) at_ p=spreadsW sets k r m (at_+1) (spreadW sets k r at_ p):=rfl
theorem folRound_eq {sets:Sets} {k:Int} {rs:RuleL} {fol:Sets} {p:FolS} (h:spreadAll sets k rs ⟨fol,false,false⟩=p):folRound sets k rs fol=if p.limit then none else some (p.fol,p.grown):=by
 unfold folRound
 rw[h]
end Go.Proofs.YtfpihflepeiagaaGreatDoor
