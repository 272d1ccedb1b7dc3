/- A part. -/
import Derived.Test.YtmaojnmnbpomeaaGreatDoorVN16
set_option maxRecDepth 100000
set_option maxHeartbeats 64000000
namespace Go.Proofs.YtmaojnmnbpomeaaGreatDoor
open Go.RowKit
variable{nm:ByteArray}{j:Int}{toks:List Kz}{g i nx:Nat}{fr:Nat×Nat}{t:TypeId}{a b:Value}{w w':World}
theorem cJ(h:w.heap[g]?=some (.cells #[a,b] t fr)):w.cell? ⟨g,0,none⟩=some a/\w.cell? ⟨g,1,none⟩=some b:=by
 refine⟨?_,?_⟩ <;> (rw[Zd _ _ _ _ _ _ h];rfl)
theorem Sx{fn:Func}{p u x:Tmp}{r y:Value}{Q:Ending->World->Prop}(h:fn.results=#[.cell p 100,.tmp u,.tmp x]){a:Act}{c0 c1:Value}(hd:a.defers=[])
  (hp:a.tmps.getD p undef=.pointer (some ⟨g,0,none⟩)) (hu:a.tmps.getD u undef=r) (hx:a.tmps.getD x undef=y) (hg:w.heap[g]?=some (.cells #[c0,c1] t fr)) (hq:Q (.returned (.tuple #[.agg #[c0,c1],r,y])) w):bodyPost Tryz.prog fn Q .ret a w:=by
 refine Zh (v:=.tuple #[.agg #[c0,c1],r,y]) ?_ hd hq;rw[Nl h,hp,hu,hx];simp[asAddr,Result.andThen,run_loadVar_row w g t 100 #[c0,c1] fr _ hg Tryz.underlying100 rfl (by kernel_rfl)]
theorem Fp{cur:Array Value}(hg:w.heap[g]?=some (.cells cur t (0,0)))(hc:cur.size=2)(h1:a.oneCell'=true)(h2:b.oneCell'=true) :
  (Instr.storeAt 100 (.pointer (some ⟨g,0,none⟩)) (.agg #[a,b])).run Tryz.prog w=.ok () (w.setRow g [a,b].toArray):=by
 rw[Bu (vs:=[a,b]) rfl (by kernel_rfl) hg (by simp;omega) (by intro u hu;simp only[List.mem_cons,List.not_mem_nil,or_false]at hu;rcases hu with rfl|rfl <;> assumption)];congr 2;simp[List.drop_eq_nil_of_le (show cur.toList.length<=2 by simp;omega)]
theorem wA:Dg Tryz.prog 105 107 2 24 (.agg #[.bool false,.string ⟨#[]⟩]):=Gh (by kernel_rfl) (by kernel_rfl) rfl (by omega)
theorem ic:Dg Tryz.prog 98 105 1 24 (.slice none 0 0):=Gh (by kernel_rfl) (by kernel_rfl) rfl (by omega)
theorem vZ{ts:List TypeId}{cs cs':Array Value}{T:TypeId}(h:w.heap[g]?=some (.cells cs T (0,0)))(hT:T∉ts):Jk ts w (w.setRow g cs'):=by
 refine⟨by simp[World.setRow],fun j cur t ht hj=>?_⟩;by_cases e:j=g
 .subst e;rw[h]at hj;injection hj with hj;injection hj with _ hj;exact absurd (hj ▸ ht) hT
 rw[setRow_other _ _ _ _ e];exact hj
def Fo(toks:List Kz)(i:Nat)(w:World)(e:Ending)(w':World):Prop :=
 (∃nx nm A n c,dW toks i nx/\e=.returned (.tuple #[.agg #[.string nm,.slice A n c],.int .i64 (nx:Nat),.bool false])/\Below w.heap.size w w') \/
 ∃nx nm vA alts,qeP toks i (nm,alts) nx/\e=.returned (.tuple #[.agg #[.string nm,vA],.int .i64 (nx:Nat),.bool true])/\nm.size<=maxLen/\Ae (yY 107) 105 w' w'.heap.size vA alts/\Below w.heap.size w w'
theorem Fo.no{n c:Nat}{A:Option Addr}(h:dW toks i nx)(hj:j=nx)(hb:Below w.heap.size w w'):Fo toks i w (.returned (.tuple #[.agg #[.string nm,.slice A n c],.int .i64 j,.bool false])) w' :=
 .inl ⟨nx,nm,A,n,c,h,by rw[hj],hb⟩
theorem Fo.yes{vA:Value}{alts:List (List Wf)}(h:qeP toks i (nm,alts) nx)(hj:j=nx)(hs:nm.size<=maxLen)(ha:Ae (yY 107) 105 w' w'.heap.size vA alts)(hb:Below w.heap.size w w'):Fo toks i w (.returned (.tuple #[.agg #[.string nm,vA],.int .i64 j,.bool true])) w' :=
 .inr ⟨nx,nm,vA,alts,h,by rw[hj],hs,ha,hb⟩
theorem zr(vT:Value)(toks:List Kz)(i B0:Nat)(w:World)(hT:w.ownsRow B0 104 3 vT toks.length (Eo toks))(hi:i<toks.length)(hn:toks.length<=65536)(hz:∀t∈toks,t.2.1.length<=32) :
  Calls Tryz.prog 54 #[vT,.int .i64 i] w (Fo toks i w):=by
 obtain⟨AT,cT,rfl,Nj,Uw⟩:=Zp hT;unfold maxLen at Uw;obtain⟨bT,oT,hAT,hbT,hcT⟩:=Rd.of_own hT (fun e=>by have:=tP toks;rw[e,Xu]at this;omega);subst hAT;have HTK:=Lh (show ∀(W:World),Below w.heap.size w W->∀(j:Nat)(hj:j<toks.length),W.cell? ⟨bT,oT+j*3,none⟩=some (.int .i64 toks[j].1)/\W.cell? ⟨bT,oT+j*3+1,none⟩=some (.string (Jp toks[j].2.1))from fun W hb j hj=>by
  obtain⟨t0,t1,_⟩:=iD hj
  exact⟨(hb.cell (p:=⟨bT,oT+j*3,none⟩) hbT).trans (hcT _ _ t0),(hb.cell (p:=⟨bT,oT+j*3+1,none⟩) hbT).trans (hcT (j*3+1) _ t1)⟩)
 have HZ:=Lh (show ∀(j:Nat)(hj:j<toks.length),(Jp toks[j].2.1).size<=maxLen from fun j hj=>by
  have:=hz toks[j] (Qg hj)
  rw[tO]
  unfold maxLen
  omega)
 clear hcT hT hz;obtain⟨n,hn'⟩:=Xe toks.length;have HN:=Lh hn';rw[<-hn']at Nj hn |-;have Uh:i<n:=by omega
 clear hn';obtain⟨S,hS⟩:=Xe w.heap.size;have HB1:=Lt (Below w.heap.size w ((w.alloc (.cells #[.string ⟨#[]⟩,.slice none 0 0] 100)).alloc (.cells #[.string ⟨#[]⟩,.slice none 0 0] 100))) (((Xr _ _).alloc (Yb _) _).alloc (by rw[Xs];omega) _);have HS1:=Lh (Go.heap_alloc2_old w (.cells #[.string ⟨#[]⟩,.slice none 0 0] 100) (.cells #[.string ⟨#[]⟩,.slice none 0 0] 100));have HL1:=Lh (Go.heap_alloc2_new w (.cells #[.string ⟨#[]⟩,.slice none 0 0] 100) (.cells #[.string ⟨#[]⟩,.slice none 0 0] 100));have HZ1:=Lh (show ((w.alloc (.cells #[.string ⟨#[]⟩,.slice none 0 0] 100)).alloc (.cells #[.string ⟨#[]⟩,.slice none 0 0] 100)).heap.size=w.heap.size+2 by rw[Xs,Xs]);rw[<-hS]at HS1 HL1 HZ1;go_enter Tryz.func54,Tryz.ntmps54;go_wp2_with (refine Zv (some 12) rfl ?_);rw[<-hS];have HSE:=Lh hS;clear hS;refine Stop.go ?_;generalize (w.alloc (.cells #[.string ⟨#[]⟩,.slice none 0 0] 100)).alloc (.cells #[.string ⟨#[]⟩,.slice none 0 0] 100)=w1 at*;obtain⟨c0,c1⟩:=HTK.o w1 HB1.o i hi;by_cases gM:toks[i].1=1
 .obtain⟨j,hj⟩:=Xe (i+1);obtain⟨j2,z_⟩:=Xe (i+2);have HX2:=Lt ((∀hb:j<toks.length,toks[j].1≠3)->dW toks i j) (by subst hj;exact fun h=>dW.second hi gM h);have HI2:=Lt (∀hb:j<toks.length,toks[j].1=3->Se toks i j2 (Jp toks[i].2.1) [] []) (by subst hj z_;exact fun h h2=>Se.start hi gM h h2);have e1:(i:Int)+1=(j:Int):=by omega
  have e2:(j:Int)+1=(j2:Int):=by omega
  have HIJ:=Lt (j=i+1/\j2=i+2) (⟨hj,z_⟩);clear hj z_;have HNM:=Lh (HZ.o i hi);generalize toks[i]=tk at*;obtain⟨kd,txt,ti⟩:=tk;simp only at gM c0 c1 HNM HI2;subst gM;obtain⟨l0,l1⟩:=cJ HL1.o;have f0:w1.frozen? ⟨S+1,0,none⟩=false:=by simp[World.frozen?,HL1.o]
  have HL2:=Lh (Kq (k:=0) HL1.o (.string (Jp txt)));have HS2:=Lh (Vk (g:=S+1) (k:=0) HS1.o (by omega) (.string (Jp txt)));have HB2:=Lh (HB1.o.setCell (p:=⟨S+1,0,none⟩) (by show w.heap.size<=S+1;rw[HSE.o];omega) (.string (Jp txt)));have HZ2:=Lh (show (w1.setCell ⟨S+1,0,none⟩ (.string (Jp txt))).heap.size=S+2 by rw[Zb];exact HZ1.o);go_wp2_with (refine Zv (some 29) rfl ?_);refine Stop.go ?_;generalize w1.setCell ⟨S+1,0,none⟩ (.string (Jp txt))=w2 at*;clear c0 c1 l0 l1 f0;by_cases hjn:j<n
  .have Mw:j<toks.length:=by rw[<-HN.o];exact hjn
   have g0:decide ((n:Int)<=(j:Int))=false:=by simp;omega
   have g0':decide (n<=j)=false:=by simp;omega
   obtain⟨c0,c1⟩:=HTK.o w2 HB2.o j Mw;by_cases jw:toks[j].1=3
   .have HI3:=Lh (HI2.o Mw jw);rw[jw]at c0;clear jw;go_wp2_with fail;clear c0 c1;have HM0:=Lh (bN.start (tA:=105) (tI:=107) (w:=w2) (N:=S+2) (by rw[HZ2.o];exact Yb _));go_loopw [1,8] (fun v1 v8 wr=>∃(k:Nat)(alts:List (List Wf))(alt:List Wf)(vA:Value)(cA:List Value)(cI:List (List Value))(B:Nat),k<=n/\v1=.int .i64 k/\alts.length<=k/\alt.length<=k/\Hid (Se toks i k (Jp txt) alts alt)/\Hid (bN 105 107 wr (S+2) vA cA alts v8 cI alt B)/\Hid (wr.heap[S+1]?=some (.cells #[.string (Jp txt),vA] 100 (0,0)))/\Hid (wr.heap[S]?=some (.cells #[.string ⟨#[]⟩,.slice none 0 0] 100 (0,0)))/\Hid (Below w.heap.size w wr)) (fun v1 _ _=>n-(intOf v1).toNat);exact⟨j2,[],[],_,_,_,_,by have:=HIJ.o;omega,rfl,Yg _,Yg _,HI3.o,HM0.o,HL2.o,HS2.o,HB2.o⟩;clear HI3 HM0 HL2 HS2 HB2;obtain⟨k,alts,alt,vA,cA,cI,B,hk,rfl,hal1,hal2,HI,HM,HL,HS,HB⟩:=hrel;obtain⟨A8,c8,rfl,h81,h82⟩:=Zp HM.o.last;obtain⟨AA,cAA,rfl,hA1,hA2⟩:=Zp HM.o.row;unfold maxLen at h82 hA2;by_cases hkn:k<n
    .have Du:k<toks.length:=by rw[<-HN.o];exact hkn
     obtain⟨d0,d1⟩:=HTK.o wr HB.o k Du;have zgS:=Lh (fun h=>HI.o.item Du h);have zoU:=Lh (fun h=>HI.o.bar Du h);have znH:=Lh (fun h=>HI.o.semi Du h);have Sl:=Lh (fun(h:toks[k].1≠1/\toks[k].1≠2/\toks[k].1≠4/\toks[k].1≠5)=>HI.o.bad (fun _=>h));have HTZ:=Lh (HZ.o k Du);generalize toks[k]=tk at*;obtain⟨kk,txk,tik⟩:=tk;simp only at d0 d1 zgS zoU znH Sl HTZ;clear Du;have aV:kk=1\/kk=2\/kk=4\/kk=5\/(kk≠1/\kk≠2/\kk≠4/\kk≠5):=by omega
     rcases aV with h|h|h|h|⟨k1,k2,k4,k5⟩
     .subst h;have HI4:=Lt (Se toks i (k+1) (Jp txt) alts (alt++[(false,Jp txk)])) (zgS.o (by decide));have hb4:Below wr.heap.size wr (wr.alloc (.cells #[.bool false,.string (Jp txk)] 107)):=(Xr _ _).alloc (Yb _) _;have HN4:=Lh (Xn wr (.cells #[.bool false,.string (Jp txk)] 107));have HZ4:=Lh (Xs wr (.cells #[.bool false,.string (Jp txk)] 107));have Od:=Lh (HM.o.below hb4);have HL4:=Lh ((hb4.block (S+1) (gl HL.o)).trans HL.o);have HS4:=Lh ((hb4.block S (gl HS.o)).trans HS.o);have HB4:=Lh (HB.o.trans (hb4.mono HB.o.size));clear hb4;go_wp2_with (at_builtin;refine Zy (m:=1) wA rfl rfl rfl rfl Od.o.last (Rd.row (B:=wr.heap.size+1) HN4.o (Yf _)) rfl (by simp[Value.oneCell']) ?h63 ?hby ?hbase ?_)
      case h63=>simp only[maxLen];omega
      case hby=>omega
      case hbase=>have h1:=HM.o.nB;have h2:=HM.o.bB;omega
      intro v8' w7 Un Rk _ _;have HM7:=Lh (Od.o.item (by decide) HTZ.o Un Rk);have HL7:=Lh (Zs Od.o.last Rk HL4.o (by decide));have HS7:=Lh (Zs Od.o.last Rk HS4.o (by decide));have HB7:=Lh (Zr HB4.o Rk Od.o.last (by have:=Od.o.nB;have:=HSE.o;omega) HB4.o.size);clear Un Rk;go_wp2;go_roundw;exact⟨k+1,alts,alt++[(false,Jp txk)],_,_,_,_,by omega,by go_num,by omega,by rw[Qe,Qf];omega,HI4.o,HM7.o,HL7.o,HS7.o,HB7.o⟩;simp[intOf];omega
     .subst h;have HI4:=Lt (Se toks i (k+1) (Jp txt) alts (alt++[(true,Jp txk)])) (zgS.o (by decide));have hb4:Below wr.heap.size wr (wr.alloc (.cells #[.bool true,.string (Jp txk)] 107)):=(Xr _ _).alloc (Yb _) _;have HN4:=Lh (Xn wr (.cells #[.bool true,.string (Jp txk)] 107));have HZ4:=Lh (Xs wr (.cells #[.bool true,.string (Jp txk)] 107));have Od:=Lh (HM.o.below hb4);have HL4:=Lh ((hb4.block (S+1) (gl HL.o)).trans HL.o);have HS4:=Lh ((hb4.block S (gl HS.o)).trans HS.o);have HB4:=Lh (HB.o.trans (hb4.mono HB.o.size));clear hb4;go_wp2_with (at_builtin;refine Zy (m:=1) wA rfl rfl rfl rfl Od.o.last (Rd.row (B:=wr.heap.size+1) HN4.o (Yf _)) rfl (by simp[Value.oneCell']) ?h63 ?hby ?hbase ?_)
      case h63=>simp only[maxLen];omega
      case hby=>omega
      case hbase=>have h1:=HM.o.nB;have h2:=HM.o.bB;omega
      intro v8' w7 Un Rk _ _;have HM7:=Lh (Od.o.item (by decide) HTZ.o Un Rk);have HL7:=Lh (Zs Od.o.last Rk HL4.o (by decide));have HS7:=Lh (Zs Od.o.last Rk HS4.o (by decide));have HB7:=Lh (Zr HB4.o Rk Od.o.last (by have:=Od.o.nB;have:=HSE.o;omega) HB4.o.size);clear Un Rk;go_wp2;go_roundw;exact⟨k+1,alts,alt++[(true,Jp txk)],_,_,_,_,by omega,by go_num,by omega,by rw[Qe,Qf];omega,HI4.o,HM7.o,HL7.o,HS7.o,HB7.o⟩;simp[intOf];omega
     .subst h;have HI4:=Lh (zoU.o rfl);obtain⟨l0,l1⟩:=cJ HL.o;have hb4:Below wr.heap.size wr (wr.alloc (.cells #[.slice A8 alt.length c8] 105)):=(Xr _ _).alloc (Yb _) _;have HN4:=Lh (Xn wr (.cells #[.slice A8 alt.length c8] 105));have HZ4:=Lh (Xs wr (.cells #[.slice A8 alt.length c8] 105));have Od:=Lh (HM.o.below hb4);have HL4:=Lh ((hb4.block (S+1) (gl HL.o)).trans HL.o);have HS4:=Lh ((hb4.block S (gl HS.o)).trans HS.o);have HB4:=Lh (HB.o.trans (hb4.mono HB.o.size));clear hb4;go_wp2_with (at_builtin;refine Zy (m:=1) ic rfl rfl rfl rfl Od.o.row (Rd.row (B:=wr.heap.size+1) HN4.o (Yf _)) rfl (by simp[Value.oneCell']) ?h63 ?hby ?hbase ?_)
      case h63=>simp only[maxLen];omega
      case hby=>omega
      case hbase=>have h1:=HM.o.nB;have h2:=HM.o.bB;omega
      intro Pr w7 Un Rk _ _;obtain⟨A9,c9,rfl,h91,h92⟩:=Zp Un;have HM7:=Lh (Od.o.bar (by decide) Un Rk);have HL7:=Lh (Zs Od.o.row Rk HL4.o (by decide));have HS7:=Lh (Zs Od.o.row Rk HS4.o (by decide));have HB7:=Lh (Zr HB4.o Rk Od.o.row (by have:=HSE.o;omega) HB4.o.size);have q1:=(cJ HL7.o).2;have f1:w7.frozen? ⟨S+1,1,none⟩=false:=by simp[World.frozen?,HL7.o]
      have HL8:=Lh (Kq (k:=1) HL7.o (.slice A9 (alts.length+1) c9));have HS8:=Lh (Vk (g:=S+1) (k:=1) HS7.o (by omega) (.slice A9 (alts.length+1) c9));have HM8:=Lh (HM7.o.set (k:=1) HL7.o (by decide) (by decide) (.slice A9 (alts.length+1) c9));have HB8:=Lh (HB7.o.setCell (p:=⟨S+1,1,none⟩) (by show w.heap.size<=S+1;have:=HSE.o;omega) (.slice A9 (alts.length+1) c9));clear Un Rk l0 l1;go_wp2;go_roundw;exact⟨k+1,alts++[alt],[],_,_,_,_,by omega,by go_num,by rw[Qe,Qf];omega,Yg _,HI4.o,HM8.o,HL8.o,HS8.o,HB8.o⟩;simp[intOf];omega
     .subst h;have HY:=Lh (znH.o rfl);obtain⟨l0,l1⟩:=cJ HL.o;have hb4:Below wr.heap.size wr (wr.alloc (.cells #[.slice A8 alt.length c8] 105)):=(Xr _ _).alloc (Yb _) _;have HN4:=Lh (Xn wr (.cells #[.slice A8 alt.length c8] 105));have HZ4:=Lh (Xs wr (.cells #[.slice A8 alt.length c8] 105));have Od:=Lh (HM.o.below hb4);have HL4:=Lh ((hb4.block (S+1) (gl HL.o)).trans HL.o);have HS4:=Lh ((hb4.block S (gl HS.o)).trans HS.o);have HB4:=Lh (HB.o.trans (hb4.mono HB.o.size));clear hb4;go_wp2_with (at_builtin;refine Zy (m:=1) ic rfl rfl rfl rfl Od.o.row (Rd.row (B:=wr.heap.size+1) HN4.o (Yf _)) rfl (by simp[Value.oneCell']) ?h63 ?hby ?hbase ?_)
      case h63=>simp only[maxLen];omega
      case hby=>omega
      case hbase=>have h1:=HM.o.nB;have h2:=HM.o.bB;omega
      intro Pr w7 Un Rk _ _;obtain⟨A9,c9,rfl,h91,h92⟩:=Zp Un;have HM7:=Lh (Od.o.bar (by decide) Un Rk);have HL7:=Lh (Zs Od.o.row Rk HL4.o (by decide));have HS7:=Lh (Zs Od.o.row Rk HS4.o (by decide));have HB7:=Lh (Zr HB4.o Rk Od.o.row (by have:=HSE.o;omega) HB4.o.size);have q1:=(cJ HL7.o).2;have f1:w7.frozen? ⟨S+1,1,none⟩=false:=by simp[World.frozen?,HL7.o]
      have HL8:=Lh (Kq (k:=1) HL7.o (.slice A9 (alts.length+1) c9));have HS8:=Lh (Vk (g:=S+1) (k:=1) HS7.o (by omega) (.slice A9 (alts.length+1) c9));have HM8:=Lh (HM7.o.set (k:=1) HL7.o (by decide) (by decide) (.slice A9 (alts.length+1) c9));have HB8:=Lh (HB7.o.setCell (p:=⟨S+1,1,none⟩) (by show w.heap.size<=S+1;have:=HSE.o;omega) (.slice A9 (alts.length+1) c9));clear Un Rk l0 l1;go_wp2_with (refine Zv (some 86) rfl ?_);refine Stop.go ?_;generalize w7.setCell ⟨S+1,1,none⟩ (.slice A9 (alts.length+1) c9)=w8 at*;clear q1 f1;obtain⟨l0,l1⟩:=cJ (show w8.heap[S+1]?=some (.cells #[.string (Jp txt),.slice A9 (alts.length+1) c9] 100 (0,0))from HL8.o);have HE:=Lh (show (k:Int)+1=((k+1:Nat):Int) by omega);go_wp2_with (refine Zv none rfl ?_);refine Stop.go (Zo rfl 100 rfl rfl rfl (Fp HS8.o rfl rfl rfl) ?_);have Ej:=Lh (Zj _ _ _ _ _ _ HS8.o:(w8.setRow S [.string (Jp txt),.slice A9 (alts.length+1) c9].toArray).heap[S]?=_);have Do:=Lh (Zk HB8.o (Yj HSE.o.symm) [.string (Jp txt),.slice A9 (alts.length+1) c9].toArray);have HU:=Lt (Ae (yY 107) 105 (w8.setRow S [.string (Jp txt),.slice A9 (alts.length+1) c9].toArray) (w8.setRow S [.string (Jp txt),.slice A9 (alts.length+1) c9].toArray).heap.size (.slice A9 (alts.length+1) c9) (alts++[alt])) (by
       have hk:Jk [105,107] w8 (w8.setRow S [.string (Jp txt),.slice A9 (alts.length+1) c9].toArray):=vZ HS8.o (by decide)
       exact (HM8.o.toU.keep (.of_keepT hk)).more hk.1)
      generalize w8.setRow S [.string (Jp txt),.slice A9 (alts.length+1) c9].toArray=wz at*;(conv in Act.put _ _ _=>simp[Act.put]);go_wp2_with fail;refine Sx (g:=S) rfl rfl rfl rfl rfl Ej.o ?_;exact Fo.yes HY.o HE.o HNM.o HU.o Do.o
     have HX:=Lh (Sl.o ⟨k1,k2,k4,k5⟩);have b1:((kk:Int)==1)=false:=by rw[Yp];omega
     have b2:((kk:Int)==2)=false:=by rw[Yp];omega
     have b4:((kk:Int)==4)=false:=by rw[Yp];omega
     have b5:((kk:Int)==5)=false:=by rw[Yp];omega
     clear k1 k2 k4 k5;obtain⟨l0,l1⟩:=cJ HL.o;go_wp2_with (refine Zv none rfl ?_);refine Stop.go (Zo rfl 100 rfl rfl rfl (Fp HS.o rfl rfl rfl) ?_);have Ej:=Lh (Zj _ _ _ _ _ _ HS.o:(wr.setRow S [.string (Jp txt),.slice AA alts.length cAA].toArray).heap[S]?=_);have Do:=Lh (Zk HB.o (Yj HSE.o.symm) [.string (Jp txt),.slice AA alts.length cAA].toArray);generalize wr.setRow S [.string (Jp txt),.slice AA alts.length cAA].toArray=wz at*;(conv in Act.put _ _ _=>simp[Act.put]);go_wp2_with fail;refine Sx (g:=S) rfl rfl rfl rfl rfl Ej.o ?_;exact Fo.no HX.o rfl Do.o
    have HX:=Lh (HI.o.bad (fun hb=>absurd hb (by rw[<-HN.o];omega)));obtain⟨l0,l1⟩:=cJ HL.o;go_wp2_with (refine Zv none rfl ?_);refine Stop.go (Zo rfl 100 rfl rfl rfl (Fp HS.o rfl rfl rfl) ?_);have Ej:=Lh (Zj _ _ _ _ _ _ HS.o:(wr.setRow S [.string (Jp txt),.slice AA alts.length cAA].toArray).heap[S]?=_);have Do:=Lh (Zk HB.o (Yj HSE.o.symm) [.string (Jp txt),.slice AA alts.length cAA].toArray);generalize wr.setRow S [.string (Jp txt),.slice AA alts.length cAA].toArray=wz at*;(conv in Act.put _ _ _=>simp[Act.put]);go_wp2_with fail;refine Sx (g:=S) rfl rfl rfl rfl rfl Ej.o ?_;exact Fo.no HX.o rfl Do.o
   have HX:=Lh (HX2.o (fun _=>jw));generalize toks[j].1=kd3 at*;have b3:((kd3:Int) != 3)=true:=by rw[Yv];omega
   clear jw;obtain⟨l0,l1⟩:=cJ HL2.o;go_wp2_with (refine Zv none rfl ?_);refine Stop.go (Zo rfl 100 rfl rfl rfl (Fp HS2.o rfl rfl rfl) ?_);have Ej:=Lh (Zj _ _ _ _ _ _ HS2.o:(w2.setRow S [.string (Jp txt),.slice none 0 0].toArray).heap[S]?=_);have Do:=Lh (Zk HB2.o (Yj HSE.o.symm) [.string (Jp txt),.slice none 0 0].toArray);generalize w2.setRow S [.string (Jp txt),.slice none 0 0].toArray=wz at*;(conv in Act.put _ _ _=>simp[Act.put]);go_wp2_with fail;refine Sx (g:=S) rfl rfl rfl rfl rfl Ej.o ?_;exact Fo.no HX.o rfl Do.o
  have HX:=Lh (HX2.o (fun hb=>absurd hb (by rw[<-HN.o];omega)));have g0:decide ((n:Int)<=(j:Int))=true:=by simp;omega
  have g0':decide (n<=j)=true:=by simp;omega
  obtain⟨l0,l1⟩:=cJ HL2.o;go_wp2_with (refine Zv none rfl ?_);refine Stop.go (Zo rfl 100 rfl rfl rfl (Fp HS2.o rfl rfl rfl) ?_);have Ej:=Lh (Zj _ _ _ _ _ _ HS2.o:(w2.setRow S [.string (Jp txt),.slice none 0 0].toArray).heap[S]?=_);have Do:=Lh (Zk HB2.o (Yj HSE.o.symm) [.string (Jp txt),.slice none 0 0].toArray);generalize w2.setRow S [.string (Jp txt),.slice none 0 0].toArray=wz at*;(conv in Act.put _ _ _=>simp[Act.put]);go_wp2_with fail;refine Sx (g:=S) rfl rfl rfl rfl rfl Ej.o ?_;exact Fo.no HX.o rfl Do.o
 have HX:=Lh (dW.first hi gM);generalize toks[i].1=kd1 at*;have b1:((kd1:Int) != 1)=true:=by rw[Yv];omega
 clear gM;obtain⟨l0,l1⟩:=cJ HL1.o;go_wp2_with (refine Zv none rfl ?_);refine Stop.go (Zo rfl 100 rfl rfl rfl (Fp HS1.o rfl rfl rfl) ?_);have Ej:=Lh (Zj _ _ _ _ _ _ HS1.o:(w1.setRow S [.string ⟨#[]⟩,.slice none 0 0].toArray).heap[S]?=_);have Do:=Lh (Zk HB1.o (Yj HSE.o.symm) [.string ⟨#[]⟩,.slice none 0 0].toArray);generalize w1.setRow S [.string ⟨#[]⟩,.slice none 0 0].toArray=wz at*;(conv in Act.put _ _ _=>simp[Act.put]);go_wp2_with fail;refine Sx (g:=S) rfl rfl rfl rfl rfl Ej.o ?_;exact Fo.no HX.o rfl Do.o
theorem I_:Dg Tryz.prog 44 100 2 40 (.agg #[.string ⟨#[]⟩,.slice none 0 0]):=Gh (by kernel_rfl) (by kernel_rfl) rfl (by omega)
theorem Ss.snoc{tL tA tI:TypeId}{w w1:World}{N:Nat}{vL vL':Value}{done:List Kh}{css:List (List Value)}{nm:ByteArray}{vA:Value}{alts:List (List Wf)}(h:Ss tL tA tI w N vL done css)(hLA:tL≠tA)(hLI:tL≠tI)(ho:w1.ownsRow N tL 2 vL' (done.length+1) (css.flatten++[.string nm,vA]))(hg:w.grownBy w1 vL.ownBlock)
  (hs:nm.size<=maxLen) (ha:Ae (yY tI) tA w w.heap.size vA alts):Ss tL tA tI w1 N vL' (done++[(nm,alts)]) (css++[[.string nm,vA]]):=by
 have hk:Jk [tA,tI] w w1:=Jk.of_grown h.lines hg (by simp[hLA,hLI]);refine⟨?_,?_,Yd h.nB hg.size⟩
 .rw[Qe,Qf,Qs];simpa using ho
 refine Vo.snoc ((h.dn.keep (.of_keepT hk)).more hg.size) ⟨[.string nm],[vA],rfl,⟨rfl,hs⟩,vA,rfl,(ha.keep (.of_keepT hk)).more hg.size⟩
theorem xP(s:ByteArray)(w:World)(hs:s.size<=maxLen):Calls Tryz.prog 18 #[.string s] w (Nb s.data.toList w):=by
 have Be:=hs;unfold maxLen at hs;have Ns:=Lh (show s.data.toList.length=s.size by simp);have jP:=Lh (L_ s.data.toList);have HLX:=Lh (qkK s w Be);obtain⟨toks,zV,er,hF⟩:∃toks zV er,Sk s.data.toList=(toks,zV,er):=⟨_,_,_,rfl⟩;have HF:=Lh hF;rw[hF]at jP;unfold Lf at HLX;rw[hF]at HLX;simp only at jP HLX;clear hF;by_cases her:er=0
 .subst her;have Io:=Lh (show Nc s.data.toList=iM toks s.size by
   unfold Nc
   rw[HF.o,if_neg (by simp),Ns.o])
  go_enter Tryz.func18,Tryz.ntmps18;go_wp2_with fail;refine HLX.o.mono ?_;rintro e w1 ⟨vT,rfl,hown,hb1⟩;obtain⟨AT,cT,rfl,hT1,hT2⟩:=Zp hown;unfold maxLen at hT2;have HOWN:=Lh hown;have HB1:=Lh hb1;have HTK:=Lh (show ∀(j:Nat)(hj:j<toks.length),∃bT oT,AT=some ⟨bT,oT,none⟩/\∀W:World,Below w1.heap.size w1 W->W.cell? ⟨bT,oT+j*3+2,none⟩=some (.int .i64 toks[j].2.2)from fun j hj=>by
   obtain⟨bT,oT,hAT,hbT,hcT⟩:=Rd.of_own hown (fun e=>by have:=tP toks;rw[e,Xu]at this;omega)
   exact⟨bT,oT,hAT,fun W hb=>(hb.cell (p:=⟨bT,oT+j*3+2,none⟩) hbT).trans (hcT (j*3+2) _ (iD hj).2.2)⟩)
  clear hown hb1;obtain⟨n,hn⟩:=Xe toks.length;have HRL:=Lh (fun(W:World)(i:Nat)(hb:Below w1.heap.size w1 W)(hi:i<n)=>zr (.slice AT toks.length cT) toks i w.heap.size W (Jc HOWN.o hb) (hn ▸ hi) jP.o.1 jP.o.2);rw[<-hn]at hT1 HRL |-;have HN:=Lh hn;clear hn;have hn6:n<=65536:=by have:=jP.o.1;rw[HN.o];exact this
  have HR0:=Lh (Id.start toks);have HM0:=Lt (Ss 100 105 107 w1 w1.heap.size (.slice none 0 0) [] []) (⟨Za _ _ _ _,Vo.nil _ _ _,Yb _⟩);have HBW:=Lh (Xr w1.heap.size w1);go_wp2_with fail;go_loopw [8,9] (fun v8 v9 wr=>∃(k:Nat)(done:List Kh)(css:List (List Value)),k<=n/\v9=.int .i64 k/\done.length<=k/\Hid (Id toks k done)/\Hid (Ss 100 105 107 wr w1.heap.size v8 done css)/\Hid (Below w1.heap.size w1 wr)) (fun _ v9 _=>n-(intOf v9).toNat);exact⟨0,[],[],by omega,rfl,Yb _,HR0.o,HM0.o,HBW.o⟩;clear HR0 HM0 HBW;obtain⟨k,done,css,hk,rfl,hdk,HR,HM,HB⟩:=hrel;obtain⟨AL,cL,rfl,hL1,hL2⟩:=Zp HM.o.lines;unfold maxLen at hL2;by_cases Jl:k<n
  .have HC:=Lh (HRL.o wr k HB.o Jl);go_wp2_with fail;refine HC.o.mono ?_;rintro e w2 hto;rcases hto with ⟨nx,nm,A3,n3,c3,hx,rfl,Jd⟩|⟨nx,nm,vA,alts,hy,rfl,hs4,hsu,Jd⟩
   .have Jw:=Lh (HR.o.bad hx s.size);have hnx:=hx.le;rw[<-HN.o]at hnx;have HB2:=Lh (HB.o.trans (Jd.mono HB.o.size));have HB3:=Lh (HB2.o.alloc HB2.o.size (.cells #[.string nm,.slice A3 n3 c3] 100));have yw:=Lh (HB1.o.trans (HB3.o.mono HB1.o.size));clear Jd hx;by_cases sJ:nx<n
    .have Ow:nx<toks.length:=by rw[<-HN.o];exact sJ
     obtain⟨bT,oT,hAT,Zn⟩:=HTK.o nx Ow;subst hAT;have c2:=Zn _ HB3.o;have Ej:=Lh (Io.o.trans (Jw.o.trans (dif_pos Ow)));clear Zn;generalize toks[nx].2.2=ti at*;clear Ow;go_wp2;refine Text.wt (by kernel_rfl) fun Q' hQ'=>?_;go_wp2;refine⟨by rfl,?_⟩;go_wp2_with fail;refine Zh (Zi rfl _ _ _) rfl ?_;exact Nb.of Ej.o Je.nil_ yw.o.drew
    have Ej:=Lh (Io.o.trans (Jw.o.trans (dif_neg (by rw[<-HN.o];exact sJ))));have g0:decide ((nx:Int)<(n:Int))=false:=by simp;omega
    have g0':decide (nx<n)=false:=by simp;omega
    go_wp2_with fail;refine Zh (Zi rfl _ _ _) rfl ?_;exact Nb.of Ej.o Je.nil_ yw.o
   obtain⟨css4,ho4,_,_⟩:=id hsu;obtain⟨A4,c4,rfl,tq,h42⟩:=Zp ho4;have HRN:=Lh (HR.o.more hy);have hle:=hy.le;have hkx:=hy.lt;rw[<-HN.o]at hle;have HB2:=Lh (HB.o.trans (Jd.mono HB.o.size));have HM2:=Lh (HM.o.below Jd);have hb4:Below w2.heap.size w2 ((w2.alloc (.cells #[.string nm,.slice A4 alts.length c4] 100)).alloc (.cells #[.string nm,.slice A4 alts.length c4] 100)):=((Xr _ _).alloc (Yb _) _).alloc (by rw[Xs];omega) _;have Od:=Lh (HM2.o.below hb4);have zyH:=Lh ((hsu.keep (.of_below hb4)).more hb4.size);have HB4:=Lh (HB2.o.trans (hb4.mono HB2.o.size));have HN4:=Lh (Xn (w2.alloc (.cells #[.string nm,.slice A4 alts.length c4] 100)) (.cells #[.string nm,.slice A4 alts.length c4] 100));rw[Xs]at HN4;have HS4:=Lh (show ((w2.alloc (.cells #[.string nm,.slice A4 alts.length c4] 100)).alloc (.cells #[.string nm,.slice A4 alts.length c4] 100)).heap.size=w2.heap.size+2 by rw[Xs,Xs]);have HW2:=Lt (w1.heap.size<=w2.heap.size) (HB2.o.size);have HS:=Lh hs4;clear Jd hb4 hy hsu ho4 hs4;go_wp2_with (at_builtin;refine Zy (m:=1) I_ rfl rfl rfl rfl Od.o.lines (Rd.row (B:=w2.heap.size+2) HN4.o (by omega)) rfl (by simp[Value.oneCell']) ?h63 ?hby ?hbase ?_)
   case h63=>simp only[maxLen];omega
   case hby=>omega
   case hbase=>have:=HW2.o;rw[HS4.o];omega
   intro v8' w7 Un Rk _ _;have HM7:=Lh (Od.o.snoc (by decide) (by decide) Un Rk HS.o zyH.o);have HB7:=Lh (Zr HB4.o Rk Od.o.lines (Yb _) HB4.o.size);clear Un Rk;go_wp2;go_roundw;exact⟨nx,done++[(nm,alts)],_,by omega,by go_num,by rw[Qe,Qf];omega,HRN.o,HM7.o,HB7.o⟩;simp[intOf];omega
  have Jw:=Lh (HR.o.all (by rw[<-HN.o];omega) s.size);have yw:=Lh (HB1.o.trans (HB.o.mono HB1.o.size));have HSL:=Lt (Je ut wr wr.heap.size (.slice AL done.length cL) done) (HM.o.sl);clear HM;by_cases hd:done=[]
  .subst hd;have Ej:=Lh (Io.o.trans (Jw.o.trans (if_pos rfl)));go_wp2_with fail;refine Zh (Zi rfl _ _ _) rfl ?_;exact Nb.of Ej.o Je.nil_ yw.o
  have Ej:=Lh (Io.o.trans (Jw.o.trans (if_neg hd)));have Dt:=Qy.2 hd;obtain⟨m,hm⟩:=Xe done.length;rw[<-hm]at Dt hL1 HSL |-;have hz:((m:Int)==0)=false:=by rw[Yp];omega
  clear hm hd;go_wp2_with fail;refine Zh (Zi rfl _ _ _) rfl ?_;exact Nb.of Ej.o HSL.o yw.o
 have Io:=Lh (show Nc s.data.toList=([],zV,er) by
  unfold Nc
  rw[HF.o,if_pos (by simpa using her)])
 have g0:((er:Int) != 0)=true:=by rw[Yv];omega
 clear her;go_enter Tryz.func18,Tryz.ntmps18;go_wp2_with fail;refine HLX.o.mono ?_;rintro e w1 ⟨vT,rfl,hown,hb1⟩;obtain⟨AT,cT,rfl,hT1,hT2⟩:=Zp hown;have HB1:=Lh hb1;clear hown hb1;go_wp2_with fail;refine Zh (Zi rfl _ _ _) rfl ?_;exact Nb.of Io.o Je.nil_ HB1.o
theorem od(A:Option Addr)(n c:Nat)(rs:List (Int×List Int))(w:World)(hv:Je Vw w w.heap.size (.slice A n c) rs) :
  Calls Tryz.prog 55 #[.slice A n c] w fun e w'=>e=.returned (.bool (decide (¬ rs.Nodup)))/\Below w.heap.size w w':=by
 have HV:=Lh hv;have hnc:=hv.n_le;have HN:=Lh hv.n_eq;clear hv;go_enter Tryz.func55,Tryz.ntmps55;go_wp2_with fail;go_loopg [3] n (fun left v3 wr=>∃i:Nat,i<=n/\n-i<=left/\v3=.int .i64 i/\Hid ((rs.take i).Nodup)/\Hid (Below w.heap.size w wr));exact⟨0,by omega,by omega,rfl,by simp[Hid],Xr _ _⟩;obtain⟨i,hi,Ef,rfl,HND,HB⟩:=hrel;obtain⟨gas,Gx⟩:=Xe gk;rw[<-Gx]at Ef;have HGK:=Lh Gx;clear Gx;generalize wr=wo at*;by_cases Oh:i<n
 .have Wp:i<rs.length:=by rw[<-HN.o];exact Oh
  go_wp2_with fail;go_loopg [4] i (fun qoS v4 wt=>∃j:Nat,j<=i/\i-j<=qoS/\v4=.int .i64 j/\Hid (∀(l:Nat)(h:l<rs.length),l<j->rs[l]≠rs[i])/\Hid (Below w.heap.size w wt));exact⟨0,by omega,by omega,rfl,fun l h hl=>by omega,HB.o⟩;clear HB;obtain⟨j,hj,qpU,rfl,HNO,HB⟩:=hrel;by_cases Aa:j<i
  .have Mw:j<rs.length:=by omega
   obtain⟨b1,o1,cs1,rfl,-,hb1,Ev,Kr⟩:=(HV.o.below HB.o).get Wp (by decide);obtain⟨v1,rfl,jU,Ik,Si⟩:=Kn Ev;have x0:=Kr 0 _ rfl;have x1:=Kr 1 _ rfl;simp only[show Vw.size=2 from rfl,Yq,<-Yy]at x0 x1;obtain⟨b2,o2,cs2,sL,-,Jd,Mv,Jr⟩:=(HV.o.below HB.o).get Mw (by decide);injection sL with sL;injection sL with e1 e2;subst e1 e2;obtain⟨v2,rfl,qJ,hz3,hz4⟩:=Kn Mv;have y0:=Jr 0 _ rfl;have y1:=Jr 1 _ rfl;simp only[show Vw.size=2 from rfl,Yq,<-Yy]at y0 y1;have Po:=Lt (rs[j]=rs[i]↔rs[j].1=rs[i].1/\rs[j].2=rs[i].2) (Prod.ext_iff);obtain⟨A3,c3,rfl,h31,wN⟩:=jU.form;obtain⟨A4,c4,rfl,tq,h42⟩:=qJ.form;have hbs:=HB.o.size;have Lg:=Lh (fun w1 (hb:Below wr.heap.size wr w1)=>uG _ _ _ _ w1 (jU.fut hb hbs (Yd hbs hb.size)) (qJ.fut hb hbs (Yd hbs hb.size)));obtain⟨r,hr⟩:=Xe (rs[i]);obtain⟨s,hs⟩:=Xe (rs[j]);rw[<-hr]at x0 x1 Po Lg;rw[<-hs]at y0 y1 Po Lg;have HR:=Lh hr;have HS:=Lh hs;clear jU qJ Kr Jr Ev Mv hr hs Ik Si hz3 hz4 h31 wN tq h42;obtain⟨l1,r1⟩:=r;obtain⟨l2,r2⟩:=s;simp only at x0 x1 y0 y1;by_cases mS:l1=l2
   .have hq:(l1==l2)=true:=by simp[mS]
    have HLL:=Lh mS;clear mS;go_wp2_with fail;refine Text.wp_grow [22] [4,9,16,21] [] (by kernel_rfl) (by kernel_rfl) ?_;refine Text.wpS_seg 22 _ _ _ _ (by decide) (fun Q' hQ'=>?_);simp only[Xta,Xtz];go_wp2_with fail
    try simp only[Yr,Xy,List.drop_zero]
    refine Text.wpS_one (fun Q' hQ'=>?_);go_wp2_with fail;refine (Lg.o _ Ui).mono ?_;rintro e w5 ⟨rfl,hb5⟩;go_wp2_with fail;refine⟨hb5,?_⟩;refine Text.wpS_seg 1 _ _ _ _ (by decide) (fun Q' hQ'=>?_);simp only[Xta,Xtz];go_wp2;refine⟨by rfl,?_,?_⟩
    .exact⟨fun _=>⟨_,_,rfl,x0⟩,fun _=>⟨_,_,rfl,y0⟩,fun _=>⟨_,_,rfl,x1⟩,fun _=>⟨_,_,rfl,y1⟩,trivial⟩
    have HB5:=Lh (HB.o.trans ((Ui.trans hb5).mono hbs));clear hb5;by_cases rF:r1=r2
    .have hd:decide (r1=r2)=true:=by simpa using rF
     have HX:=Lh (show ¬ rs.Nodup by
      intro Te
      rw[List.Nodup,List.pairwise_iff_getElem]at Te
      refine Te j i Mw Wp Aa ?_
      rw[<-HR.o,<-HS.o,HLL.o,rF])
     go_wp2;go_ret;exact⟨Kw (Zw (by rw[eq_comm,Yk];exact HX.o)),HB5.o⟩
    have hd:decide (r1=r2)=false:=by simpa using rF
    have HX:=Lh (show rs[j]≠rs[i] by
     rw[<-HR.o,<-HS.o]
     intro e
     injection e with e1 e2
     exact rF e2.symm)
    go_wp2;go_roundg (gk-1);exact⟨j+1,by omega,by omega,by go_num,fun l h hl=>by by_cases e:l=j;(subst e;exact HX.o);exact HNO.o l h (by omega),HB5.o⟩;omega
   have hq:(l1==l2)=false:=by simp[mS]
   have HX:=Lh (show rs[j]≠rs[i] by
    rw[<-HR.o,<-HS.o]
    intro e
    injection e with e1 e2
    exact mS e1.symm)
   clear mS;go_wp2_with fail;refine Text.wp_grow [22] [4,9,16,21] [] (by kernel_rfl) (by kernel_rfl) ?_;refine Text.wpS_seg 22 _ _ _ _ (by decide) (fun Q' hQ'=>?_);simp only[Xta,Xtz];go_wp2_with fail
   try simp only[Yr,Xy,List.drop_zero]
   refine Text.wpS_one (fun Q' hQ'=>?_);go_wp2_with fail;refine⟨Xr _ _,?_⟩;refine Text.wpS_seg 1 _ _ _ _ (by decide) (fun Q' hQ'=>?_);simp only[Xta,Xtz];go_wp2;refine⟨by rfl,?_,?_⟩
   .exact⟨fun _=>⟨_,_,rfl,x0⟩,fun _=>⟨_,_,rfl,y0⟩,Text.no_want rfl,Text.no_want rfl,trivial⟩
   go_wp2;go_roundg (gk-1);exact⟨j+1,by omega,by omega,by go_num,fun l h hl=>by by_cases e:l=j;(subst e;exact HX.o);exact HNO.o l h (by omega),HB.o.drew⟩;omega
  have HND2:=Lh (show (rs.take (i+1)).Nodup by
   refine (iQ rs i Wp).2 ⟨HND.o,?_⟩
   rw[List.any_eq_false]
   intro x hx
   obtain⟨l,hl,rfl⟩:=Qz hx
   rw[List.getElem_take]
   rw[Qq]at hl
   simpa using HNO.o l (by omega) (by omega))
  go_wp2;go_roundg (gas-1);exact⟨i+1,by omega,by omega,by go_num,HND2.o,HB.o⟩;have:=HGK.o;omega
 have HX:=Lh (show rs.Nodup by
  have:=HND.o
  rwa [Qd (by have:=HN.o;omega)]at this)
 go_wp2;go_ret;exact⟨Kw (Zw (by rw[eq_comm,Yl];exact fun h=>h HX.o)),HB.o⟩
theorem gD(v:Value)(l:List Kh)(w:World)(h:Je ut w w.heap.size v l)(hln:LnS l)(hn0:l.length<=1048576)(qqP:∀x∈l,x.2.length<=1048576) :
  Calls Tryz.prog 19 #[v] w (Ex l w):=by
 obtain⟨A1,c1,rfl,jZ,mY⟩:=h.form;unfold maxLen at mY;have HL:=Lt (∀W,Below w.heap.size w W->Je ut W w.heap.size (.slice A1 l.length c1) l) (fun W hb=>h.below hb);have HLN:=Lh hln;have sW:=Lh qqP;clear h hln qqP;obtain⟨n,hn⟩:=Xe l.length;rw[<-hn]at HL jZ hn0 |-;have HN:=Lh hn;clear hn;have HGR:=Lh (oK l);obtain⟨S,hS⟩:=Xe w.heap.size;have HB1:=Lt (Below w.heap.size w ((w.alloc (.cells #[.slice none 0 0,.slice none 0 0,.slice none 0 0] 25)).alloc (.cells #[.slice none 0 0,.slice none 0 0,.slice none 0 0] 25))) (((Xr _ _).alloc (Yb _) _).alloc (by rw[Xs];omega) _);have HS1:=Lh (Go.heap_alloc2_old w (.cells #[.slice none 0 0,.slice none 0 0,.slice none 0 0] 25) (.cells #[.slice none 0 0,.slice none 0 0,.slice none 0 0] 25));have HK1:=Lh (Go.heap_alloc2_new w (.cells #[.slice none 0 0,.slice none 0 0,.slice none 0 0] 25) (.cells #[.slice none 0 0,.slice none 0 0,.slice none 0 0] 25));rw[<-hS]at HS1 HK1;go_enter Tryz.func19,Tryz.ntmps19;go_wp2_with fail;rw[<-hS];have HSE:=Lh hS;clear hS;generalize (w.alloc (.cells #[.slice none 0 0,.slice none 0 0,.slice none 0 0] 25)).alloc (.cells #[.slice none 0 0,.slice none 0 0,.slice none 0 0] 25)=w1 at*;have H0:=Lt (Dn (l.take 0)=0/\aQ (l.take 0)=false) (⟨rfl,rfl⟩);go_loop [5,6] (fun v5 v6=>∃k m:Nat,k<=n/\m<=k*1048576/\v5=.int .i64 m/\v6=.int .i64 k/\Hid (Dn (l.take k)=m)/\Hid (aQ (l.take k)=false)) (fun _ v6=>n-(intOf v6).toNat);exact⟨0,0,by omega,by omega,rfl,rfl,H0.o.1,H0.o.2⟩;clear H0;obtain⟨k,m,hk,hm,rfl,rfl,HM,HLO⟩:=hrel;by_cases Jl:k<n
 .as_aux_lemma =>
  have Du:k<l.length:=by rw[<-HN.o];exact Jl
  obtain⟨b,off,cs,hA1,_,_,Ja,Zn⟩:=(HL.o w1 HB1.o).get Du (by decide);subst hA1;obtain⟨v2,rfl,_,Mo⟩:=Oz Ja;obtain⟨A2,c2,rfl,Ct,jW⟩:=Mo.form;unfold maxLen at jW;have Sr:=Zn 1 _ rfl;simp only[show ut.size=2 from rfl,<-Yy]at Sr;have zgC:=Lh (aA l Du);have HS2:=Lh (vW l Du);have HS3:=Lh (dv l Du);have zR:=sW.o l[k] (Qg Du);have HSL:=Lh Mo;clear Zn Mo Ja;generalize l[k]=x at*;obtain⟨nm,al⟩:=x;simp only at Sr zgC HS2 HS3 zR HSL Ct;obtain⟨p,hp⟩:=Xe al.length;rw[<-hp]at Sr zgC zR HSL Ct;have HP:=Lh hp;clear hp Du;have HQ0:=Lt (∀(j:Nat)(h:j<al.length),j<0->¬ 64<al[j].length) (fun j _ h=>by omega);go_wp2_with fail;go_loop [7] (fun v7=>∃j:Nat,j<=p/\v7=.int .i64 j/\Hid (∀(i:Nat)(h:i<al.length),i<j->¬ 64<al[i].length)) (fun v7=>p-(intOf v7).toNat);exact⟨0,by omega,rfl,HQ0.o⟩;clear HQ0;obtain⟨j,hj,rfl,HQ⟩:=hrel;by_cases Mw:j<p
  .have hja:j<al.length:=by rw[<-HP.o];exact Mw
   obtain⟨b7,o7,cs,hA2,_,_,Ja,Zn⟩:=HSL.o.get hja (by decide);subst hA2;obtain⟨v7,rfl,hs7⟩:=Ja;obtain⟨A7,c7,rfl,hl7,mz⟩:=hs7.form;unfold maxLen at mz;have ey:=Zn 0 _ rfl;simp only[show (Tw (Cx fp Mi)).size=1 from rfl,Ys,Yq]at ey;clear Zn hs7;by_cases h64:64<al[j].length
   .have Oe:=Lh (show Rv l=true by
     rw[HGR.o,HS3.o (Xt.2 ⟨al[j],Qg hja,by simpa using h64⟩)];rfl)
    have g0:decide ((64:Int)<(al[j].length:Int))=true:=by simp;omega
    generalize al[j]=a at*;generalize a.length=q at*;clear h64;go_wp2_with (refine Zv none rfl ?_);refine Stop.go (Zo rfl 25 rfl rfl rfl (Vp HS1.o rfl rfl rfl rfl) ?_);have Ej:=Lh (Zj _ _ _ _ _ _ HS1.o:(w1.setRow S [.slice none 0 0,.slice none 0 0,.slice none 0 0].toArray).heap[S]?=_);have Do:=Lh (Zk HB1.o (Yj HSE.o.symm) [.slice none 0 0,.slice none 0 0,.slice none 0 0].toArray);generalize w1.setRow S [.slice none 0 0,.slice none 0 0,.slice none 0 0].toArray=wz at*;(conv in Act.put _ _ _=>simp[Act.put]);go_wp2_with fail;refine Me (g:=S) rfl rfl rfl rfl Ej.o ?_;exact Ex.bad (Tn Oe.o) Do.o
   have g0:decide ((64:Int)<(al[j].length:Int))=false:=by simp;omega
   have HQ':=Lh (show ∀(i:Nat)(h:i<al.length),i<j+1->¬ 64<al[i].length from fun i h hi=>by
    by_cases e:i=j
    .subst e;exact h64
    exact HQ.o i h (by omega))
   generalize al[j]=a at*;generalize a.length=q at*;clear h64;go_wp2;go_round;exact⟨j+1,by omega,by go_num,HQ'.o⟩;simp[intOf];omega
  obtain rfl:j=p:=by omega
  have HL':=Lh (show aQ (l.take (k+1))=false by
   rw[HS2.o,HLO.o,Yt,List.any_eq_false]
   intro a ha
   obtain⟨i,hi,rfl⟩:=Qz ha
   have:=HQ.o i hi (by rw[HP.o];exact hi)
   simpa using this)
  have HM':=Lh (show Dn (l.take (k+1))=m+j by rw[zgC.o,HM.o]);go_wp2;go_round;exact⟨k+1,m+j,by omega,by omega,by go_num,by go_num,HM'.o,HL'.o⟩;simp[intOf];omega
 obtain rfl:k=n:=by omega
 have HTK:=Lt (l.take k=l) (Qd (by rw[<-HN.o];exact Yb _));rw[HTK.o]at HM HLO;have Jw:=Lh (show Rv l=(decide (4096<m)||decide (256<k)) by rw[HGR.o,HLO.o,HM.o,<-HN.o,Yt]);clear HTK;by_cases h1:4096<m
 .have g1:decide ((4096:Int)<(m:Int))=true:=by simp;omega
  have Oe:=Lh (Jw.o.trans (show _=true by rw[Yw h1,Bool.true_or]));clear h1;go_wp2_with (refine Zv none rfl ?_);refine Stop.go (Zo rfl 25 rfl rfl rfl (Vp HS1.o rfl rfl rfl rfl) ?_);have Ej:=Lh (Zj _ _ _ _ _ _ HS1.o:(w1.setRow S [.slice none 0 0,.slice none 0 0,.slice none 0 0].toArray).heap[S]?=_);have Do:=Lh (Zk HB1.o (Yj HSE.o.symm) [.slice none 0 0,.slice none 0 0,.slice none 0 0].toArray);generalize w1.setRow S [.slice none 0 0,.slice none 0 0,.slice none 0 0].toArray=wz at*;(conv in Act.put _ _ _=>simp[Act.put]);go_wp2_with fail;refine Me (g:=S) rfl rfl rfl rfl Ej.o ?_;exact Ex.bad (Tn Oe.o) Do.o
 have g1:decide ((4096:Int)<(m:Int))=false:=by simp;omega
 by_cases h2:256<k
 .have g2:decide ((256:Int)<(k:Int))=true:=by simp;omega
  have Oe:=Lh (Jw.o.trans (show _=true by rw[Yw h2,Bool.or_true]));clear h1 h2;go_wp2_with (refine Zv none rfl ?_);refine Stop.go (Zo rfl 25 rfl rfl rfl (Vp HS1.o rfl rfl rfl rfl) ?_);have Ej:=Lh (Zj _ _ _ _ _ _ HS1.o:(w1.setRow S [.slice none 0 0,.slice none 0 0,.slice none 0 0].toArray).heap[S]?=_);have Do:=Lh (Zk HB1.o (Yj HSE.o.symm) [.slice none 0 0,.slice none 0 0,.slice none 0 0].toArray);generalize w1.setRow S [.slice none 0 0,.slice none 0 0,.slice none 0 0].toArray=wz at*;(conv in Act.put _ _ _=>simp[Act.put]);go_wp2_with fail;refine Me (g:=S) rfl rfl rfl rfl Ej.o ?_;exact Ex.bad (Tn Oe.o) Do.o
 have g2:decide ((256:Int)<(k:Int))=false:=by simp;omega
 have HG:=Lh (Jw.o.trans (show _=false by rw[Yx h1,Yx h2,Bool.or_false]));have jcO:k<=256:=by omega
 have zuJ:m<=4096:=by omega
 clear h1 h2 Jw HM HLO hm Jl hk;go_wp2_with fail;clear g1 g2;have HP0:=Lt (GrP w1 S (.slice none 0 0) (Jy (l.take 0))) (⟨HS1.o,HK1.o,Za _ _ _ _⟩);have HND0:=Lt ((Jy (l.take 0)).Nodup) (List.nodup_nil);go_loopw [8] (fun v8 wr=>∃(i:Nat)(vN:Value),i<=k/\v8=.int .i64 i/\Hid (GrP wr S vN (Jy (l.take i)))/\Hid ((Jy (l.take i)).Nodup)/\Hid (Below w.heap.size w wr)) (fun v8 _=>k-(intOf v8).toNat);exact⟨0,_,by omega,rfl,HP0.o,HND0.o,HB1.o⟩;clear HP0 HND0 HS1 HK1;obtain⟨i,vN,hi,rfl,HGP,HND,HB⟩:=hrel;have kB:=Lh (show (Jy (l.take i)).length=i by unfold Jy;rw[Qk,Qq,<-HN.o];omega);obtain⟨AN,cN,hvN,hN1,hN2⟩:=Zp HGP.o.names;rw[kB.o]at hvN hN1;subst hvN;unfold maxLen at hN2;have HTS:=Lh (show ni (Jy (l.take i))from fun t ht=>by
  obtain⟨x,hx,rfl⟩:=Xa.1 ht
  rw[Dp]
  exact (HLN.o x (List.mem_of_mem_take hx)).1)
 by_cases Jl:i<k
 .as_aux_lemma =>
  have Wp:i<l.length:=by rw[<-HN.o];exact Jl
  obtain⟨b,off,cs,hA1,_,ez,Ja,Zn⟩:=(HL.o w (Xr _ _)).get Wp (by decide);subst hA1;obtain⟨v2,rfl,hxs,Be⟩:=Oz Ja;clear Be;have rG:=Zn 0 _ rfl;simp only[show ut.size=2 from rfl,Yq]at rG;have aj:=Lh (nV l Wp);have HTW:=Lh (fun hm=>dj l Wp hm);have HR0:=Lt (∀W,Below w.heap.size w W->W.cell? ⟨b,off+i*2,none⟩=some (.string l[i].1)) (fun W hb=>(hb.cell (p:=⟨b,off+i*2,none⟩) ez).trans rG);have HF:=Lh (fun(W:World)(hg:Je Mi W W.heap.size (.slice AN i cN) ((Jy (l.take i)).map Jp))=>Hr (.slice AN i cN) ((Jy (l.take i)).map Jp) l[i].1 W hg);have HFX:=Lh (kn (Jy (l.take i)) l[i].1);clear Zn Ja hxs rG;generalize l[i].1=x at*;clear Wp;have q0:=(Zq HGP.o.box).1;have r0:=HR0.o wr HB.o;have gV:=Lh (HGP.o.below Ui);have HBD:=Lh HB.o.drew;have HFD:=Lh (HF.o wr.drew (gV.o.sl HTS.o));clear HF;by_cases Uh:Wt x∈Jy (l.take i)
  .rw[HFX.o,if_pos Uh]at HFD;have Jw:=Lh (gC HG.o (HTW.o Uh));have Gj:=List.idxOf_le_length (l:=Jy (l.take i)) (a:=Wt x);rw[kB.o]at Gj;generalize (Jy (l.take i)).idxOf (Wt x)=ix at*;clear Uh;have g0:decide ((0:Int)<=(ix:Int))=true:=by simp
   go_wp2_with fail;refine Text.wp_grow [7] [1,6] [] (by kernel_rfl) (by kernel_rfl) ?_;refine Text.wpS_seg 7 _ _ _ _ (by decide) (fun Q' hQ'=>?_);simp only[Xta,Xtz];go_wp2_with fail
   try simp only[Yr,Xy,List.drop_zero]
   refine Text.wpS_one (fun Q' hQ'=>?_);go_wp2_with fail;refine HFD.o.mono ?_;rintro e w5 ⟨rfl,rfl⟩;go_wp2_with fail;refine⟨Xr _ _,?_⟩;refine Text.wpS_seg 1 _ _ _ _ (by decide) (fun Q' hQ'=>?_);simp only[Xta,Xtz];go_wp2;refine⟨by rfl,⟨fun _=>⟨_,_,rfl,q0⟩,fun _=>⟨_,_,rfl,r0⟩,trivial⟩,?_⟩;clear q0 r0;generalize wr.drew=w4 at*;go_wp2_with (refine Zv none rfl ?_);refine Stop.go (Zo rfl 25 rfl rfl rfl (Vp gV.o.res rfl rfl rfl rfl) ?_);have Ej:=Lh (Zj _ _ _ _ _ _ gV.o.res:(w4.setRow S [.slice none 0 0,.slice none 0 0,.slice none 0 0].toArray).heap[S]?=_);have Do:=Lh (Zk HBD.o (Yj HSE.o.symm) [.slice none 0 0,.slice none 0 0,.slice none 0 0].toArray);generalize w4.setRow S [.slice none 0 0,.slice none 0 0,.slice none 0 0].toArray=wz at*;(conv in Act.put _ _ _=>simp[Act.put]);go_wp2_with fail;refine Me (g:=S) rfl rfl rfl rfl Ej.o ?_;exact Ex.bad Jw.o Do.o
  rw[HFX.o,if_neg Uh]at HFD;have HNDN:=Lt ((Jy (l.take (i+1))).Nodup) (by
   rw[aj.o,List.nodup_append]
   exact⟨HND.o,by simp,fun a ha c hc e=>Uh (by rw[Qi.1 hc]at e;rw[<-e];exact ha)⟩)
  clear Uh;go_wp2_with fail;refine Text.wp_grow [7] [1,6] [] (by kernel_rfl) (by kernel_rfl) ?_;refine Text.wpS_seg 7 _ _ _ _ (by decide) (fun Q' hQ'=>?_);simp only[Xta,Xtz];go_wp2_with fail
  try simp only[Yr,Xy,List.drop_zero]
  refine Text.wpS_one (fun Q' hQ'=>?_);go_wp2_with fail;refine HFD.o.mono ?_;rintro e w5 ⟨rfl,rfl⟩;go_wp2_with fail;refine⟨Xr _ _,?_⟩;refine Text.wpS_seg 1 _ _ _ _ (by decide) (fun Q' hQ'=>?_);simp only[Xta,Xtz];go_wp2;refine⟨by rfl,⟨fun _=>⟨_,_,rfl,q0⟩,fun _=>⟨_,_,rfl,r0⟩,trivial⟩,?_⟩;clear q0 r0;generalize wr.drew=w4 at*;clear HGP HB;go_wp2_with fail;have gW:=Lt (∀W,W.heap[S+1]?=some (.cells #[.slice AN i cN,.slice none 0 0,.slice none 0 0] 25 (0,0))->Below w.heap.size w W->W.cell? ⟨S+1,0,none⟩=some (.slice AN i cN)/\W.cell? ⟨b,off+i*2,none⟩=some (.string x)) (fun W h1 h2=>⟨(Zq h1).1,HR0.o W h2⟩);have Ul:=Lh (gW.o w4.drew gV.o.box HBD.o.drew);refine Ny (fun w'=>w'.cell? ⟨S+1,0,none⟩=some (.slice AN i cN)/\w'.cell? ⟨b,off+i*2,none⟩=some (.string x)) [9] 11 (by kernel_rfl) rfl ?_;have HG5:=Lh (gV.o.below Ui);have HB5:=Lh HBD.o.drew;generalize w4.drew=w5 at*;clear gV HBD;refine Rh 0 (.pointer (some ⟨S+1,0,none⟩)) rfl (by kernel_rfl) rfl (fun wq=>by go_simp) Ul.o ?_;(conv in Act.put _ _ _=>simp[Act.put]);refine jT 1 (.slice AN i cN) rfl (by kernel_rfl) rfl (fun wq Ri=>Kc rfl rfl (Vs (e:=9) (by kernel_rfl) Ri.1)) Ul.o ?_;(conv in Act.put _ _ _=>simp[Act.put]);refine Rh 2 (.slice (some ⟨b,off,none⟩) k c1) rfl (by kernel_rfl) rfl (fun wq=>by go_simp) Ul.o ?_;(conv in Act.put _ _ _=>simp[Act.put]);refine Rh 3 (.int .i64 i) rfl (by kernel_rfl) rfl (fun wq=>by go_simp) Ul.o ?_;(conv in Act.put _ _ _=>simp[Act.put]);refine Rh 4 (.pointer (some ⟨b,off+i*2,none⟩)) rfl (by kernel_rfl) rfl (fun wq=>by go_simp) Ul.o ?_;(conv in Act.put _ _ _=>simp[Act.put]);refine Rh 5 (.pointer (some ⟨b,off+i*2,none⟩)) rfl (by kernel_rfl) rfl (fun wq=>by go_simp) Ul.o ?_;(conv in Act.put _ _ _=>simp[Act.put]);refine jT 6 (.string x) rfl (by kernel_rfl) rfl (fun wq Ri=>Kc rfl rfl (Bx (by kernel_rfl) Ri.2)) Ul.o ?_;(conv in Act.put _ _ _=>simp[Act.put]);have HB9:=Lh ((Xr w5.heap.size w5).alloc (Yb _) (.cells #[.string x] 9));have Ea:=Lh (Xn w5 (.cells #[.string x] 9));have rV:=Lt (w5.heap.size+1=(w5.alloc (.cells #[.string x] 9)).heap.size) ((Xs _ _).symm);refine Jf (i:=7) (by kernel_rfl) rfl (fun Q' hQ'=>?_);go_wp2_with fail;generalize w5.alloc (.cells #[.string x] 9)=w9 at*;have HG9:=Lh (HG5.o.below HB9.o);have qcG:=Lh (HB5.o.trans (HB9.o.mono HB5.o.size));refine⟨iP (gW.o w9 HG9.o.box qcG.o),?_⟩;have aT:=HG9.o.names;rw[kB.o]at aT;refine Jf (i:=8) (by kernel_rfl) rfl (fun Q' hQ'=>?_);refine Zy (m:=1) kG rfl rfl rfl rfl aT (Rd.row (B:=w9.heap.size) Ea.o (by rw[<-rV.o];exact Yf _)) rfl (by simp[Value.oneCell']) (by simp only[maxLen];omega) (by omega) HG9.o.lt ?_;intro yn Iq hown hg _ _;obtain⟨A8,c8,dC,_,_⟩:=Zp hown;subst dC;have HG12:=Lh (GrP.snoc (T:=Wt x) HG9.o (by rw[kB.o];rw[show wv (Wt x)=.string x from congrArg Value.string (Dp x)];exact hown) hg);rw[<-aj.o]at HG12;have mO:=Lh (Zs aT hg HG9.o.box (by decide));have pH:=Lh (Zr qcG.o hg aT (by have:=HSE.o;omega) qcG.o.size);have HB12:=Lh (pH.o.setCell (p:=⟨S+1,0,none⟩) (by show w.heap.size<=S+1;have:=HSE.o;omega) (.slice A8 (i+1) c8));clear hown hg aT;(conv in Act.put _ _ _=>simp[Act.put]);refine hQ' _ _ ⟨iP (gW.o Iq mO.o pH.o),?_⟩;have q2:=(Zq mO.o).1;have f2:Iq.frozen? ⟨S+1,0,none⟩=false:=by simp[World.frozen?,mO.o]
  clear Ul gW HG5 HB5 HG9 qcG HB9 Ea rV;refine Jf (i:=9) (by kernel_rfl) rfl (fun Q' hQ'=>?_);go_wp2_with fail;refine⟨Km (by kernel_rfl),?_⟩;refine Jf (i:=10) (by kernel_rfl) rfl (fun Q' hQ'=>?_);go_wp2_with fail;refine⟨Km (by kernel_rfl),?_⟩;refine Gi (by kernel_rfl) ?_ _;clear q2 f2 mO pH;go_wp2;go_roundw;exact⟨i+1,_,by omega,by go_num,HG12.o,HNDN.o,HB12.o⟩;simp[intOf];omega
 as_aux_lemma =>
 obtain rfl:i=k:=by omega
 have HTK:=Lt (l.take i=l) (Qd (by rw[<-HN.o];exact Yb _));rw[HTK.o]at HGP HND HTS kB;have HGM:=Lh (HGP.o.done HTS.o);obtain⟨B0,hB0⟩:=Xe wr.heap.size;have HGM':=Lt (mP wr S (.slice AN i cN) (.slice none 0 0) (.slice none 0 0) B0 wr.heap.size (Jy l) [] [] []) (hB0 ▸ HGM.o);have HGF:=Lh (qN HG.o);have HE0:=Lt (Vg (Jy l) 0 [] [] l=Vg (Jy l) 0 [] [] (l.drop 0)) (rfl);have HR0:=Lt (([]:List Jj).length=Dn (l.take 0)) (rfl);have HT0:=Lt (ni []) (fun t ht=>by cases ht);clear hB0 HGM HGP HTK Jl hi;go_wp2_with fail;go_loopw [9] (fun v9 wq=>∃(j:Nat)(ts:List Wd)(rs:List Jj)(vT vR:Value)(css:List (List Value)),j<=i/\v9=.int .i64 j/\ts.length<=64*rs.length/\rs.length<=4096/\Hid (rs.length=Dn (l.take j))/\Hid (Vg (Jy l) 0 [] [] l=Vg (Jy l) j ts rs (l.drop j))/\Hid (ni ts)/\Hid (mP wq S (.slice AN i cN) vT vR B0 wq.heap.size (Jy l) ts rs css)/\Hid (Below w.heap.size w wq)) (fun v9 _=>i-(intOf v9).toNat);exact⟨0,[],[],_,_,[],by omega,rfl,by simp,by simp,HR0.o,HE0.o,HT0.o,HGM'.o,HB.o⟩;clear HR0 HE0 HT0 HGM' HB;obtain⟨j,ts,rs,vT,vR,css,hj,rfl,htr,hr4,qbZ,HEQ,HTS,HGM,HB⟩:=hrel;by_cases Jl:j<i
 .as_aux_lemma =>
  have Mw:j<l.length:=by rw[<-HN.o];exact Jl
  obtain⟨b,off,cs,hA1,_,ez,Ja,Zn⟩:=(HL.o w (Xr _ _)).get Mw (by decide);subst hA1;obtain⟨v2,rfl,_,Mo⟩:=Oz Ja;obtain⟨A2,c2,rfl,Ct,jW⟩:=Mo.form;unfold maxLen at jW;have Sr:=Zn 1 _ rfl;simp only[show ut.size=2 from rfl,<-Yy]at Sr;have HST:=Lh (vY (ns:=Jy l) (ts:=ts) (rs:=rs) Mw);have HAS:=Lh (aA l Mw);have zhD:=Lh (xk l (j+1));have qzH:=Lh (HLN.o l[j] (Qg Mw)).2;have HGX:=Lh (HGF.o.1 l[j] (Qg Mw));clear Zn Ja;generalize l[j]=x at*;obtain⟨nm,al⟩:=x;simp only at Sr HST HAS qzH HGX Mo Ct;obtain⟨p,hp⟩:=Xe al.length;rw[<-hp]at Ct Sr Mo HAS;have HSL:=Lt (Je (Tw rP) w w.heap.size (.slice A2 p c2) al) (Mo);have HR1:=Lt (∀W,Below w.heap.size w W->W.cell? ⟨b,off+j*2+1,none⟩=some (.slice A2 p c2)) (fun W hb=>(hb.cell (p:=⟨b,off+j*2+1,none⟩) ez).trans Sr);have HP:=Lh hp;clear hp Mw Mo Sr;have HEQ4:=Lt (Vg (Jy l) 0 [] [] l=match Ic (Jy l) (j:Int) ts rs (al.drop 0)with|none=>none|some (Cg,ts')=>Vg (Jy l) (j+1) ts' Cg (l.drop (j+1))) (HEQ.o.trans HST.o)
  have HR4:=Lt (rs.length=Dn (l.take j)+0) (qbZ.o);clear HEQ HST qbZ;go_wp2_with fail;go_loopw [10] (fun v10 wq=>∃(k:Nat)(ts:List Wd)(rs:List Jj)(vT vR:Value)(css:List (List Value)),k<=p/\v10=.int .i64 k/\ts.length<=64*rs.length/\rs.length<=4096/\Hid (rs.length=Dn (l.take j)+k)/\Hid (Vg (Jy l) 0 [] [] l=match Ic (Jy l) (j:Int) ts rs (al.drop k)with|none=>none|some (Cg,ts')=>Vg (Jy l) (j+1) ts' Cg (l.drop (j+1)))/\Hid (ni ts)/\Hid (mP wq S (.slice AN i cN) vT vR B0 wq.heap.size (Jy l) ts rs css)/\Hid (Below w.heap.size w wq)) (fun v10 _=>p-(intOf v10).toNat)
  exact⟨0,ts,rs,vT,vR,css,by omega,rfl,htr,hr4,HR4.o,HEQ4.o,HTS.o,HGM.o,HB.o⟩;clear HR4 HEQ4 HTS HGM HB htr hr4;clear ts rs vT vR css;obtain⟨k,ts,rs,vT,vR,css,hk,rfl,htr,hr4,HR4,HEQ4,HTS,HGM,HB⟩:=hrel;have r1:=HR1.o wr HB.o;by_cases Du:k<p
  .as_aux_lemma =>
   have hka:k<al.length:=by rw[<-HP.o];exact Du
   obtain⟨b7,o7,cs,hA2,_,oI,Ja,Zn⟩:=HSL.o.get hka (by decide);subst hA2;obtain⟨v7,rfl,hs7⟩:=Ja;obtain⟨A7,c7,rfl,hl7,mz⟩:=hs7.form;unfold maxLen at mz;have ey:=Zn 0 _ rfl;simp only[show (Tw rP).size=1 from rfl,Ys,Yq]at ey;have HST:=Lh (ib (ns:=Jy l) (ts:=ts) (rs:=rs) (i:=(j:Int)) hka);have HGA:=Lh (HGX.o al[k] (Qg hka));have zdJ:Je rP w w.heap.size (.slice A7 al[k].length c7) al[k]:=hs7;clear Zn hs7;generalize al[k]=a at*;clear hka;have hr5:rs.length+1<=4096:=by have h1:=HR4.o;have h2:=HAS.o;have h3:=zhD.o;have h4:=HGF.o.2.1;omega
   obtain⟨q,hq⟩:=Xe a.length;rw[<-hq]at ey HGA hl7 zdJ;have HS7:=Lh zdJ;have HC7:=Lt (∀W,Below w.heap.size w W->W.cell? ⟨b7,o7+k,none⟩=some (.slice A7 q c7)) (fun W hb=>(hb.cell (p:=⟨b7,o7+k,none⟩) oI).trans ey);have HQQ:=Lh hq;clear hq ey zdJ;have qxD:=HGA.o;obtain⟨KR,hKR⟩:=Xe wr.heap.size;have Bf:Below wr.heap.size wr (wr.alloc (.cells #[.int .i64 j,.slice none 0 0] 63)):=(Xr _ _).alloc (Yb _) _;have HGM1:=Lh (HGM.o.below Bf);have HB1':=Lh (HB.o.trans (Bf.mono HB.o.size));have HRW0:=Lh (Xn wr (.cells #[.int .i64 j,.slice none 0 0] 63));rw[<-hKR]at HRW0 HGM1;have HSK:=Lh (show S+1<KR/\w.heap.size<=KR by have h1:=HGM.o.lt;have h2:=HB.o.size;omega);have nj:=Lh (show vR.ownBlock≠some KR from fun e=>by
    rcases HGM.o.rules.2 with ⟨h0,_⟩|⟨g',cap,cur,h0,_,hh,_⟩
    .rw[h0]at e;simp[Value.ownBlock]at e
    rw[h0]at e
    have e:g'=KR:=by simpa[Value.ownBlock]using e
    have:=(gl hh)
    omega)
   clear Bf;go_wp2_with fail;rw[<-hKR];clear hKR r1;generalize wr.alloc (.cells #[.int .i64 j,.slice none 0 0] 63)=w2 at*;have HOW0:=Lt (w2.ownsRow (KR+1) 3 1 (.slice none 0 0) ([]:List Int).length (([]:List Int).map (Value.int .i64))) (Za _ _ _ _);have HBD0:=Lt (∀s∈([]:List Int),-9223372036854775808<=s/\s<=9223372036854775807) (fun s hs=>by cases hs);have HAQ0:=Lt (Fn (Jy l) ts [] a=Fn (Jy l) ts [] (a.drop 0)) (rfl);clear HGM HB;go_loopw [12] (fun v12 wq=>∃(m:Nat)(r:List Int)(ts':List Wd)(bO vr:Value),m<=q/\v12=.int .i64 m/\r.length=m/\ts'.length<=ts.length+m/\Hid (Fn (Jy l) ts [] a=Fn (Jy l) ts' r (a.drop m))/\Hid (ni ts')/\Hid (mP wq S (.slice AN i cN) bO vR B0 KR (Jy l) ts' rs css)/\Hid (wq.heap[KR]?=some (.cells #[.int .i64 j,vr] 63 (0,0)))/\Hid (wq.ownsRow (KR+1) 3 1 vr r.length (r.map (Value.int .i64)))/\Hid (∀s∈r,-9223372036854775808<=s/\s<=9223372036854775807)/\Hid (Below w.heap.size w wq)) (fun v12 _=>q-(intOf v12).toNat);exact⟨0,[],ts,vT,_,by omega,rfl,rfl,by omega,HAQ0.o,HTS.o,HGM1.o,HRW0.o,HOW0.o,HBD0.o,HB1'.o⟩;clear HAQ0 HOW0 HBD0 HGM1 HRW0 HB1' HTS;obtain⟨m,r,ts',bO,vr,hm,rfl,hrm,htm,HAQ,HTS,HGM,HRW,HOW,HBD,HB⟩:=hrel;have r1:=HR1.o wr HB.o;have c7':=HC7.o wr HB.o;by_cases hmq:m<q
   .as_aux_lemma =>
    have hma:m<a.length:=by rw[<-HQQ.o];exact hmq
    obtain⟨b9,o9,cs,hA7,_,dD,Ja,Zn⟩:=HS7.o.get hma (by decide);subst hA7;obtain⟨rfl,qxM⟩:=fm Ja;have c0:=Zn 0 _ rfl;have c1':=Zn 1 _ rfl;simp only[show rP.size=2 from rfl,Yq,<-Yy]at c0 c1';have np:=Lh (show Fn (Jy l) ts' r (a.drop m)=match Ok (Jy l) ts' a[m]with|none=>none|some (s,ts'')=>Fn (Jy l) ts'' (r++[s]) (a.drop (m+1)) by rw[Ql hma];rfl)
    clear Zn Ja;obtain⟨it,jY⟩:=Xe (a[m]);rw[<-jY]at c0 c1' np qxM;clear jY hma;obtain⟨bo,x⟩:=it;simp only at c0 c1' qxM;replace c0:=(HB.o.cell (p:=⟨b9,o9+m*2,none⟩) dD).trans c0;replace c1':=(HB.o.cell (p:=⟨b9,o9+m*2+1,none⟩) dD).trans c1';have zzW:=Lh qxM;clear qxM;obtain⟨AT,cT,hvT,hT1,hT2⟩:=Zp HGM.o.terms;subst hvT;obtain⟨Ar,cr,hvr,Sr,hr2⟩:=Zp HOW.o;subst hvr;unfold maxLen at hT2 hr2;obtain⟨KI,hKI⟩:=Xe wr.heap.size;have Jd:Below wr.heap.size wr (wr.alloc (.cells #[.bool bo,.string x] 107)):=(Xr _ _).alloc (Yb _) _;have HX2:=Lh (Xn wr (.cells #[.bool bo,.string x] 107));rw[<-hKI]at HX2;have HGM2:=Lh (HGM.o.below Jd);have Oc:=Lh ((Jd.block KR (gl HRW.o)).trans HRW.o);have mc:=Lh (Jc HOW.o Jd);have HB2:=Lh (HB.o.trans (Jd.mono HB.o.size));clear Jd;have HFX:=Lh (kn ts' x);have HFN:=Lh (kn (Jy l) x);have zzG:=Lh (fun(W:World)(hg:Je Mi W W.heap.size (.slice AN i cN) ((Jy l).map Jp))=>Hr (.slice AN i cN) ((Jy l).map Jp) x W hg);obtain⟨tn,htn⟩:=Xe ts'.length;have znF:=Lh (fun(W:World)(hg:Je Mi W W.heap.size (.slice AT ts'.length cT) (ts'.map Jp))=>Hr (.slice AT ts'.length cT) (ts'.map Jp) x W hg);rw[<-htn]at htm hT1 HGM2 znF;rw[hrm]at Sr Oc mc;have HTN:=Lh htn;have HRM:=Lh hrm;clear htn hrm HGM HRW HOW HB;have zuZ:=List.idxOf_le_length (l:=Jy l) (a:=Wt x);have zuY:=List.idxOf_le_length (l:=ts') (a:=Wt x);rw[kB.o]at zuZ;rw[<-HTN.o]at zuY;have htn6:tn<=1048576:=by omega
    cases bo with
    |true =>
     rw[qmV x]at np;go_wp2_with (refine Zv (some 127) rfl ?_);rw[<-hKI];clear hKI c0 c1' r1 c7';refine Stop.go ?_;generalize wr.alloc (.cells #[.bool true,.string x] 107)=w3 at*;obtain⟨k0,k1⟩:=Kx HX2.o;obtain⟨q0,q1,q2⟩:=Zq HGM2.o.box;have HFD:=Lh (znF.o w3 (by exact (HGM2.o.uT HTS.o).sl));by_cases Uh:Wt x∈ts'
     .rw[HFX.o,if_pos Uh]at HFD;rw[if_pos Uh]at np;clear Uh;generalize ts'.idxOf (Wt x)=ix at*;go_wp2_with fail;refine HFD.o.mono ?_;rintro e w4 ⟨rfl,rfl⟩;clear k0 k1 q0 q1 q2;have HAQ':=Lt (Fn (Jy l) ts [] a=Fn (Jy l) ts' (r++[-1-(ix:Int)]) (a.drop (m+1))) (HAQ.o.trans np.o);have mI:=Lh (show -9223372036854775808<=-1-(ix:Int)/\-1-(ix:Int)<=9223372036854775807 by omega);obtain⟨r0,r1⟩:=Kx Oc.o;have oI:Below w3.heap.size w3 (w3.alloc (.cells #[.int .i64 (-1-(ix:Int))] 3)):=(Xr _ _).alloc (Yb _) _;have HN7:=Lh (Xn w3 (.cells #[.int .i64 (-1-(ix:Int))] 3));have HZ7:=Lh (Xs w3 (.cells #[.int .i64 (-1-(ix:Int))] 3));have ye:=Lh (HGM2.o.below oI);have mJ:=Lh ((oI.block KR (gl Oc.o)).trans Oc.o);have Pk:=Lh (Jc mc.o oI);have HB7:=Lh (HB2.o.trans (oI.mono HB2.o.size));have HKX:=Lt (KR<w3.heap.size) ((gl Oc.o));clear oI;go_wp2_with (at_builtin;refine Zy (m:=1) La rfl rfl rfl rfl Pk.o (Rd.row (B:=w3.heap.size+1) HN7.o (Yf _)) rfl (by simp[Value.oneCell']) ?a163 ?a1by ?a1base ?_)
      case a163=>simp only[maxLen];omega
      case a1by=>omega
      case a1base=>have h1:=HKX.o;first|omega|(rw[HZ7.o];omega)
      intro vr8 w8 Wk bD _ _;obtain⟨A8,c8,dC,_,_⟩:=Zp Wk;subst dC;have yd:=Lh (ye.o.ints Pk.o bD (Yi KR));have HRW8:=Lh (Zs Pk.o bD mJ.o (by decide));have HB8:=Lh (Zr HB7.o bD Pk.o (by have:=HSK.o;omega) HB7.o.size);have q8:=(Kx HRW8.o).2;have f8:w8.frozen? ⟨KR,1,none⟩=false:=by simp[World.frozen?,HRW8.o]
      have HRW9:=Lh (Kq (k:=1) HRW8.o (.slice A8 (m+1) c8));have HGM9:=Lh (yd.o.rule (k:=1) HRW8.o nj.o (.slice A8 (m+1) c8));have HB9:=Lh (HB8.o.setCell (p:=⟨KR,1,none⟩) (by show w.heap.size<=KR;exact HSK.o.2) (.slice A8 (m+1) c8));have HOW9:=Lt ((w8.setCell ⟨KR,1,none⟩ (.slice A8 (m+1) c8)).ownsRow (KR+1) 3 1 (.slice A8 (m+1) c8) (r++[-1-(ix:Int)]).length ((r++[-1-(ix:Int)]).map (Value.int .i64))) (by
       rw[Qe,Qf,HRM.o,Qt]
       exact Zl Wk (Yf KR) _)
      have HBD9:=Lh (show ∀y∈r++[-1-(ix:Int)],-9223372036854775808<=y/\y<=9223372036854775807 from fun y hy=>by
       rcases Qh.1 hy with hy|hy
       .exact HBD.o y hy
       rw[Qi.1 hy];exact mI.o)
      have HRL:=Lh (show (r++[-1-(ix:Int)]).length=m+1 by rw[Qe,Qf,HRM.o]);clear Wk bD HRW8 yd HB8 r0 r1 mJ Pk ye HN7;go_wp2;go_roundw;exact⟨m+1,r++[-1-(ix:Int)],ts',_,_,by omega,by go_num,HRL.o,by rw[<-HTN.o];omega,HAQ'.o,HTS.o,HGM9.o,HRW9.o,HOW9.o,HBD9.o,HB9.o⟩;simp[intOf];omega
     rw[HFX.o,if_neg Uh]at HFD;rw[if_neg Uh,<-HTN.o]at np;clear Uh;go_wp2_with fail;refine HFD.o.mono ?_;rintro e w4 ⟨rfl,rfl⟩;have hb4:Below w3.heap.size w3 (w3.alloc (.cells #[.string x] 9)):=(Xr _ _).alloc (Yb _) _;have HN4:=Lh (Xn w3 (.cells #[.string x] 9));have HZ4:=Lh (Xs w3 (.cells #[.string x] 9));have HGM4:=Lh (HGM2.o.below hb4);have qyW:=Lh ((hb4.block KR (gl Oc.o)).trans Oc.o);have HX4:=Lh ((hb4.block KI (gl HX2.o)).trans HX2.o);have xz:=Lh (Jc mc.o hb4);have HB4:=Lh (HB2.o.trans (hb4.mono HB2.o.size));have Rb:=HGM4.o.terms;rw[<-HTN.o]at Rb;clear hb4;go_wp2_with (at_builtin;refine Zy (m:=1) kG rfl rfl rfl rfl Rb (Rd.row (B:=w3.heap.size+1) HN4.o (Yf _)) rfl (by simp[Value.oneCell']) ?h63 ?hby ?hbase ?_)
     case h63=>simp only[maxLen];omega
     case hby=>omega
     case hbase=>first|exact HGM4.o.b0|(have:=HGM2.o.b0;omega)|(have:=HGM4.o.b0;rw[HZ4.o]at this;exact this)
     intro vT5 w5 Dl Lu _ _;obtain⟨A5,c5,hv5,_,_⟩:=Zp Dl;subst hv5;have HBX5:=Lh (Zs Rb Lu HGM4.o.box (by decide));have zyU:=Lh (Zs Rb Lu qyW.o (by decide));have zzD:=Lh (Vy xz.o Rb (by decide) Lu);have HB5:=Lh (Zr HB4.o Lu Rb (by have h1:=HGM4.o.lo;have h2:=HSE.o;omega) HB4.o.size);have HGM6:=Lh (HGM4.o.term (T:=Wt x) (by rw[<-HTN.o,show wv (Wt x)=.string x from congrArg Value.string (Dp x)];exact Dl) Lu);have q5:=(Zq HBX5.o).2.1;have f5:w5.frozen? ⟨S+1,1,none⟩=false:=by simp[World.frozen?,HBX5.o]
     have HRW6:=Lh (Vk (g:=S+1) (k:=1) zyU.o (by have:=HSK.o;omega) (.slice A5 (tn+1) c5));have zzC:=Lh (Kg zzD.o (Vt (ts:=[3]) (k:=1) HBX5.o (by decide) (.slice A5 (tn+1) c5)) (by simp));have HB6:=Lh (HB5.o.setCell (p:=⟨S+1,1,none⟩) (by show w.heap.size<=S+1;have:=HSE.o;omega) (.slice A5 (tn+1) c5));have HTS6:=Lh (show ni (ts'++[Wt x])from fun t ht=>by
      rcases Qh.1 ht with ht|ht
      .exact HTS.o t ht
      rw[Qi.1 ht,Dp];exact zzW.o)
     clear Dl Lu k0 k1 q0 q1 q2 HGM4 qyW HX4 xz HB4 Rb;go_wp2_with (refine Zv (some 146) rfl ?_);refine Stop.go ?_;clear q5 f5;generalize w5.setCell ⟨S+1,1,none⟩ (.slice A5 (tn+1) c5)=w6 at*;have HAQ':=Lt (Fn (Jy l) ts [] a=Fn (Jy l) (ts'++[Wt x]) (r++[-1-(tn:Int)]) (a.drop (m+1))) (HAQ.o.trans np.o);have mI:=Lh (show -9223372036854775808<=-1-(tn:Int)/\-1-(tn:Int)<=9223372036854775807 by omega);obtain⟨r0,r1⟩:=Kx HRW6.o;have oI:Below w6.heap.size w6 (w6.alloc (.cells #[.int .i64 (-1-(tn:Int))] 3)):=(Xr _ _).alloc (Yb _) _;have HN7:=Lh (Xn w6 (.cells #[.int .i64 (-1-(tn:Int))] 3));have HZ7:=Lh (Xs w6 (.cells #[.int .i64 (-1-(tn:Int))] 3));have ye:=Lh (HGM6.o.below oI);have mJ:=Lh ((oI.block KR (gl HRW6.o)).trans HRW6.o);have Pk:=Lh (Jc zzC.o oI);have HB7:=Lh (HB6.o.trans (oI.mono HB6.o.size));have HKX:=Lt (KR<w6.heap.size) ((gl HRW6.o));clear oI;go_wp2_with (at_builtin;refine Zy (m:=1) La rfl rfl rfl rfl Pk.o (Rd.row (B:=w6.heap.size+1) HN7.o (Yf _)) rfl (by simp[Value.oneCell']) ?a263 ?a2by ?a2base ?_)
     case a263=>simp only[maxLen];omega
     case a2by=>omega
     case a2base=>have h1:=HKX.o;first|omega|(rw[HZ7.o];omega)
     intro vr8 w8 Wk bD _ _;obtain⟨A8,c8,dC,_,_⟩:=Zp Wk;subst dC;have yd:=Lh (ye.o.ints Pk.o bD (Yi KR));have HRW8:=Lh (Zs Pk.o bD mJ.o (by decide));have HB8:=Lh (Zr HB7.o bD Pk.o (by have:=HSK.o;omega) HB7.o.size);have q8:=(Kx HRW8.o).2;have f8:w8.frozen? ⟨KR,1,none⟩=false:=by simp[World.frozen?,HRW8.o]
     have HRW9:=Lh (Kq (k:=1) HRW8.o (.slice A8 (m+1) c8));have HGM9:=Lh (yd.o.rule (k:=1) HRW8.o nj.o (.slice A8 (m+1) c8));have HB9:=Lh (HB8.o.setCell (p:=⟨KR,1,none⟩) (by show w.heap.size<=KR;exact HSK.o.2) (.slice A8 (m+1) c8));have HOW9:=Lt ((w8.setCell ⟨KR,1,none⟩ (.slice A8 (m+1) c8)).ownsRow (KR+1) 3 1 (.slice A8 (m+1) c8) (r++[-1-(tn:Int)]).length ((r++[-1-(tn:Int)]).map (Value.int .i64))) (by
      rw[Qe,Qf,HRM.o,Qt]
      exact Zl Wk (Yf KR) _)
     have HBD9:=Lh (show ∀y∈r++[-1-(tn:Int)],-9223372036854775808<=y/\y<=9223372036854775807 from fun y hy=>by
      rcases Qh.1 hy with hy|hy
      .exact HBD.o y hy
      rw[Qi.1 hy];exact mI.o)
     have HRL:=Lh (show (r++[-1-(tn:Int)]).length=m+1 by rw[Qe,Qf,HRM.o]);clear Wk bD HRW8 yd HB8 r0 r1 mJ Pk ye HN7;go_wp2;go_roundw;exact⟨m+1,r++[-1-(tn:Int)],(ts'++[Wt x]),_,_,by omega,by go_num,HRL.o,by rw[Qe,Qf,<-HTN.o];omega,HAQ'.o,HTS6.o,HGM9.o,HRW9.o,HOW9.o,HBD9.o,HB9.o⟩;simp[intOf];omega
    |false =>
     rw[qmW x]at np;go_wp2_with (refine Zv (some 127) rfl ?_);rw[<-hKI];clear hKI c0 c1' r1 c7';refine Stop.go ?_;generalize wr.alloc (.cells #[.bool false,.string x] 107)=w3 at*;obtain⟨k0,k1⟩:=Kx HX2.o;obtain⟨q0,q1,q2⟩:=Zq HGM2.o.box;have HFD:=Lh (zzG.o w3 HGM2.o.slN);by_cases Uh:Wt x∈Jy l
     .rw[HFN.o,if_pos Uh]at HFD;rw[if_pos Uh]at np;clear Uh;generalize (Jy l).idxOf (Wt x)=ix at*;go_wp2_with fail;refine HFD.o.mono ?_;rintro e w4 ⟨rfl,rfl⟩;clear k0 k1 q0 q1 q2;have HAQ':=Lt (Fn (Jy l) ts [] a=Fn (Jy l) ts' (r++[(ix:Int)]) (a.drop (m+1))) (HAQ.o.trans np.o);have mI:=Lh (show -9223372036854775808<=(ix:Int)/\(ix:Int)<=9223372036854775807 by omega);obtain⟨r0,r1⟩:=Kx Oc.o;have oI:Below w3.heap.size w3 (w3.alloc (.cells #[.int .i64 ((ix:Int))] 3)):=(Xr _ _).alloc (Yb _) _;have HN7:=Lh (Xn w3 (.cells #[.int .i64 ((ix:Int))] 3));have HZ7:=Lh (Xs w3 (.cells #[.int .i64 ((ix:Int))] 3));have ye:=Lh (HGM2.o.below oI);have mJ:=Lh ((oI.block KR (gl Oc.o)).trans Oc.o);have Pk:=Lh (Jc mc.o oI);have HB7:=Lh (HB2.o.trans (oI.mono HB2.o.size));have HKX:=Lt (KR<w3.heap.size) ((gl Oc.o));clear oI;go_wp2_with (at_builtin;refine Zy (m:=1) La rfl rfl rfl rfl Pk.o (Rd.row (B:=w3.heap.size+1) HN7.o (Yf _)) rfl (by simp[Value.oneCell']) ?a363 ?a3by ?a3base ?_)
      case a363=>simp only[maxLen];omega
      case a3by=>omega
      case a3base=>have h1:=HKX.o;first|omega|(rw[HZ7.o];omega)
      intro vr8 w8 Wk bD _ _;obtain⟨A8,c8,dC,_,_⟩:=Zp Wk;subst dC;have yd:=Lh (ye.o.ints Pk.o bD (Yi KR));have HRW8:=Lh (Zs Pk.o bD mJ.o (by decide));have HB8:=Lh (Zr HB7.o bD Pk.o (by have:=HSK.o;omega) HB7.o.size);have q8:=(Kx HRW8.o).2;have f8:w8.frozen? ⟨KR,1,none⟩=false:=by simp[World.frozen?,HRW8.o]
      have HRW9:=Lh (Kq (k:=1) HRW8.o (.slice A8 (m+1) c8));have HGM9:=Lh (yd.o.rule (k:=1) HRW8.o nj.o (.slice A8 (m+1) c8));have HB9:=Lh (HB8.o.setCell (p:=⟨KR,1,none⟩) (by show w.heap.size<=KR;exact HSK.o.2) (.slice A8 (m+1) c8));have HOW9:=Lt ((w8.setCell ⟨KR,1,none⟩ (.slice A8 (m+1) c8)).ownsRow (KR+1) 3 1 (.slice A8 (m+1) c8) (r++[(ix:Int)]).length ((r++[(ix:Int)]).map (Value.int .i64))) (by
       rw[Qe,Qf,HRM.o,Qt]
       exact Zl Wk (Yf KR) _)
      have HBD9:=Lh (show ∀y∈r++[(ix:Int)],-9223372036854775808<=y/\y<=9223372036854775807 from fun y hy=>by
       rcases Qh.1 hy with hy|hy
       .exact HBD.o y hy
       rw[Qi.1 hy];exact mI.o)
      have HRL:=Lh (show (r++[(ix:Int)]).length=m+1 by rw[Qe,Qf,HRM.o]);clear Wk bD HRW8 yd HB8 r0 r1 mJ Pk ye HN7;go_wp2;go_roundw;exact⟨m+1,r++[(ix:Int)],ts',_,_,by omega,by go_num,HRL.o,by rw[<-HTN.o];omega,HAQ'.o,HTS.o,HGM9.o,HRW9.o,HOW9.o,HBD9.o,HB9.o⟩;simp[intOf];omega
     rw[HFN.o,if_neg Uh]at HFD;rw[if_neg Uh]at np;clear Uh;go_wp2_with fail;refine HFD.o.mono ?_;rintro e w4 ⟨rfl,rfl⟩;clear k0 k1 q0 q1 q2;have Jw:=Lh (kS HG.o HND.o (by rw[HEQ4.o,HST.o,HAQ.o,np.o]));have yE:=Lh HGM2.o.res;go_wp2_with (refine Zv none rfl ?_);refine Stop.go (Zo rfl 25 rfl rfl rfl (Vp yE.o rfl rfl rfl rfl) ?_);have Ej:=Lh (Zj _ _ _ _ _ _ yE.o:(w3.setRow S [.slice none 0 0,.slice none 0 0,.slice none 0 0].toArray).heap[S]?=_);have Do:=Lh (Zk HB2.o (Yj HSE.o.symm) [.slice none 0 0,.slice none 0 0,.slice none 0 0].toArray);generalize w3.setRow S [.slice none 0 0,.slice none 0 0,.slice none 0 0].toArray=wz at*;(conv in Act.put _ _ _=>simp[Act.put]);go_wp2_with fail;refine Me (g:=S) rfl rfl rfl rfl Ej.o ?_;exact Ex.bad Jw.o Do.o
   as_aux_lemma =>
   obtain rfl:m=q:=by omega
   have jaU:=Lh (show Fn (Jy l) ts [] a=some (r,ts') by
    rw[HAQ.o,Xm (by rw[<-HQQ.o];exact Yb _)];rfl)
   have HEQ6:=Lh (show Vg (Jy l) 0 [] [] l=match Ic (Jy l) (j:Int) ts' (rs++[((j:Int),r)]) (al.drop (k+1))with|none=>none|some (Cg,ts')=>Vg (Jy l) (j+1) ts' Cg (l.drop (j+1)) by rw[HEQ4.o,HST.o,jaU.o])
   have HR6:=Lh (show (rs++[((j:Int),r)]).length=Dn (l.take j)+(k+1) by rw[Qe,Qf,HR4.o];omega);have ht6:ts'.length<=64*(rs++[((j:Int),r)]).length:=by rw[Qe,Qf];omega
   have hr6:(rs++[((j:Int),r)]).length<=4096:=by rw[Qe,Qf];exact hr5
   obtain⟨Ar,cr,hvr,Sr,hr2⟩:=Zp HOW.o;subst hvr;obtain⟨AR,cR,hvR,hR1,hR2⟩:=Zp HGM.o.rules;subst hvR;unfold maxLen at hr2 hR2;obtain⟨r0,r1'⟩:=Kx HRW.o;obtain⟨q0,q1,q2⟩:=Zq HGM.o.box;have HXR:=Lt (∀W,Below wr.heap.size wr W->Rl.rep W W.heap.size [.int .i64 j,.slice Ar r.length cr] ((j:Int),r)) (fun W hb=>⟨[.int .i64 j],[.slice Ar r.length cr],rfl,⟨rfl,by omega,by omega⟩,_,rfl,rz (Jc HOW.o hb) HBD.o⟩);have hb4:Below wr.heap.size wr (wr.alloc (.cells #[.int .i64 j,.slice Ar r.length cr] 63)):=(Xr _ _).alloc (Yb _) _;have HN4:=Lh (Xn wr (.cells #[.int .i64 j,.slice Ar r.length cr] 63));have HZ4:=Lh (Xs wr (.cells #[.int .i64 j,.slice Ar r.length cr] 63));have HGM4:=Lh (HGM.o.below hb4);have HX4:=Lh (HXR.o _ hb4);have HB4:=Lh (HB.o.trans (hb4.mono HB.o.size));obtain⟨z,hz⟩:=Xe rs.length;have Rb:=HGM4.o.rules;rw[<-hz]at Rb hr5 q2 hR1;have HZE:=Lh hz;have hB0w:=HGM.o.b0;clear hb4 hz HRW HOW;rw[hrm]at HX4 HN4 HZ4 Rb HB4 HGM4 r1' Sr;go_wp2_with (at_builtin;refine Zy (m:=1) Cf rfl rfl rfl rfl Rb (Rd.row (B:=wr.heap.size+1) HN4.o (Yf _)) rfl (by simp[Value.oneCell']) ?h63 ?hby ?hbase ?_)
   case h63=>simp only[maxLen];omega
   case hby=>omega
   case hbase=>first|exact HGM4.o.b0|omega|(have:=HGM4.o.b0;rw[HZ4.o]at this;exact this)
   intro vR5 w5 Dl Lu _ _;obtain⟨A5,c5,hv5,_,_⟩:=Zp Dl;subst hv5;have HBX5:=Lh (Zs Rb Lu HGM4.o.box (by decide));have HGM6:=Lh (mP.snoc HGM4.o HX4.o (by rw[<-HZE.o];exact Dl) (by rw[<-HZE.o];exact Lu));have HB5:=Lh (Zr HB4.o Lu Rb (by have h1:=HGM4.o.lo;have h2:=HSE.o;omega) HB4.o.size);have q5:=(Zq HBX5.o).2.2;have f5:w5.frozen? ⟨S+1,2,none⟩=false:=by simp[World.frozen?,HBX5.o]
   have HB6:=Lh (HB5.o.setCell (p:=⟨S+1,2,none⟩) (by show w.heap.size<=S+1;have:=HSE.o;omega) (.slice A5 (z+1) c5));clear Dl Lu Rb q0 q1 q2 r0 r1' r1 c7' HGM HGM4 HX4 HN4;go_wp2;go_roundw;exact⟨k+1,ts',_,_,_,_,by omega,by go_num,ht6,hr6,HR6.o,HEQ6.o,HTS.o,HGM6.o,HB6.o⟩;simp[intOf];omega
  obtain rfl:k=p:=by omega
  have HEQ5:=Lh (show Vg (Jy l) 0 [] [] l=Vg (Jy l) (j+1) ts rs (l.drop (j+1)) by
   rw[HEQ4.o,Xm (by rw[<-HP.o];exact Yb _)];rfl)
  have HR5:=Lh (show rs.length=Dn (l.take (j+1)) by rw[HR4.o,HAS.o]);go_wp2;go_roundw;exact⟨j+1,ts,rs,vT,vR,css,by omega,by go_num,htr,hr4,HR5.o,HEQ5.o,HTS.o,HGM.o,HB.o⟩;simp[intOf];omega
 as_aux_lemma =>
 obtain rfl:j=i:=by omega
 have HLR:=Lh (show Vg (Jy l) 0 [] [] l=some (rs,ts) by
  rw[HEQ.o,Xm (by rw[<-HN.o];exact Yb _)];rfl)
 have Jw:=Lh (kR HG.o HND.o HLR.o);rw[<-HN.o]at Jw;obtain⟨AT,cT,hvT,hT1,hT2⟩:=Zp HGM.o.terms;subst hvT;obtain⟨AR,cR,hvR,hR1,hR2⟩:=Zp HGM.o.rules;subst hvR;unfold maxLen at hT2 hR2;have HUN:=Lt (Ae fH 9 wr wr.heap.size (.slice AN j cN) ((Jy l).map Jp)) (HGM.o.names.more HGM.o.b0);have HUT:=Lh (HGM.o.uT HTS.o);have HUR:=Lh HGM.o.uR;have ig:=Lh HGM.o.uR.sl;have Fc:=Lh HGM.o.box;have jP:=Lh HGM.o.res;obtain⟨t,ht⟩:=Xe ts.length;obtain⟨q,hq⟩:=Xe rs.length;rw[<-ht]at htr hT1 Jw HUT Fc;rw[<-hq]at htr hr4 hR1 HUR ig Fc;clear ht hq HGM HEQ qbZ;obtain⟨q0,q1,q2⟩:=Zq Fc.o;by_cases zW:256<j+t
 .have g1:decide ((256:Int)<(j:Int)+(t:Int))=true:=by simp;omega
  have Sl:=Lt (Jn l=(([],[],[]),19)) (Jw.o.trans (if_pos zW));clear zW;go_wp2_with (refine Zv (some 174) rfl ?_);refine Stop.go ?_;go_wp2_with (refine Zv none rfl ?_);refine Stop.go (Zo rfl 25 rfl rfl rfl (Vp jP.o rfl rfl rfl rfl) ?_);have Ej:=Lh (Zj _ _ _ _ _ _ jP.o:(wr.setRow S [.slice none 0 0,.slice none 0 0,.slice none 0 0].toArray).heap[S]?=_);have Do:=Lh (Zk HB.o (Yj HSE.o.symm) [.slice none 0 0,.slice none 0 0,.slice none 0 0].toArray);generalize wr.setRow S [.slice none 0 0,.slice none 0 0,.slice none 0 0].toArray=wz at*;(conv in Act.put _ _ _=>simp[Act.put]);go_wp2_with fail;refine Me (g:=S) rfl rfl rfl rfl Ej.o ?_;exact Ex.bad Sl.o Do.o
 have g1:decide ((256:Int)<(j:Int)+(t:Int))=false:=by simp;omega
 have mK:=Lh (Jw.o.trans (if_neg zW));clear zW;go_wp2_with fail;refine (od AR q cR rs wr ig.o).mono ?_;rintro e w6 ⟨rfl,hb6⟩;have yE:=Lh ((hb6.block S (gl jP.o)).trans jP.o);have qkS:=Lh ((hb6.block (S+1) (gl Fc.o)).trans Fc.o);have HB6:=Lh (HB.o.trans (hb6.mono HB.o.size));clear q0 q1 q2;by_cases Te:rs.Nodup
 .have qtG:=Lh (show Jn l=((l.map fun x=>x.1,ts.map Jp,rs),0)from mK.o.trans (if_neg (fun e=>e Te)));rw[show decide (¬ rs.Nodup)=false from Yx fun e=>e Te];obtain⟨q0,q1,q2⟩:=Zq qkS.o;have HN6:=Lh (show Je Mi (w6.setRow S [.slice AN j cN,.slice AT t cT,.slice AR q cR].toArray) (w6.setRow S [.slice AN j cN,.slice AT t cT,.slice AR q cR].toArray).heap.size (.slice AN j cN) (l.map fun x=>x.1)from by
   have h1:=Ae.setRow ((HUN.o.keep (.of_below hb6)).more hb6.size) yE.o (by decide) [.slice AN j cN,.slice AT t cT,.slice AR q cR].toArray
   have e1:(Jy l).map Jp=l.map fun x=>x.1:=by
    unfold Jy
    rw[List.map_map]
    exact List.map_congr_left fun x _=>Dp x.1
   rw[e1]at h1
   exact h1)
  have HT6:=Lh (Ae.setRow ((HUT.o.keep (.of_below hb6)).more hb6.size) yE.o (by decide) [.slice AN j cN,.slice AT t cT,.slice AR q cR].toArray);have HR6:=Lh (Ae.setRow ((HUR.o.keep (.of_below hb6)).more hb6.size) yE.o (by decide) [.slice AN j cN,.slice AT t cT,.slice AR q cR].toArray);have Do:=Lh (Zk HB6.o (Yj HSE.o.symm) [.slice AN j cN,.slice AT t cT,.slice AR q cR].toArray);have HRW:=Lh (Zj _ _ _ _ _ _ yE.o:(w6.setRow S [.slice AN j cN,.slice AT t cT,.slice AR q cR].toArray).heap[S]?=_);clear hb6 Te;go_wp2_with (refine Zv none rfl ?_);refine Stop.go (Zo rfl 25 rfl rfl rfl (Vp yE.o rfl rfl rfl rfl) ?_);generalize w6.setRow S [.slice AN j cN,.slice AT t cT,.slice AR q cR].toArray=wz at*;(conv in Act.put _ _ _=>simp[Act.put]);go_wp2_with fail;refine Me (g:=S) rfl rfl rfl rfl HRW.o ?_;exact Ex.good qtG.o HN6.o HT6.o HR6.o Do.o
 have Sl:=Lt (Jn l=(([],[],[]),15)) (mK.o.trans (if_pos Te));rw[show decide (¬ rs.Nodup)=true from Yw Te];clear hb6 Te;go_wp2_with (refine Zv none rfl ?_);refine Stop.go (Zo rfl 25 rfl rfl rfl (Vp yE.o rfl rfl rfl rfl) ?_);have Ej:=Lh (Zj _ _ _ _ _ _ yE.o:(w6.setRow S [.slice none 0 0,.slice none 0 0,.slice none 0 0].toArray).heap[S]?=_);have Do:=Lh (Zk HB6.o (Yj HSE.o.symm) [.slice none 0 0,.slice none 0 0,.slice none 0 0].toArray);generalize w6.setRow S [.slice none 0 0,.slice none 0 0,.slice none 0 0].toArray=wz at*;(conv in Act.put _ _ _=>simp[Act.put]);go_wp2_with fail;refine Me (g:=S) rfl rfl rfl rfl Ej.o ?_;exact Ex.bad Sl.o Do.o
theorem uX(s:Int)(w:World)(h1:-1000<=s)(h2:s<=1000000):Calls Tryz.prog 88 #[.int .i64 s] w fun e w'=>e=.returned (.int .i64 (Fa s))/\w=w':=by
 by_cases hs:s<0
 .have d0:decide (s<0)=true:=by simpa using hs
  have HR:=Lh (show Fa s=-1-s by unfold Fa;rw[if_pos hs]);clear hs;go_enter Tryz.func88,Tryz.ntmps88;go_wp2;go_ret;exact⟨Kw (Gn HR.o.symm),rfl⟩
 have d0:decide (s<0)=false:=by simpa using hs
 have HR:=Lh (show Fa s=1000+s by unfold Fa;rw[if_neg hs]);clear hs;go_enter Tryz.func88,Tryz.ntmps88;go_wp2;go_ret;exact⟨Kw (Gn HR.o.symm),rfl⟩
theorem zF{a b:Jj}(h:a.1≠b.1):decide (Kt a b)=decide (a.1<b.1):=by
 apply decide_eq_decide.2;unfold Kt;constructor
 .rintro (h1|⟨h1,_⟩)
  .exact h1
  exact absurd h1 h
 exact fun h1=>.inl h1
theorem zG{a b:Jj}(h:a.1=b.1){p:Prop}[Decidable p](hp:Va a.2 b.2↔p):decide (Kt a b)=decide p:=by
 apply decide_eq_decide.2;unfold Kt;rw[<-hp];constructor
 .rintro (h1|⟨_,h1⟩)
  .omega
  exact h1
 exact fun h1=>.inr ⟨h,h1⟩
def lq(x:List Int):Prop:=∀s∈x,(-1000:Int)<=s/\s<=1000000
def mH(a b:Jj)(w:World)(e:Ending)(w':World):Prop:=e=.returned (.bool (decide (Kt a b)))/\Below w.heap.size w w'
theorem P_(v1 v2:Value)(l1 l2:Int)(x y:List Int)(w:World)(h1:Je Wg w w.heap.size v1 x)(h2:Je Wg w w.heap.size v2 y)(hx:lq x)(hy:lq y) :
  Calls Tryz.prog 38 #[.agg #[.int .i64 l1,v1],.agg #[.int .i64 l2,v2]] w (mH (l1,x) (l2,y) w):=by
 obtain⟨A1,c1,rfl,jZ,mY⟩:=h1.form;obtain⟨A2,c2,rfl,hb1,Jd⟩:=h2.form;unfold maxLen at mY Jd;have hB:Below w.heap.size w ((w.alloc (.cells #[.int .i64 l1,.slice A1 x.length c1] 63)).alloc (.cells #[.int .i64 l2,.slice A2 y.length c2] 63)):=((Xr _ _).alloc (Yb _) _).alloc (by rw[Xs];omega) _;have HG1:=Lh (Go.heap_alloc2_old w (.cells #[.int .i64 l1,.slice A1 x.length c1] 63) (.cells #[.int .i64 l2,.slice A2 y.length c2] 63));have HG2:=Lh (Go.heap_alloc2_new w (.cells #[.int .i64 l1,.slice A1 x.length c1] 63) (.cells #[.int .i64 l2,.slice A2 y.length c2] 63));have HB:=Lh hB;have H1:=Lh (h1.below hB);have H2:=Lh (h2.below hB);clear h1 h2 hB;have HX:=Lh hx;have HY:=Lh hy;clear hx hy;unfold mH;obtain⟨n,hn⟩:=Xe x.length;obtain⟨m,hm⟩:=Xe y.length;rw[<-hn]at H1 HG1 HG2 HB H2 jZ |-;rw[<-hm]at H2 HG1 HG2 HB H1 hb1 |-;have HN:=Lh hn;have HM:=Lh hm;clear hn hm;by_cases hl:l1=l2
 .have d0:(l1 != l2)=false:=by simp[hl]
  have HEQ:=Lh (fun (p:Prop) [Decidable p](hp:Va x y↔p)=>zG (a:=(l1,x)) (b:=(l2,y)) hl hp);clear hl;go_enter Tryz.func38,Tryz.ntmps38;go_wp2_with fail;generalize (w.alloc (.cells #[.int .i64 l1,.slice A1 n c1] 63)).alloc (.cells #[.int .i64 l2,.slice A2 m c2] 63)=w1 at*;have HRL:=Lt (Va x y↔Va (x.drop 0) (y.drop 0)) (Iff.rfl);have HB0:=Lh (Xr w1.heap.size w1);have jP:=Lt (w.heap.size+1<w1.heap.size) ((gl HG2.o));go_loopw [5] (fun v5 wr=>∃k:Nat,k<=n/\k<=m/\v5=.int .i64 k/\Hid (Va x y↔Va (x.drop k) (y.drop k))/\Hid (Below w1.heap.size w1 wr)) (fun v5 _=>n-(intOf v5).toNat);exact⟨0,by omega,by omega,rfl,HRL.o,HB0.o⟩;clear HRL HB0;obtain⟨k,gM,mU,rfl,HRL,HBW⟩:=hrel;have HBT:=Lh (HB.o.trans (HBW.o.mono (by have:=jP.o;omega)));have c11:wr.cell? ⟨w.heap.size,1,none⟩=some (.slice A1 n c1):=by rw[Zd _ _ _ _ _ _ ((HBW.o.block _ (by have:=jP.o;omega)).trans HG1.o)];rfl
  have c21:wr.cell? ⟨w.heap.size+1,1,none⟩=some (.slice A2 m c2):=Xc ((HBW.o.block _ jP.o).trans HG2.o) rfl;have H1R:=Lh (H1.o.below (HBW.o.mono (by have:=jP.o;omega)));have H2R:=Lh (H2.o.below (HBW.o.mono (by have:=jP.o;omega)));by_cases hkn:k<n
  .by_cases hkm:k<m
   .have hkx:k<x.length:=by rw[<-HN.o];exact hkn
    have hky:k<y.length:=by rw[<-HM.o];exact hkm
    obtain⟨b1,o1,cs1,rfl,_,_,Ev,Kr⟩:=H1R.o.get hkx (by decide);obtain⟨rfl,Lr,dB⟩:=Ev;have Nj:=Kr 0 _ rfl;clear Kr;obtain⟨b2,o2,cs2,rfl,_,_,Mv,Jr⟩:=H2R.o.get hky (by decide);obtain⟨rfl,sG,wF⟩:=Mv;have Uw:=Jr 0 _ rfl;clear Jr;simp only[show Wg.size=1 from rfl,Ys,Yq]at Nj Uw;have qX:=Lh (HX.o x[k] (Qg hkx));have HSY:=Lh (HY.o y[k] (Qg hky));have HST:=Lh (fun h:x[k]=y[k]=>HRL.o.trans (je hkx hky h));have HDF:=Lh (fun h:x[k]≠y[k]=>HRL.o.trans (jg hkx hky qX.o.1 HSY.o.1 h));generalize x[k]=a at*;generalize y[k]=b at*;by_cases Bg:a=b
    .have dab:(a != b)=false:=by simp[Bg]
     have HNX:=Lh (HST.o Bg);clear HST HDF Bg;have HBD:=Lh (HBW.o.drew);go_wp2;refine Text.wt (by kernel_rfl) fun Q' hQ'=>?_;go_wp2;refine⟨by rfl,?_⟩;go_wp2;go_roundw;exact⟨k+1,by omega,by omega,by go_num,HNX.o,HBD.o⟩;simp[intOf];omega
    have dab:(a != b)=true:=by simp[Bg]
    have HNX:=Lh (HEQ.o _ (HDF.o Bg));clear HST HDF Bg HEQ;have HBD:=Lt (Below w.heap.size w wr.drew) (HBT.o.drew);go_wp2;refine Text.wt (by kernel_rfl) fun Q' hQ'=>?_;go_wp2;refine⟨by rfl,?_⟩;go_wp2_with fail;have aq:=Lt (wr.drew.drew.cell? ⟨w.heap.size,1,none⟩=some (.slice (some ⟨b1,o1,none⟩) n c1)) (c11);have pG:=Lt (wr.drew.drew.cell? ⟨w.heap.size+1,1,none⟩=some (.slice (some ⟨b2,o2,none⟩) m c2)) (c21);have HC3:=Lt (wr.drew.drew.cell? ⟨b1,o1+k,none⟩=some (.int .i64 a)) (Nj);have HC4:=Lt (wr.drew.drew.cell? ⟨b2,o2+k,none⟩=some (.int .i64 b)) (Uw);have HBE:=Lt (Below w.heap.size w wr.drew.drew) (HBT.o.drew.drew);clear c11 c21 Nj Uw HBD HBT;refine Text.wp_grow [5,11] [1,4,7,10] [] (by kernel_rfl) (by kernel_rfl) ?_;generalize wr.drew.drew=wd at*;have c11:=aq.o;have c21:=pG.o;have Nj:=HC3.o;have Uw:=HC4.o;refine Text.wpS_seg 5 _ _ _ _ (by decide) (fun Q' hQ'=>?_);simp only[Xta,Xtz];go_wp2_with fail
    try simp only[Xda,Xdz]
    refine Text.wpS_one (fun Q1 hQ1=>?_);go_wp2_with fail;refine (uX a wd qX.o.1 qX.o.2).mono ?_;rintro e w3 ⟨rfl,rfl⟩;go_wp2_with fail;refine⟨Xr _ _,?_⟩;refine Text.wpS_seg 5 _ _ _ _ (by decide) (fun Q' hQ'=>?_);simp only[Xta,Xtz];go_wp2_with fail
    try simp only[Xda,Xdz]
    refine Text.wpS_one (fun Q1 hQ1=>?_);go_wp2_with fail;refine (uX b wd HSY.o.1 HSY.o.2).mono ?_;rintro e w3 ⟨rfl,rfl⟩;go_wp2_with fail;refine⟨Xr _ _,?_⟩;refine Text.wpS_seg 2 _ _ _ _ (by decide) (fun Q' hQ'=>?_);simp only[Xta,Xtz];go_wp2_with fail
    try simp only[Xda,Xdz]
    refine⟨by rfl,⟨fun _=>⟨_,_,rfl,aq.o⟩,fun _=>⟨_,_,rfl,HC3.o⟩,fun _=>⟨_,_,rfl,pG.o⟩,fun _=>⟨_,_,rfl,HC4.o⟩,trivial⟩,?_⟩;go_wp2;go_ret;exact⟨Kw (Zw HNX.o.symm),HBE.o⟩
   obtain rfl:k=m:=by omega
   have HNX:=Lh (HEQ.o _ (HRL.o.trans (pV (x:=x) (y:=y) (k:=k) (by rw[<-HM.o];omega) (by rw[<-HN.o];omega) (by rw[<-HM.o];exact Yb _))));have HNY:=Lt (decide (Kt (l1,x) (l2,y))=decide (n<k)) (by rw[HNX.o,<-HN.o,<-HM.o]);clear HEQ HNX;go_wp2;go_ret;exact⟨Kw (Zw HNY.o.symm),HBT.o⟩
  obtain rfl:k=n:=by omega
  have HNX:=Lh (HEQ.o _ (HRL.o.trans (pV (x:=x) (y:=y) (k:=k) (by rw[<-HN.o];omega) (by rw[<-HN.o];exact Yb _) (by rw[<-HM.o];omega))));have HNY:=Lt (decide (Kt (l1,x) (l2,y))=decide (k<m)) (by rw[HNX.o,<-HN.o,<-HM.o]);clear HEQ HNX;go_wp2;go_ret;exact⟨Kw (Zw HNY.o.symm),HBT.o⟩
 have d0:(l1 != l2)=true:=by simp[hl]
 have HO:=Lh (zF (a:=(l1,x)) (b:=(l2,y)) hl);simp only at HO;clear hl;go_enter Tryz.func38,Tryz.ntmps38;go_wp2;go_ret;exact⟨Kw (Zw HO.o.symm),HB.o⟩
end Go.Proofs.YtmaojnmnbpomeaaGreatDoor
