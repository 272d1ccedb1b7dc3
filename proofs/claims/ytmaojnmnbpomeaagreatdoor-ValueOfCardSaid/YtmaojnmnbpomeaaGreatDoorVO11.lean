/- A part. -/
import Derived.Test.YtmaojnmnbpomeaaGreatDoorVO10
set_option maxRecDepth 100000
set_option maxHeartbeats 64000000
namespace Go.Proofs.YtmaojnmnbpomeaaGreatDoor
open Go.RowKit
def rg:Lf Nv:=Ra rh Mc
theorem qhM{w:World}{B:Nat}{cs:List Value}{x:Nv}(h:rg.rep w B cs x):cs=[.bool x.1,.string x.2]/\x.2.size<=maxLen:=by
 obtain⟨c1,c2,rfl,rfl,rfl,h1⟩:=h;exact⟨rfl,h1⟩
theorem qkM{ns ts Em:List Wd}{it:Nv}{s:Int}(h:iG ns ts it=some (s,Em)):Em.length<=ts.length+1:=by
 unfold iG at h
 repeat' split at h
 all_goals first
  |(cases h;done)
  |(injection h with h;injection h with h1 h2;subst h2;first | (rw[Qe,Qf];omega) | omega)
theorem qsV{ns ts Em:List Wd}{it:Nv}{s:Int}(h:iG ns ts it=some (s,Em))(h1:ns.length<=1048576)(h2:ts.length<=1048576):-9223372036854775808<=s/\s<=9223372036854775807:=by
 unfold iG at h;have zhX:=List.idxOf_le_length (l:=ns) (a:=Mr it.2);have qxY:=List.idxOf_le_length (l:=ts) (a:=Mr it.2)
 repeat' split at h
 all_goals first
  |(cases h;done)
  |(injection h with h;injection h with h3 h4;omega)
section
variable {w w':World} {P Q gn gt:Nat} {vN vT vR:Value} {B0 B1:Nat} {ns ts:List Wd} {rs:List Jj} {css:List (List Value)}
theorem Dk.ints(h:Dk w P Q gn gt vN vT vR B0 B1 ns ts rs css){base n:Nat}{v:Value}{xs:List Value}(ho:w.ownsRow base 3 1 v n xs)(hg:w.grownBy w' v.ownBlock)(hB:B1<=base):Dk w' P Q gn gt vN vT vR B0 B1 ns ts rs css :=
 ⟨Jd ho hg h.box (by decide),h.mn.row ho hg,h.mt.row ho hg,h.names.keep (.of_keepT (Jq.of_grown ho hg (by decide))),Mw h.terms ho (by decide) hg,Mw h.rules ho (by decide) hg,h.rrows.keep (.of_grown ho hg hB),h.lo,Ya h.b0 hg.size,Ya h.b1 hg.size⟩
theorem Dk.rule(h:Dk w P Q gn gt vN vT vR B0 B1 ns ts rs css){g k:Nat}{cs:Array Value}(hg:w.heap[g]? = some (.cells cs 63 (0,0)))(hv:vR.ownBlock≠some g)(v:Value):Dk (w.setCell ⟨g,k,none⟩ v) P Q gn gt vN vT vR B0 B1 ns ts rs css:=by
 have hk:∀ us:List TypeId,63∉us->Jq us w (w.setCell ⟨g,k,none⟩ v):=fun us hu=>Ud hg hu v;exact⟨(hk [224] (by decide)).2 Q _ _ (by simp) h.box,h.mn.cell hg v,h.mt.cell hg v,h.names.keep (.of_keepT (hk _ (by decide))),Vc h.terms (hk [9] (by decide)) (by simp),ownsRow_setCell_other h.rules hv v,h.rrows.keep (.of_keepT (hk _ (by decide))),h.lo,by rw[Yy];exact h.b0,by rw[Yy];exact h.b1⟩
theorem Dk.snoc(h:Dk w P Q gn gt vN vT vR B0 B1 ns ts rs css){uw:Value}{cs:List Value}{x:Jj}(hx:aL.rep w w.heap.size cs x)(ho:w'.ownsRow B0 63 2 uw (rs.length+1) (css.flatten++cs))(hg:w.grownBy w' vR.ownBlock) :
  Dk (w'.setCell ⟨Q,4,none⟩ uw) P Q gn gt vN vT uw B0 (w'.setCell ⟨Q,4,none⟩ uw).heap.size ns ts (rs++[x]) (css++[cs]):=by
 have Wv:=Jd h.rules hg h.box (by decide);have hb:=Uw (k:=4) Wv uw;have hk:∀ us:List TypeId,224∉us->Jq us w' (w'.setCell ⟨Q,4,none⟩ uw):=fun us hu=>Ud Wv hu uw;have oJ:∀ us:List TypeId,63∉us->Jq us w w':=fun us hu=>Jq.of_grown h.rules hg hu;have hkU:Fi aL.ts (w'.setCell ⟨Q,4,none⟩ uw).heap.size w (w'.setCell ⟨Q,4,none⟩ uw):=(Fi.of_keepT (oJ _ (by decide))).trans (.of_keepT (hk _ (by decide)));have Fd:w.heap.size<=(w'.setCell ⟨Q,4,none⟩ uw).heap.size:=by rw[Yy];exact hg.size
 refine⟨hb,(h.mn.row h.rules hg).cell Wv uw,(h.mt.row h.rules hg).cell Wv uw,(h.names.keep (.of_keepT (oJ _ (by decide)))).keep (.of_keepT (hk _ (by decide))),Vc (Mw h.terms h.rules (by decide) hg) (hk [9] (by decide)) (by simp),?_,?_,h.lo,Ya h.b0 Fd,Xz _⟩
 ·have:=Vc ho (hk [63] (by decide)) (by simp);rw[Qs,Qe,Qf];simpa using this
 ·exact Ul.snoc ((h.rrows.more (Ya h.b1 Fd)).keep hkU) (aL.keep (aL.more hx Fd) hkU)
end
def zbY(w:World)(P Q gn gt:Nat)(vN:Value)(B0:Nat)(ns ts:List Wd)(rs:List Jj)(left:Int)(alt:List Nv)(e:Ending)(w':World):Prop :=
 (Hz ns ts [] alt=none/\e=.returned (.bool false)/\Below P w w') \/
 ∃ r Em pB uw css',Hz ns ts [] alt=some (r,Em)/\Em.length<=ts.length+alt.length/\e=.returned (.bool true)/\Dk w' P Q gn gt vN pB uw B0 w'.heap.size ns Em (rs++[(left,r)]) css'/\Below P w w'
theorem qdH(it:Nv)(w:World)(P Q gn gt:Nat)(vN vT vR:Value)(B0 B1:Nat)(ns ts:List Wd)(rs:List Jj)(css:List (List Value))(h:Dk w P Q gn gt vN vT vR B0 B1 ns ts rs css)(hts:ts.length<=1048576) :
  Calls Tryz.prog 240 #[.pointer (some ⟨Q,0,none⟩),.agg #[.bool it.1,.string it.2]] w (vM w P Q gn gt vN vR B0 B1 ns ts rs css it):=by
 obtain⟨bo,s⟩:=it;have:=vk bo (Mr s) w P Q gn gt vN vT vR B0 B1 ns ts rs css h hts;rw[Tw] at this;exact this
theorem qmM{w:World}{base:Nat}{v:Value}{r:List Int}(ho:w.ownsRow base 3 1 v r.length (r.map (Value.int .i64)))(hb:∀ s∈r,-9223372036854775808<=s/\s<=9223372036854775807):dJ qsQ 3 w w.heap.size v r:=by
 have hf:(r.map fun s=>[Value.int .i64 s]).flatten=r.map (Value.int .i64):=by
  clear ho hb
  induction r with
  |nil=>rfl
  |cons s r ih=>rw[List.map_cons,List.flatten_cons,ih];rfl
 refine dJ.of_row (O:=qsQ) (css:=r.map fun s=>[Value.int .i64 s]) (by rw[hf];exact ho) ⟨by rw[Qk],fun i cs x hc hx=>?_⟩;rw[Qv,hx] at hc;injection hc with hc;subst hc;exact⟨rfl,hb x (Qp hx)⟩
theorem qkX(left:Nat)(vA:Value)(alt:List Nv)(w:World)(P Q gn gt:Nat)(vN vT vR:Value)(B0:Nat)(ns ts:List Wd)(rs:List Jj)(css:List (List Value))(h:Dk w P Q gn gt vN vT vR B0 w.heap.size ns ts rs css)(ha:Jb rg w P vA alt)(hl:left<=1048576)(hns:ns.length<=1048576)(hts:ts.length<=524288)(Tq:alt.length<=64)(hrs:rs.length<=1048576) :
  Calls Tryz.prog 175 #[.pointer (some ⟨Q,0,none⟩),.int .i64 left,vA] w (zbY w P Q gn gt vN B0 ns ts rs left alt):=by
 obtain⟨A1,c1,rfl,kP,oN⟩:=ha.form;unfold maxLen at oN;have hQw:=(gl h.box);have hPQ:=h.lo.2.2.1;obtain⟨KR,hKR⟩:=Xe w.heap.size;have Cq:Below w.heap.size w (w.alloc (.cells #[.int .i64 left,.slice none 0 0] 63)):=(Xr _ _).alloc (Xz _) _;have HM:=Lh (h.below Cq);have HA:=Lh (ha.below (Cq.mono (show P<=w.heap.size by omega)));have HB:=Lh (Cq.mono (show P<=w.heap.size by omega));have HR0:=Lh (Xn w (.cells #[.int .i64 left,.slice none 0 0] 63));have HZ:=Lh (Xs w (.cells #[.int .i64 left,.slice none 0 0] 63));rw[<-hKR] at HR0 HZ HM;have HLT:=Lh (show P<=Q/\Q<KR by omega);have HVR:=Lh (show vR.ownBlock≠some KR from fun e=>by
  rcases h.rules.2 with ⟨h0,_⟩ | ⟨g',cap,cur,h0,_,hh,_⟩
  ·rw[h0] at e;simp[Value.ownBlock] at e
  ·rw[h0] at e
   have e:g'=KR:=by simpa[Value.ownBlock] using e
   have:=(gl hh)
   omega)
 obtain⟨n,hn⟩:=Xe alt.length;rw[<-hn] at HA kP Tq |-;have HN:=Lh hn;clear h ha Cq hQw hPQ hn;go_enter Tryz.func175,Tryz.ntmps175;go_wp2_with fail;rw[<-hKR];clear hKR;generalize w.alloc (.cells #[.int .i64 left,.slice none 0 0] 63)=w1 at *;have HOW0:Hid (w1.ownsRow (KR+1) 3 1 (.slice none 0 0) ([]:List Int).length (([]:List Int).map (Value.int .i64))):=Yx _ _ _ _;have HBD0:Hid (∀ s∈([]:List Int),-9223372036854775808<=s/\s<=9223372036854775807):=fun s hs=>by cases hs
 have HEQ0:Hid (Hz ns ts [] alt=Hz ns ts [] (alt.drop 0)):=rfl;go_loopw [16] (fun kr wr=>∃(j:Nat)(r:List Int)(Em:List Wd)(pB vr:Value),j<=n/\kr=.int .i64 j/\r.length=j/\Em.length<=ts.length+j/\Hid (Hz ns ts [] alt=Hz ns Em r (alt.drop j))/\Hid (Dk wr P Q gn gt vN pB vR B0 KR ns Em rs css)/\Hid (wr.heap[KR]? = some (.cells #[.int .i64 left,vr] 63 (0,0)))/\Hid (wr.ownsRow (KR+1) 3 1 vr r.length (r.map (Value.int .i64)))/\Hid (∀ s∈r,-9223372036854775808<=s/\s<=9223372036854775807)/\Hid (Below P w wr)) (fun kr _=>n - (intOf kr).toNat);exact⟨0,[],ts,vT,_,by omega,rfl,rfl,by omega,HEQ0.o,HM.o,HR0.o,HOW0.o,HBD0.o,HB.o⟩;have HAW:=Lh (show ∀ W,Below P w W->Jb rg W P (.slice A1 n c1) alt from fun W hb=>by
  have h1:Jb rg w P (.slice A1 n c1) alt:=HA.o.keep fun p hp=>(HB.o.cell hp).symm
  exact h1.below hb)
 clear HOW0 HBD0 HEQ0 HM HR0 HZ HA HB;obtain⟨j,r,Em,pB,vr,hj,rfl,hrj,htj,HEQ,HM,HRW,HOW,HBD,HB⟩:=hrel;by_cases Jo:j<n
 ·have hja:j<alt.length:=by rw[<-HN.o];exact Jo
  obtain⟨b,off,cs,hA1,_,hbP,Zt,Zj⟩:=(HAW.o wr HB.o).get hja (by decide);subst hA1;obtain⟨rfl,_⟩:=qhM Zt;have c0:=Zj 0 _ rfl;have c1':=Zj 1 _ rfl;simp only[show rg.size=2 from rfl,Yo,<-Yv] at c0 c1';have HDR:=Lh (show Hz ns Em r (alt.drop j)=match iG ns Em alt[j] with | none=>none | some (s,ts'')=>Hz ns ts'' (r++[s]) (alt.drop (j+1)) by rw[Ql hja];rfl)
  clear Zj Zt;obtain⟨it,hit⟩:=Xe (alt[j]);rw[<-hit] at c0 c1' HDR;clear hit;have ztP:=(gl HRW.o);have Zy:Below wr.heap.size wr (wr.alloc (.cells #[.bool it.1,.string it.2] 277)):=(Xr _ _).alloc (Xz _) _;have HM2:=Lh (HM.o.below Zy);have jj:=Lh ((Zy.block KR ztP).trans HRW.o);have qwJ:=Lh (Jk HOW.o Zy);have HB2:=Lh (HB.o.trans (Zy.mono (by have:=HLT.o;omega)));have HSY:=Lh (qdH it (wr.alloc (.cells #[.bool it.1,.string it.2] 277)) P Q gn gt vN pB vR B0 KR ns Em rs css HM2.o (by omega));clear Zy;go_wp2_with fail;clear c0 c1';refine HSY.o.mono ?_;generalize wr.alloc (.cells #[.bool it.1,.string it.2] 277)=w2 at *;rintro e w3 hst;rcases hst with ⟨wI,rfl,hb3⟩ | ⟨s,ts2,vT2,Ea,rfl,hm3,hb3,hk3⟩
  ·have Kl:=Lh (show Hz ns ts [] alt=none by rw[HEQ.o,HDR.o,wI]);have HB3:=Lh (HB2.o.trans hb3);clear hb3 wI;go_wp2_with fail;go_ret;exact .inl ⟨Kl.o,rfl,HB3.o⟩
  ·have HEQ':=Lh (show Hz ns ts [] alt=Hz ns ts2 (r++[s]) (alt.drop (j+1)) by rw[HEQ.o,HDR.o,Ea]);have hts2:ts2.length<=ts.length+(j+1):=by have:=qkM Ea;omega
   have pA:=Lh (qsV Ea hns (by omega));have HM3:=Lh hm3;have HB3:=Lh (HB2.o.trans hb3);have qaB:=Lh (hk3.2 KR _ _ (by simp) jj.o);have qwI:=Lh (Vc qwJ.o hk3 (by simp));clear hm3 hb3 hk3 Ea HSY HM2 jj qwJ HB2;obtain⟨r0,r1⟩:=Ml qaB.o;obtain⟨Ar,cr,hvr,Oi,hr2⟩:=Zk qwI.o;subst hvr;unfold maxLen at hr2;rw[hrj] at r1 Oi;have hb4:Below w3.heap.size w3 (w3.alloc (.cells #[.int .i64 s] 3)):=(Xr _ _).alloc (Xz _) _;have HN4:=Lh (Xn w3 (.cells #[.int .i64 s] 3));have HS4:=Lh (Xs w3 (.cells #[.int .i64 s] 3));have ztQ:=(gl qaB.o);have HM4:=Lh (HM3.o.below hb4);have zvY:=Lh ((hb4.block KR ztQ).trans qaB.o);have qqM:=Lh (Jk qwI.o hb4);have HB4:=Lh (HB3.o.trans (hb4.mono (by have:=HLT.o;omega)));rw[hrj] at qqM;clear hb4;go_wp2_with (at_builtin;refine Ja (m:=1) jC rfl rfl rfl rfl qqM.o (Rd.row (B:=w3.heap.size+1) HN4.o (Yd _)) rfl (by simp[Value.oneCell']) ?h63 ?hby ?hbase ?_)
   case h63=>simp only[maxLen];omega
   case hby=>omega
   case hbase=>rw[HS4.o];omega
   intro vr' w7 Ss jI _ _;obtain⟨A8,c8,lY,_,_⟩:=Zk Ss;subst lY;have qqL:=Lh (Jd qqM.o jI zvY.o (by decide));have HM7:=Lh (HM4.o.ints qqM.o jI (Yg KR));have HB7:=Lh (Zr HB4.o jI qqM.o (by have:=HLT.o;omega) (by rw[HS4.o];have:=HLT.o;omega));have zkU:=Lh Ss;have hq1:=(Ml qqL.o).2;rw[hrj] at hq1;have hf1:w7.frozen? ⟨KR,1,none⟩=false:=by simp[World.frozen?,qqL.o]
   have HRW8:=Lh (Uw (k:=1) qqL.o (.slice A8 (j+1) c8));have HM8:=Lh (HM7.o.rule (k:=1) qqL.o HVR.o (.slice A8 (j+1) c8));have HB8:=Lh (HB7.o.setCell (p:=⟨KR,1,none⟩) (by show P<=KR;have:=HLT.o;omega) (.slice A8 (j+1) c8));have HOW8:=Lt ((w7.setCell ⟨KR,1,none⟩ (.slice A8 (j+1) c8)).ownsRow (KR+1) 3 1 (.slice A8 (j+1) c8) (r++[s]).length ((r++[s]).map (Value.int .i64))) (by
    rw[Qe,Qf,hrj,Qt]
    exact Zh zkU.o (Yd KR) _)
   have HBD8:=Lh (show ∀ x∈r++[s],-9223372036854775808<=x/\x<=9223372036854775807 from fun x hx=>by
    rcases Qh.1 hx with hx | hx
    ·exact HBD.o x hx
    ·rw[Qi.1 hx];exact pA.o)
   have HRL:=Lh (show (r++[s]).length=j+1 by rw[Qe,Qf,hrj]);clear Ss jI qqL HM7 HB7 zkU;go_wp2_with fail;go_roundw;exact⟨j+1,r++[s],ts2,vT2,_,by omega,by go_num,HRL.o,hts2,HEQ'.o,HM8.o,HRW8.o,HOW8.o,HBD8.o,HB8.o⟩;simp[intOf];omega
 ·obtain rfl:j=n:=by omega
  have Kl:=Lh (show Hz ns ts [] alt=some (r,Em) by
   rw[HEQ.o,Xl (by rw[<-HN.o];exact Xz _)];rfl)
  obtain⟨r0,r1⟩:=Ml HRW.o;obtain⟨q0,q1,q2,q3,q4⟩:=Uu HM.o.box;obtain⟨AR,cR,hvR,hR1,hR2⟩:=Zk HM.o.rules;subst hvR;obtain⟨Ar,cr,hvr,Oi,hr2⟩:=Zk HOW.o;subst hvr;obtain⟨q,hq⟩:=Xe rs.length;have HQE:=Lh hq;have mZ:=Lh (show ∀ W:World,W.heap[Q]? = some (.cells #[.map (some gn),.map (some gt),vN,pB,.slice AR rs.length cR] 224 (0,0))->W.heap[KR]? = some (.cells #[.int .i64 left,.slice Ar r.length cr] 63 (0,0))->W.cell? ⟨Q,4,none⟩=some (.slice AR q cR)/\∀(i:Nat)(u:Value),[Value.int .i64 left,.slice Ar j cr][i]? = some u->W.cell? ⟨KR,0+i,none⟩=some u from fun W h1 h2=>⟨by rw[HQE.o];exact (Uu h1).2.2.2.2,fun i u hu=>by
   rw[hrj] at h2
   match i with
   |0=>injection hu with hu;rw[<-hu];exact (Ml h2).1
   |1=>injection hu with hu;rw[<-hu];exact (Ml h2).2
   |i+2=>simp at hu⟩)
  clear r0 r1 q0 q1 q2 q3 q4 hq;go_wp2_with fail;have Ws:=Lh (mZ.o wr.drew HM.o.box HRW.o);refine Nn (fun w'=>w'.cell? ⟨Q,4,none⟩=some (.slice AR q cR)/\∀(i:Nat)(u:Value),[Value.int .i64 left,.slice Ar j cr][i]? = some u->w'.cell? ⟨KR,0+i,none⟩=some u) [9] 13 (by kernel_rfl) rfl ?_;have HM2:=Lh HM.o.drew;have jj:Hid (wr.drew.heap[KR]? = some (.cells #[.int .i64 left,.slice Ar r.length cr] 63 (0,0))):=HRW.o;have qwJ:=Lh (Jk HOW.o ((Xr wr.heap.size wr).drew));have HB2:=Lh HB.o.drew;clear HM HRW HOW HB;generalize wr.drew=w2 at *;refine Gm 0 (.pointer (some ⟨Q,0,none⟩)) rfl (by kernel_rfl) rfl (fun wq=>by go_simp) Ws.o ?_;generalize ha:Act.put _ _ _=z9;simp[Act.put] at ha;subst ha;refine Gm 1 (.pointer (some ⟨Q,0,none⟩)) rfl (by kernel_rfl) rfl (fun wq=>by go_simp) Ws.o ?_;generalize ha:Act.put _ _ _=z9;simp[Act.put] at ha;subst ha;refine Gm 2 (.pointer (some ⟨Q,0,none⟩)) rfl (by kernel_rfl) rfl (fun wq=>by go_simp) Ws.o ?_;generalize ha:Act.put _ _ _=z9;simp[Act.put] at ha;subst ha;refine Gm 3 (.pointer (some ⟨Q,2,none⟩)) rfl (by kernel_rfl) rfl (fun wq=>by go_simp) Ws.o ?_;generalize ha:Act.put _ _ _=z9;simp[Act.put] at ha;subst ha;refine Gm 4 (.pointer (some ⟨Q,4,none⟩)) rfl (by kernel_rfl) rfl (fun wq=>by go_simp) Ws.o ?_;generalize ha:Act.put _ _ _=z9;simp[Act.put] at ha;subst ha;refine gY 5 (.slice AR q cR) rfl (by kernel_rfl) rfl (fun wq Gk=>Jy rfl rfl (Vw (e:=63) (by kernel_rfl) Gk.1)) Ws.o ?_;generalize ha:Act.put _ _ _=z9;simp[Act.put] at ha;subst ha;refine gY 6 (.agg #[.int .i64 left,.slice Ar j cr]) rfl (by kernel_rfl) rfl (fun wq Gk=>Jy rfl rfl (tJ (cs:=[.int .i64 left,.slice Ar j cr]) Tryz.underlying63 rfl (by kernel_rfl) Gk.2)) Ws.o ?_;generalize ha:Act.put _ _ _=z9;simp[Act.put] at ha;subst ha;have HB3:=Lh ((Xr w2.heap.size w2).alloc (Xz _) (.cells #[.int .i64 left,.slice Ar j cr] 63));have Ek:=Lh (Xn w2 (.cells #[.int .i64 left,.slice Ar j cr] 63));have wQ:Hid (w2.heap.size+1=(w2.alloc (.cells #[.int .i64 left,.slice Ar j cr] 63)).heap.size):=(Xs _ _).symm;refine Zw (i:=7) (by kernel_rfl) rfl (fun Q' hQ'=>?_);go_wp2_with fail;generalize w2.alloc (.cells #[.int .i64 left,.slice Ar j cr] 63)=w3 at *;have HM3:=Lh (HM2.o.below HB3.o);have qaB:=Lh ((HB3.o.block KR (gl jj.o)).trans jj.o);have qwI:=Lh (Jk qwJ.o HB3.o);have dU:=Lh (HB2.o.trans (HB3.o.mono (by have:=HM2.o.b0;have:=HM2.o.lo;omega)));refine⟨cU (mZ.o w3 HM3.o.box qaB.o),?_⟩;have St:=HM3.o.rules;rw[<-HQE.o] at St;refine Zw (i:=8) (by kernel_rfl) rfl (fun Q' hQ'=>?_);refine Ja (m:=1) Lk rfl rfl rfl rfl St (Rd.row (B:=w3.heap.size) Ek.o (by rw[<-wQ.o];exact Yd _)) rfl (by simp[Value.oneCell']) (by rw[HQE.o];simp only[maxLen];omega) (by rw[HQE.o];omega) HM3.o.b0 ?_;intro uw Cn hown hg _ _;obtain⟨A8,c8,lY,_,_⟩:=Zk hown;subst lY;have Ck:=Lh (Jd St hg HM3.o.box (by decide));have zvX:Hid (Cn.heap[KR]? = some (.cells #[.int .i64 left,.slice Ar r.length cr] 63 (0,0))):=(hg.block KR (gl qaB.o) (fun e=>HVR.o (show (Value.slice AR rs.length cR).ownBlock=some KR from by cases AR with | none=>cases e | some a=>exact e.symm))).trans qaB.o;have HXR:=Lh (show aL.rep w3 w3.heap.size [.int .i64 left,.slice Ar j cr] ((left:Int),r) from ⟨[.int .i64 left],[.slice Ar j cr],rfl,⟨rfl,by omega,by omega⟩,_,rfl,by
   have h1:=qmM qwI.o HBD.o
   rw[hrj] at h1
   exact h1⟩)
  have HM4:=Lh (Dk.snoc HM3.o HXR.o (by rw[<-HQE.o];exact hown) (by rw[<-HQE.o];exact hg));have HB4:=Lh (Zr dU.o hg St HM3.o.lo.2.2.2.1 (by have:=HM3.o.b0;have:=HM3.o.lo;omega));clear hown hg St;generalize ha:Act.put _ _ _=z9;simp[Act.put] at ha;subst ha;refine hQ' _ _ ⟨cU (mZ.o Cn (by rw[<-HQE.o];rw[<-HQE.o] at Ck;exact Ck.o) zvX.o),?_⟩;have q4:=(Uu Ck.o).2.2.2.2;have f4:Cn.frozen? ⟨Q,4,none⟩=false:=by simp[World.frozen?,Ck.o]
  refine Zw (i:=9) (by kernel_rfl) rfl (fun Q' hQ'=>?_);go_wp2_with fail;refine⟨Kk (by kernel_rfl),?_⟩;refine Zw (i:=10) (by kernel_rfl) rfl (fun Q' hQ'=>?_);go_wp2_with fail;refine⟨Kk (by kernel_rfl),?_⟩;refine Zw (i:=11) (by kernel_rfl) rfl (fun Q' hQ'=>?_);go_wp2_with fail;refine⟨Kk (by kernel_rfl),?_⟩;refine Zw (i:=12) (by kernel_rfl) rfl (fun Q' hQ'=>?_);go_wp2_with fail;refine⟨Kk (by kernel_rfl),?_⟩;refine Ew (by kernel_rfl) ?_ _;go_wp2_with fail;go_ret;exact .inr ⟨r,Em,pB,_,_,Kl.o,by rw[<-HN.o];exact htj,rfl,HM4.o,HB4.o.setCell (p:=⟨Q,4,none⟩) HM3.o.lo.2.2.1 _⟩
theorem Be{fn:Func}{p u:Tmp}{r:Value}{Q:Ending->World->Prop}(h:fn.results=#[.cell p 25,.tmp u]){a:Act}{w:World}{g:Nat}{c0 c1 c2:Value}{fr:Nat×Nat}{t:TypeId}(hd:a.defers=[])
  (hp:a.tmps.getD p undef=.pointer (some ⟨g,0,none⟩)) (hu:a.tmps.getD u undef=r) (hg:w.heap[g]? = some (.cells #[c0,c1,c2] t fr)) (hq:Q (.returned (.tuple #[.agg #[c0,c1,c2],r])) w):bodyPost Tryz.prog fn Q .ret a w:=by
 refine Ze (v:=.tuple #[.agg #[c0,c1,c2],r]) ?_ hd hq;rw[results_cell_tmp h,hp,hu];simp[asAddr,Result.andThen,run_loadVar_row w g t 25 #[c0,c1,c2] fr _ hg Tryz.underlying25 rfl (by kernel_rfl)]
theorem Db{w:World}{g:Nat}{a b c:Value}{cur:Array Value}{t:TypeId}(hg:w.heap[g]? = some (.cells cur t (0,0)))(hc:cur.size=3)(h1:a.oneCell'=true)(h2:b.oneCell'=true)(h3:c.oneCell'=true) :
  (Instr.storeAt 25 (.pointer (some ⟨g,0,none⟩)) (.agg #[a,b,c])).run Tryz.prog w=.ok () (w.setRow g [a,b,c].toArray):=by
 rw[cQ (vs:=[a,b,c]) rfl (by kernel_rfl) hg (by simp;omega) (by intro u hu;simp only[List.mem_cons,List.not_mem_nil,or_false] at hu;rcases hu with rfl | rfl | rfl <;> assumption)];congr 2;simp[List.drop_eq_nil_of_le (show cur.toList.length<=3 by simp;omega)]
structure Py(w:World)(P Q gn gt:Nat)(vN:Value)(nm ns:List Wd):Prop where
 box:w.heap[Q]? = some (.cells #[.map (some gn),.map (some gt),vN,.slice none 0 0,.slice none 0 0] 224 (0,0))
 mn:Nm w gn nm
 mt:Nm w gt []
 names:w.ownsRow (Q+1) 9 1 vN ns.length (ns.map wv)
 lo:P<=gn/\P<=gt/\P<=Q/\gn≠gt
section
variable {w w':World} {P Q gn gt:Nat} {vN vN':Value} {nm ns:List Wd}
theorem Py.lt(h:Py w P Q gn gt vN nm ns):Q<w.heap.size:=(gl h.box)
theorem Py.below(h:Py w P Q gn gt vN nm ns)(hb:Below w.heap.size w w'):Py w' P Q gn gt vN nm ns :=
 ⟨(hb.block Q h.lt).trans h.box,h.mn.below hb,h.mt.below hb,Jk h.names hb,h.lo⟩
theorem Py.drew(h:Py w P Q gn gt vN nm ns):Py w.drew P Q gn gt vN nm ns:=h.below ((Xr _ _).drew)
theorem Py.put{nm':List Wd}(h:Py w P Q gn gt vN nm ns)(hm:Nm w' gn nm')(hg:w.grownBy w' (some gn)):Py w' P Q gn gt vN nm' ns:=by
 have hk:∀ us,Jq us w w':=fun us=>Jq.of_map h.mn hg;exact⟨(hk [224]).2 Q _ _ (by simp) h.box,hm,h.mt.other hg (Ne.symm h.lo.2.2.2),Vc h.names (hk [9]) (by simp),h.lo⟩
theorem Py.snoc{T:Wd}(h:Py w P Q gn gt vN nm ns)(ho:w'.ownsRow (Q+1) 9 1 vN' (ns.length+1) (ns.map wv++[wv T]))(hg:w.grownBy w' vN.ownBlock):Py (w'.setCell ⟨Q,2,none⟩ vN') P Q gn gt vN' nm (ns++[T]):=by
 have Wv:=Jd h.names hg h.box (by decide);refine⟨Uw (k:=2) Wv vN',(h.mn.row h.names hg).cell Wv vN',(h.mt.row h.names hg).cell Wv vN',?_,h.lo⟩;have:=Zh ho (a:=⟨Q,2,none⟩) (Yd Q) vN';rw[Qt,Qe,Qf];exact this
theorem Py.done(h:Py w P Q gn gt vN ns ns)(hs:∀ t∈ns,(Ki t).size<=maxLen):Dk w P Q gn gt vN (.slice none 0 0) (.slice none 0 0) w.heap.size w.heap.size ns [] [] []:=by
 have hf:(ns.map fun t=>[wv t]).flatten=ns.map wv:=by
  clear hs h
  induction ns with
  |nil=>rfl
  |cons s r ih=>rw[List.map_cons,List.flatten_cons,ih];rfl
 refine⟨h.box,h.mn,h.mt,?_,Yx _ _ _ _,Yx _ _ _ _,Ul.nil _ _ _,⟨h.lo.1,h.lo.2.1,h.lo.2.2.1,Ya h.lo.2.2.1 (Yf h.lt),h.lo.2.2.2⟩,Xz _,Xz _⟩;refine dJ.of_row (O:=wW) (css:=ns.map fun t=>[wv t]) (by rw[hf,Qk];exact h.names) ⟨by rw[Qk,Qk],fun i cs x hc hx=>?_⟩;rw[Qv] at hc hx;cases hi:ns[i]? with
 |none=>rw[hi] at hc;cases hc
 |some t =>
  rw[hi] at hc hx;injection hc with hc;injection hx with hx;subst hc hx;exact⟨rfl,hs t (Qp hi)⟩
end
theorem Dk.slR{w:World}{P Q gn gt:Nat}{vN vT vR:Value}{B0 B1:Nat}{ns ts:List Wd}{rs:List Jj}{css:List (List Value)}(h:Dk w P Q gn gt vN vT vR B0 B1 ns ts rs css):Jb Kx w w.heap.size vR rs:=(dJ.of_row (O:=aL) h.rules (h.rrows.more h.b1)).sl
def Uc(l:List Vp):List Wd:=l.map fun x=>Mr x.1
theorem zZ(l:List Vp){k:Nat}(h:k<l.length):Uc (l.take (k+1))=Uc (l.take k)++[Mr l[k].1]:=by
 unfold Uc;rw[Qc h,Qt,List.map_singleton]
theorem qeT(l:List Vp){k:Nat}(h:k<l.length)(hm:Mr l[k].1∈Uc (l.take k)):¬ (Uc l).Nodup:=by
 intro hn;have h1:(Uc (l.take (k+1))).Nodup:=by
  have e:Uc l=Uc (l.take (k+1))++Uc (l.drop (k+1)):=by
   unfold Uc;rw[<-Qt,Xm]
  rw[e] at hn;exact (List.nodup_append.1 hn).1
 rw[zZ l h,List.nodup_append] at h1;exact h1.2.2 _ hm _ (Qi.2 rfl) rfl
theorem qpS(l:List Vp)(k:Nat):Sw (l.take k)<=Sw l:=by
 unfold Sw
 conv=>rhs;rw[<-Xm k l,Qt,List.sum_append]
 omega
theorem xH{l:List Vp}(h:Ca l=true):Ku l=(([],[],[]),19):=by unfold Ku;rw[if_pos h]
theorem xF{l:List Vp}(h:Ca l=false)(hn:¬ (Uc l).Nodup):Ku l=(([],[],[]),15):=by
 unfold Ku;rw[if_neg (by rw[h];decide),if_pos (show ¬ (l.map fun x=>Mr x.1).Nodup from hn)]
theorem ep{l:List Vp}(h:Ca l=false)(hn:(Uc l).Nodup)(hl:Ms (Uc l) 0 [] [] l=none):Ku l=(([],[],[]),16):=by
 unfold Ku;rw[if_neg (by rw[h];decide),if_neg (show ¬ ¬ (l.map fun x=>Mr x.1).Nodup from fun e=>e hn),show Ms (l.map fun x=>Mr x.1) 0 [] [] l=none from hl]
theorem ek{l:List Vp}(h:Ca l=false)(hn:(Uc l).Nodup){rs:List Jj}{ts:List Wd}(hl:Ms (Uc l) 0 [] [] l=some (rs,ts)) :
  Ku l=if 256<l.length+ts.length then (([],[],[]),19) else if ¬ rs.Nodup then (([],[],[]),15) else ((l.map fun x=>x.1,ts.map Ki,rs),0):=by
 unfold Ku;rw[if_neg (by rw[h];decide),if_neg (show ¬ ¬ (l.map fun x=>Mr x.1).Nodup from fun e=>e hn),show Ms (l.map fun x=>Mr x.1) 0 [] [] l=some (rs,ts) from hl]
theorem zc{ns ts:List Wd}{rs:List Jj}{i:Nat}{l:List Vp}(h:i<l.length):Ms ns i ts rs (l.drop i)=match oW ns (i:Int) ts rs l[i].2 with | none=>none | some (rY,Em)=>Ms ns (i+1) Em rY (l.drop (i+1)):=by
 rw[Ql h];rfl
theorem qiC{ns ts:List Wd}{rs:List Jj}{i:Int}{k:Nat}{al:List (List Nv)}(h:k<al.length):oW ns i ts rs (al.drop k)=match Hz ns ts [] al[k] with | none=>none | some (r,Em)=>oW ns i Em (rs++[(i,r)]) (al.drop (k+1)):=by
 rw[Ql h];rfl
def TsS(ts:List Wd):Prop:=∀ t∈ts,(Ki t).size<=maxLen
def LnS(l:List Vp):Prop:=∀ x∈l,x.1.size<=maxLen/\∀ a∈x.2,∀ it∈a,it.2.size<=maxLen
theorem qzS{ns ts Em:List Wd}{it:Nv}{s:Int}(h:iG ns ts it=some (s,Em))(hi:it.2.size<=maxLen)(ht:TsS ts):TsS Em:=by
 unfold iG at h
 repeat' split at h
 all_goals first
  |(cases h;done)
  |skip
 all_goals
  injection h with h;injection h with h1 h2;subst h2
  first
   |exact ht
   |(intro t hm
     rcases Qh.1 hm with hm | hm
     ·exact ht t hm
     ·rw[Qi.1 hm,Tw];exact hi)
theorem qpT{ns:List Wd}:∀(l:List Nv)(ts:List Wd)(r:List Int)(Em:List Wd)(r':List Int),Hz ns ts r l=some (r',Em)->(∀ it∈l,it.2.size<=maxLen)->TsS ts->TsS Em
 |[],ts,r,Em,r',h,_,ht=>by
  rw[Hz] at h;injection h with h;injection h with h1 h2;subst h2;exact ht
 |it::l,ts,r,Em,r',h,hi,ht=>by
  rw[Hz] at h;cases e:iG ns ts it with
  |none=>rw[e] at h;cases h
  |some p =>
   obtain⟨s,ts1⟩:=p;rw[e] at h;exact qpT l ts1 (r++[s]) Em r' h (fun x hx=>hi x (by simp[hx])) (qzS e (hi it (by simp)) ht)
def Ih(l:List Vp)(w:World)(e:Ending)(w':World):Prop:=∃ v1 v2 v3,e=.returned (.tuple #[.agg #[v1,v2,v3],.int .i64 (Ku l).2])/\Jb Mc w' w'.heap.size v1 (Ku l).1.1/\Jb Mc w' w'.heap.size v2 (Ku l).1.2.1/\Jb Kx w' w'.heap.size v3 (Ku l).1.2.2/\Below w.heap.size w w'
theorem Ih.bad{l:List Vp}{w w':World}{n:Nat}(h:Ku l=(([],[],[]),n))(hb:Below w.heap.size w w'):Ih l w (.returned (.tuple #[.agg #[.slice none 0 0,.slice none 0 0,.slice none 0 0],.int .i64 n])) w':=by
 unfold Ih;rw[h];exact⟨_,_,_,rfl,Jb.nil_,Jb.nil_,Jb.nil_,hb⟩
theorem Ih.good{l:List Vp}{w w':World}{g:Jw}{v1 v2 v3:Value}(h:Ku l=(g,0))(h1:Jb Mc w' w'.heap.size v1 g.1)(h2:Jb Mc w' w'.heap.size v2 g.2.1)(h3:Jb Kx w' w'.heap.size v3 g.2.2)(hb:Below w.heap.size w w'):Ih l w (.returned (.tuple #[.agg #[v1,v2,v3],.int .i64 0])) w':=by
 unfold Ih;rw[h];exact⟨_,_,_,rfl,h1,h2,h3,hb⟩
theorem qn{l:List Vp}(h:Ca l=false):(∀ x∈l,∀ a∈x.2,a.length<=64)/\Sw l<=4096/\l.length<=256:=by
 rw[bi,Yl,Yl,Yj,Yj] at h;refine⟨fun x hx a ha=>?_,by omega,by omega⟩;have h1:=List.any_eq_false.1 (show (l.any fun x=>x.2.any fun a=>decide (64<a.length))=false from h.1.1) x hx;have h2:=List.any_eq_false.1 (Bool.not_eq_true _ ▸ h1:(x.2.any fun a=>decide (64<a.length))=false) a ha;simpa using h2
theorem dJ.setRow{α:Type}{O:aA α}{t T:TypeId}{w:World}{v:Value}{xs:List α}(h:dJ O t w w.heap.size v xs){g:Nat}{cur:Array Value}(hg:w.heap[g]? = some (.cells cur T (0,0)))(hT:T∉t::O.ts)(ys:Array Value):Jb O.E (w.setRow g ys) (w.setRow g ys).heap.size v xs:=by
 have hk:Jq (t::O.ts) w (w.setRow g ys):=Dg hg hT;exact ((h.keep (.of_keepT hk)).more hk.1).sl
theorem Dk.more_b1{w:World}{P Q gn gt:Nat}{vN vT vR:Value}{B0 B1 B2:Nat}{ns ts:List Wd}{rs:List Jj}{css:List (List Value)}(h:Dk w P Q gn gt vN vT vR B0 B1 ns ts rs css)(hB:B1<=B2)(h2:B2<=w.heap.size):Dk w P Q gn gt vN vT vR B0 B2 ns ts rs css :=
 ⟨h.box,h.mn,h.mt,h.names,h.terms,h.rules,h.rrows.more hB,h.lo,h.b0,h2⟩
theorem Dk.uT{w:World}{P Q gn gt:Nat}{vN vT vR:Value}{B0 B1:Nat}{ns ts:List Wd}{rs:List Jj}{css:List (List Value)}(h:Dk w P Q gn gt vN vT vR B0 B1 ns ts rs css)(hs:∀ t∈ts,(Ki t).size<=maxLen):dJ wW 9 w w.heap.size vT (ts.map Ki):=by
 have hf:(ts.map fun t=>[wv t]).flatten=ts.map wv:=by
  clear hs h
  induction ts with
  |nil=>rfl
  |cons s r ih=>rw[List.map_cons,List.flatten_cons,ih];rfl
 refine dJ.of_row (O:=wW) (css:=ts.map fun t=>[wv t]) (by rw[hf,Qk];exact h.terms) ⟨by rw[Qk,Qk],fun i cs x hc hx=>?_⟩;rw[Qv] at hc hx;cases hi:ts[i]? with
 |none=>rw[hi] at hc;cases hc
 |some t =>
  rw[hi] at hc hx;injection hc with hc;injection hx with hx;subst hc hx;exact⟨rfl,hs t (Qp hi)⟩
theorem mm(v:Value)(l:List Vp)(w:World)(h:Jb eLn w w.heap.size v l)(hln:LnS l)(hn0:l.length<=1048576)(zjB:∀ x∈l,x.2.length<=1048576) :
  Calls Tryz.prog 111 #[v] w (Ih l w):=by
 obtain⟨A1,c1,rfl,kP,oN⟩:=h.form;unfold maxLen at oN;have Cq:Below w.heap.size w (w.alloc (.cells #[.slice none 0 0,.slice none 0 0,.slice none 0 0] 25)):=(Xr _ _).alloc (Xz _) _;have HL:=Lh (h.below Cq);have HS1:=Lh (Xn w (.cells #[.slice none 0 0,.slice none 0 0,.slice none 0 0] 25));have HZ1:=Lh (Xs w (.cells #[.slice none 0 0,.slice none 0 0,.slice none 0 0] 25));have HB1:=Lh Cq;obtain⟨S,hS⟩:=Xe w.heap.size;rw[<-hS] at HL HS1 HZ1;have HSE:=Lh hS;have HLN:=Lh hln;have wS:=Lh zjB;obtain⟨n,hn⟩:=Xe l.length;rw[<-hn] at HL kP hn0 |-;have HN:=Lh hn;clear h Cq hln zjB hn;go_enter Tryz.func111,Tryz.ntmps111;go_wp2_with fail;rw[<-hS];clear hS;generalize w.alloc (.cells #[.slice none 0 0,.slice none 0 0,.slice none 0 0] 25)=w1 at *;refine (qgW (.slice A1 n c1) l w1 (HL.o.more (by rw[HZ1.o];omega)) (by rw[<-HN.o];exact hn0) wS.o).mono ?_;rintro e w2 ⟨rfl,Zy⟩;have HS2:=Lh ((Zy.block S (by rw[HZ1.o];omega)).trans HS1.o);have HB2:=Lh (HB1.o.trans (Zy.mono (by rw[HZ1.o,HSE.o];omega)));have HL2:=Lh (HL.o.below (Zy.mono (by rw[HZ1.o];omega)));have mX:=Lh (show S<w2.heap.size by have:=Zy.size;rw[HZ1.o] at this;omega);clear Zy HS1 HB1 HL HZ1;rcases Ym (Ca l) with hg | hg
 ·have Kl:=Lh (xH hg);rw[hg];clear hg;go_wp2_with (refine Jc none rfl ?_);refine Stop.go (Zo rfl 25 rfl rfl rfl (Db HS2.o rfl rfl rfl rfl) ?_);have Ch:=Lh (Zf _ _ _ _ _ _ HS2.o:(w2.setRow S [.slice none 0 0,.slice none 0 0,.slice none 0 0].toArray).heap[S]? = _);have Te:=Lh (Zg HB2.o (Yh HSE.o.symm) [.slice none 0 0,.slice none 0 0,.slice none 0 0].toArray);generalize w2.setRow S [.slice none 0 0,.slice none 0 0,.slice none 0 0].toArray=wz at *;generalize ha:Act.put _ _ _=z9;simp[Act.put] at ha;subst ha;go_wp2_with fail;refine Be (g:=S) rfl rfl rfl rfl Ch.o ?_;exact Ih.bad Kl.o Te.o
 ·have HG:=Lh hg;rw[hg];clear hg;obtain⟨P,hP⟩:=Xe w2.heap.size;have HNP:=Lt (Py (((w2.alloc (.map #[] 0)).alloc (.map #[] 0)).alloc (.cells #[.map (some P),.map (some (P+1)),.slice none 0 0,.slice none 0 0,.slice none 0 0] 224)) P (P+2) P (P+1) (.slice none 0 0) [] []) (by
   have z1:(w2.alloc (.map #[] 0)).heap.size=P+1:=by rw[Xs,hP]
   have z2:((w2.alloc (.map #[] 0)).alloc (.map #[] 0)).heap.size=P+2:=by rw[Xs,z1]
   have m1:Nm (w2.alloc (.map #[] 0)) P []:=by rw[hP];exact Nm.made w2
   have m2:Nm ((w2.alloc (.map #[] 0)).alloc (.map #[] 0)) (P+1) []:=by rw[<-z1];exact Nm.made (w2.alloc (.map #[] 0))
   have b2:Below (w2.alloc (.map #[] 0)).heap.size (w2.alloc (.map #[] 0)) ((w2.alloc (.map #[] 0)).alloc (.map #[] 0)):=(Xr _ _).alloc (Xz _) _
   have b3:Below ((w2.alloc (.map #[] 0)).alloc (.map #[] 0)).heap.size ((w2.alloc (.map #[] 0)).alloc (.map #[] 0)) (((w2.alloc (.map #[] 0)).alloc (.map #[] 0)).alloc (.cells #[.map (some P),.map (some (P+1)),.slice none 0 0,.slice none 0 0,.slice none 0 0] 224)):=(Xr _ _).alloc (Xz _) _
   refine⟨?_,(m1.below b2).below b3,m2.below b3,Yx _ _ _ _,⟨Xz _,Yg _,by omega,by omega⟩⟩
   rw[<-z2]
   exact Xn _ _)
  have hb3:Below w2.heap.size w2 (((w2.alloc (.map #[] 0)).alloc (.map #[] 0)).alloc (.cells #[.map (some P),.map (some (P+1)),.slice none 0 0,.slice none 0 0,.slice none 0 0] 224)):=(((Xr _ _).alloc (Xz _) _).alloc (by rw[Xs];omega) _).alloc (by rw[Xs,Xs];omega) _;rw[<-hP] at hb3;have HBP:=Lh hb3;clear hb3;rw[<-hP] at mX;have pu:=@run_makeMap Tryz.prog;go_wp2_with fail;rw[<-hP];clear hP pu
  try rw[show P+1+1=P+2 from rfl]
  generalize (((w2.alloc (.map #[] 0)).alloc (.map #[] 0)).alloc (.cells #[.map (some P),.map (some (P+1)),.slice none 0 0,.slice none 0 0,.slice none 0 0] 224))=w3 at *;generalize P+2=Q at *;generalize P+1=gt at *;have HND0:Hid ((Uc (l.take 0)).Nodup):=List.nodup_nil;go_loopw [22] (fun v22 wr=>∃(i:Nat)(vN:Value),i<=n/\v22=.int .i64 i/\Hid (Py wr P Q P gt vN (Uc (l.take i)) (Uc (l.take i)))/\Hid ((Uc (l.take i)).Nodup)/\Hid (Below P w2 wr)) (fun v22 _=>n - (intOf v22).toNat);exact⟨0,_,by omega,rfl,HNP.o,HND0.o,HBP.o⟩;clear HNP HND0 HBP;obtain⟨i,vN,hi,rfl,HNP,HND,HBP⟩:=hrel;by_cases Jo:i<n
  ·have Vq:i<l.length:=by rw[<-HN.o];exact Jo
   obtain⟨b,off,cs,hA1,_,_,Zt,Zj⟩:=(HL2.o.below (HBP.o.mono (Yf mX.o))).get Vq (by decide);subst hA1;obtain⟨v2,rfl,_,Uv⟩:=uO Zt;obtain⟨A2,c2,rfl,Tc,fY⟩:=Uv.form;unfold maxLen at fY;have xT:=Zj 0 _ rfl;have Oi:=Zj 1 _ rfl;simp only[show eLn.size=2 from rfl,Yo,<-Yv] at xT Oi;have z_:=Lh (zZ l Vq);have HTW:=Lh (qeT l Vq);clear Zj Uv Zt;generalize l[i]=x at *;obtain⟨nm,al⟩:=x;simp only at xT Oi z_ HTW;obtain⟨T,rfl⟩:∃ T,nm=Ki T:=⟨Mr nm,(Tw nm).symm⟩;rw[Ag] at z_ HTW;generalize al.length=al2 at *;clear Vq;have hb4:Below wr.heap.size wr (wr.alloc (.cells #[.string (Ki T),.slice A2 al2 c2] 227)):=(Xr _ _).alloc (Xz _) _;have hPw:P<=wr.heap.size:=by have:=HNP.o.lo;have:=HNP.o.lt;omega
   have HN4:=Lh (HNP.o.below hb4);have HB4:=Lh (HBP.o.trans (hb4.mono hPw));have HX4:=Lh (Xn wr (.cells #[.string (Ki T),.slice A2 al2 c2] 227));obtain⟨K6,hK6⟩:=Xe wr.heap.size;rw[<-hK6] at HX4;clear hb4 hPw HNP HBP;go_wp2_with fail;rw[<-hK6];clear hK6 xT Oi;generalize wr.alloc (.cells #[.string (Ki T),.slice A2 al2 c2] 227)=w4 at *;have HN5:=Lh HN4.o.drew;have HB5:=Lh HB4.o.drew;have HX5:Hid (w4.drew.heap[K6]? = some (.cells #[.string (Ki T),.slice A2 al2 c2] 227 (0,0))):=HX4.o;have hq0:=(Uu HN5.o.box).1;have hk0:=(Ml HX5.o).1;have Ky:=(HN5.o.mn.look Ke iE T).1;clear HN4 HB4 HX4;refine Text.wt (by kernel_rfl) fun Q' hQ'=>?_;generalize w4.drew=w5 at *;by_cases Mq:T∈Uc (l.take i)
   ·have tT:(Instr.lookup 147 (.map (some P)) (.string (Ki T)) true).run Tryz.prog w5=.ok (.tuple #[.int .i64 ((Uc (l.take i)).idxOf T),.bool true]) w5:=by
     have px:=Ky;rw[if_pos Mq,Yt Mq] at px;exact px
    have Kl:=Lh (xF HG.o (HTW.o Mq));have pV:=Lh ((HB5.o.block S mX.o).trans HS2.o);have HBW:=Lh (HB2.o.trans (HB5.o.mono (by have:=HSE.o;have:=mX.o;omega)));clear Ky Mq;generalize (Uc (l.take i)).idxOf T=ix at *;go_wp2_with fail;refine⟨by rfl,?_⟩;clear tT;go_wp2_with (refine Jc none rfl ?_);refine Stop.go (Zo rfl 25 rfl rfl rfl (Db pV.o rfl rfl rfl rfl) ?_);have Ch:=Lh (Zf _ _ _ _ _ _ pV.o:(w5.setRow S [.slice none 0 0,.slice none 0 0,.slice none 0 0].toArray).heap[S]? = _);have Te:=Lh (Zg HBW.o (Yh HSE.o.symm) [.slice none 0 0,.slice none 0 0,.slice none 0 0].toArray);generalize w5.setRow S [.slice none 0 0,.slice none 0 0,.slice none 0 0].toArray=wz at *;generalize ha:Act.put _ _ _=z9;simp[Act.put] at ha;subst ha;go_wp2_with fail;refine Be (g:=S) rfl rfl rfl rfl Ch.o ?_;exact Ih.bad Kl.o Te.o
   ·have tT:(Instr.lookup 147 (.map (some P)) (.string (Ki T)) true).run Tryz.prog w5=.ok (.tuple #[.int .i64 0,.bool false]) w5:=by
     have px:=Ky;rw[if_neg Mq,Yu Mq] at px;exact px
    go_wp2_with fail;refine⟨by rfl,?_⟩;have HN6:=Lh HN5.o.drew;have HB6:=Lh HB5.o.drew;have HX6:Hid (w5.drew.heap[K6]? = some (.cells #[.string (Ki T),.slice A2 al2 c2] 227 (0,0))):=HX5.o;obtain⟨W',qgB,hmn,Co,Fd⟩:=HN6.o.mn.put Ke Mq;have wC:=Lh (show (Uc (l.take i)).length=i by unfold Uc;rw[Qk,Qq,<-HN.o];omega);rw[wC.o] at qgB;have HN7:=Lh (HN6.o.put hmn Co);have HB7:=Lh (HB6.o.grown Co (by have:=HN6.o.lo;have:=HN6.o.lt;omega) (fun k hk=>by injection hk with hk;omega));have HX7:=Lh ((Jq.of_map (ts:=[227]) HN6.o.mn Co).2 K6 _ _ (by simp) HX6.o);have gZ:(Instr.mapUpdate 147 (.map (some P)) (.string (Ki T)) (.int .i64 i)).run Tryz.prog w5.drew=.ok () W':=qgB;have zrH:w5.drew.cell? ⟨Q,0,none⟩=some (.map (some P)):=hq0;have zsD:w5.drew.cell? ⟨K6,0,none⟩=some (.string (Ki T)):=hk0;have HNDN:=Lt ((Uc (l.take (i+1))).Nodup) (by
     rw[z_.o,List.nodup_append]
     exact⟨HND.o,by simp,fun a ha c hc e=>Mq (by rw[Qi.1 hc] at e;rw[<-e];exact ha)⟩)
    rw[<-z_.o] at HN7;clear Ky Mq qgB hmn Co Fd tT hq0 hk0 HN5 HB5 HX5;go_wp2_with fail;refine Text.wt (by kernel_rfl) fun Q' hQ'=>?_;generalize w5.drew=w6 at *;go_wp2_with fail;refine⟨by rfl,?_⟩;clear gZ zrH zsD;obtain⟨AN,cN,hvN,hN1,hN2⟩:=Zk HN7.o.names;rw[wC.o] at hvN hN1;subst hvN;unfold maxLen at hN2;clear HN6 HB6 HX6;have mZ:Hid (∀ W:World,W.heap[Q]? = some (.cells #[.map (some P),.map (some gt),.slice AN i cN,.slice none 0 0,.slice none 0 0] 224 (0,0))->W.heap[K6]? = some (.cells #[.string (Ki T),.slice A2 al2 c2] 227 (0,0))->W.cell? ⟨Q,2,none⟩=some (.slice AN i cN)/\W.cell? ⟨K6,0,none⟩=some (.string (Ki T))):=fun W h1 h2=>⟨(Uu h1).2.2.1,(Ml h2).1⟩;go_wp2_with fail;have Ws:=Lh (mZ.o W'.drew HN7.o.box HX7.o);refine Nn (fun w'=>w'.cell? ⟨Q,2,none⟩=some (.slice AN i cN)/\w'.cell? ⟨K6,0,none⟩=some (.string (Ki T))) [10] 14 (by kernel_rfl) rfl ?_;have HN8:=Lh HN7.o.drew;have HB8:=Lh HB7.o.drew;have HX8:Hid (W'.drew.heap[K6]? = some (.cells #[.string (Ki T),.slice A2 al2 c2] 227 (0,0))):=HX7.o;clear HN7 HB7 HX7;generalize W'.drew=w8 at *;refine Gm 0 (.pointer (some ⟨Q,0,none⟩)) rfl (by kernel_rfl) rfl (fun wq=>by go_simp) Ws.o ?_;generalize ha:Act.put _ _ _=z9;simp[Act.put] at ha;subst ha;refine Gm 1 (.pointer (some ⟨Q,0,none⟩)) rfl (by kernel_rfl) rfl (fun wq=>by go_simp) Ws.o ?_;generalize ha:Act.put _ _ _=z9;simp[Act.put] at ha;subst ha;refine Gm 2 (.pointer (some ⟨Q,0,none⟩)) rfl (by kernel_rfl) rfl (fun wq=>by go_simp) Ws.o ?_;generalize ha:Act.put _ _ _=z9;simp[Act.put] at ha;subst ha;refine Gm 3 (.pointer (some ⟨Q,2,none⟩)) rfl (by kernel_rfl) rfl (fun wq=>by go_simp) Ws.o ?_;generalize ha:Act.put _ _ _=z9;simp[Act.put] at ha;subst ha;refine Gm 4 (.pointer (some ⟨Q,2,none⟩)) rfl (by kernel_rfl) rfl (fun wq=>by go_simp) Ws.o ?_;generalize ha:Act.put _ _ _=z9;simp[Act.put] at ha;subst ha;refine gY 5 (.slice AN i cN) rfl (by kernel_rfl) rfl (fun wq Gk=>Jy rfl rfl (Vw (e:=9) (by kernel_rfl) Gk.1)) Ws.o ?_;generalize ha:Act.put _ _ _=z9;simp[Act.put] at ha;subst ha;refine Gm 6 (.pointer (some ⟨K6,0,none⟩)) rfl (by kernel_rfl) rfl (fun wq=>by go_simp) Ws.o ?_;generalize ha:Act.put _ _ _=z9;simp[Act.put] at ha;subst ha;refine gY 7 (.string (Ki T)) rfl (by kernel_rfl) rfl (fun wq Gk=>Jy rfl rfl (Ln (by kernel_rfl) Gk.2)) Ws.o ?_;generalize ha:Act.put _ _ _=z9;simp[Act.put] at ha;subst ha;have un:=Lh ((Xr w8.heap.size w8).alloc (Xz _) (.cells #[.string (Ki T)] 9));have Ek:=Lh (Xn w8 (.cells #[.string (Ki T)] 9));have wQ:Hid (w8.heap.size+1=(w8.alloc (.cells #[.string (Ki T)] 9)).heap.size):=(Xs _ _).symm;refine Zw (i:=8) (by kernel_rfl) rfl (fun Q' hQ'=>?_);go_wp2_with fail;generalize w8.alloc (.cells #[.string (Ki T)] 9)=w9 at *;have HN9:=Lh (HN8.o.below un.o);have HX9:=Lh ((un.o.block K6 (gl HX8.o)).trans HX8.o);have zlY:=Lh (HB8.o.trans (un.o.mono (by have:=HN8.o.lo;have:=HN8.o.lt;omega)));refine⟨cU (mZ.o w9 HN9.o.box HX9.o),?_⟩;have ay:=HN9.o.names;rw[wC.o] at ay;refine Zw (i:=9) (by kernel_rfl) rfl (fun Q' hQ'=>?_);refine Ja (m:=1) lc rfl rfl rfl rfl ay (Rd.row (B:=w9.heap.size) Ek.o (by rw[<-wQ.o];exact Yd _)) rfl (by simp[Value.oneCell']) (by simp only[maxLen];omega) (by omega) HN9.o.lt ?_;intro vN' Cn hown hg _ _;obtain⟨A8,c8,lY,_,_⟩:=Zk hown;subst lY;have HN12:=Lh (Py.snoc (T:=T) HN9.o (by rw[wC.o];exact hown) hg);rw[<-z_.o] at HN12;have qcR:=Lh (Jd ay hg HN9.o.box (by decide));have qwE:=Lh (Jd ay hg HX9.o (by decide));have qqW:=Lh (Zr zlY.o hg ay (by have:=HN9.o.lo;omega) (by have:=HN9.o.lo;have:=HN9.o.lt;omega));have HB12:=Lh (qqW.o.setCell (p:=⟨Q,2,none⟩) HN9.o.lo.2.2.1 (.slice A8 (i+1) c8));clear hown hg ay;generalize ha:Act.put _ _ _=z9;simp[Act.put] at ha;subst ha;refine hQ' _ _ ⟨cU (mZ.o Cn qcR.o qwE.o),?_⟩;have q2:=(Uu qcR.o).2.2.1;have f2:Cn.frozen? ⟨Q,2,none⟩=false:=by simp[World.frozen?,qcR.o]
    clear Ws mZ HN8 HB8 HX8 HN9 zlY HX9 un Ek wQ;refine Zw (i:=10) (by kernel_rfl) rfl (fun Q' hQ'=>?_);go_wp2_with fail;refine⟨Kk (by kernel_rfl),?_⟩;refine Zw (i:=11) (by kernel_rfl) rfl (fun Q' hQ'=>?_);go_wp2_with fail;refine⟨Kk (by kernel_rfl),?_⟩;refine Zw (i:=12) (by kernel_rfl) rfl (fun Q' hQ'=>?_);go_wp2_with fail;refine⟨Kk (by kernel_rfl),?_⟩;refine Zw (i:=13) (by kernel_rfl) rfl (fun Q' hQ'=>?_);go_wp2_with fail;refine⟨Kk (by kernel_rfl),?_⟩;refine Ew (by kernel_rfl) ?_ _;clear q2 f2 qcR qwE qqW;go_wp2_with fail;go_roundw;exact⟨i+1,_,by omega,by go_num,HN12.o,HNDN.o,HB12.o⟩;simp[intOf];omega
  ·obtain rfl:i=n:=by omega
   have HTK:Hid (l.take i=l):=Qd (by rw[<-HN.o];exact Xz _);rw[HTK.o] at HNP HND;have HNS:=Lh (show ∀ t∈Uc l,(Ki t).size<=maxLen from fun t ht=>by
    obtain⟨x,hx,rfl⟩:=Xa.1 ht
    rw[Tw]
    exact (HLN.o x hx).1)
   have HNM:=Lh (HNP.o.done HNS.o);obtain⟨B0,hB0⟩:=Xe wr.heap.size;have HPB:=Lh (show P<=B0 by have:=HNP.o.lo;have:=HNP.o.lt;omega);rw[<-hB0] at HNM;have HNM':Hid (Dk wr P Q P gt vN (.slice none 0 0) (.slice none 0 0) B0 wr.heap.size (Uc l) [] [] []):=hB0 ▸ HNM.o;have wC:=Lh (show (Uc l).length=i by unfold Uc;rw[Qk,<-HN.o]);obtain⟨AN,cN,hvN,hN1,hN2⟩:=Zk HNP.o.names;rw[wC.o] at hvN hN1;subst hvN;unfold maxLen at hN2;have HGF:=Lh (qn HG.o);have HE0:Hid (Ms (Uc l) 0 [] [] l=Ms (Uc l) 0 [] [] (l.drop 0)):=rfl;have HR0:Hid (([]:List Jj).length=Sw (l.take 0)):=rfl;have HT0:Hid (TsS []):=fun t ht=>by cases ht
   clear hB0 HNM HNP HNS HTK hi Jo;go_wp2_with fail;generalize wr=wo at *;go_loopw [62] (fun v62 wq=>∃(j:Nat)(ts:List Wd)(rs:List Jj)(vT vR:Value)(css:List (List Value)),j<=i/\v62=.int .i64 j/\ts.length<=64*rs.length/\rs.length<=4096/\Hid (rs.length=Sw (l.take j))/\Hid (Ms (Uc l) 0 [] [] l=Ms (Uc l) j ts rs (l.drop j))/\Hid (TsS ts)/\Hid (Dk wq P Q P gt (.slice AN i cN) vT vR B0 wq.heap.size (Uc l) ts rs css)/\Hid (Below P w2 wq)) (fun v62 _=>i - (intOf v62).toNat);exact⟨0,[],[],_,_,[],by omega,rfl,by simp,by simp,HR0.o,HE0.o,HT0.o,HNM'.o,HBP.o⟩;clear HR0 HE0 HT0 HNM' HBP;obtain⟨j,ts,rs,vT,vR,css,hj,rfl,htr,hr4,zcW,HEQ,HTS,HNM,HBP⟩:=hrel;have yL:=Lh ((HBP.o.block S mX.o).trans HS2.o);have HBW:=Lh (HB2.o.trans (HBP.o.mono (by have:=HSE.o;have:=mX.o;omega)));have hPw:P<=wr.heap.size:=by have:=HNM.o.b0;have:=HPB.o;omega
   by_cases Jo:j<i
   ·have Uh:j<l.length:=by rw[<-HN.o];exact Jo
    obtain⟨b,off,cs,hA1,_,_,Zt,Zj⟩:=(HL2.o.below (HBP.o.mono (Yf mX.o))).get Uh (by decide);subst hA1;obtain⟨v2,rfl,_,Uv⟩:=uO Zt;obtain⟨A2,c2,rfl,Tc,fY⟩:=Uv.form;unfold maxLen at fY;have xT:=Zj 0 _ rfl;have Oi:=Zj 1 _ rfl;simp only[show eLn.size=2 from rfl,Yo,<-Yv] at xT Oi;have HST:=Lh (zc (ns:=Uc l) (ts:=ts) (rs:=rs) Uh);have HAS:=Lh (vF l Uh);have zxP:=Lh (qpS l (j+1));have zlD:=Lh (HLN.o l[j] (Qg Uh)).2;have HGX:=Lh (HGF.o.1 l[j] (Qg Uh));have HSL:=Lh Uv;clear Zj Uv Zt;generalize l[j]=x at *;obtain⟨nm,al⟩:=x;simp only at xT Oi HST HAS zlD HGX HSL Tc;obtain⟨m,hm⟩:=Xe al.length;rw[<-hm] at Tc Oi HSL HAS;have HM:=Lh hm;clear hm Uh;have hb4:Below wr.heap.size wr (wr.alloc (.cells #[.string nm,.slice A2 m c2] 227)):=(Xr _ _).alloc (Xz _) _;have HNM4:Hid (Dk (wr.alloc (.cells #[.string nm,.slice A2 m c2] 227)) P Q P gt (.slice AN i cN) vT vR B0 (wr.alloc (.cells #[.string nm,.slice A2 m c2] 227)).heap.size (Uc l) ts rs css):=(HNM.o.below hb4).more_b1 (Yf (by rw[Xs];omega)) (Xz _);have HB4:=Lh (HBP.o.trans (hb4.mono hPw));have qqJ:=Lh (HSL.o.below (hb4.mono (by have:=mX.o;omega)));have jH:(wr.alloc (.cells #[.string nm,.slice A2 m c2] 227)).cell? ⟨wr.heap.size,1,none⟩=some (.slice A2 m c2):=(Ml (Xn wr (.cells #[.string nm,.slice A2 m c2] 227))).2;have HEQ4:Hid (Ms (Uc l) 0 [] [] l=match oW (Uc l) (j:Int) ts rs (al.drop 0) with | none=>none | some (rY,Em)=>Ms (Uc l) (j+1) Em rY (l.drop (j+1))):=HEQ.o.trans HST.o
    have HR4:Hid (rs.length=Sw (l.take j)+0):=zcW.o;clear hb4 HNM HBP HSL yL HBW HEQ HST zcW hPw;go_wp2_with fail;clear xT Oi jH;generalize wr.alloc (.cells #[.string nm,.slice A2 m c2] 227)=w4 at *;go_loopw [70] (fun v70 wq=>∃(k:Nat)(ts:List Wd)(rs:List Jj)(vT vR:Value)(css:List (List Value)),k<=m/\v70=.int .i64 k/\ts.length<=64*rs.length/\rs.length<=4096/\Hid (rs.length=Sw (l.take j)+k)/\Hid (Ms (Uc l) 0 [] [] l=match oW (Uc l) (j:Int) ts rs (al.drop k) with | none=>none | some (rY,Em)=>Ms (Uc l) (j+1) Em rY (l.drop (j+1)))/\Hid (TsS ts)/\Hid (Dk wq P Q P gt (.slice AN i cN) vT vR B0 wq.heap.size (Uc l) ts rs css)/\Hid (Below P w2 wq)) (fun v70 _=>m - (intOf v70).toNat)
    exact⟨0,ts,rs,vT,vR,css,by omega,rfl,htr,hr4,HR4.o,HEQ4.o,HTS.o,HNM4.o,HB4.o⟩;have zvS:=Lh (show ∀ W,Below P w2 W->Jb (Ro rg) W S (.slice A2 m c2) al from fun W hb=>by
     have h1:Jb (Ro rg) w2 S (.slice A2 m c2) al:=qqJ.o.keep fun p hp=>(HB4.o.cell (Nat.lt_trans hp mX.o)).symm
     exact h1.below (hb.mono (Yf mX.o)))
    clear HR4 HEQ4 HTS HNM4 HB4 qqJ htr hr4;clear ts rs vT vR css;obtain⟨k,ts,rs,vT,vR,css,hk,rfl,htr,hr4,HR4,HEQ4,HTS,HNM4,HB4⟩:=hrel;by_cases Dl:k<m
    ·have hka:k<al.length:=by rw[<-HM.o];exact Dl
     obtain⟨b7,o7,cs,rfl,_,_,Zt,Zj⟩:=(zvS.o wr HB4.o).get hka (by decide);obtain⟨v7,rfl,hs7⟩:=Zt;obtain⟨A7,c7,rfl,hl7,hl8⟩:=hs7.form;unfold maxLen at hl8;have hc7:=Zj 0 _ rfl;simp only[show (Ro rg).size=1 from rfl,Yq,Yo] at hc7;have HST:=Lh (qiC (ns:=Uc l) (ts:=ts) (rs:=rs) (i:=(j:Int)) hka);have HLA:=Lh (zlD.o al[k] (Qg hka));have HGA:=Lh (HGX.o al[k] (Qg hka));have HS7:=Lh (hs7.more (Yf mX.o));clear Zj hs7;generalize al[k]=a at *;clear hka;have hr5:rs.length+1<=4096:=by have h1:=HR4.o;have h2:=HAS.o;have h3:=zxP.o;have h4:=HGF.o.2.1;omega
     have HRU:=Lh (qkX j (.slice A7 a.length c7) a wr P Q P gt (.slice AN i cN) vT vR B0 (Uc l) ts rs css HNM4.o HS7.o (by omega) (by rw[wC.o];exact hn0) (by omega) HGA.o (by omega));obtain⟨q,hq⟩:=Xe a.length;rw[<-hq] at HRU hc7 HGA;have HQQ:=Lh hq;clear hq HS7 hl7;have zaF:=HGA.o;go_wp2_with fail;clear hc7;refine HRU.o.mono ?_;rintro e w6 hst;rcases hst with ⟨qxS,rfl,hb6⟩ | ⟨r,ts2,vT2,vR2,css2,qnB,zhN,rfl,hm6,hb6⟩
     ·have Kl:=Lh (ep HG.o HND.o (by rw[HEQ4.o,HST.o,qxS]));have HB6:=Lh (HB4.o.trans hb6);have HS6:=Lh ((HB6.o.block S mX.o).trans HS2.o);have HBW:=Lh (HB2.o.trans (HB6.o.mono (by have:=HSE.o;have:=mX.o;omega)));clear hb6 qxS;go_wp2_with (refine Jc none rfl ?_);refine Stop.go (Zo rfl 25 rfl rfl rfl (Db HS6.o rfl rfl rfl rfl) ?_);have Ch:=Lh (Zf _ _ _ _ _ _ HS6.o:(w6.setRow S [.slice none 0 0,.slice none 0 0,.slice none 0 0].toArray).heap[S]? = _);have Te:=Lh (Zg HBW.o (Yh HSE.o.symm) [.slice none 0 0,.slice none 0 0,.slice none 0 0].toArray);generalize w6.setRow S [.slice none 0 0,.slice none 0 0,.slice none 0 0].toArray=wz at *;generalize ha:Act.put _ _ _=z9;simp[Act.put] at ha;subst ha;go_wp2_with fail;refine Be (g:=S) rfl rfl rfl rfl Ch.o ?_;exact Ih.bad Kl.o Te.o
     ·have HM6:=Lh hm6;have HB6:=Lh (HB4.o.trans hb6);have HTS6:=Lh (qpT a ts [] ts2 r qnB HLA.o HTS.o);have HEQ6:=Lh (show Ms (Uc l) 0 [] [] l=match oW (Uc l) (j:Int) ts2 (rs++[((j:Int),r)]) (al.drop (k+1)) with | none=>none | some (rY,Em)=>Ms (Uc l) (j+1) Em rY (l.drop (j+1)) by rw[HEQ4.o,HST.o,qnB])
      have HR6:=Lh (show (rs++[((j:Int),r)]).length=Sw (l.take j)+(k+1) by rw[Qe,Qf,HR4.o];omega);have ht6:ts2.length<=64*(rs++[((j:Int),r)]).length:=by rw[Qe,Qf];have:=HQQ.o;omega
      have hr6:(rs++[((j:Int),r)]).length<=4096:=by rw[Qe,Qf];exact hr5
      clear hm6 hb6 qnB zhN;go_wp2_with fail;go_roundw;exact⟨k+1,ts2,_,vT2,vR2,css2,by omega,by go_num,ht6,hr6,HR6.o,HEQ6.o,HTS6.o,HM6.o,HB6.o⟩;simp[intOf];omega
    ·obtain rfl:k=m:=by omega
     have HEQ5:=Lh (show Ms (Uc l) 0 [] [] l=Ms (Uc l) (j+1) ts rs (l.drop (j+1)) by
      rw[HEQ4.o,Xl (by rw[<-HM.o];exact Xz _)];rfl)
     have HR5:=Lh (show rs.length=Sw (l.take (j+1)) by rw[HR4.o,HAS.o]);go_wp2_with fail;go_roundw;exact⟨j+1,ts,rs,vT,vR,css,by omega,by go_num,htr,hr4,HR5.o,HEQ5.o,HTS.o,HNM4.o,HB4.o⟩;simp[intOf];omega
   ·obtain rfl:j=i:=by omega
    have HLR:=Lh (show Ms (Uc l) 0 [] [] l=some (rs,ts) by
     rw[HEQ.o,Xl (by rw[<-HN.o];exact Xz _)];rfl)
    have Kl:=Lh (ek HG.o HND.o HLR.o);rw[<-HN.o] at Kl;obtain⟨AT,cT,hvT,hT1,hT2⟩:=Zk HNM.o.terms;subst hvT;obtain⟨AR,cR,hvR,hR1,hR2⟩:=Zk HNM.o.rules;subst hvR;unfold maxLen at hT2 hR2;have HUN:Hid (dJ wW 9 wr wr.heap.size (.slice AN j cN) ((Uc l).map Ki)):=HNM.o.names.more HNM.o.b0;have HUT:=Lh (HNM.o.uT HTS.o);have HUR:Hid (dJ aL 63 wr wr.heap.size (.slice AR rs.length cR) rs):=dJ.of_row (O:=aL) HNM.o.rules (HNM.o.rrows.more HNM.o.b1);have zcT:=Lh HNM.o.slR;have Gl:=Lh HNM.o.box;obtain⟨t,ht⟩:=Xe ts.length;obtain⟨q,hq⟩:=Xe rs.length;rw[<-ht] at htr hT1 Kl HUT Gl;rw[<-hq] at htr hr4 hR1 HUR zcT Gl;clear ht hq HNM HEQ zcW;obtain⟨q0,q1,q2,q3,q4⟩:=Uu Gl.o;clear q0 q1;go_wp2_with fail;refine Text.wt (by kernel_rfl) fun Q' hQ'=>?_;have pV:Hid (wr.drew.heap[S]? = some (.cells #[.slice none 0 0,.slice none 0 0,.slice none 0 0] 25 (0,0))):=yL.o;have HB5:=Lh HBW.o.drew;have tt:wr.drew.cell? ⟨Q,2,none⟩=some (.slice AN j cN):=q2;have hq3:wr.drew.cell? ⟨Q,3,none⟩=some (.slice AT t cT):=q3;have hq4:wr.drew.cell? ⟨Q,4,none⟩=some (.slice AR q cR):=q4;have hbd:Below wr.heap.size wr wr.drew:=(Xr _ _).drew;have zvD:Hid (dJ wW 9 wr.drew wr.drew.heap.size (.slice AN j cN) ((Uc l).map Ki)):=HUN.o.keep (.of_below hbd);have zuZ:Hid (dJ wW 9 wr.drew wr.drew.heap.size (.slice AT t cT) (ts.map Ki)):=HUT.o.keep (.of_below hbd);have zvB:Hid (dJ aL 63 wr.drew wr.drew.heap.size (.slice AR q cR) rs):=HUR.o.keep (.of_below hbd);have zvN:Hid (Jb Kx wr.drew wr.drew.heap.size (.slice AR q cR) rs):=zcT.o.below hbd;clear yL HBW q2 q3 q4 hbd HUN HUT HUR zcT Gl HBP;generalize wr.drew=w5 at *;by_cases qvL:256<j+t
    ·have g1:decide ((256:Int)<(j:Int)+(t:Int))=true:=by simp;omega
     have Mv:Hid (Ku l=(([],[],[]),19)):=Kl.o.trans (if_pos qvL);clear qvL;go_wp2_with fail;refine⟨by rfl,?_⟩;clear tt hq3 hq4;go_wp2_with (refine Jc none rfl ?_);refine Stop.go (Zo rfl 25 rfl rfl rfl (Db pV.o rfl rfl rfl rfl) ?_);have Ch:=Lh (Zf _ _ _ _ _ _ pV.o:(w5.setRow S [.slice none 0 0,.slice none 0 0,.slice none 0 0].toArray).heap[S]? = _);have Te:=Lh (Zg HB5.o (Yh HSE.o.symm) [.slice none 0 0,.slice none 0 0,.slice none 0 0].toArray);generalize w5.setRow S [.slice none 0 0,.slice none 0 0,.slice none 0 0].toArray=wz at *;generalize ha:Act.put _ _ _=z9;simp[Act.put] at ha;subst ha;go_wp2_with fail;refine Be (g:=S) rfl rfl rfl rfl Ch.o ?_;exact Ih.bad Mv.o Te.o
    ·have g1:decide ((256:Int)<(j:Int)+(t:Int))=false:=by simp;omega
     have db:=Lh (Kl.o.trans (if_neg qvL));clear qvL;go_wp2_with fail;refine⟨by rfl,?_⟩;go_wp2_with fail;refine (yU (.slice AR q cR) rs w5 zvN.o).mono ?_;rintro e w6 ⟨rfl,hb6⟩;have HS6:=Lh ((hb6.block S (gl pV.o)).trans pV.o);have HB6:=Lh (HB5.o.trans (hb6.mono HB5.o.size));by_cases Id:rs.Nodup
     ·have zlK:=Lh (show Ku l=((l.map fun x=>x.1,ts.map Ki,rs),0) from db.o.trans (if_neg (fun e=>e Id)));rw[show decide (¬ rs.Nodup)=false from Yu fun e=>e Id];have hq2':=(hb6.cell (p:=⟨Q,2,none⟩) (Zi w5 _ tt)).trans tt;have hq3':=(hb6.cell (p:=⟨Q,3,none⟩) (Zi w5 _ hq3)).trans hq3;have hq4':=(hb6.cell (p:=⟨Q,4,none⟩) (Zi w5 _ hq4)).trans hq4;have HN6:=Lh (show Jb Mc (w6.setRow S [.slice AN j cN,.slice AT t cT,.slice AR q cR].toArray) (w6.setRow S [.slice AN j cN,.slice AT t cT,.slice AR q cR].toArray).heap.size (.slice AN j cN) (l.map fun x=>x.1) from by
       have h1:=dJ.setRow ((zvD.o.keep (.of_below hb6)).more hb6.size) HS6.o (by decide) [.slice AN j cN,.slice AT t cT,.slice AR q cR].toArray
       have e1:(Uc l).map Ki=l.map fun x=>x.1:=by
        unfold Uc
        rw[List.map_map]
        exact List.map_congr_left fun x _=>Tw x.1
       rw[e1] at h1
       exact h1)
      have HT6:=Lh (dJ.setRow ((zuZ.o.keep (.of_below hb6)).more hb6.size) HS6.o (by decide) [.slice AN j cN,.slice AT t cT,.slice AR q cR].toArray);have HR6:=Lh (dJ.setRow ((zvB.o.keep (.of_below hb6)).more hb6.size) HS6.o (by decide) [.slice AN j cN,.slice AT t cT,.slice AR q cR].toArray);have Te:=Lh (Zg HB6.o (Yh HSE.o.symm) [.slice AN j cN,.slice AT t cT,.slice AR q cR].toArray);have HRW:=Lh (Zf _ _ _ _ _ _ HS6.o:(w6.setRow S [.slice AN j cN,.slice AT t cT,.slice AR q cR].toArray).heap[S]? = _);clear hb6 Id tt hq3 hq4;go_wp2_with (refine Jc none rfl ?_);refine Stop.go (Zo rfl 25 rfl rfl rfl (Db HS6.o rfl rfl rfl rfl) ?_);generalize w6.setRow S [.slice AN j cN,.slice AT t cT,.slice AR q cR].toArray=wz at *;generalize ha:Act.put _ _ _=z9;simp[Act.put] at ha;subst ha;go_wp2_with fail;refine Be (g:=S) rfl rfl rfl rfl HRW.o ?_;exact Ih.good zlK.o HN6.o HT6.o HR6.o Te.o
     ·have Mv:Hid (Ku l=(([],[],[]),15)):=db.o.trans (if_pos Id);rw[show decide (¬ rs.Nodup)=true from Yt Id];clear hb6 Id tt hq3 hq4;go_wp2_with (refine Jc none rfl ?_);refine Stop.go (Zo rfl 25 rfl rfl rfl (Db HS6.o rfl rfl rfl rfl) ?_);have Ch:=Lh (Zf _ _ _ _ _ _ HS6.o:(w6.setRow S [.slice none 0 0,.slice none 0 0,.slice none 0 0].toArray).heap[S]? = _);have Te:=Lh (Zg HB6.o (Yh HSE.o.symm) [.slice none 0 0,.slice none 0 0,.slice none 0 0].toArray);generalize w6.setRow S [.slice none 0 0,.slice none 0 0,.slice none 0 0].toArray=wz at *;generalize ha:Act.put _ _ _=z9;simp[Act.put] at ha;subst ha;go_wp2_with fail;refine Be (g:=S) rfl rfl rfl rfl Ch.o ?_;exact Ih.bad Mv.o Te.o
open Go.Shelf
open Go.RowKit Go.Shelf
def jbQ(w w':World):Prop:=∀ ts:List TypeId,286∉ts->5∉ts->Jq ts w w'
theorem qtC{w:World}{B:Nat}{v:Value}{xs:List Wd}(h:Jb eW w B v xs):Jb Mc w B v (xs.map Ki):=by
 obtain⟨A,c,css,e,h1,h2,h3,h4,h5⟩:=h;refine⟨A,c,css,by rw[Qk];exact e,by rw[Qk];exact h1,h2,by rw[Qk];exact h3,h4,fun i cs x hc hx=>?_⟩;rw[Qv] at hx;cases hxi:xs[i]? with
 |none=>rw[hxi] at hx;cases hx
 |some y =>
  rw[hxi] at hx;injection hx with hx;subst hx;exact h5 i cs y hc hxi
structure kR(w:World)(B:Nat)(v1 v2 v3:Value)(g:Jw):Prop where
 names:Jb Mc w B v1 g.1
 terms:Jb Mc w B v2 g.2.1
 rules:Jb Kx w B v3 g.2.2
section
variable {w w':World} {B B' N:Nat} {v1 v2 v3:Value} {g:Jw}
theorem kR.fut(h:kR w B v1 v2 v3 g)(hb:Below N w w')(h1:B<=N)(h2:B<=B'):kR w' B' v1 v2 v3 g:=⟨h.names.fut hb h1 h2,h.terms.fut hb h1 h2,h.rules.fut hb h1 h2⟩
theorem kR.zero:kR w B (.slice none 0 0) (.slice none 0 0) (.slice none 0 0) ([],[],[]):=⟨Jb.nil_,Jb.nil_,Jb.nil_⟩
theorem kR.form(h:kR w B v1 v2 v3 g):∃ A1 A2 A3 c1 c2 c3,v1=.slice A1 g.1.length c1/\v2=.slice A2 g.2.1.length c2/\v3=.slice A3 g.2.2.length c3:=by
 obtain⟨A1,c1,rfl,_⟩:=h.names.form;obtain⟨A2,c2,rfl,_⟩:=h.terms.form;obtain⟨A3,c3,rfl,_⟩:=h.rules.form;exact⟨_,_,_,_,_,_,rfl,rfl,rfl⟩
end
def gO(g:Jw):Jw:=if Vu g=true then Zx g else ([],[],[])
theorem Sc(g:Jw):((g.1.map Mr).map Ki,(g.2.1.map Mr).map Ki,g.2.2)=g:=by
 have e:∀ l:List ByteArray,(l.map Mr).map Ki=l:=fun l=>by
  rw[List.map_map]
  conv=>rhs;rw[<-List.map_id l]
  exact List.map_congr_left fun x _=>Tw x
 rw[e,e]
def qrD(g:Jw)(w:World)(e:Ending)(w':World):Prop:=∃ u1 u2 u3,e=.returned (.agg #[u1,u2,u3])/\(∀ w'':World,(∀ b,w.heap.size<=b->b<w'.heap.size->w''.heap[b]? = w'.heap[b]?)->kR w'' w''.heap.size u1 u2 u3 (gO g))/\Below w.heap.size w w'
theorem ip(v1 v2 v3:Value)(g:Jw)(w:World)(hb:Vu g=false)(Fd:g.1.length+g.2.1.length<=4611686018427387904)(h:kR w w.heap.size v1 v2 v3 g) :
  Calls Tryz.prog 29 #[.agg #[v1,v2,v3]] w (qrD g w):=by
 obtain⟨A1,A2,A3,c1,c2,c3,rfl,rfl,rfl⟩:=h.form;have HC:Hid (gO g=([],[],[])):=if_neg (by rw[hb];decide);obtain⟨S,hS⟩:=Xe w.heap.size;have HB1:=Lh (show Below S w ((w.alloc (.cells #[.slice A1 g.1.length c1,.slice A2 g.2.1.length c2,.slice A3 g.2.2.length c3] 25)).alloc (.cells #[.slice none 0 0,.slice none 0 0,.slice none 0 0] 25)) from
  ((Xr S w).alloc (Yh hS) _).alloc (by rw[Xs];omega) _)
 have HR1:=Lh (show ((w.alloc (.cells #[.slice A1 g.1.length c1,.slice A2 g.2.1.length c2,.slice A3 g.2.2.length c3] 25)).alloc (.cells #[.slice none 0 0,.slice none 0 0,.slice none 0 0] 25)).heap[S+1]? = some (.cells #[.slice none 0 0,.slice none 0 0,.slice none 0 0] 25 (0,0)) by
  have:=Xn (w.alloc (.cells #[.slice A1 g.1.length c1,.slice A2 g.2.1.length c2,.slice A3 g.2.2.length c3] 25)) (.cells #[.slice none 0 0,.slice none 0 0,.slice none 0 0] 25)
  rwa [Xs,<-hS] at this)
 rw[<-hS] at h;have qqF:=Lh (fun(W:World)(hb:Below S w W)(hs:S<=W.heap.size)=>Sk (.slice A1 g.1.length c1) (.slice A2 g.2.1.length c2) (.slice A3 g.2.2.length c3) g.1 g.2.1 g.2.2 W Fd (h.names.fut hb (Xz _) hs) (h.terms.fut hb (Xz _) hs) (h.rules.fut hb (Xz _) hs));have HBB:=Lh hb;have HSE:=Lh hS;clear h hb;generalize g.1.length=n at *;generalize g.2.1.length=m at *;generalize g.2.2.length=q at *;go_enter Tryz.func29,Tryz.ntmps29;go_wp2_with fail;rw[<-hS];clear hS;generalize (w.alloc (.cells #[.slice A1 n c1,.slice A2 m c2,.slice A3 q c3] 25)).alloc (.cells #[.slice none 0 0,.slice none 0 0,.slice none 0 0] 25)=w1 at *;have HZ1:Hid (S+1<w1.heap.size):=(gl HR1.o);refine (qqF.o w1 HB1.o (by have:=HZ1.o;omega)).mono ?_;rintro e w2 ⟨rfl,Zy⟩;rw[show Vu (g.1,g.2.1,g.2.2)=false from HBB.o];have HB2:=Lh (HB1.o.trans (Zy.mono (by have:=HZ1.o;omega)));have HR2:=Lh ((Zy.block (S+1) HZ1.o).trans HR1.o);clear Zy HB1 HR1 HZ1 qqF;go_wp2_with (refine Jc none rfl ?_);refine Stop.go (Zo rfl 25 rfl rfl rfl (Db HR2.o rfl rfl rfl rfl) ?_);have Ch:=Lh (Zf _ _ _ _ _ _ HR2.o:(w2.setRow (S+1) [.slice none 0 0,.slice none 0 0,.slice none 0 0].toArray).heap[S+1]? = _);have Te:=Lh (Zg HB2.o (Yg S) [.slice none 0 0,.slice none 0 0,.slice none 0 0].toArray);generalize w2.setRow (S+1) [.slice none 0 0,.slice none 0 0,.slice none 0 0].toArray=wz at *;generalize ha:Act.put _ _ _=z9;simp[Act.put] at ha;subst ha;go_wp2_with fail;refine sG (g:=S+1) rfl rfl rfl Ch.o ?_;exact⟨_,_,_,rfl,fun _ _=>by rw[HC.o];exact kR.zero,by rw[<-HSE.o];exact Te.o⟩
theorem gN(v1 v2 v3:Value)(g:Jw)(w:World)(Fd:g.1.length+g.2.1.length<=4611686018427387904)(h:kR w w.heap.size v1 v2 v3 g) :
  Calls Tryz.prog 29 #[.agg #[v1,v2,v3]] w (qrD g w):=by
 rcases Ym (Vu g) with hg | hg
 ·have hgd:=(Gf g).1 hg;refine (f_ v1 v2 v3 (g.1.map Mr) (g.2.1.map Mr) g.2.2 w (by rw[Sc];exact hgd) (by rw[show (g.1.map Mr).map Ki=g.1 from congrArg Prod.fst (Sc g)];exact h.names) (by rw[show (g.2.1.map Mr).map Ki=g.2.1 from congrArg (fun x:Jw=>x.2.1) (Sc g)];exact h.terms) h.rules).mono ?_;rintro e w' ⟨u1,u2,u3,rfl,ha,hb⟩;refine⟨u1,u2,u3,rfl,fun w'' hw=>?_,hb⟩;obtain⟨a1,a2,a3⟩:=ha w'' hw;rw[show gO g=Zx g from if_pos hg];exact⟨qtC a1,qtC a2,a3⟩
 ·exact ip v1 v2 v3 g w hg Fd h
def kC(K:Nat)(x:Vp):Prop:=x.2.length<=K/\x.1.size<=32/\∀ a∈x.2,∀ it∈a,it.2.size<=32
def zeB(a:List Nv):Prop:=∀ it∈a,it.2.size<=32
def zcC(k:Nat):PSt->Prop
 |.name done=>done.length<=k/\∀ x∈done,kC k x
 |.colon done nm=>done.length+1<=k/\(∀ x∈done,kC k x)/\nm.size<=32
 |.item done nm alts alt=>done.length+1<=k/\(∀ x∈done,kC k x)/\nm.size<=32/\alts.length+1<=k/\(∀ a∈alts,zeB a)/\zeB alt
theorem kC.up{K L:Nat}{x:Vp}(h:kC K x)(hk:K<=L):kC L x:=⟨Ya h.1 hk,h.2⟩
theorem qsZ{k:Nat}{st st':PSt}{t:Un}(h:To st t=some st')(hs:zcC k st)(ht:t.2.1.length<=32):zcC (k+1) st':=by
 have hb:(Ki t.2.1).size<=32:=by rw[kx];exact ht
 cases st with
 |name done =>
  change (if t.1=1 then some (PSt.colon done (Ki t.2.1)) else none)=some st' at h
  split at h
  ·injection h with h;subst h;exact⟨Nat.succ_le_succ hs.1,fun x hx=>(hs.2 x hx).up (Yg k),hb⟩
  ·cases h
 |colon done nm =>
  obtain⟨h1,h2,h3⟩:=hs;change (if t.1=3 then some (PSt.item done nm [] []) else none)=some st' at h
  split at h
  ·injection h with h;subst h;exact⟨by omega,fun x hx=>(h2 x hx).up (Yg k),h3,by simp,fun a ha=>(by cases ha),fun a ha=>(by cases ha)⟩
  ·cases h
 |item done nm alts alt =>
  obtain⟨h1,h2,h3,h4,h5,h6⟩:=hs;have h2':∀ x∈done,kC (k+1) x:=fun x hx=>(h2 x hx).up (Yg k);change (if t.1=1\/t.1=2 then some (PSt.item done nm alts (alt++[(decide (t.1=2),Ki t.2.1)])) else if t.1=4 then some (PSt.item done nm (alts++[alt]) []) else if t.1=5 then some (PSt.name (done++[(nm,alts++[alt])])) else none)=some st' at h
  have h7:∀ a∈alts++[alt],zeB a:=fun a ha=>by
   rcases Qh.1 ha with ha | ha
   ·exact h5 a ha
   ·rw[Qi.1 ha];exact h6
  split at h
  ·injection h with h;subst h;refine⟨by omega,h2',h3,by omega,h5,fun it hit=>?_⟩;rcases Qh.1 hit with hit | hit
   ·exact h6 it hit
   ·rw[Qi.1 hit];exact hb
  ·split at h
   ·injection h with h;subst h;exact⟨by omega,h2',h3,by rw[Qe,Qf];omega,h7,fun it hit=>by cases hit⟩
   ·split at h
    ·injection h with h;subst h;refine⟨by rw[Qe,Qf];omega,fun x hx=>?_⟩;rcases Qh.1 hx with hx | hx
     ·exact h2' x hx
     ·rw[Qi.1 hx];exact⟨by show List.length (alts++[alt])<=_;rw[Qe,Qf];omega,h3,h7⟩
    ·cases h
theorem qyJ(len:Nat):∀(toks:List Un)(k:Nat)(st:PSt),zcC k st->(∀ t∈toks,t.2.1.length<=32)->(goP len st toks).1.length<=k+toks.length/\∀ x∈(goP len st toks).1,kC (k+toks.length) x
 |[],k,st,hs,_=>by
  cases st with
  |name done =>
   unfold goP;split
   ·exact⟨Ye _,fun x hx=>by cases hx⟩
   ·exact hs
  |colon _ _=>exact⟨Ye _,fun x hx=>by cases hx⟩
  |item _ _ _ _=>exact⟨Ye _,fun x hx=>by cases hx⟩
 |t::r,k,st,hs,ht=>by
  rw[uA];split
  ·exact⟨Ye _,fun x hx=>by cases hx⟩
  ·rename_i st' h;have:=qyJ len r (k+1) st' (qsZ h hs (ht t (by simp))) (fun x hx=>ht x (by simp[hx]));rw[show k+1+r.length=k+(t::r).length by rw[Qu];omega] at this;exact this
theorem qpU(s:Wd):(Tk s).1.length<=65536/\∀ x∈(Tk s).1,kC 65536 x:=by
 unfold Tk;split
 ·exact⟨Ye _,fun x hx=>by cases hx⟩
 ·obtain⟨h1,h2⟩:=qmG s;obtain⟨h3,h4⟩:=qyJ s.length (Lo s).1 0 (.name []) ⟨Xz _,fun x hx=>by cases hx⟩ h2;exact⟨by show List.length (goP _ _ _).1<=_;omega,fun x hx=>(h4 x hx).up (by omega)⟩
theorem zbV(s:Wd):LnS (Tk s).1:=fun x hx=>by
 obtain⟨h1,h2,h3⟩:=(qpU s).2 x hx;exact⟨by unfold maxLen;omega,fun a ha it hit=>by have:=h3 a ha it hit;unfold maxLen;omega⟩
def Gb(s:Wd):Jw×Nat×Nat:=if (Tk s).2.2≠0 then (([],[],[]),(Tk s).2.1,(Tk s).2.2) else (gO (Ku (Tk s).1).1,0,(Ku (Tk s).1).2)
theorem zJ{fn:Func}{p u x:Tmp}{r y:Value}{Q:Ending->World->Prop}(h:fn.results=#[.cell p 25,.tmp u,.tmp x]){a:Act}{w:World}{g:Nat}{c0 c1 c2:Value}{fr:Nat×Nat}{t:TypeId}(hd:a.defers=[])
  (hp:a.tmps.getD p undef=.pointer (some ⟨g,0,none⟩)) (hu:a.tmps.getD u undef=r) (hx:a.tmps.getD x undef=y) (hg:w.heap[g]? = some (.cells #[c0,c1,c2] t fr)) (hq:Q (.returned (.tuple #[.agg #[c0,c1,c2],r,y])) w):bodyPost Tryz.prog fn Q .ret a w:=by
 refine Ze (v:=.tuple #[.agg #[c0,c1,c2],r,y]) ?_ hd hq;rw[Gs h,hp,hu,hx];simp[asAddr,Result.andThen,run_loadVar_row w g t 25 #[c0,c1,c2] fr _ hg Tryz.underlying25 rfl (by kernel_rfl)]
def gW(s:Wd)(w:World)(e:Ending)(w':World):Prop:=∃ v1 v2 v3,e=.returned (.tuple #[.agg #[v1,v2,v3],.int .i64 (Gb s).2.1,.int .i64 (Gb s).2.2])/\kR w' w'.heap.size v1 v2 v3 (Gb s).1/\Below w.heap.size w w'
theorem gW.of{s:Wd}{w w':World}{g:Jw}{i n:Nat}{v1 v2 v3:Value}(h:Gb s=(g,i,n))(hg:kR w' w'.heap.size v1 v2 v3 g)(hb:Below w.heap.size w w'):gW s w (.returned (.tuple #[.agg #[v1,v2,v3],.int .i64 i,.int .i64 n])) w':=by
 unfold gW;rw[h];exact⟨_,_,_,rfl,hg,hb⟩
theorem xG(l:List Vp):(Ku l).1.1.length+(Ku l).1.2.1.length<=256:=by
 unfold Ku
 repeat' split
 all_goals first
  |(simp;done)
  |(simp only[Qk];omega)
theorem qkZ(s:ByteArray)(w:World)(hs:s.size<=maxLen):Calls Tryz.prog 56 #[.string s] w (gW s.data.toList w):=by
 obtain⟨S,hS⟩:=Xe w.heap.size;have Cq:Below w.heap.size w (w.alloc (.cells #[.slice none 0 0,.slice none 0 0,.slice none 0 0] 25)):=(Xr _ _).alloc (Xz _) _;have HS1:=Lh (Xn w (.cells #[.slice none 0 0,.slice none 0 0,.slice none 0 0] 25));have HZ1:=Lh (Xs w (.cells #[.slice none 0 0,.slice none 0 0,.slice none 0 0] 25));have HB1:=Lh Cq;rw[<-hS] at HS1 HZ1;have HSE:=Lh hS;have wS:=Lh (fun W:World=>qiE s W hs);obtain⟨l,qi,er,hF⟩:∃ l qi er,Tk s.data.toList=(l,qi,er):=⟨_,_,_,rfl⟩;have HF:=Lh hF;have HZ:=Lh (qpU s.data.toList);have jm:=Lh (zbV s.data.toList);rw[hF] at HZ jm;unfold Rm at wS;rw[hF] at wS;simp only at HZ jm wS;clear hF Cq hs;go_enter Tryz.func56,Tryz.ntmps56;go_wp2_with fail;rw[<-hS];clear hS;generalize w.alloc (.cells #[.slice none 0 0,.slice none 0 0,.slice none 0 0] 25)=w1 at *;refine (wS.o w1).mono ?_;rintro e w2 ⟨vl,rfl,Uv,Zy⟩;have HS2:=Lh ((Zy.block S (by rw[HZ1.o];omega)).trans HS1.o);have HB2:=Lh (HB1.o.trans (Zy.mono (by rw[HZ1.o,HSE.o];omega)));have HSL:=Lh Uv;clear Zy Uv HS1 HB1 HZ1;by_cases her:er=0
 ·subst her;have HRF:=Lh (show Gb s.data.toList=(gO (Ku l).1,0,(Ku l).2) by
   unfold Gb
   rw[HF.o,if_neg (by simp)])
  have HRE:=Lh (mm vl l w2 HSL.o jm.o (by have:=HZ.o.1;omega) (fun x hx=>by have:=(HZ.o.2 x hx).1;omega));obtain⟨A0,c0,rfl,_,_⟩:=HSL.o.form;obtain⟨g,en,hRF⟩:∃ g en,Ku l=(g,en):=⟨_,_,rfl⟩;have qQ:=Lh (xG l);unfold Ih at HRE;rw[hRF] at HRE HRF qQ;simp only at HRE HRF qQ;clear hRF;obtain⟨n0,hn0⟩:=Xe l.length;rw[<-hn0] at HRE |-;clear hn0;go_wp2_with fail;refine HRE.o.mono ?_;rintro e w3 ⟨v1,v2,v3,rfl,a1,a2,a3,hb3⟩;obtain⟨A1,A2,A3,c1,c2,c3,rfl,rfl,rfl⟩:=kR.form (B:=w3.heap.size) ⟨a1,a2,a3⟩;have hb4:Below w3.heap.size w3 (w3.alloc (.cells #[.slice A1 g.1.length c1,.slice A2 g.2.1.length c2,.slice A3 g.2.2.length c3] 25)):=(Xr _ _).alloc (Xz _) _;have HS4:=Lh (((hb3.trans (hb4.mono hb3.size)).block S (gl HS2.o)).trans HS2.o);have HB4:=Lh (HB2.o.trans ((hb3.trans (hb4.mono hb3.size)).mono (by have:=(gl HS2.o);rw[<-HSE.o];omega)));have HG4:=Lh (kR.fut (B':=(w3.alloc (.cells #[.slice A1 g.1.length c1,.slice A2 g.2.1.length c2,.slice A3 g.2.2.length c3] 25)).heap.size) ⟨a1,a2,a3⟩ hb4 (Xz _) hb4.size);have HCN:=Lh (gN (.slice A1 g.1.length c1) (.slice A2 g.2.1.length c2) (.slice A3 g.2.2.length c3) g (w3.alloc (.cells #[.slice A1 g.1.length c1,.slice A2 g.2.1.length c2,.slice A3 g.2.2.length c3] 25)) (by have:=qQ.o;omega) HG4.o);obtain⟨n,hn⟩:=Xe g.1.length;obtain⟨m,hm⟩:=Xe g.2.1.length;obtain⟨q,hq⟩:=Xe g.2.2.length;rw[<-hn,<-hm,<-hq] at HCN HS4 HB4 |-;clear a1 a2 a3 hb3 hb4 HG4 hn hm hq qQ;go_wp2_with fail;refine HCN.o.mono ?_;generalize w3.alloc (.cells #[.slice A1 n c1,.slice A2 m c2,.slice A3 q c3] 25)=w4 at *;rintro e w5 ⟨u1,u2,u3,rfl,fZ,hb5⟩;obtain⟨B1,B2,B3,d1,d2,d3,rfl,rfl,rfl⟩:=(fZ w5 fun _ _ _=>rfl).form;have pV:=Lh ((hb5.block S (gl HS4.o)).trans HS4.o);have HB5:=Lh (HB4.o.trans (hb5.mono (by have:=(gl HS4.o);rw[<-HSE.o];omega)));have HG5:=Lh fZ;clear fZ hb5;generalize (gO g).1.length=n1 at *;generalize (gO g).2.1.length=m1 at *;generalize (gO g).2.2.length=q1 at *;go_wp2_with (refine Jc none rfl ?_);refine Stop.go (Zo rfl 25 rfl rfl rfl (Db pV.o rfl rfl rfl rfl) ?_);have Ch:=Lh (Zf _ _ _ _ _ _ pV.o:(w5.setRow S [.slice B1 n1 d1,.slice B2 m1 d2,.slice B3 q1 d3].toArray).heap[S]? = _);have Te:=Lh (Zg HB5.o (Yh HSE.o.symm) [.slice B1 n1 d1,.slice B2 m1 d2,.slice B3 q1 d3].toArray);have HGF:=Lh (HG5.o (w5.setRow S [.slice B1 n1 d1,.slice B2 m1 d2,.slice B3 q1 d3].toArray) fun b h1 _=>setRow_other w5 S b _ (fun e=>by have:=(gl HS4.o);omega));generalize w5.setRow S [.slice B1 n1 d1,.slice B2 m1 d2,.slice B3 q1 d3].toArray=wz at *;generalize ha:Act.put _ _ _=z9;simp[Act.put] at ha;subst ha;go_wp2_with fail;refine zJ (g:=S) rfl rfl rfl rfl rfl Ch.o ?_;exact gW.of HRF.o HGF.o Te.o
 ·have g0:((er:Int) != 0)=true:=by simp;omega
  have Kl:=Lh (show Gb s.data.toList=(([],[],[]),qi,er) by
   unfold Gb
   rw[HF.o,if_pos her])
  go_wp2_with (refine Jc none rfl ?_);refine Stop.go (Zo rfl 25 rfl rfl rfl (Db HS2.o rfl rfl rfl rfl) ?_);have Ch:=Lh (Zf _ _ _ _ _ _ HS2.o:(w2.setRow S [.slice none 0 0,.slice none 0 0,.slice none 0 0].toArray).heap[S]? = _);have Te:=Lh (Zg HB2.o (Yh HSE.o.symm) [.slice none 0 0,.slice none 0 0,.slice none 0 0].toArray);generalize w2.setRow S [.slice none 0 0,.slice none 0 0,.slice none 0 0].toArray=wz at *;generalize ha:Act.put _ _ _=z9;simp[Act.put] at ha;subst ha;go_wp2_with fail;refine zJ (g:=S) rfl rfl rfl rfl rfl Ch.o ?_;exact gW.of Kl.o kR.zero Te.o
theorem bu(a b:Value)(xs ys:List ByteArray)(w:World)(ha:Jb Mc w w.heap.size a xs)(hb:Jb Mc w w.heap.size b ys) :
  Calls Tryz.prog 118 #[a,b] w fun e w'=>e=.returned (.bool (decide (xs=ys)))/\Below w.heap.size w w':=by
 obtain⟨A,c,rfl,hc1,hc2⟩:=ha.form;obtain⟨B,d,rfl,iB,jJ⟩:=hb.form;unfold maxLen at hc2 jJ;by_cases hl:xs.length=ys.length
 ·have hne:((xs.length:Int) != (ys.length:Int))=false:=by simp;omega
  go_enter Tryz.func118,Tryz.ntmps118;go_wp2;go_loopw [13] (fun v8 wr=>∃ k:Nat,k<=xs.length/\v8=.int .i64 k/\Hid (∀(j:Nat)(h:j<xs.length)(h2:j<ys.length),j<k->xs[j]=ys[j])/\Below w.heap.size w wr) (fun v8 _=>xs.length - (intOf v8).toNat);exact⟨0,by omega,rfl,fun j h h2 hj=>by omega,Xr _ _⟩;obtain⟨k,hk,rfl,hno,hbr⟩:=hrel;by_cases Jo:k<xs.length
  ·have zz:k<ys.length:=by omega
   obtain⟨ab,ao,cs,rfl,_,Aj,Zt,Zj⟩:=(ha.below hbr).get Jo (by decide);obtain⟨rfl,Ta⟩:=Zt;have Vi:=Zj 0 _ rfl;obtain⟨bb,bo,cs,rfl,_,kO,Zt,Je⟩:=(hb.below hbr).get zz (by decide);obtain⟨rfl,qC⟩:=Zt;have hd0:=Je 0 _ rfl;clear Zj Je;simp only[show Mc.size=1 from rfl,Yq,Yo] at Vi hd0;by_cases heq:xs[k]=ys[k]
   ·have hq:(xs[k].toList==ys[k].toList)=true:=by rw[heq];exact beq_self_eq_true _
    have HQ:=Lh heq;clear heq;go_wp2_with fail;refine Text.wt (by kernel_rfl) fun Q' hQ'=>?_;go_wp2;refine⟨by rfl,?_⟩;go_wp2;go_roundw;exact⟨k+1,by omega,by go_num,fun j h h2 hj=>by by_cases e:j=k;(subst e;exact HQ.o);exact hno.o j h h2 (by omega),hbr.drew⟩;simp[intOf];omega
   ·have hq:(xs[k].toList==ys[k].toList)=false:=by rw[<-beq_toListBytes,Gh,Yj];exact fun e=>heq e.symm
    have HQ:=Lh heq;clear heq;go_wp2_with fail;refine Text.wt (by kernel_rfl) fun Q' hQ'=>?_;go_wp2;refine⟨by rfl,?_⟩;go_wp2;go_ret;exact⟨Kd (Zm (by rw[eq_comm,Yj];intro h;subst h;exact HQ.o rfl)),hbr.drew⟩
  ·have HEQ:Hid (xs=ys):=List.ext_getElem hl fun j h h2=>hno.o j h h2 (by omega);go_wp2;go_ret;exact⟨Kd (Zm (by rw[eq_comm,Yi];exact HEQ.o)),hbr⟩
 ·have hne:((xs.length:Int) != (ys.length:Int))=true:=by simp;omega
  go_enter Tryz.func118,Tryz.ntmps118;go_wp2;go_ret;exact⟨Kd (Zm (by rw[eq_comm,Yj];intro h;subst h;exact hl rfl)),Xr _ _⟩
theorem qoO(a b:Value)(xs ys:List Jj)(w:World)(ha:Jb Kx w w.heap.size a xs)(hb:Jb Kx w w.heap.size b ys) :
  Calls Tryz.prog 119 #[a,b,.func (.func 120) #[] #[]] w fun e w'=>e=.returned (.bool (decide (xs=ys)))/\Below w.heap.size w w':=by
 obtain⟨A,c,rfl,hc1,hc2⟩:=ha.form;obtain⟨B,d,rfl,iB,jJ⟩:=hb.form;unfold maxLen at hc2 jJ;have HA:=Lh ha;have HB:=Lh hb;clear ha hb;by_cases hl:xs.length=ys.length
 ·have hne:((xs.length:Int) != (ys.length:Int))=false:=by simp;omega
  obtain⟨n,hn⟩:=Xe xs.length;rw[<-hl] at HB iB |-;rw[<-hn] at HA HB hc1 iB |-;have HN:=Lh hn;have HL:=Lh hl;clear hn hl hne;go_enter Tryz.func119,Tryz.ntmps119;go_wp2_with fail;have HE0:Hid (∀(j:Nat)(h:j<xs.length)(h2:j<ys.length),j<0->xs[j]=ys[j]):=fun j h h2 hj=>by omega
  have HB0:=Lh (Xr w.heap.size w);go_loopw [17] (fun v8 wr=>∃ k:Nat,k<=n/\v8=.int .i64 k/\Hid (∀(j:Nat)(h:j<xs.length)(h2:j<ys.length),j<k->xs[j]=ys[j])/\Hid (Below w.heap.size w wr)) (fun v8 _=>n - (intOf v8).toNat);exact⟨0,by omega,rfl,HE0.o,HB0.o⟩;clear HE0 HB0;obtain⟨k,hk,rfl,hno,hbr⟩:=hrel;by_cases Jo:k<n
  ·have hlx:k<xs.length:=by rw[<-HN.o];exact Jo
   have hly:k<ys.length:=by rw[<-HL.o];exact hlx
   obtain⟨ab,ao,cs,rfl,_,Aj,Zt,Zj⟩:=(HA.o.below hbr.o).get hlx (by decide);obtain⟨u1,rfl,hu1,Sr,Fn⟩:=Jv Zt;obtain⟨bb,bo,cs,rfl,_,kO,Us,Je⟩:=(HB.o.below hbr.o).get hly (by decide);obtain⟨u2,rfl,qD,hz3,hz4⟩:=Jv Us;obtain⟨A1,e1,rfl,oM,oL⟩:=hu1.form;obtain⟨A2,e2,rfl,he3,he4⟩:=qD.form;have a0:=Zj 0 _ rfl;have a1:=Zj 1 _ rfl;have b0:=Je 0 _ rfl;have b1:=Je 1 _ rfl;simp only[show Kx.size=2 from rfl,Yo,<-Yv] at a0 a1 b0 b1;clear Zj Je Zt Us;have iC:=Lh hu1;have HU2:=Lh qD;have Oj:=Lh (show ∀(j:Nat)(h:j<xs.length)(h2:j<ys.length),xs[k]=ys[k]->j<k+1->xs[j]=ys[j] from fun j h h2 e hj=>by
    by_cases e2:j=k
    ·subst e2;exact e
    ·exact hno.o j h h2 (by omega))
   have HNE:Hid (xs[k]≠ys[k]->xs≠ys):=fun h e=>h (by subst e;rfl);clear hu1 qD;generalize xs[k]=x at *;generalize ys[k]=y at *;clear hlx hly;obtain⟨x1,x2⟩:=x;obtain⟨y1,y2⟩:=y;simp only at a0 a1 b0 b1 iC HU2 oM he3;generalize x2.length=n1 at *;generalize y2.length=n2 at *;have Zy:Below wr.heap.size wr ((wr.alloc (.cells #[.int .i64 x1,.slice A1 n1 e1] 63)).alloc (.cells #[.int .i64 y1,.slice A2 n2 e2] 63)):=((Xr _ _).alloc (Xz _) _).alloc (by rw[Xs];omega) _;have HB2:=Lh (hbr.o.trans (Zy.mono hbr.o.size));have HLK:=Lh (pe (.slice A1 n1 e1) (.slice A2 n2 e2) x1 y1 x2 y2 ((wr.alloc (.cells #[.int .i64 x1,.slice A1 n1 e1] 63)).alloc (.cells #[.int .i64 y1,.slice A2 n2 e2] 63)) (iC.o.fut Zy hbr.o.size (Ya hbr.o.size Zy.size)) (HU2.o.fut Zy hbr.o.size (Ya hbr.o.size Zy.size)));clear Zy;have hab':ab<wr.heap.size:=Yb Aj hbr.o.size;have hbb':bb<wr.heap.size:=Yb kO hbr.o.size;go_wp2_with fail;clear a0 a1 b0 b1;generalize (wr.alloc (.cells #[.int .i64 x1,.slice A1 n1 e1] 63)).alloc (.cells #[.int .i64 y1,.slice A2 n2 e2] 63)=w2 at *;refine HLK.o.mono ?_;rintro e w3 ⟨rfl,hb3⟩;have HB3:=Lh (HB2.o.trans (hb3.mono HB2.o.size));by_cases heq:((x1,x2):Jj)=(y1,y2)
   ·rw[Yt heq];have HNX:=Lh (fun(j:Nat)(h:j<xs.length)(h2:j<ys.length)(hj:j<k+1)=>Oj.o j h h2 heq hj);clear heq hb3;go_wp2_with fail;go_roundw;exact⟨k+1,by omega,by go_num,HNX.o,HB3.o⟩;simp[intOf];omega
   ·rw[Yu heq];have HNX:=Lh (HNE.o heq);clear heq hb3;go_wp2_with fail;go_ret;exact⟨Kd (Zm (Yu HNX.o).symm),HB3.o⟩
  ·obtain rfl:k=n:=by omega
   have HEQ:Hid (xs=ys):=List.ext_getElem HL.o fun j h h2=>hno.o j h h2 (by rw[HN.o];exact h);go_wp2_with fail;go_ret;exact⟨Kd (Zm (Yt HEQ.o).symm),hbr.o⟩
 ·have hne:((xs.length:Int) != (ys.length:Int))=true:=by simp;omega
  have HNE:Hid (¬ xs=ys):=fun e=>hl (by rw[e]);go_enter Tryz.func119,Tryz.ntmps119;go_wp2_with fail;go_ret;exact⟨Kd (Zm (Yu HNE.o).symm),Xr _ _⟩
theorem qvN{g h:Jw}(h1:g.1=h.1)(h2:g.2.1=h.2.1):decide (g=h)=decide (g.2.2=h.2.2):=by
 rw[decide_eq_decide];constructor
 ·intro e;rw[e]
 ·intro e;obtain⟨a,b,c⟩:=g;obtain⟨a',b',c'⟩:=h;simp only at h1 h2 e;rw[h1,h2,e]
theorem jN(v1 v2 v3 u1 u2 u3:Value)(g h:Jw)(w:World)(hg:kR w w.heap.size v1 v2 v3 g)(hh:kR w w.heap.size u1 u2 u3 h) :
  Calls Tryz.prog 62 #[.agg #[v1,v2,v3],.agg #[u1,u2,u3]] w fun e w'=>e=.returned (.bool (decide (g=h)))/\Below w.heap.size w w':=by
 obtain⟨A1,A2,A3,c1,c2,c3,rfl,rfl,rfl⟩:=hg.form;obtain⟨B1,B2,B3,d1,d2,d3,rfl,rfl,rfl⟩:=hh.form;obtain⟨S,hS⟩:=Xe w.heap.size;have HE1:=Lh (fun(W:World)(hb:Below w.heap.size w W)=>bu _ _ g.1 h.1 W (hg.names.fut hb (Xz _) hb.size) (hh.names.fut hb (Xz _) hb.size));have de:=Lh (fun(W:World)(hb:Below w.heap.size w W)=>bu _ _ g.2.1 h.2.1 W (hg.terms.fut hb (Xz _) hb.size) (hh.terms.fut hb (Xz _) hb.size));have HE3:=Lh (fun(W:World)(hb:Below w.heap.size w W)=>qoO _ _ g.2.2 h.2.2 W (hg.rules.fut hb (Xz _) hb.size) (hh.rules.fut hb (Xz _) hb.size));have zwK:Hid (g.1≠h.1->decide (g=h)=false):=fun e=>Yu fun e2=>e (by rw[e2]);have zwJ:Hid (g.2.1≠h.2.1->decide (g=h)=false):=fun e=>Yu fun e2=>e (by rw[e2]);have HEQ:=Lh (fun(a:g.1=h.1)(b:g.2.1=h.2.1)=>qvN a b);clear hg hh;generalize g.1.length=n at *;generalize g.2.1.length=m at *;generalize g.2.2.length=q at *;generalize h.1.length=n' at *;generalize h.2.1.length=m' at *;generalize h.2.2.length=q' at *;have HB1:Hid (Below w.heap.size w ((w.alloc (.cells #[.slice A1 n c1,.slice A2 m c2,.slice A3 q c3] 25)).alloc (.cells #[.slice B1 n' d1,.slice B2 m' d2,.slice B3 q' d3] 25))):=((Xr _ _).alloc (Xz _) _).alloc (by rw[Xs];omega) _;have HG1:=Lh (Go.heap_alloc2_old w (.cells #[.slice A1 n c1,.slice A2 m c2,.slice A3 q c3] 25) (.cells #[.slice B1 n' d1,.slice B2 m' d2,.slice B3 q' d3] 25));have HH1:=Lh (Go.heap_alloc2_new w (.cells #[.slice A1 n c1,.slice A2 m c2,.slice A3 q c3] 25) (.cells #[.slice B1 n' d1,.slice B2 m' d2,.slice B3 q' d3] 25));rw[<-hS] at HG1 HH1;by_cases e1:g.1=h.1
 ·by_cases e2:g.2.1=h.2.1
  ·have HR:=Lh (HEQ.o e1 e2);simp only[Yt e1] at HE1;simp only[Yt e2] at de;clear e1 e2;go_enter Tryz.func62,Tryz.ntmps62;go_wp2_with fail;rw[<-hS];clear hS;generalize (w.alloc (.cells #[.slice A1 n c1,.slice A2 m c2,.slice A3 q c3] 25)).alloc (.cells #[.slice B1 n' d1,.slice B2 m' d2,.slice B3 q' d3] 25)=w1 at *;refine (HE1.o w1 HB1.o).mono ?_;rintro e w2 ⟨rfl,Zy⟩;have HB2:=Lh (HB1.o.trans (Zy.mono HB1.o.size));have HG2:=Lh ((Zy.block S (gl HG1.o)).trans HG1.o);have HH2:=Lh ((Zy.block (S+1) (gl HH1.o)).trans HH1.o);obtain⟨a0,a1,a2⟩:=Zs HG2.o;obtain⟨b0,b1,b2⟩:=Zs HH2.o;go_wp2_with fail;refine (de.o w2 HB2.o).mono ?_;rintro e w3 ⟨rfl,hb3⟩;have HB3:=Lh (HB2.o.trans (hb3.mono HB2.o.size));have kH:=Lh ((hb3.block S (gl HG2.o)).trans HG2.o);have HH3:=Lh ((hb3.block (S+1) (gl HH2.o)).trans HH2.o);obtain⟨a0,a1,a2⟩:=Zs kH.o;obtain⟨b0,b1,b2⟩:=Zs HH3.o;go_wp2_with fail;refine (HE3.o w3 HB3.o).mono ?_;rintro e w4 ⟨rfl,hb4⟩;have HB4:=Lh (HB3.o.trans (hb4.mono HB3.o.size));go_wp2_with fail;go_ret;exact⟨Kd (Zm HR.o.symm),HB4.o⟩
  ·have HR:=Lh (zwJ.o e2);simp only[Yt e1] at HE1;simp only[Yu e2] at de;clear e1 e2;go_enter Tryz.func62,Tryz.ntmps62;go_wp2_with fail;rw[<-hS];clear hS;generalize (w.alloc (.cells #[.slice A1 n c1,.slice A2 m c2,.slice A3 q c3] 25)).alloc (.cells #[.slice B1 n' d1,.slice B2 m' d2,.slice B3 q' d3] 25)=w1 at *;refine (HE1.o w1 HB1.o).mono ?_;rintro e w2 ⟨rfl,Zy⟩;have HB2:=Lh (HB1.o.trans (Zy.mono HB1.o.size));have HG2:=Lh ((Zy.block S (gl HG1.o)).trans HG1.o);have HH2:=Lh ((Zy.block (S+1) (gl HH1.o)).trans HH1.o);obtain⟨a0,a1,a2⟩:=Zs HG2.o;obtain⟨b0,b1,b2⟩:=Zs HH2.o;go_wp2_with fail;refine (de.o w2 HB2.o).mono ?_;rintro e w3 ⟨rfl,hb3⟩;have HB3:=Lh (HB2.o.trans (hb3.mono HB2.o.size));have kH:=Lh ((hb3.block S (gl HG2.o)).trans HG2.o);have HH3:=Lh ((hb3.block (S+1) (gl HH2.o)).trans HH2.o);obtain⟨a0,a1,a2⟩:=Zs kH.o;obtain⟨b0,b1,b2⟩:=Zs HH3.o;go_wp2_with fail;go_ret;exact⟨Kd (Zm HR.o.symm),HB3.o⟩
 ·have HR:=Lh (zwK.o e1);simp only[Yu e1] at HE1;clear e1;go_enter Tryz.func62,Tryz.ntmps62;go_wp2_with fail;rw[<-hS];clear hS;generalize (w.alloc (.cells #[.slice A1 n c1,.slice A2 m c2,.slice A3 q c3] 25)).alloc (.cells #[.slice B1 n' d1,.slice B2 m' d2,.slice B3 q' d3] 25)=w1 at *;refine (HE1.o w1 HB1.o).mono ?_;rintro e w2 ⟨rfl,Zy⟩;have HB2:=Lh (HB1.o.trans (Zy.mono HB1.o.size));have HG2:=Lh ((Zy.block S (gl HG1.o)).trans HG1.o);have HH2:=Lh ((Zy.block (S+1) (gl HH1.o)).trans HH1.o);obtain⟨a0,a1,a2⟩:=Zs HG2.o;obtain⟨b0,b1,b2⟩:=Zs HH2.o;go_wp2_with fail;go_ret;exact⟨Kd (Zm HR.o.symm),HB2.o⟩
theorem zr(F:FuncId)(cap:Array Value)(p:Int×List (Int×Int)->Bool)(v:Value)(xs:List (Int×List (Int×Int)))(w:World)(hv:Jb Jn w w.heap.size v xs)
  (hF:∀(args:Array Value)(w:World),(callFunc F args).run Tryz.prog w=.ok (.enter F args) w)
  (hp:∀(cs:List Value)(x:Int×List (Int×Int))(w1:World),x∈xs->Below w.heap.size w w1->(Jn).rep w1 w.heap.size cs x->Calls Tryz.prog F (#[.agg cs.toArray]++cap) w1 fun e w2=>e=.returned (.bool (p x))/\Below w1.heap.size w1 w2) :
  Calls Tryz.prog 168 #[v,.func (.func F) #[] cap] w fun e w'=>e=.returned (.int .i64 (idxOf p xs))/\Below w.heap.size w w':=by
 have HP:=Lh hp;clear hp;obtain⟨A,c,rfl,hc1,hc2⟩:=hv.form;unfold maxLen at hc2;go_enter Tryz.func168,Tryz.ntmps168;go_wp2_with fail;go_loopw [8] (fun v8 wr=>∃ k:Nat,k<=xs.length/\v8=.int .i64 k/\Hid (∀(j:Nat)(h:j<xs.length),j<k->p xs[j]=false)/\Below w.heap.size w wr) (fun v8 _=>xs.length - (intOf v8).toNat);exact⟨0,by omega,rfl,fun j h hj=>by omega,Xr _ _⟩;obtain⟨k,hk,rfl,hno,hbr⟩:=hrel;by_cases Jo:k<xs.length
 ·obtain⟨ab,ao,cs,rfl,_,Aj,Zt,Zj⟩:=(hv.below hbr).get Jo (by decide);obtain⟨u0,u1,rfl⟩:∃ u0 u1,cs=[u0,u1]:=by
   match cs,(Jn).len Zt with
   |[u0,u1],_=>exact⟨u0,u1,rfl⟩
  have Vi:=Zj 0 _ rfl;have gC:=Zj 1 _ rfl;have Zt:=Lh Zt;clear Zj;simp only[show (Jn).size=2 from rfl,Yo,<-Yv] at Vi gC;rcases Ym (p xs[k]) with ax | ax
  ·have HB:=Lh ax;have Up:=Lh (Bf Jo hno.o ax);clear ax;go_wp2_with fail;refine (HP.o [u0,u1] xs[k] wr (Qg Jo) hbr Zt.o).mono ?_;rintro e w1 ⟨rfl,hb1⟩;rw[HB.o];go_wp2;go_ret;exact⟨Kd (Fs Up.o.symm),hbr.trans (hb1.mono hbr.size)⟩
  ·have HB:=Lh ax;clear ax;go_wp2_with fail;refine (HP.o [u0,u1] xs[k] wr (Qg Jo) hbr Zt.o).mono ?_;rintro e w1 ⟨rfl,hb1⟩;rw[HB.o];go_wp2;go_roundw;exact⟨k+1,by omega,by go_num,fun j h hj=>by by_cases e:j=k;(subst e;exact HB.o);exact hno.o j h (by omega),hbr.trans (hb1.mono hbr.size)⟩;simp[intOf];omega
 ·have Up:=Lh (Pi fun j h=>hno.o j h (by omega));go_wp2;go_ret;exact⟨Kd (Fs Up.o.symm),hbr⟩
theorem P_(F:FuncId)(cap:Array Value)(p:Int×List (Int×Int)->Bool)(v:Value)(xs:List (Int×List (Int×Int)))(w:World)(hv:Jb Jn w w.heap.size v xs)
  (hF:∀(args:Array Value)(w:World),(callFunc F args).run Tryz.prog w=.ok (.enter F args) w)
  (hp:∀(cs:List Value)(x:Int×List (Int×Int))(w1:World),x∈xs->Below w.heap.size w w1->(Jn).rep w1 w.heap.size cs x->Calls Tryz.prog F (#[.agg cs.toArray]++cap) w1 fun e w2=>e=.returned (.bool (p x))/\Below w1.heap.size w1 w2) :
  Calls Tryz.prog 105 #[v,.func (.func F) #[] cap] w fun e w'=>e=.returned (.bool (xs.any p))/\Below w.heap.size w w':=by
 have HC:=Lh (zr F cap p v xs w hv hF hp);clear hp;rcases lX p xs with ⟨h1,h2⟩ | ⟨h1,h2⟩
 all_goals
  have H2:=Lh h2;clear h2;go_enter Tryz.func105,Tryz.ntmps105;go_wp2_with fail;refine HC.o.mono ?_;rintro e w1 ⟨rfl,hb1⟩;go_wp2;go_ret;exact⟨Kd (Zm (by first | exact H2.o.symm | (rw[H2.o];simp;done) | (rw[H2.o];simp;omega))),hb1⟩
structure jg(g:Jw)(k:Nat):Prop where
 b:Vu g=true
 k1:1<=k
 k4:k<=4
 few:g.2.1.length<=3
 made:∀ a,0<=a->a<(g.1.length:Int)->vP g.2.2 a/\r_ g.2.2 a
theorem jA{g:Jw}{k:Int}(h:¬ Ct k g)(hm:g.2.1.length<=3):∃ kk:Nat,k=(kk:Int)/\jg g kk:=by
 unfold Ct at h;have h1:¬ k<1:=fun e=>h (.inl e);have h2:¬ 4<k:=fun e=>h (.inr (.inl e));have h3:Jr g=0:=by
  rcases Decidable.em (Jr g=0) with e | e
  ·exact e
  ·exact absurd (.inr (.inr e)) h
 have hb:Vu g=true:=by
  unfold Jr at h3;split at h3
  ·assumption
  ·cases h3
 have hw:wellE g.1.length g.2.1.length g.2.2=0:=by
  unfold Jr at h3
  rwa [if_pos hb] at h3
 exact⟨k.toNat,by omega,hb,by omega,by omega,hm,qjX (Ka hb).well hw⟩
section
variable {g:Jw} {k:Nat} (h:jg g k)
include h
theorem jg.well:Rg g.2.2 g.1.length:=(Ka h.b).well
theorem jg.wellT:sy g.2.2 g.2.1.length:=fun a r hr s hs=>(((Ka h.b).fit (a,r) hr).2.2.2 s hs).2
theorem jg.fewR:zdZ g.2.2:=fun a r hr s hs=>by
 have:=h.wellT a r hr s hs;have:=h.few;omega
theorem jg.n0:0<g.1.length:=(Ka h.b).n1
theorem jg.sets{o:Option Zu}(ho:Lc k g o):∃ s,o=some s/\vQ g.2.2 g.1.length k s:=by
 have Y_:(k:Int)<=4:=by have:=h.k4;omega
 obtain⟨o1,h1,h2⟩:=ho;obtain⟨s,rfl,Ea,Le⟩:=h1.few Y_ h.well h.fewR;obtain⟨o2,h3,h4⟩:=h2;obtain⟨f,rfl,hf1,hf2⟩:=h3.few Y_ h.well h.fewR Ea Le;obtain⟨out,By⟩:=vJ Y_ Ea hf1 g.2.2 (fun r hr=>by
  have hw:=h.well r.1 r.2 hr
  exact⟨⟨hw.1,by rw[hf2];exact hw.2.1⟩,fun x hx=>⟨h.fewR r.1 r.2 hr x hx,by rw[Le];exact hw.2.2 x hx⟩⟩)
 exact⟨out,h4.trans By,zfW h.n0 h.well h1 h3 By⟩
end
noncomputable def ahD(rs:Zq)(k:Nat)(w:Wd)(i:Nat):Bool:=@decide (∃ r,rs[i]? = some r/\jw rs k r w) (Classical.propDecidable _)
theorem iy(rs:Zq)(k:Nat)(w:Wd):zmL rs k (ahD rs k) w:=fun i r hr=>by
 unfold ahD;rw[@decide_eq_true_iff _ (Classical.propDecidable _)];constructor
 ·rintro⟨r',xU,h⟩;rw[hr] at xU;injection xU with e;subst e;exact h
 ·exact fun h=>⟨r,hr,h⟩
theorem qp{g:Jw}(h:Vu g=true):∀ r∈g.2.2,0<=r.1/\r.1<(g.1.length:Int)/\∀ s∈r.2,s<(g.1.length:Int)/\-256<=s:=fun r hr=>by
 obtain⟨f1,f2,f3,f4⟩:=(Ka h).fit r hr;have:=(Ka h).nm;exact⟨f1,f2,fun s hs=>⟨(f4 s hs).1,by have:=(f4 s hs).2;omega⟩⟩
def zxT{α:Type}(E:Lf α)(w:World)(B:Nat):List (List Value)->List α->Prop
 |[],[]=>True
 |c::cs,x::xs=>E.rep w B c x/\zxT E w B cs xs
 |_,_=>False
def gA:Jw:=([⟨#[83]⟩],[⟨#[97]⟩],[(0,[]),(0,[-1,0])])
def gAr:Zq:=[(0,[]),(0,[-1,0])]
theorem s1:Uy [([]:Wd)]=[[]]:=Gr (by simp[pW]) (by simp)
theorem s2:Uy [([0]:Wd)]=[[0]]:=Gr (by simp[pW]) (by simp)
theorem s3:Uy [([]:Wd),[0]]=[[],[0]]:=Gr (by simp[pW]) (by simp)
theorem s4:Uy [([]:Wd),[0],[]]=[[],[0]]:=Gr (by simp[pW]) (by
 intro x
 simp only[List.mem_cons,List.not_mem_nil,or_false]
 constructor
 ·rintro (h | h | h) <;> simp[h]
 ·rintro (h | h) <;> simp[h])
theorem s5:Uy [([]:Wd),[0],[0]]=[[],[0]]:=Gr (by simp[pW]) (by simp)
theorem s6:Uy [([0]:Wd),[0]]=[[0]]:=Gr (by simp[pW]) (by simp)
theorem s7:Uy [([]:Wd),[]]=[[]]:=Gr (by simp[pW]) (by simp)
theorem qhC:Mn 1 gAr [[]]=some ([[[],[0]]],true):=by
 simp[Mn,Fy,Et,lM,Ng,Rn,Eb,Tp,Kt,tb,gAr,s1,s2,s3]
theorem qhB:Mn 1 gAr [[[],[0]]]=some ([[[],[0]]],false):=by
 simp[Mn,Fy,Et,lM,Ng,Rn,Eb,Tp,Kt,tb,gAr,s2,s4,s5,s6]
theorem qoG:Fq 1 gAr 1 (some [[[],[0]]]):=.more qhC (.done qhB)
theorem qvP:Gy [[[],[0]]] 1 gAr [[[]]]=some ([[[]]],false):=by
 simp[Gy,Wb,Vs,Vr,Kg,lM,Ng,Rn,Eb,Tp,Kt,gAr,s1,s3,s7]
theorem zbP:Du [[[],[0]]] 1 gAr 1 (some [[[]]]):=.done qvP
theorem qoJ:Mo [[[],[0]]] [[[]]] 1 gAr=some [[[]],[[0]]]:=by
 simp[Mo,Kg,lM,Ng,Rn,Eb,Tp,tb,gAr,s1,s2,s6]
theorem qoH:Uk gAr 1 [[[]],[[0]]]=[]:=by kernel_rfl
theorem qvO:Vf 0 gAr [[[]],[[0]]]=[(0,[],0),(0,[0],1)]:=by kernel_rfl
def An:Lf Wr:=Ra Vh (Ra eW Vh)
abbrev Tg(x:Wr):List Value:=[.int .i64 x.1,wv x.2.1,.int .i64 x.2.2]
abbrev qtF(x:Wr):Value:=.agg #[.int .i64 x.1,wv x.2.1,.int .i64 x.2.2]
theorem mI{w:World}{B:Nat}{cs:List Value}{x:Wr}(h:An.rep w B cs x):cs=Tg x/\(-9223372036854775808<=x.1/\x.1<=9223372036854775807)/\x.2.1.length<=maxLen/\(-9223372036854775808<=x.2.2/\x.2.2<=9223372036854775807):=by
 obtain⟨c1,c2,rfl,⟨rfl,h1,h2⟩,c3,c4,rfl,h3,⟨rfl,h5,h6⟩⟩:=h;obtain⟨rfl,h4⟩:=qI h3;exact⟨rfl,⟨h1,h2⟩,h4,h5,h6⟩
theorem qvR{w:World}{B:Nat}{x:Wr}(h1:-9223372036854775808<=x.1)(h2:x.1<=9223372036854775807)(h3:x.2.1.length<=maxLen)(h4:-9223372036854775808<=x.2.2)(h5:x.2.2<=9223372036854775807):An.rep w B (Tg x) x :=
 ⟨_,_,rfl,⟨rfl,h1,h2⟩,_,_,rfl,qyK h3,⟨rfl,h4,h5⟩⟩
theorem Jb.rowAt{w:World}{B:Nat}{A:Option Addr}{n c:Nat}{xs:List Wr}(h:Jb An w B (.slice A n c) xs){k:Nat}(hk:k<xs.length):∃ b off,A=some ⟨b,off,none⟩/\n<=c/\b<B /\
  w.cell? ⟨b,off+k*3,none⟩=some (.int .i64 xs[k].1)/\w.cell? ⟨b,off+k*3+1,none⟩=some (wv xs[k].2.1)/\w.cell? ⟨b,off+k*3+2,none⟩=some (.int .i64 xs[k].2.2)/\An.rep w B (Tg xs[k]) xs[k]:=by
 obtain⟨b,off,cs,e,h1,h2,h3,h4⟩:=h.get hk (by decide);have hr:=h3;obtain⟨rfl,_⟩:=mI h3;have a0:=h4 0 _ rfl;have a1:=h4 1 _ rfl;have a2:=h4 2 _ rfl;simp only[show An.size=3 from rfl,Yo,<-Yv] at a0 a1 a2;exact⟨b,off,e,h1,h2,a0,a1,a2,hr⟩
def fR(x y:Wr):Int:=if x.1=y.1 then Lib.compareBytes x.2.1 y.2.1 else Lib.compareInt x.1 y.1
theorem gL:∀ a b:Wd,Lib.compareBytes a b<0↔a<b
 |[],[]=>by simp[Lib.compareBytes]
 |[],b::lb=>by simp[Lib.compareBytes]
 |a::la,[]=>by simp[Lib.compareBytes]
 |a::la,b::lb=>by
  rw[List.cons_lt_cons_iff];unfold Lib.compareBytes;by_cases h:a<b
  ·simp[h]
  ·rw[if_neg h];by_cases h2:b<a
   ·rw[if_pos h2];have hne:a≠b:=fun e=>by subst e;exact h h2
    simp[h,hne]
   ·rw[if_neg h2];have e:a=b:=UInt8.le_antisymm (UInt8.not_lt.1 h2) (UInt8.not_lt.1 h);subst e;rw[gL la lb];simp[UInt8.lt_irrefl]
theorem qaV(x y:Wr):fR x y<0↔Mh x y:=by
 unfold fR Mh;split
 ·rename_i h;rw[gL];constructor
  ·exact fun h2=>.inr ⟨h,h2⟩
  ·rintro (h2 | ⟨_,h2⟩)
   ·omega
   ·exact h2
 ·rename_i h;unfold Lib.compareInt;split
  ·rename_i h1;simp[h1]
  ·rename_i h1;split <;> omega
theorem zP(x y:Wr)(w:World):Calls Tryz.prog 42 #[qtF x,qtF y] w fun e w'=>e=.returned (.int .i64 (fR x y))/\Below w.heap.size w w'/\w.drawn<=w'.drawn:=by
 obtain⟨a,s,i⟩:=x;obtain⟨b,t,j⟩:=y;by_cases h:a=b
 ·have hq:(a==b)=true:=by simp[h]
  have HO:=Lh (show fR (a,s,i) (b,t,j)=Lib.compareBytes s t by unfold fR;rw[if_pos h]);clear h;go_enter Tryz.func42,Tryz.ntmps42;go_wp2_with fail;refine (Tryz.strings_Compare ⟨s.toArray⟩ ⟨t.toArray⟩ _).mono ?_;rintro e w1 ⟨rfl,rfl⟩;go_wp2_with fail;go_ret;exact⟨Kd (Fs HO.o.symm),by go_grown,Xz _⟩
 ·have hq:(a==b)=false:=by simp[h]
  have HO:=Lh (show fR (a,s,i) (b,t,j)=Lib.compareInt a b by unfold fR;rw[if_neg h]);clear h;go_enter Tryz.func42,Tryz.ntmps42;go_wp2_with fail;refine (Tryz.cmp_Compare_int a b _).mono ?_;rintro e w1 ⟨rfl,rfl⟩;go_wp2_with fail;go_ret;exact⟨Kd (Fs HO.o.symm),by go_grown,Xz _⟩
end Go.Proofs.YtmaojnmnbpomeaaGreatDoor
