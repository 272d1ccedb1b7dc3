/- A part. -/
import Derived.Test.YtmaojnmnbpomeaaGreatDoorVN10
set_option maxRecDepth 100000
set_option maxHeartbeats 64000000
namespace Go.Proofs.YtmaojnmnbpomeaaGreatDoor
open Go.RowKit
variable{a:Act}{fn:Func}{s:Int}{g:Kd}{css:List (List Value)}{rs:List Jj}{l:List Kh}{cs:List Value}{ns ts ts':List Wd}{B B0 B1 P Q base gn gt i k n:Nat}{fr:Nat×Nat}{p u:Tmp}{t:TypeId}{x:Uk}{c0 c1 c2 r v v1 v2 v3 vN vR vT:Value}{it:Wf}{w w':World}
def rP:gX Wf:=Cx fp Mi
theorem fm{x:Wf}(h:rP.rep w B cs x):cs=[.bool x.1,.string x.2]/\x.2.size<=maxLen:=by
 obtain⟨c1,c2,rfl,rfl,rfl,h1⟩:=h;exact⟨rfl,h1⟩
theorem qmX(h:Ok ns ts it=some (s,ts')):ts'.length<=ts.length+1:=by
 unfold Ok at h
 repeat' split at h
 all_goals first
  |(cases h;done)
  |(injection h with h;injection h with h1 h2;subst h2;first|(rw[Qe,Qf];omega)|omega)
theorem qvQ(h:Ok ns ts it=some (s,ts'))(h1:ns.length<=1048576)(h2:ts.length<=1048576):-9223372036854775808<=s/\s<=9223372036854775807:=by
 unfold Ok at h;have zlC:=List.idxOf_le_length (l:=ns) (a:=Wt it.2);have zaY:=List.idxOf_le_length (l:=ts) (a:=Wt it.2)
 repeat' split at h
 all_goals first
  |(cases h;done)
  |(injection h with h;injection h with h3 h4;omega)
section
variable {w w':World} {P Q gn gt:Nat} {vN vT vR:Value} {B0 B1:Nat} {ns ts:List Wd} {rs:List Jj} {css:List (List Value)}
theorem Dz.ints(h:Dz w P Q gn gt vN vT vR B0 B1 ns ts rs css){xs:List Value}(ho:w.ownsRow base 3 1 v n xs)(hg:w.grownBy w' v.ownBlock)(hB:B1<=base):Dz w' P Q gn gt vN vT vR B0 B1 ns ts rs css :=
 ⟨Zs ho hg h.box (by decide),h.mn.row ho hg,h.mt.row ho hg,h.names.keep (.of_keepT (Jk.of_grown ho hg (by decide))),Vy h.terms ho (by decide) hg,Vy h.rules ho (by decide) hg,h.rrows.keep (.of_grown ho hg hB),h.lo,Yd h.b0 hg.size,Yd h.b1 hg.size⟩
theorem Dz.rule(h:Dz w P Q gn gt vN vT vR B0 B1 ns ts rs css){g:Nat}{cs:Array Value}(hg:w.heap[g]?=some (.cells cs 63 (0,0)))(hv:vR.ownBlock≠some g)(v:Value):Dz (w.setCell ⟨g,k,none⟩ v) P Q gn gt vN vT vR B0 B1 ns ts rs css:=by
 have hk:∀us:List TypeId,63∉us->Jk us w (w.setCell ⟨g,k,none⟩ v):=fun us hu=>Vt hg hu v;exact⟨(hk [224] (by decide)).2 Q _ _ (by simp) h.box,h.mn.cell hg v,h.mt.cell hg v,h.names.keep (.of_keepT (hk _ (by decide))),Kg h.terms (hk [9] (by decide)) (by simp),ownsRow_setCell_other h.rules hv v,h.rrows.keep (.of_keepT (hk _ (by decide))),h.lo,by rw[Zb];exact h.b0,by rw[Zb];exact h.b1⟩
theorem Dz.snoc(h:Dz w P Q gn gt vN vT vR B0 B1 ns ts rs css){nC:Value}{cs:List Value}{x:Jj}(hx:Rl.rep w w.heap.size cs x)(ho:w'.ownsRow B0 63 2 nC (rs.length+1) (css.flatten++cs))(hg:w.grownBy w' vR.ownBlock) :
  Dz (w'.setCell ⟨Q,4,none⟩ nC) P Q gn gt vN vT nC B0 (w'.setCell ⟨Q,4,none⟩ nC).heap.size ns ts (rs++[x]) (css++[cs]):=by
 have Wo:=Zs h.rules hg h.box (by decide);have hb:=Kq (k:=4) Wo nC;have hk:∀us:List TypeId,224∉us->Jk us w' (w'.setCell ⟨Q,4,none⟩ nC):=fun us hu=>Vt Wo hu nC;have mU:∀us:List TypeId,63∉us->Jk us w w':=fun us hu=>Jk.of_grown h.rules hg hu;have hkU:Ey Rl.ts (w'.setCell ⟨Q,4,none⟩ nC).heap.size w (w'.setCell ⟨Q,4,none⟩ nC):=(Ey.of_keepT (mU _ (by decide))).trans (.of_keepT (hk _ (by decide)));have Fb:w.heap.size<=(w'.setCell ⟨Q,4,none⟩ nC).heap.size:=by rw[Zb];exact hg.size
 refine⟨hb,(h.mn.row h.rules hg).cell Wo nC,(h.mt.row h.rules hg).cell Wo nC,(h.names.keep (.of_keepT (mU _ (by decide)))).keep (.of_keepT (hk _ (by decide))),Kg (Vy h.terms h.rules (by decide) hg) (hk [9] (by decide)) (by simp),?_,?_,h.lo,Yd h.b0 Fb,Yb _⟩
 .have:=Kg ho (hk [63] (by decide)) (by simp);rw[Qs,Qe,Qf];simpa using this
 exact Vo.snoc ((h.rrows.more (Yd h.b1 Fb)).keep hkU) (Rl.keep (Rl.more hx Fb) hkU)
end
def zfG(w:World)(P Q gn gt:Nat)(vN:Value)(B0:Nat)(ns ts:List Wd)(rs:List Jj)(left:Int)(alt:List Wf)(e:Ending)(w':World):Prop :=
 (Fn ns ts [] alt=none/\e=.returned (.bool false)/\Below P w w') \/
 ∃r ts' bO nC css',Fn ns ts [] alt=some (r,ts')/\ts'.length<=ts.length+alt.length/\e=.returned (.bool true)/\Dz w' P Q gn gt vN bO nC B0 w'.heap.size ns ts' (rs++[(left,r)]) css'/\Below P w w'
theorem qfL(it:Wf)(w:World)(P Q gn gt:Nat)(vN vT vR:Value)(B0 B1:Nat)(ns ts:List Wd)(rs:List Jj)(css:List (List Value))(h:Dz w P Q gn gt vN vT vR B0 B1 ns ts rs css)(hts:ts.length<=1048576) :
  Calls Tryz.prog 240 #[.pointer (some ⟨Q,0,none⟩),.agg #[.bool it.1,.string it.2]] w (xT w P Q gn gt vN vR B0 B1 ns ts rs css it):=by
 obtain⟨bo,s⟩:=it;have:=zi bo (Wt s) w P Q gn gt vN vT vR B0 B1 ns ts rs css h hts;rw[Dp]at this;exact this
theorem rz{r:List Int}(ho:w.ownsRow base 3 1 v r.length (r.map (Value.int .i64)))(hb:∀s∈r,-9223372036854775808<=s/\s<=9223372036854775807):Ae qvK 3 w w.heap.size v r:=by
 have hf:(r.map fun s=>[Value.int .i64 s]).flatten=r.map (Value.int .i64):=by
  clear ho hb
  induction r with
  |nil=>rfl
  |cons s r ih=>rw[List.map_cons,List.flatten_cons,ih];rfl
 refine Ae.of_row (O:=qvK) (css:=r.map fun s=>[Value.int .i64 s]) (by rw[hf];exact ho) ⟨by rw[Qk],fun i cs x hc hx=>?_⟩;rw[Qv,hx]at hc;injection hc with hc;subst hc;exact⟨rfl,hb x (Qp hx)⟩
theorem qnJ(left:Nat)(vA:Value)(alt:List Wf)(w:World)(P Q gn gt:Nat)(vN vT vR:Value)(B0:Nat)(ns ts:List Wd)(rs:List Jj)(css:List (List Value))(h:Dz w P Q gn gt vN vT vR B0 w.heap.size ns ts rs css)(ha:Je rP w P vA alt)(hl:left<=1048576)(hns:ns.length<=1048576)(hts:ts.length<=524288)(Aj:alt.length<=64)(hrs:rs.length<=1048576) :
  Calls Tryz.prog 175 #[.pointer (some ⟨Q,0,none⟩),.int .i64 left,vA] w (zfG w P Q gn gt vN B0 ns ts rs left alt):=by
 obtain⟨A1,c1,rfl,jZ,mY⟩:=ha.form;unfold maxLen at mY;have hQw:=(gl h.box);have hPQ:=h.lo.2.2.1;obtain⟨KR,hKR⟩:=Xe w.heap.size;have Bf:Below w.heap.size w (w.alloc (.cells #[.int .i64 left,.slice none 0 0] 63)):=(Xr _ _).alloc (Yb _) _;have HM:=Lh (h.below Bf);have HA:=Lh (ha.below (Bf.mono (show P<=w.heap.size by omega)));have HB:=Lh (Bf.mono (show P<=w.heap.size by omega));have HR0:=Lh (Xn w (.cells #[.int .i64 left,.slice none 0 0] 63));have HZ:=Lh (Xs w (.cells #[.int .i64 left,.slice none 0 0] 63));rw[<-hKR]at HR0 HZ HM;have HLT:=Lh (show P<=Q/\Q<KR by omega);have nj:=Lh (show vR.ownBlock≠some KR from fun e=>by
  rcases h.rules.2 with ⟨h0,_⟩|⟨g',cap,cur,h0,_,hh,_⟩
  .rw[h0]at e;simp[Value.ownBlock]at e
  rw[h0]at e
  have e:g'=KR:=by simpa[Value.ownBlock]using e
  have:=(gl hh)
  omega)
 obtain⟨n,hn⟩:=Xe alt.length;rw[<-hn]at HA jZ Aj |-;have HN:=Lh hn;clear h ha Bf hQw hPQ hn;go_enter Tryz.func175,Tryz.ntmps175;go_wp2_with fail;rw[<-hKR];clear hKR;generalize w.alloc (.cells #[.int .i64 left,.slice none 0 0] 63)=w1 at*;have HOW0:=Lt (w1.ownsRow (KR+1) 3 1 (.slice none 0 0) ([]:List Int).length (([]:List Int).map (Value.int .i64))) (Za _ _ _ _);have HBD0:=Lt (∀s∈([]:List Int),-9223372036854775808<=s/\s<=9223372036854775807) (fun s hs=>by cases hs);have HEQ0:=Lt (Fn ns ts [] alt=Fn ns ts [] (alt.drop 0)) (rfl);go_loopw [16] (fun ob wr=>∃(j:Nat)(r:List Int)(ts':List Wd)(bO vr:Value),j<=n/\ob=.int .i64 j/\r.length=j/\ts'.length<=ts.length+j/\Hid (Fn ns ts [] alt=Fn ns ts' r (alt.drop j))/\Hid (Dz wr P Q gn gt vN bO vR B0 KR ns ts' rs css)/\Hid (wr.heap[KR]?=some (.cells #[.int .i64 left,vr] 63 (0,0)))/\Hid (wr.ownsRow (KR+1) 3 1 vr r.length (r.map (Value.int .i64)))/\Hid (∀s∈r,-9223372036854775808<=s/\s<=9223372036854775807)/\Hid (Below P w wr)) (fun ob _=>n-(intOf ob).toNat);exact⟨0,[],ts,vT,_,by omega,rfl,rfl,by omega,HEQ0.o,HM.o,HR0.o,HOW0.o,HBD0.o,HB.o⟩;have HAW:=Lh (show ∀W,Below P w W->Je rP W P (.slice A1 n c1) alt from fun W hb=>by
  have h1:Je rP w P (.slice A1 n c1) alt:=HA.o.keep fun p hp=>(HB.o.cell hp).symm
  exact h1.below hb)
 clear HOW0 HBD0 HEQ0 HM HR0 HZ HA HB;obtain⟨j,r,ts',bO,vr,hj,rfl,hrj,htj,HEQ,HM,HRW,HOW,HBD,HB⟩:=hrel;by_cases Jl:j<n
 .have hja:j<alt.length:=by rw[<-HN.o];exact Jl
  obtain⟨b,off,cs,hA1,_,hbP,Ja,Zn⟩:=(HAW.o wr HB.o).get hja (by decide);subst hA1;obtain⟨rfl,_⟩:=fm Ja;have c0:=Zn 0 _ rfl;have c1':=Zn 1 _ rfl;simp only[show rP.size=2 from rfl,Yq,<-Yy]at c0 c1';have np:=Lh (show Fn ns ts' r (alt.drop j)=match Ok ns ts' alt[j]with|none=>none|some (s,ts'')=>Fn ns ts'' (r++[s]) (alt.drop (j+1)) by rw[Ql hja];rfl)
  clear Zn Ja;obtain⟨it,jY⟩:=Xe (alt[j]);rw[<-jY]at c0 c1' np;clear jY;have zwI:=(gl HRW.o);have Jd:Below wr.heap.size wr (wr.alloc (.cells #[.bool it.1,.string it.2] 277)):=(Xr _ _).alloc (Yb _) _;have HM2:=Lh (HM.o.below Jd);have Oc:=Lh ((Jd.block KR zwI).trans HRW.o);have mc:=Lh (Jc HOW.o Jd);have HB2:=Lh (HB.o.trans (Jd.mono (by have:=HLT.o;omega)));have HSY:=Lh (qfL it (wr.alloc (.cells #[.bool it.1,.string it.2] 277)) P Q gn gt vN bO vR B0 KR ns ts' rs css HM2.o (by omega));clear Jd;go_wp2_with fail;clear c0 c1';refine HSY.o.mono ?_;generalize wr.alloc (.cells #[.bool it.1,.string it.2] 277)=w2 at*;rintro e w3 hst;rcases hst with ⟨sm,rfl,hb3⟩|⟨s,ts2,vT2,Gc,rfl,hm3,hb3,jw⟩
  .have Jw:=Lh (show Fn ns ts [] alt=none by rw[HEQ.o,np.o,sm]);have HB3:=Lh (HB2.o.trans hb3);clear hb3 sm;go_wp2;go_ret;exact .inl ⟨Jw.o,rfl,HB3.o⟩
  have HEQ':=Lh (show Fn ns ts [] alt=Fn ns ts2 (r++[s]) (alt.drop (j+1)) by rw[HEQ.o,np.o,Gc]);have hts2:ts2.length<=ts.length+(j+1):=by have:=qmX Gc;omega
  have mI:=Lh (qvQ Gc hns (by omega));have HM3:=Lh hm3;have HB3:=Lh (HB2.o.trans hb3);have qbY:=Lh (jw.2 KR _ _ (by simp) Oc.o);have qyZ:=Lh (Kg mc.o jw (by simp));clear hm3 hb3 jw Gc HSY HM2 Oc mc HB2;obtain⟨r0,r1⟩:=Kx qbY.o;obtain⟨Ar,cr,hvr,Sr,hr2⟩:=Zp qyZ.o;subst hvr;unfold maxLen at hr2;rw[hrj]at r1 Sr;have hb4:Below w3.heap.size w3 (w3.alloc (.cells #[.int .i64 s] 3)):=(Xr _ _).alloc (Yb _) _;have HN4:=Lh (Xn w3 (.cells #[.int .i64 s] 3));have HS4:=Lh (Xs w3 (.cells #[.int .i64 s] 3));have zwJ:=(gl qbY.o);have Od:=Lh (HM3.o.below hb4);have qyW:=Lh ((hb4.block KR zwJ).trans qbY.o);have xz:=Lh (Jc qyZ.o hb4);have HB4:=Lh (HB3.o.trans (hb4.mono (by have:=HLT.o;omega)));rw[hrj]at xz;clear hb4;go_wp2_with (at_builtin;refine Zy (m:=1) La rfl rfl rfl rfl xz.o (Rd.row (B:=w3.heap.size+1) HN4.o (Yf _)) rfl (by simp[Value.oneCell']) ?h63 ?hby ?hbase ?_)
  case h63=>simp only[maxLen];omega
  case hby=>omega
  case hbase=>rw[HS4.o];omega
  intro vr' w7 Un Rk _ _;obtain⟨A8,c8,dC,_,_⟩:=Zp Un;subst dC;have mJ:=Lh (Zs xz.o Rk qyW.o (by decide));have HM7:=Lh (Od.o.ints xz.o Rk (Yi KR));have HB7:=Lh (Zr HB4.o Rk xz.o (by have:=HLT.o;omega) (by rw[HS4.o];have:=HLT.o;omega));have Pk:=Lh Un;have hq1:=(Kx mJ.o).2;rw[hrj]at hq1;have hf1:w7.frozen? ⟨KR,1,none⟩=false:=by simp[World.frozen?,mJ.o]
  have HRW8:=Lh (Kq (k:=1) mJ.o (.slice A8 (j+1) c8));have HM8:=Lh (HM7.o.rule (k:=1) mJ.o nj.o (.slice A8 (j+1) c8));have HB8:=Lh (HB7.o.setCell (p:=⟨KR,1,none⟩) (by show P<=KR;have:=HLT.o;omega) (.slice A8 (j+1) c8));have HOW8:=Lt ((w7.setCell ⟨KR,1,none⟩ (.slice A8 (j+1) c8)).ownsRow (KR+1) 3 1 (.slice A8 (j+1) c8) (r++[s]).length ((r++[s]).map (Value.int .i64))) (by
   rw[Qe,Qf,hrj,Qt]
   exact Zl Pk.o (Yf KR) _)
  have HBD8:=Lh (show ∀x∈r++[s],-9223372036854775808<=x/\x<=9223372036854775807 from fun x hx=>by
   rcases Qh.1 hx with hx|hx
   .exact HBD.o x hx
   rw[Qi.1 hx];exact mI.o)
  have HRL:=Lh (show (r++[s]).length=j+1 by rw[Qe,Qf,hrj]);clear Un Rk mJ HM7 HB7 Pk;go_wp2;go_roundw;exact⟨j+1,r++[s],ts2,vT2,_,by omega,by go_num,HRL.o,hts2,HEQ'.o,HM8.o,HRW8.o,HOW8.o,HBD8.o,HB8.o⟩;simp[intOf];omega
 obtain rfl:j=n:=by omega
 have Jw:=Lh (show Fn ns ts [] alt=some (r,ts') by
  rw[HEQ.o,Xm (by rw[<-HN.o];exact Yb _)];rfl)
 obtain⟨r0,r1⟩:=Kx HRW.o;obtain⟨q0,q1,q2,q3,q4⟩:=Mh HM.o.box;obtain⟨AR,cR,hvR,hR1,hR2⟩:=Zp HM.o.rules;subst hvR;obtain⟨Ar,cr,hvr,Sr,hr2⟩:=Zp HOW.o;subst hvr;obtain⟨q,hq⟩:=Xe rs.length;have HQE:=Lh hq;have gW:=Lh (show ∀W:World,W.heap[Q]?=some (.cells #[.map (some gn),.map (some gt),vN,bO,.slice AR rs.length cR] 224 (0,0))->W.heap[KR]?=some (.cells #[.int .i64 left,.slice Ar r.length cr] 63 (0,0))->W.cell? ⟨Q,4,none⟩=some (.slice AR q cR)/\∀(i:Nat)(u:Value),[Value.int .i64 left,.slice Ar j cr][i]?=some u->W.cell? ⟨KR,0+i,none⟩=some u from fun W h1 h2=>⟨by rw[HQE.o];exact (Mh h1).2.2.2.2,fun i u hu=>by
  rw[hrj]at h2
  match i with
  |0=>injection hu with hu;rw[<-hu];exact (Kx h2).1
  |1=>injection hu with hu;rw[<-hu];exact (Kx h2).2
  |i+2=>simp at hu⟩)
 clear r0 r1 q0 q1 q2 q3 q4 hq;go_wp2_with fail;have Ul:=Lh (gW.o wr.drew HM.o.box HRW.o);refine Ny (fun w'=>w'.cell? ⟨Q,4,none⟩=some (.slice AR q cR)/\∀(i:Nat)(u:Value),[Value.int .i64 left,.slice Ar j cr][i]?=some u->w'.cell? ⟨KR,0+i,none⟩=some u) [9] 13 (by kernel_rfl) rfl ?_;have HM2:=Lh HM.o.drew;have Oc:=Lt (wr.drew.heap[KR]?=some (.cells #[.int .i64 left,.slice Ar r.length cr] 63 (0,0))) (HRW.o);have mc:=Lh (Jc HOW.o ((Xr wr.heap.size wr).drew));have HB2:=Lh HB.o.drew;clear HM HRW HOW HB;generalize wr.drew=w2 at*;refine Rh 0 (.pointer (some ⟨Q,0,none⟩)) rfl (by kernel_rfl) rfl (fun wq=>by go_simp) Ul.o ?_;(conv in Act.put _ _ _=>simp[Act.put]);refine Rh 1 (.pointer (some ⟨Q,0,none⟩)) rfl (by kernel_rfl) rfl (fun wq=>by go_simp) Ul.o ?_;(conv in Act.put _ _ _=>simp[Act.put]);refine Rh 2 (.pointer (some ⟨Q,0,none⟩)) rfl (by kernel_rfl) rfl (fun wq=>by go_simp) Ul.o ?_;(conv in Act.put _ _ _=>simp[Act.put]);refine Rh 3 (.pointer (some ⟨Q,2,none⟩)) rfl (by kernel_rfl) rfl (fun wq=>by go_simp) Ul.o ?_;(conv in Act.put _ _ _=>simp[Act.put]);refine Rh 4 (.pointer (some ⟨Q,4,none⟩)) rfl (by kernel_rfl) rfl (fun wq=>by go_simp) Ul.o ?_;(conv in Act.put _ _ _=>simp[Act.put]);refine jT 5 (.slice AR q cR) rfl (by kernel_rfl) rfl (fun wq Ri=>Kc rfl rfl (Vs (e:=63) (by kernel_rfl) Ri.1)) Ul.o ?_;(conv in Act.put _ _ _=>simp[Act.put]);refine jT 6 (.agg #[.int .i64 left,.slice Ar j cr]) rfl (by kernel_rfl) rfl (fun wq Ri=>Kc rfl rfl (qoP (cs:=[.int .i64 left,.slice Ar j cr]) Tryz.underlying63 rfl (by kernel_rfl) Ri.2)) Ul.o ?_;(conv in Act.put _ _ _=>simp[Act.put]);have HB3:=Lh ((Xr w2.heap.size w2).alloc (Yb _) (.cells #[.int .i64 left,.slice Ar j cr] 63));have Ea:=Lh (Xn w2 (.cells #[.int .i64 left,.slice Ar j cr] 63));have rV:=Lt (w2.heap.size+1=(w2.alloc (.cells #[.int .i64 left,.slice Ar j cr] 63)).heap.size) ((Xs _ _).symm);refine Jf (i:=7) (by kernel_rfl) rfl (fun Q' hQ'=>?_);go_wp2_with fail;generalize w2.alloc (.cells #[.int .i64 left,.slice Ar j cr] 63)=w3 at*;have HM3:=Lh (HM2.o.below HB3.o);have qbY:=Lh ((HB3.o.block KR (gl Oc.o)).trans Oc.o);have qyZ:=Lh (Jc mc.o HB3.o);have fS:=Lh (HB2.o.trans (HB3.o.mono (by have:=HM2.o.b0;have:=HM2.o.lo;omega)));refine⟨iP (gW.o w3 HM3.o.box qbY.o),?_⟩;have Tt:=HM3.o.rules;rw[<-HQE.o]at Tt;refine Jf (i:=8) (by kernel_rfl) rfl (fun Q' hQ'=>?_);refine Zy (m:=1) Cf rfl rfl rfl rfl Tt (Rd.row (B:=w3.heap.size) Ea.o (by rw[<-rV.o];exact Yf _)) rfl (by simp[Value.oneCell']) (by rw[HQE.o];simp only[maxLen];omega) (by rw[HQE.o];omega) HM3.o.b0 ?_;intro nC Iq hown hg _ _;obtain⟨A8,c8,dC,_,_⟩:=Zp hown;subst dC;have Ig:=Lh (Zs Tt hg HM3.o.box (by decide));have zyT:=Lt (Iq.heap[KR]?=some (.cells #[.int .i64 left,.slice Ar r.length cr] 63 (0,0))) ((hg.block KR (gl qbY.o) (fun e=>nj.o (show (Value.slice AR rs.length cR).ownBlock=some KR from by cases AR with|none=>cases e|some a=>exact e.symm))).trans qbY.o);have HXR:=Lh (show Rl.rep w3 w3.heap.size [.int .i64 left,.slice Ar j cr] ((left:Int),r)from ⟨[.int .i64 left],[.slice Ar j cr],rfl,⟨rfl,by omega,by omega⟩,_,rfl,by
  have h1:=rz qyZ.o HBD.o
  rw[hrj]at h1
  exact h1⟩)
 have Od:=Lh (Dz.snoc HM3.o HXR.o (by rw[<-HQE.o];exact hown) (by rw[<-HQE.o];exact hg));have HB4:=Lh (Zr fS.o hg Tt HM3.o.lo.2.2.2.1 (by have:=HM3.o.b0;have:=HM3.o.lo;omega));clear hown hg Tt;(conv in Act.put _ _ _=>simp[Act.put]);refine hQ' _ _ ⟨iP (gW.o Iq (by rw[<-HQE.o];rw[<-HQE.o]at Ig;exact Ig.o) zyT.o),?_⟩;have q4:=(Mh Ig.o).2.2.2.2;have f4:Iq.frozen? ⟨Q,4,none⟩=false:=by simp[World.frozen?,Ig.o]
 refine Jf (i:=9) (by kernel_rfl) rfl (fun Q' hQ'=>?_);go_wp2_with fail;refine⟨Km (by kernel_rfl),?_⟩;refine Jf (i:=10) (by kernel_rfl) rfl (fun Q' hQ'=>?_);go_wp2_with fail;refine⟨Km (by kernel_rfl),?_⟩;refine Jf (i:=11) (by kernel_rfl) rfl (fun Q' hQ'=>?_);go_wp2_with fail;refine⟨Km (by kernel_rfl),?_⟩;refine Jf (i:=12) (by kernel_rfl) rfl (fun Q' hQ'=>?_);go_wp2_with fail;refine⟨Km (by kernel_rfl),?_⟩;refine Gi (by kernel_rfl) ?_ _;go_wp2;go_ret;exact .inr ⟨r,ts',bO,_,_,Jw.o,by rw[<-HN.o];exact htj,rfl,Od.o,HB4.o.setCell (p:=⟨Q,4,none⟩) HM3.o.lo.2.2.1 _⟩
theorem Me{Q:Ending->World->Prop}(h:fn.results=#[.cell p 25,.tmp u]){g:Nat}(hd:a.defers=[])
  (hp:a.tmps.getD p undef=.pointer (some ⟨g,0,none⟩)) (hu:a.tmps.getD u undef=r) (hg:w.heap[g]?=some (.cells #[c0,c1,c2] t fr)) (hq:Q (.returned (.tuple #[.agg #[c0,c1,c2],r])) w):bodyPost Tryz.prog fn Q .ret a w:=by
 refine Zh (v:=.tuple #[.agg #[c0,c1,c2],r]) ?_ hd hq;rw[results_cell_tmp h,hp,hu];simp[asAddr,Result.andThen,run_loadVar_row w g t 25 #[c0,c1,c2] fr _ hg Tryz.underlying25 rfl (by kernel_rfl)]
theorem Vp{g:Nat}{a b c:Value}{cur:Array Value}(hg:w.heap[g]?=some (.cells cur t (0,0)))(hc:cur.size=3)(h1:a.oneCell'=true)(h2:b.oneCell'=true)(h3:c.oneCell'=true) :
  (Instr.storeAt 25 (.pointer (some ⟨g,0,none⟩)) (.agg #[a,b,c])).run Tryz.prog w=.ok () (w.setRow g [a,b,c].toArray):=by
 rw[Bu (vs:=[a,b,c]) rfl (by kernel_rfl) hg (by simp;omega) (by intro u hu;simp only[List.mem_cons,List.not_mem_nil,or_false]at hu;rcases hu with rfl|rfl|rfl <;> assumption)];congr 2;simp[List.drop_eq_nil_of_le (show cur.toList.length<=3 by simp;omega)]
structure aD(w:World)(P Q gn gt:Nat)(vN:Value)(nm ns:List Wd):Prop where
 box:w.heap[Q]?=some (.cells #[.map (some gn),.map (some gt),vN,.slice none 0 0,.slice none 0 0] 224 (0,0))
 mn:Nx w gn nm
 mt:Nx w gt []
 names:w.ownsRow (Q+1) 9 1 vN ns.length (ns.map wv)
 lo:P<=gn/\P<=gt/\P<=Q/\gn≠gt
section
variable {w w':World} {P Q gn gt:Nat} {vN yn:Value} {nm ns:List Wd}
theorem aD.lt(h:aD w P Q gn gt vN nm ns):Q<w.heap.size:=(gl h.box)
theorem aD.below(h:aD w P Q gn gt vN nm ns)(hb:Below w.heap.size w w'):aD w' P Q gn gt vN nm ns :=
 ⟨(hb.block Q h.lt).trans h.box,h.mn.below hb,h.mt.below hb,Jc h.names hb,h.lo⟩
theorem aD.drew(h:aD w P Q gn gt vN nm ns):aD w.drew P Q gn gt vN nm ns:=h.below ((Xr _ _).drew)
theorem aD.put{nm':List Wd}(h:aD w P Q gn gt vN nm ns)(hm:Nx w' gn nm')(hg:w.grownBy w' (some gn)):aD w' P Q gn gt vN nm' ns:=by
 have hk:∀us,Jk us w w':=fun us=>Jk.of_map h.mn hg;exact⟨(hk [224]).2 Q _ _ (by simp) h.box,hm,h.mt.other hg (Ne.symm h.lo.2.2.2),Kg h.names (hk [9]) (by simp),h.lo⟩
theorem aD.snoc{T:Wd}(h:aD w P Q gn gt vN nm ns)(ho:w'.ownsRow (Q+1) 9 1 yn (ns.length+1) (ns.map wv++[wv T]))(hg:w.grownBy w' vN.ownBlock):aD (w'.setCell ⟨Q,2,none⟩ yn) P Q gn gt yn nm (ns++[T]):=by
 have Wo:=Zs h.names hg h.box (by decide);refine⟨Kq (k:=2) Wo yn,(h.mn.row h.names hg).cell Wo yn,(h.mt.row h.names hg).cell Wo yn,?_,h.lo⟩;have:=Zl ho (a:=⟨Q,2,none⟩) (Yf Q) yn;rw[Qt,Qe,Qf];exact this
theorem aD.done(h:aD w P Q gn gt vN ns ns)(hs:∀t∈ns,(Jp t).size<=maxLen):Dz w P Q gn gt vN (.slice none 0 0) (.slice none 0 0) w.heap.size w.heap.size ns [] [] []:=by
 have hf:(ns.map fun t=>[wv t]).flatten=ns.map wv:=by
  clear hs h
  induction ns with
  |nil=>rfl
  |cons s r ih=>rw[List.map_cons,List.flatten_cons,ih];rfl
 refine⟨h.box,h.mn,h.mt,?_,Za _ _ _ _,Za _ _ _ _,Vo.nil _ _ _,⟨h.lo.1,h.lo.2.1,h.lo.2.2.1,Yd h.lo.2.2.1 (Yh h.lt),h.lo.2.2.2⟩,Yb _,Yb _⟩;refine Ae.of_row (O:=fH) (css:=ns.map fun t=>[wv t]) (by rw[hf,Qk];exact h.names) ⟨by rw[Qk,Qk],fun i cs x hc hx=>?_⟩;rw[Qv]at hc hx;cases hi:ns[i]? with
 |none=>rw[hi]at hc;cases hc
 |some t =>
  rw[hi]at hc hx;injection hc with hc;injection hx with hx;subst hc hx;exact⟨rfl,hs t (Qp hi)⟩
end
theorem Dz.slR(h:Dz w P Q gn gt vN vT vR B0 B1 ns ts rs css):Je Vw w w.heap.size vR rs:=(Ae.of_row (O:=Rl) h.rules (h.rrows.more h.b1)).sl
def Jy(l:List Kh):List Wd:=l.map fun x=>Wt x.1
theorem nV(l:List Kh)(h:k<l.length):Jy (l.take (k+1))=Jy (l.take k)++[Wt l[k].1]:=by
 unfold Jy;rw[Qc h,Qt,List.map_singleton]
theorem dj(l:List Kh)(h:k<l.length)(hm:Wt l[k].1∈Jy (l.take k)):¬ (Jy l).Nodup:=by
 intro hn;have h1:(Jy (l.take (k+1))).Nodup:=by
  have e:Jy l=Jy (l.take (k+1))++Jy (l.drop (k+1)):=by
   unfold Jy;rw[<-Qt,Xp]
  rw[e]at hn;exact (List.nodup_append.1 hn).1
 rw[nV l h,List.nodup_append]at h1;exact h1.2.2 _ hm _ (Qi.2 rfl) rfl
theorem xk(l:List Kh)(k:Nat):Dn (l.take k)<=Dn l:=by
 unfold Dn
 conv=>rhs;rw[<-Xp k l,Qt,List.sum_append]
 omega
theorem Tn(h:Rv l=true):Jn l=(([],[],[]),19):=by unfold Jn;rw[if_pos h]
theorem gC(h:Rv l=false)(hn:¬ (Jy l).Nodup):Jn l=(([],[],[]),15):=by
 unfold Jn;rw[if_neg (by rw[h];decide),if_pos (show ¬ (l.map fun x=>Wt x.1).Nodup from hn)]
theorem kS(h:Rv l=false)(hn:(Jy l).Nodup)(hl:Vg (Jy l) 0 [] [] l=none):Jn l=(([],[],[]),16):=by
 unfold Jn;rw[if_neg (by rw[h];decide),if_neg (show ¬ ¬ (l.map fun x=>Wt x.1).Nodup from fun e=>e hn),show Vg (l.map fun x=>Wt x.1) 0 [] [] l=none from hl]
theorem kR(h:Rv l=false)(hn:(Jy l).Nodup)(hl:Vg (Jy l) 0 [] [] l=some (rs,ts)) :
  Jn l=if 256<l.length+ts.length then (([],[],[]),19)else if ¬ rs.Nodup then (([],[],[]),15)else ((l.map fun x=>x.1,ts.map Jp,rs),0):=by
 unfold Jn;rw[if_neg (by rw[h];decide),if_neg (show ¬ ¬ (l.map fun x=>Wt x.1).Nodup from fun e=>e hn),show Vg (l.map fun x=>Wt x.1) 0 [] [] l=some (rs,ts)from hl]
theorem vY(h:i<l.length):Vg ns i ts rs (l.drop i)=match Ic ns (i:Int) ts rs l[i].2 with|none=>none|some (Cg,ts')=>Vg ns (i+1) ts' Cg (l.drop (i+1)):=by
 rw[Ql h];rfl
theorem ib{i:Int}{al:List (List Wf)}(h:k<al.length):Ic ns i ts rs (al.drop k)=match Fn ns ts [] al[k]with|none=>none|some (r,ts')=>Ic ns i ts' (rs++[(i,r)]) (al.drop (k+1)):=by
 rw[Ql h];rfl
def ni(ts:List Wd):Prop:=∀t∈ts,(Jp t).size<=maxLen
def LnS(l:List Kh):Prop:=∀x∈l,x.1.size<=maxLen/\∀a∈x.2,∀it∈a,it.2.size<=maxLen
theorem zcU(h:Ok ns ts it=some (s,ts'))(hi:it.2.size<=maxLen)(ht:ni ts):ni ts':=by
 unfold Ok at h
 repeat' split at h
 all_goals first
  |(cases h;done)
  |skip
 all_goals
  injection h with h;injection h with h1 h2;subst h2
  first
   |exact ht
   |(intro t hm
     rcases Qh.1 hm with hm|hm
     .exact ht t hm
     rw[Qi.1 hm,Dp];exact hi)
theorem qsI{ns:List Wd}:∀(l:List Wf)(ts:List Wd)(r:List Int)(ts':List Wd)(r':List Int),Fn ns ts r l=some (r',ts')->(∀it∈l,it.2.size<=maxLen)->ni ts->ni ts'
 |[],ts,r,ts',r',h,_,ht=>by
  rw[Fn]at h;injection h with h;injection h with h1 h2;subst h2;exact ht
 |it::l,ts,r,ts',r',h,hi,ht=>by
  rw[Fn]at h;cases e:Ok ns ts it with
  |none=>rw[e]at h;cases h
  |some p =>
   obtain⟨s,ts1⟩:=p;rw[e]at h;exact qsI l ts1 (r++[s]) ts' r' h (fun x hx=>hi x (by simp[hx])) (zcU e (hi it (by simp)) ht)
def Ex(l:List Kh)(w:World)(e:Ending)(w':World):Prop:=∃v1 v2 v3,e=.returned (.tuple #[.agg #[v1,v2,v3],.int .i64 (Jn l).2])/\Je Mi w' w'.heap.size v1 (Jn l).1.1/\Je Mi w' w'.heap.size v2 (Jn l).1.2.1/\Je Vw w' w'.heap.size v3 (Jn l).1.2.2/\Below w.heap.size w w'
theorem Ex.bad(h:Jn l=(([],[],[]),n))(hb:Below w.heap.size w w'):Ex l w (.returned (.tuple #[.agg #[.slice none 0 0,.slice none 0 0,.slice none 0 0],.int .i64 n])) w':=by
 unfold Ex;rw[h];exact⟨_,_,_,rfl,Je.nil_,Je.nil_,Je.nil_,hb⟩
theorem Ex.good(h:Jn l=(g,0))(h1:Je Mi w' w'.heap.size v1 g.1)(h2:Je Mi w' w'.heap.size v2 g.2.1)(h3:Je Vw w' w'.heap.size v3 g.2.2)(hb:Below w.heap.size w w'):Ex l w (.returned (.tuple #[.agg #[v1,v2,v3],.int .i64 0])) w':=by
 unfold Ex;rw[h];exact⟨_,_,_,rfl,h1,h2,h3,hb⟩
theorem qN(h:Rv l=false):(∀x∈l,∀a∈x.2,a.length<=64)/\Dn l<=4096/\l.length<=256:=by
 rw[oK,Yn,Yn,Yl,Yl]at h;refine⟨fun x hx a ha=>?_,by omega,by omega⟩;have h1:=List.any_eq_false.1 (show (l.any fun x=>x.2.any fun a=>decide (64<a.length))=false from h.1.1) x hx;have h2:=List.any_eq_false.1 (Bool.not_eq_true _ ▸ h1:(x.2.any fun a=>decide (64<a.length))=false) a ha;simpa using h2
theorem Ae.setRow{α:Type}{O:bH α}{t T:TypeId}{w:World}{v:Value}{xs:List α}(h:Ae O t w w.heap.size v xs){g:Nat}{cur:Array Value}(hg:w.heap[g]?=some (.cells cur T (0,0)))(hT:T∉t::O.ts)(ys:Array Value):Je O.E (w.setRow g ys) (w.setRow g ys).heap.size v xs:=by
 have hk:Jk (t::O.ts) w (w.setRow g ys):=Ds hg hT;exact ((h.keep (.of_keepT hk)).more hk.1).sl
theorem Dz.more_b1{B2:Nat}(h:Dz w P Q gn gt vN vT vR B0 B1 ns ts rs css)(hB:B1<=B2)(h2:B2<=w.heap.size):Dz w P Q gn gt vN vT vR B0 B2 ns ts rs css :=
 ⟨h.box,h.mn,h.mt,h.names,h.terms,h.rules,h.rrows.more hB,h.lo,h.b0,h2⟩
theorem Dz.uT(h:Dz w P Q gn gt vN vT vR B0 B1 ns ts rs css)(hs:∀t∈ts,(Jp t).size<=maxLen):Ae fH 9 w w.heap.size vT (ts.map Jp):=by
 have hf:(ts.map fun t=>[wv t]).flatten=ts.map wv:=by
  clear hs h
  induction ts with
  |nil=>rfl
  |cons s r ih=>rw[List.map_cons,List.flatten_cons,ih];rfl
 refine Ae.of_row (O:=fH) (css:=ts.map fun t=>[wv t]) (by rw[hf,Qk];exact h.terms) ⟨by rw[Qk,Qk],fun i cs x hc hx=>?_⟩;rw[Qv]at hc hx;cases hi:ts[i]? with
 |none=>rw[hi]at hc;cases hc
 |some t =>
  rw[hi]at hc hx;injection hc with hc;injection hx with hx;subst hc hx;exact⟨rfl,hs t (Qp hi)⟩
theorem pw(v:Value)(l:List Kh)(w:World)(h:Je ut w w.heap.size v l)(hln:LnS l)(hn0:l.length<=1048576)(qqP:∀x∈l,x.2.length<=1048576) :
  Calls Tryz.prog 111 #[v] w (Ex l w):=by
 obtain⟨A1,c1,rfl,jZ,mY⟩:=h.form;unfold maxLen at mY;have Bf:Below w.heap.size w (w.alloc (.cells #[.slice none 0 0,.slice none 0 0,.slice none 0 0] 25)):=(Xr _ _).alloc (Yb _) _;have HL:=Lh (h.below Bf);have HS1:=Lh (Xn w (.cells #[.slice none 0 0,.slice none 0 0,.slice none 0 0] 25));have HZ1:=Lh (Xs w (.cells #[.slice none 0 0,.slice none 0 0,.slice none 0 0] 25));have HB1:=Lh Bf;obtain⟨S,hS⟩:=Xe w.heap.size;rw[<-hS]at HL HS1 HZ1;have HSE:=Lh hS;have HLN:=Lh hln;have sW:=Lh qqP;obtain⟨n,hn⟩:=Xe l.length;rw[<-hn]at HL jZ hn0 |-;have HN:=Lh hn;clear h Bf hln qqP hn;go_enter Tryz.func111,Tryz.ntmps111;go_wp2_with fail;rw[<-hS];clear hS;generalize w.alloc (.cells #[.slice none 0 0,.slice none 0 0,.slice none 0 0] 25)=w1 at*;refine (qjA (.slice A1 n c1) l w1 (HL.o.more (by rw[HZ1.o];omega)) (by rw[<-HN.o];exact hn0) sW.o).mono ?_;rintro e w2 ⟨rfl,Jd⟩;have HS2:=Lh ((Jd.block S (by rw[HZ1.o];omega)).trans HS1.o);have HB2:=Lh (HB1.o.trans (Jd.mono (by rw[HZ1.o,HSE.o];omega)));have HL2:=Lh (HL.o.below (Jd.mono (by rw[HZ1.o];omega)));have pF:=Lh (show S<w2.heap.size by have:=Jd.size;rw[HZ1.o]at this;omega);clear Jd HS1 HB1 HL HZ1;rcases Yo (Rv l)with hg|hg
 .have Jw:=Lh (Tn hg);rw[hg];clear hg;go_wp2_with (refine Zv none rfl ?_);refine Stop.go (Zo rfl 25 rfl rfl rfl (Vp HS2.o rfl rfl rfl rfl) ?_);have Ej:=Lh (Zj _ _ _ _ _ _ HS2.o:(w2.setRow S [.slice none 0 0,.slice none 0 0,.slice none 0 0].toArray).heap[S]?=_);have Do:=Lh (Zk HB2.o (Yj HSE.o.symm) [.slice none 0 0,.slice none 0 0,.slice none 0 0].toArray);generalize w2.setRow S [.slice none 0 0,.slice none 0 0,.slice none 0 0].toArray=wz at*;(conv in Act.put _ _ _=>simp[Act.put]);go_wp2_with fail;refine Me (g:=S) rfl rfl rfl rfl Ej.o ?_;exact Ex.bad Jw.o Do.o
 have HG:=Lh hg;rw[hg];clear hg;obtain⟨P,hP⟩:=Xe w2.heap.size;have HNP:=Lt (aD (((w2.alloc (.map #[] 0)).alloc (.map #[] 0)).alloc (.cells #[.map (some P),.map (some (P+1)),.slice none 0 0,.slice none 0 0,.slice none 0 0] 224)) P (P+2) P (P+1) (.slice none 0 0) [] []) (by
  have z1:(w2.alloc (.map #[] 0)).heap.size=P+1:=by rw[Xs,hP]
  have z2:((w2.alloc (.map #[] 0)).alloc (.map #[] 0)).heap.size=P+2:=by rw[Xs,z1]
  have m1:Nx (w2.alloc (.map #[] 0)) P []:=by rw[hP];exact Nx.made w2
  have m2:Nx ((w2.alloc (.map #[] 0)).alloc (.map #[] 0)) (P+1) []:=by rw[<-z1];exact Nx.made (w2.alloc (.map #[] 0))
  have b2:Below (w2.alloc (.map #[] 0)).heap.size (w2.alloc (.map #[] 0)) ((w2.alloc (.map #[] 0)).alloc (.map #[] 0)):=(Xr _ _).alloc (Yb _) _
  have b3:Below ((w2.alloc (.map #[] 0)).alloc (.map #[] 0)).heap.size ((w2.alloc (.map #[] 0)).alloc (.map #[] 0)) (((w2.alloc (.map #[] 0)).alloc (.map #[] 0)).alloc (.cells #[.map (some P),.map (some (P+1)),.slice none 0 0,.slice none 0 0,.slice none 0 0] 224)):=(Xr _ _).alloc (Yb _) _
  refine⟨?_,(m1.below b2).below b3,m2.below b3,Za _ _ _ _,⟨Yb _,Yi _,by omega,by omega⟩⟩
  rw[<-z2]
  exact Xn _ _)
 have hb3:Below w2.heap.size w2 (((w2.alloc (.map #[] 0)).alloc (.map #[] 0)).alloc (.cells #[.map (some P),.map (some (P+1)),.slice none 0 0,.slice none 0 0,.slice none 0 0] 224)):=(((Xr _ _).alloc (Yb _) _).alloc (by rw[Xs];omega) _).alloc (by rw[Xs,Xs];omega) _;rw[<-hP]at hb3;have HBP:=Lh hb3;clear hb3;rw[<-hP]at pF;have su:=@run_makeMap Tryz.prog;go_wp2_with fail;rw[<-hP];clear hP su
 try rw[show P+1+1=P+2 from rfl]
 generalize (((w2.alloc (.map #[] 0)).alloc (.map #[] 0)).alloc (.cells #[.map (some P),.map (some (P+1)),.slice none 0 0,.slice none 0 0,.slice none 0 0] 224))=w3 at*;generalize P+2=Q at*;generalize P+1=gt at*;have HND0:=Lt ((Jy (l.take 0)).Nodup) (List.nodup_nil);go_loopw [22] (fun v22 wr=>∃(i:Nat)(vN:Value),i<=n/\v22=.int .i64 i/\Hid (aD wr P Q P gt vN (Jy (l.take i)) (Jy (l.take i)))/\Hid ((Jy (l.take i)).Nodup)/\Hid (Below P w2 wr)) (fun v22 _=>n-(intOf v22).toNat);exact⟨0,_,by omega,rfl,HNP.o,HND0.o,HBP.o⟩;clear HNP HND0 HBP;obtain⟨i,vN,hi,rfl,HNP,HND,HBP⟩:=hrel;by_cases Jl:i<n
 .have Wp:i<l.length:=by rw[<-HN.o];exact Jl
  obtain⟨b,off,cs,hA1,_,_,Ja,Zn⟩:=(HL2.o.below (HBP.o.mono (Yh pF.o))).get Wp (by decide);subst hA1;obtain⟨v2,rfl,_,Mo⟩:=Oz Ja;obtain⟨A2,c2,rfl,Ct,jW⟩:=Mo.form;unfold maxLen at jW;have rG:=Zn 0 _ rfl;have Sr:=Zn 1 _ rfl;simp only[show ut.size=2 from rfl,Yq,<-Yy]at rG Sr;have aj:=Lh (nV l Wp);have HTW:=Lh (dj l Wp);clear Zn Mo Ja;generalize l[i]=x at*;obtain⟨nm,al⟩:=x;simp only at rG Sr aj HTW;obtain⟨T,rfl⟩:∃T,nm=Jp T:=⟨Wt nm,(Dp nm).symm⟩;rw[Fu]at aj HTW;generalize al.length=al2 at*;clear Wp;have hb4:Below wr.heap.size wr (wr.alloc (.cells #[.string (Jp T),.slice A2 al2 c2] 227)):=(Xr _ _).alloc (Yb _) _;have hPw:P<=wr.heap.size:=by have:=HNP.o.lo;have:=HNP.o.lt;omega
  have HN4:=Lh (HNP.o.below hb4);have HB4:=Lh (HBP.o.trans (hb4.mono hPw));have HX4:=Lh (Xn wr (.cells #[.string (Jp T),.slice A2 al2 c2] 227));obtain⟨K6,hK6⟩:=Xe wr.heap.size;rw[<-hK6]at HX4;clear hb4 hPw HNP HBP;go_wp2_with fail;rw[<-hK6];clear hK6 rG Sr;generalize wr.alloc (.cells #[.string (Jp T),.slice A2 al2 c2] 227)=w4 at*;have HN5:=Lh HN4.o.drew;have HB5:=Lh HB4.o.drew;have HX5:=Lt (w4.drew.heap[K6]?=some (.cells #[.string (Jp T),.slice A2 al2 c2] 227 (0,0))) (HX4.o);have hq0:=(Mh HN5.o.box).1;have hk0:=(Kx HX5.o).1;have Vd:=(HN5.o.mn.look Ki kC T).1;clear HN4 HB4 HX4;refine Text.wt (by kernel_rfl) fun Q' hQ'=>?_;generalize w4.drew=w5 at*;by_cases Uh:T∈Jy (l.take i)
  .have wJ:(Instr.lookup 147 (.map (some P)) (.string (Jp T)) true).run Tryz.prog w5=.ok (.tuple #[.int .i64 ((Jy (l.take i)).idxOf T),.bool true]) w5:=by
    have sw:=Vd;rw[if_pos Uh,Yw Uh]at sw;exact sw
   have Jw:=Lh (gC HG.o (HTW.o Uh));have yF:=Lh ((HB5.o.block S pF.o).trans HS2.o);have HBW:=Lh (HB2.o.trans (HB5.o.mono (by have:=HSE.o;have:=pF.o;omega)));clear Vd Uh;generalize (Jy (l.take i)).idxOf T=ix at*;go_wp2;refine⟨by rfl,?_⟩;clear wJ;go_wp2_with (refine Zv none rfl ?_);refine Stop.go (Zo rfl 25 rfl rfl rfl (Vp yF.o rfl rfl rfl rfl) ?_);have Ej:=Lh (Zj _ _ _ _ _ _ yF.o:(w5.setRow S [.slice none 0 0,.slice none 0 0,.slice none 0 0].toArray).heap[S]?=_);have Do:=Lh (Zk HBW.o (Yj HSE.o.symm) [.slice none 0 0,.slice none 0 0,.slice none 0 0].toArray);generalize w5.setRow S [.slice none 0 0,.slice none 0 0,.slice none 0 0].toArray=wz at*;(conv in Act.put _ _ _=>simp[Act.put]);go_wp2_with fail;refine Me (g:=S) rfl rfl rfl rfl Ej.o ?_;exact Ex.bad Jw.o Do.o
  have wJ:(Instr.lookup 147 (.map (some P)) (.string (Jp T)) true).run Tryz.prog w5=.ok (.tuple #[.int .i64 0,.bool false]) w5:=by
   have sw:=Vd;rw[if_neg Uh,Yx Uh]at sw;exact sw
  go_wp2;refine⟨by rfl,?_⟩;have HN6:=Lh HN5.o.drew;have HB6:=Lh HB5.o.drew;have HX6:=Lt (w5.drew.heap[K6]?=some (.cells #[.string (Jp T),.slice A2 al2 c2] 227 (0,0))) (HX5.o);obtain⟨W',qiF,hmn,Ox,Fb⟩:=HN6.o.mn.put Ki Uh;have kB:=Lh (show (Jy (l.take i)).length=i by unfold Jy;rw[Qk,Qq,<-HN.o];omega);rw[kB.o]at qiF;have HN7:=Lh (HN6.o.put hmn Ox);have HB7:=Lh (HB6.o.grown Ox (by have:=HN6.o.lo;have:=HN6.o.lt;omega) (fun k hk=>by injection hk with hk;omega));have HX7:=Lh ((Jk.of_map (ts:=[227]) HN6.o.mn Ox).2 K6 _ _ (by simp) HX6.o);have jV:(Instr.mapUpdate 147 (.map (some P)) (.string (Jp T)) (.int .i64 i)).run Tryz.prog w5.drew=.ok () W':=qiF;have ztV:w5.drew.cell? ⟨Q,0,none⟩=some (.map (some P)):=hq0;have zuW:w5.drew.cell? ⟨K6,0,none⟩=some (.string (Jp T)):=hk0;have HNDN:=Lt ((Jy (l.take (i+1))).Nodup) (by
   rw[aj.o,List.nodup_append]
   exact⟨HND.o,by simp,fun a ha c hc e=>Uh (by rw[Qi.1 hc]at e;rw[<-e];exact ha)⟩)
  rw[<-aj.o]at HN7;clear Vd Uh qiF hmn Ox Fb wJ hq0 hk0 HN5 HB5 HX5;go_wp2;refine Text.wt (by kernel_rfl) fun Q' hQ'=>?_;generalize w5.drew=w6 at*;go_wp2;refine⟨by rfl,?_⟩;clear jV ztV zuW;obtain⟨AN,cN,hvN,hN1,hN2⟩:=Zp HN7.o.names;rw[kB.o]at hvN hN1;subst hvN;unfold maxLen at hN2;clear HN6 HB6 HX6;have gW:=Lt (∀W:World,W.heap[Q]?=some (.cells #[.map (some P),.map (some gt),.slice AN i cN,.slice none 0 0,.slice none 0 0] 224 (0,0))->W.heap[K6]?=some (.cells #[.string (Jp T),.slice A2 al2 c2] 227 (0,0))->W.cell? ⟨Q,2,none⟩=some (.slice AN i cN)/\W.cell? ⟨K6,0,none⟩=some (.string (Jp T))) (fun W h1 h2=>⟨(Mh h1).2.2.1,(Kx h2).1⟩);go_wp2_with fail;have Ul:=Lh (gW.o W'.drew HN7.o.box HX7.o);refine Ny (fun w'=>w'.cell? ⟨Q,2,none⟩=some (.slice AN i cN)/\w'.cell? ⟨K6,0,none⟩=some (.string (Jp T))) [10] 14 (by kernel_rfl) rfl ?_;have HN8:=Lh HN7.o.drew;have HB8:=Lh HB7.o.drew;have HX8:=Lt (W'.drew.heap[K6]?=some (.cells #[.string (Jp T),.slice A2 al2 c2] 227 (0,0))) (HX7.o);clear HN7 HB7 HX7;generalize W'.drew=w8 at*;refine Rh 0 (.pointer (some ⟨Q,0,none⟩)) rfl (by kernel_rfl) rfl (fun wq=>by go_simp) Ul.o ?_;(conv in Act.put _ _ _=>simp[Act.put]);refine Rh 1 (.pointer (some ⟨Q,0,none⟩)) rfl (by kernel_rfl) rfl (fun wq=>by go_simp) Ul.o ?_;(conv in Act.put _ _ _=>simp[Act.put]);refine Rh 2 (.pointer (some ⟨Q,0,none⟩)) rfl (by kernel_rfl) rfl (fun wq=>by go_simp) Ul.o ?_;(conv in Act.put _ _ _=>simp[Act.put]);refine Rh 3 (.pointer (some ⟨Q,2,none⟩)) rfl (by kernel_rfl) rfl (fun wq=>by go_simp) Ul.o ?_;(conv in Act.put _ _ _=>simp[Act.put]);refine Rh 4 (.pointer (some ⟨Q,2,none⟩)) rfl (by kernel_rfl) rfl (fun wq=>by go_simp) Ul.o ?_;(conv in Act.put _ _ _=>simp[Act.put]);refine jT 5 (.slice AN i cN) rfl (by kernel_rfl) rfl (fun wq Ri=>Kc rfl rfl (Vs (e:=9) (by kernel_rfl) Ri.1)) Ul.o ?_;(conv in Act.put _ _ _=>simp[Act.put]);refine Rh 6 (.pointer (some ⟨K6,0,none⟩)) rfl (by kernel_rfl) rfl (fun wq=>by go_simp) Ul.o ?_;(conv in Act.put _ _ _=>simp[Act.put]);refine jT 7 (.string (Jp T)) rfl (by kernel_rfl) rfl (fun wq Ri=>Kc rfl rfl (Bx (by kernel_rfl) Ri.2)) Ul.o ?_;(conv in Act.put _ _ _=>simp[Act.put]);have HB9:=Lh ((Xr w8.heap.size w8).alloc (Yb _) (.cells #[.string (Jp T)] 9));have Ea:=Lh (Xn w8 (.cells #[.string (Jp T)] 9));have rV:=Lt (w8.heap.size+1=(w8.alloc (.cells #[.string (Jp T)] 9)).heap.size) ((Xs _ _).symm);refine Jf (i:=8) (by kernel_rfl) rfl (fun Q' hQ'=>?_);go_wp2_with fail;generalize w8.alloc (.cells #[.string (Jp T)] 9)=w9 at*;have HN9:=Lh (HN8.o.below HB9.o);have HX9:=Lh ((HB9.o.block K6 (gl HX8.o)).trans HX8.o);have qcG:=Lh (HB8.o.trans (HB9.o.mono (by have:=HN8.o.lo;have:=HN8.o.lt;omega)));refine⟨iP (gW.o w9 HN9.o.box HX9.o),?_⟩;have aT:=HN9.o.names;rw[kB.o]at aT;refine Jf (i:=9) (by kernel_rfl) rfl (fun Q' hQ'=>?_);refine Zy (m:=1) kG rfl rfl rfl rfl aT (Rd.row (B:=w9.heap.size) Ea.o (by rw[<-rV.o];exact Yf _)) rfl (by simp[Value.oneCell']) (by simp only[maxLen];omega) (by omega) HN9.o.lt ?_;intro yn Iq hown hg _ _;obtain⟨A8,c8,dC,_,_⟩:=Zp hown;subst dC;have HN12:=Lh (aD.snoc (T:=T) HN9.o (by rw[kB.o];exact hown) hg);rw[<-aj.o]at HN12;have mO:=Lh (Zs aT hg HN9.o.box (by decide));have zmY:=Lh (Zs aT hg HX9.o (by decide));have pH:=Lh (Zr qcG.o hg aT (by have:=HN9.o.lo;omega) (by have:=HN9.o.lo;have:=HN9.o.lt;omega));have HB12:=Lh (pH.o.setCell (p:=⟨Q,2,none⟩) HN9.o.lo.2.2.1 (.slice A8 (i+1) c8));clear hown hg aT;(conv in Act.put _ _ _=>simp[Act.put]);refine hQ' _ _ ⟨iP (gW.o Iq mO.o zmY.o),?_⟩;have q2:=(Mh mO.o).2.2.1;have f2:Iq.frozen? ⟨Q,2,none⟩=false:=by simp[World.frozen?,mO.o]
  clear Ul gW HN8 HB8 HX8 HN9 qcG HX9 HB9 Ea rV;refine Jf (i:=10) (by kernel_rfl) rfl (fun Q' hQ'=>?_);go_wp2_with fail;refine⟨Km (by kernel_rfl),?_⟩;refine Jf (i:=11) (by kernel_rfl) rfl (fun Q' hQ'=>?_);go_wp2_with fail;refine⟨Km (by kernel_rfl),?_⟩;refine Jf (i:=12) (by kernel_rfl) rfl (fun Q' hQ'=>?_);go_wp2_with fail;refine⟨Km (by kernel_rfl),?_⟩;refine Jf (i:=13) (by kernel_rfl) rfl (fun Q' hQ'=>?_);go_wp2_with fail;refine⟨Km (by kernel_rfl),?_⟩;refine Gi (by kernel_rfl) ?_ _;clear q2 f2 mO zmY pH;go_wp2;go_roundw;exact⟨i+1,_,by omega,by go_num,HN12.o,HNDN.o,HB12.o⟩;simp[intOf];omega
 obtain rfl:i=n:=by omega
 have HTK:=Lt (l.take i=l) (Qd (by rw[<-HN.o];exact Yb _));rw[HTK.o]at HNP HND;have HNS:=Lh (show ∀t∈Jy l,(Jp t).size<=maxLen from fun t ht=>by
  obtain⟨x,hx,rfl⟩:=Xa.1 ht
  rw[Dp]
  exact (HLN.o x hx).1)
 have HNM:=Lh (HNP.o.done HNS.o);obtain⟨B0,hB0⟩:=Xe wr.heap.size;have HPB:=Lh (show P<=B0 by have:=HNP.o.lo;have:=HNP.o.lt;omega);rw[<-hB0]at HNM;have HNM':=Lt (Dz wr P Q P gt vN (.slice none 0 0) (.slice none 0 0) B0 wr.heap.size (Jy l) [] [] []) (hB0 ▸ HNM.o);have kB:=Lh (show (Jy l).length=i by unfold Jy;rw[Qk,<-HN.o]);obtain⟨AN,cN,hvN,hN1,hN2⟩:=Zp HNP.o.names;rw[kB.o]at hvN hN1;subst hvN;unfold maxLen at hN2;have HGF:=Lh (qN HG.o);have HE0:=Lt (Vg (Jy l) 0 [] [] l=Vg (Jy l) 0 [] [] (l.drop 0)) (rfl);have HR0:=Lt (([]:List Jj).length=Dn (l.take 0)) (rfl);have HT0:=Lt (ni []) (fun t ht=>by cases ht);clear hB0 HNM HNP HNS HTK hi Jl;go_wp2_with fail;generalize wr=wo at*;go_loopw [62] (fun v62 wq=>∃(j:Nat)(ts:List Wd)(rs:List Jj)(vT vR:Value)(css:List (List Value)),j<=i/\v62=.int .i64 j/\ts.length<=64*rs.length/\rs.length<=4096/\Hid (rs.length=Dn (l.take j))/\Hid (Vg (Jy l) 0 [] [] l=Vg (Jy l) j ts rs (l.drop j))/\Hid (ni ts)/\Hid (Dz wq P Q P gt (.slice AN i cN) vT vR B0 wq.heap.size (Jy l) ts rs css)/\Hid (Below P w2 wq)) (fun v62 _=>i-(intOf v62).toNat);exact⟨0,[],[],_,_,[],by omega,rfl,by simp,by simp,HR0.o,HE0.o,HT0.o,HNM'.o,HBP.o⟩;clear HR0 HE0 HT0 HNM' HBP;obtain⟨j,ts,rs,vT,vR,css,hj,rfl,htr,hr4,qbZ,HEQ,HTS,HNM,HBP⟩:=hrel;have ig:=Lh ((HBP.o.block S pF.o).trans HS2.o);have HBW:=Lh (HB2.o.trans (HBP.o.mono (by have:=HSE.o;have:=pF.o;omega)));have hPw:P<=wr.heap.size:=by have:=HNM.o.b0;have:=HPB.o;omega
 by_cases Jl:j<i
 .have Mw:j<l.length:=by rw[<-HN.o];exact Jl
  obtain⟨b,off,cs,hA1,_,_,Ja,Zn⟩:=(HL2.o.below (HBP.o.mono (Yh pF.o))).get Mw (by decide);subst hA1;obtain⟨v2,rfl,_,Mo⟩:=Oz Ja;obtain⟨A2,c2,rfl,Ct,jW⟩:=Mo.form;unfold maxLen at jW;have rG:=Zn 0 _ rfl;have Sr:=Zn 1 _ rfl;simp only[show ut.size=2 from rfl,Yq,<-Yy]at rG Sr;have HST:=Lh (vY (ns:=Jy l) (ts:=ts) (rs:=rs) Mw);have HAS:=Lh (aA l Mw);have zhD:=Lh (xk l (j+1));have qzH:=Lh (HLN.o l[j] (Qg Mw)).2;have HGX:=Lh (HGF.o.1 l[j] (Qg Mw));have HSL:=Lh Mo;clear Zn Mo Ja;generalize l[j]=x at*;obtain⟨nm,al⟩:=x;simp only at rG Sr HST HAS qzH HGX HSL Ct;obtain⟨m,hm⟩:=Xe al.length;rw[<-hm]at Ct Sr HSL HAS;have HM:=Lh hm;clear hm Mw;have hb4:Below wr.heap.size wr (wr.alloc (.cells #[.string nm,.slice A2 m c2] 227)):=(Xr _ _).alloc (Yb _) _;have HNM4:=Lt (Dz (wr.alloc (.cells #[.string nm,.slice A2 m c2] 227)) P Q P gt (.slice AN i cN) vT vR B0 (wr.alloc (.cells #[.string nm,.slice A2 m c2] 227)).heap.size (Jy l) ts rs css) ((HNM.o.below hb4).more_b1 (Yh (by rw[Xs];omega)) (Yb _));have HB4:=Lh (HBP.o.trans (hb4.mono hPw));have qsX:=Lh (HSL.o.below (hb4.mono (by have:=pF.o;omega)));have gM:(wr.alloc (.cells #[.string nm,.slice A2 m c2] 227)).cell? ⟨wr.heap.size,1,none⟩=some (.slice A2 m c2):=(Kx (Xn wr (.cells #[.string nm,.slice A2 m c2] 227))).2;have HEQ4:=Lt (Vg (Jy l) 0 [] [] l=match Ic (Jy l) (j:Int) ts rs (al.drop 0)with|none=>none|some (Cg,ts')=>Vg (Jy l) (j+1) ts' Cg (l.drop (j+1))) (HEQ.o.trans HST.o)
  have HR4:=Lt (rs.length=Dn (l.take j)+0) (qbZ.o);clear hb4 HNM HBP HSL ig HBW HEQ HST qbZ hPw;go_wp2_with fail;clear rG Sr gM;generalize wr.alloc (.cells #[.string nm,.slice A2 m c2] 227)=w4 at*;go_loopw [70] (fun v70 wq=>∃(k:Nat)(ts:List Wd)(rs:List Jj)(vT vR:Value)(css:List (List Value)),k<=m/\v70=.int .i64 k/\ts.length<=64*rs.length/\rs.length<=4096/\Hid (rs.length=Dn (l.take j)+k)/\Hid (Vg (Jy l) 0 [] [] l=match Ic (Jy l) (j:Int) ts rs (al.drop k)with|none=>none|some (Cg,ts')=>Vg (Jy l) (j+1) ts' Cg (l.drop (j+1)))/\Hid (ni ts)/\Hid (Dz wq P Q P gt (.slice AN i cN) vT vR B0 wq.heap.size (Jy l) ts rs css)/\Hid (Below P w2 wq)) (fun v70 _=>m-(intOf v70).toNat)
  exact⟨0,ts,rs,vT,vR,css,by omega,rfl,htr,hr4,HR4.o,HEQ4.o,HTS.o,HNM4.o,HB4.o⟩;have zyO:=Lh (show ∀W,Below P w2 W->Je (Tw rP) W S (.slice A2 m c2) al from fun W hb=>by
   have h1:Je (Tw rP) w2 S (.slice A2 m c2) al:=qsX.o.keep fun p hp=>(HB4.o.cell (Nat.lt_trans hp pF.o)).symm
   exact h1.below (hb.mono (Yh pF.o)))
  clear HR4 HEQ4 HTS HNM4 HB4 qsX htr hr4;clear ts rs vT vR css;obtain⟨k,ts,rs,vT,vR,css,hk,rfl,htr,hr4,HR4,HEQ4,HTS,HNM4,HB4⟩:=hrel;by_cases Du:k<m
  .have hka:k<al.length:=by rw[<-HM.o];exact Du
   obtain⟨b7,o7,cs,rfl,_,_,Ja,Zn⟩:=(zyO.o wr HB4.o).get hka (by decide);obtain⟨v7,rfl,hs7⟩:=Ja;obtain⟨A7,c7,rfl,hl7,mz⟩:=hs7.form;unfold maxLen at mz;have ey:=Zn 0 _ rfl;simp only[show (Tw rP).size=1 from rfl,Ys,Yq]at ey;have HST:=Lh (ib (ns:=Jy l) (ts:=ts) (rs:=rs) (i:=(j:Int)) hka);have HLA:=Lh (qzH.o al[k] (Qg hka));have HGA:=Lh (HGX.o al[k] (Qg hka));have HS7:=Lh (hs7.more (Yh pF.o));clear Zn hs7;generalize al[k]=a at*;clear hka;have hr5:rs.length+1<=4096:=by have h1:=HR4.o;have h2:=HAS.o;have h3:=zhD.o;have h4:=HGF.o.2.1;omega
   have HRU:=Lh (qnJ j (.slice A7 a.length c7) a wr P Q P gt (.slice AN i cN) vT vR B0 (Jy l) ts rs css HNM4.o HS7.o (by omega) (by rw[kB.o];exact hn0) (by omega) HGA.o (by omega));obtain⟨q,hq⟩:=Xe a.length;rw[<-hq]at HRU ey HGA;have HQQ:=Lh hq;clear hq HS7 hl7;have qxD:=HGA.o;go_wp2_with fail;clear ey;refine HRU.o.mono ?_;rintro e w6 hst;rcases hst with ⟨zaS,rfl,hb6⟩|⟨r,ts2,vT2,vR2,css2,qpM,zkR,rfl,hm6,hb6⟩
   .have Jw:=Lh (kS HG.o HND.o (by rw[HEQ4.o,HST.o,zaS]));have HB6:=Lh (HB4.o.trans hb6);have yE:=Lh ((HB6.o.block S pF.o).trans HS2.o);have HBW:=Lh (HB2.o.trans (HB6.o.mono (by have:=HSE.o;have:=pF.o;omega)));clear hb6 zaS;go_wp2_with (refine Zv none rfl ?_);refine Stop.go (Zo rfl 25 rfl rfl rfl (Vp yE.o rfl rfl rfl rfl) ?_);have Ej:=Lh (Zj _ _ _ _ _ _ yE.o:(w6.setRow S [.slice none 0 0,.slice none 0 0,.slice none 0 0].toArray).heap[S]?=_);have Do:=Lh (Zk HBW.o (Yj HSE.o.symm) [.slice none 0 0,.slice none 0 0,.slice none 0 0].toArray);generalize w6.setRow S [.slice none 0 0,.slice none 0 0,.slice none 0 0].toArray=wz at*;(conv in Act.put _ _ _=>simp[Act.put]);go_wp2_with fail;refine Me (g:=S) rfl rfl rfl rfl Ej.o ?_;exact Ex.bad Jw.o Do.o
   have HM6:=Lh hm6;have HB6:=Lh (HB4.o.trans hb6);have HTS6:=Lh (qsI a ts [] ts2 r qpM HLA.o HTS.o);have HEQ6:=Lh (show Vg (Jy l) 0 [] [] l=match Ic (Jy l) (j:Int) ts2 (rs++[((j:Int),r)]) (al.drop (k+1))with|none=>none|some (Cg,ts')=>Vg (Jy l) (j+1) ts' Cg (l.drop (j+1)) by rw[HEQ4.o,HST.o,qpM])
   have HR6:=Lh (show (rs++[((j:Int),r)]).length=Dn (l.take j)+(k+1) by rw[Qe,Qf,HR4.o];omega);have ht6:ts2.length<=64*(rs++[((j:Int),r)]).length:=by rw[Qe,Qf];have:=HQQ.o;omega
   have hr6:(rs++[((j:Int),r)]).length<=4096:=by rw[Qe,Qf];exact hr5
   clear hm6 hb6 qpM zkR;go_wp2;go_roundw;exact⟨k+1,ts2,_,vT2,vR2,css2,by omega,by go_num,ht6,hr6,HR6.o,HEQ6.o,HTS6.o,HM6.o,HB6.o⟩;simp[intOf];omega
  obtain rfl:k=m:=by omega
  have HEQ5:=Lh (show Vg (Jy l) 0 [] [] l=Vg (Jy l) (j+1) ts rs (l.drop (j+1)) by
   rw[HEQ4.o,Xm (by rw[<-HM.o];exact Yb _)];rfl)
  have HR5:=Lh (show rs.length=Dn (l.take (j+1)) by rw[HR4.o,HAS.o]);go_wp2;go_roundw;exact⟨j+1,ts,rs,vT,vR,css,by omega,by go_num,htr,hr4,HR5.o,HEQ5.o,HTS.o,HNM4.o,HB4.o⟩;simp[intOf];omega
 obtain rfl:j=i:=by omega
 have HLR:=Lh (show Vg (Jy l) 0 [] [] l=some (rs,ts) by
  rw[HEQ.o,Xm (by rw[<-HN.o];exact Yb _)];rfl)
 have Jw:=Lh (kR HG.o HND.o HLR.o);rw[<-HN.o]at Jw;obtain⟨AT,cT,hvT,hT1,hT2⟩:=Zp HNM.o.terms;subst hvT;obtain⟨AR,cR,hvR,hR1,hR2⟩:=Zp HNM.o.rules;subst hvR;unfold maxLen at hT2 hR2;have HUN:=Lt (Ae fH 9 wr wr.heap.size (.slice AN j cN) ((Jy l).map Jp)) (HNM.o.names.more HNM.o.b0);have HUT:=Lh (HNM.o.uT HTS.o);have HUR:=Lt (Ae Rl 63 wr wr.heap.size (.slice AR rs.length cR) rs) (Ae.of_row (O:=Rl) HNM.o.rules (HNM.o.rrows.more HNM.o.b1));have zfZ:=Lh HNM.o.slR;have Fc:=Lh HNM.o.box;obtain⟨t,ht⟩:=Xe ts.length;obtain⟨q,hq⟩:=Xe rs.length;rw[<-ht]at htr hT1 Jw HUT Fc;rw[<-hq]at htr hr4 hR1 HUR zfZ Fc;clear ht hq HNM HEQ qbZ;obtain⟨q0,q1,q2,q3,q4⟩:=Mh Fc.o;clear q0 q1;go_wp2;refine Text.wt (by kernel_rfl) fun Q' hQ'=>?_;have yF:=Lt (wr.drew.heap[S]?=some (.cells #[.slice none 0 0,.slice none 0 0,.slice none 0 0] 25 (0,0))) (ig.o);have HB5:=Lh HBW.o.drew;have hq2:wr.drew.cell? ⟨Q,2,none⟩=some (.slice AN j cN):=q2;have hq3:wr.drew.cell? ⟨Q,3,none⟩=some (.slice AT t cT):=q3;have hq4:wr.drew.cell? ⟨Q,4,none⟩=some (.slice AR q cR):=q4;have hbd:Below wr.heap.size wr wr.drew:=(Xr _ _).drew;have zxX:=Lt (Ae fH 9 wr.drew wr.drew.heap.size (.slice AN j cN) ((Jy l).map Jp)) (HUN.o.keep (.of_below hbd));have zxV:=Lt (Ae fH 9 wr.drew wr.drew.heap.size (.slice AT t cT) (ts.map Jp)) (HUT.o.keep (.of_below hbd));have zxW:=Lt (Ae Rl 63 wr.drew wr.drew.heap.size (.slice AR q cR) rs) (HUR.o.keep (.of_below hbd));have zyK:=Lt (Je Vw wr.drew wr.drew.heap.size (.slice AR q cR) rs) (zfZ.o.below hbd);clear ig HBW q2 q3 q4 hbd HUN HUT HUR zfZ Fc HBP;generalize wr.drew=w5 at*;by_cases zW:256<j+t
 .have g1:decide ((256:Int)<(j:Int)+(t:Int))=true:=by simp;omega
  have Sl:=Lt (Jn l=(([],[],[]),19)) (Jw.o.trans (if_pos zW));clear zW;go_wp2;refine⟨by rfl,?_⟩;clear hq2 hq3 hq4;go_wp2_with (refine Zv none rfl ?_);refine Stop.go (Zo rfl 25 rfl rfl rfl (Vp yF.o rfl rfl rfl rfl) ?_);have Ej:=Lh (Zj _ _ _ _ _ _ yF.o:(w5.setRow S [.slice none 0 0,.slice none 0 0,.slice none 0 0].toArray).heap[S]?=_);have Do:=Lh (Zk HB5.o (Yj HSE.o.symm) [.slice none 0 0,.slice none 0 0,.slice none 0 0].toArray);generalize w5.setRow S [.slice none 0 0,.slice none 0 0,.slice none 0 0].toArray=wz at*;(conv in Act.put _ _ _=>simp[Act.put]);go_wp2_with fail;refine Me (g:=S) rfl rfl rfl rfl Ej.o ?_;exact Ex.bad Sl.o Do.o
 have g1:decide ((256:Int)<(j:Int)+(t:Int))=false:=by simp;omega
 have mK:=Lh (Jw.o.trans (if_neg zW));clear zW;go_wp2;refine⟨by rfl,?_⟩;go_wp2_with fail;refine (ax (.slice AR q cR) rs w5 zyK.o).mono ?_;rintro e w6 ⟨rfl,hb6⟩;have yE:=Lh ((hb6.block S (gl yF.o)).trans yF.o);have HB6:=Lh (HB5.o.trans (hb6.mono HB5.o.size));by_cases Te:rs.Nodup
 .have qtG:=Lh (show Jn l=((l.map fun x=>x.1,ts.map Jp,rs),0)from mK.o.trans (if_neg (fun e=>e Te)));rw[show decide (¬ rs.Nodup)=false from Yx fun e=>e Te];have hq2':=(hb6.cell (p:=⟨Q,2,none⟩) (Zm w5 _ hq2)).trans hq2;have hq3':=(hb6.cell (p:=⟨Q,3,none⟩) (Zm w5 _ hq3)).trans hq3;have hq4':=(hb6.cell (p:=⟨Q,4,none⟩) (Zm w5 _ hq4)).trans hq4;have HN6:=Lh (show Je Mi (w6.setRow S [.slice AN j cN,.slice AT t cT,.slice AR q cR].toArray) (w6.setRow S [.slice AN j cN,.slice AT t cT,.slice AR q cR].toArray).heap.size (.slice AN j cN) (l.map fun x=>x.1)from by
   have h1:=Ae.setRow ((zxX.o.keep (.of_below hb6)).more hb6.size) yE.o (by decide) [.slice AN j cN,.slice AT t cT,.slice AR q cR].toArray
   have e1:(Jy l).map Jp=l.map fun x=>x.1:=by
    unfold Jy
    rw[List.map_map]
    exact List.map_congr_left fun x _=>Dp x.1
   rw[e1]at h1
   exact h1)
  have HT6:=Lh (Ae.setRow ((zxV.o.keep (.of_below hb6)).more hb6.size) yE.o (by decide) [.slice AN j cN,.slice AT t cT,.slice AR q cR].toArray);have HR6:=Lh (Ae.setRow ((zxW.o.keep (.of_below hb6)).more hb6.size) yE.o (by decide) [.slice AN j cN,.slice AT t cT,.slice AR q cR].toArray);have Do:=Lh (Zk HB6.o (Yj HSE.o.symm) [.slice AN j cN,.slice AT t cT,.slice AR q cR].toArray);have HRW:=Lh (Zj _ _ _ _ _ _ yE.o:(w6.setRow S [.slice AN j cN,.slice AT t cT,.slice AR q cR].toArray).heap[S]?=_);clear hb6 Te hq2 hq3 hq4;go_wp2_with (refine Zv none rfl ?_);refine Stop.go (Zo rfl 25 rfl rfl rfl (Vp yE.o rfl rfl rfl rfl) ?_);generalize w6.setRow S [.slice AN j cN,.slice AT t cT,.slice AR q cR].toArray=wz at*;(conv in Act.put _ _ _=>simp[Act.put]);go_wp2_with fail;refine Me (g:=S) rfl rfl rfl rfl HRW.o ?_;exact Ex.good qtG.o HN6.o HT6.o HR6.o Do.o
 have Sl:=Lt (Jn l=(([],[],[]),15)) (mK.o.trans (if_pos Te));rw[show decide (¬ rs.Nodup)=true from Yw Te];clear hb6 Te hq2 hq3 hq4;go_wp2_with (refine Zv none rfl ?_);refine Stop.go (Zo rfl 25 rfl rfl rfl (Vp yE.o rfl rfl rfl rfl) ?_);have Ej:=Lh (Zj _ _ _ _ _ _ yE.o:(w6.setRow S [.slice none 0 0,.slice none 0 0,.slice none 0 0].toArray).heap[S]?=_);have Do:=Lh (Zk HB6.o (Yj HSE.o.symm) [.slice none 0 0,.slice none 0 0,.slice none 0 0].toArray);generalize w6.setRow S [.slice none 0 0,.slice none 0 0,.slice none 0 0].toArray=wz at*;(conv in Act.put _ _ _=>simp[Act.put]);go_wp2_with fail;refine Me (g:=S) rfl rfl rfl rfl Ej.o ?_;exact Ex.bad Sl.o Do.o
open Go.Shelf
open Go.RowKit Go.Shelf
def jeR(w w':World):Prop:=∀ts:List TypeId,286∉ts->5∉ts->Jk ts w w'
theorem qvX{xs:List Wd}(h:Je eW w B v xs):Je Mi w B v (xs.map Jp):=by
 obtain⟨A,c,css,e,h1,h2,h3,h4,h5⟩:=h;refine⟨A,c,css,by rw[Qk];exact e,by rw[Qk];exact h1,h2,by rw[Qk];exact h3,h4,fun i cs x hc hx=>?_⟩;rw[Qv]at hx;cases hxi:xs[i]? with
 |none=>rw[hxi]at hx;cases hx
 |some y =>
  rw[hxi]at hx;injection hx with hx;subst hx;exact h5 i cs y hc hxi
structure jR(w:World)(B:Nat)(v1 v2 v3:Value)(g:Kd):Prop where
 names:Je Mi w B v1 g.1
 terms:Je Mi w B v2 g.2.1
 rules:Je Vw w B v3 g.2.2
section
variable {w w':World} {B B' N:Nat} {v1 v2 v3:Value} {g:Kd}
theorem jR.fut(h:jR w B v1 v2 v3 g)(hb:Below N w w')(h1:B<=N)(h2:B<=B'):jR w' B' v1 v2 v3 g:=⟨h.names.fut hb h1 h2,h.terms.fut hb h1 h2,h.rules.fut hb h1 h2⟩
theorem jR.zero:jR w B (.slice none 0 0) (.slice none 0 0) (.slice none 0 0) ([],[],[]):=⟨Je.nil_,Je.nil_,Je.nil_⟩
theorem jR.form(h:jR w B v1 v2 v3 g):∃A1 A2 A3 c1 c2 c3,v1=.slice A1 g.1.length c1/\v2=.slice A2 g.2.1.length c2/\v3=.slice A3 g.2.2.length c3:=by
 obtain⟨A1,c1,rfl,_⟩:=h.names.form;obtain⟨A2,c2,rfl,_⟩:=h.terms.form;obtain⟨A3,c3,rfl,_⟩:=h.rules.form;exact⟨_,_,_,_,_,_,rfl,rfl,rfl⟩
end
def Hu(g:Kd):Kd:=if Ut g=true then Jh g else ([],[],[])
theorem Tf(g:Kd):((g.1.map Wt).map Jp,(g.2.1.map Wt).map Jp,g.2.2)=g:=by
 have e:∀l:List ByteArray,(l.map Wt).map Jp=l:=fun l=>by
  rw[List.map_map]
  conv=>rhs;rw[<-List.map_id l]
  exact List.map_congr_left fun x _=>Dp x
 rw[e,e]
def qtS(g:Kd)(w:World)(e:Ending)(w':World):Prop:=∃u1 u2 u3,e=.returned (.agg #[u1,u2,u3])/\(∀w'':World,(∀b,w.heap.size<=b->b<w'.heap.size->w''.heap[b]?=w'.heap[b]?)->jR w'' w''.heap.size u1 u2 u3 (Hu g))/\Below w.heap.size w w'
theorem kx(v1 v2 v3:Value)(g:Kd)(w:World)(hb:Ut g=false)(Fb:g.1.length+g.2.1.length<=4611686018427387904)(h:jR w w.heap.size v1 v2 v3 g) :
  Calls Tryz.prog 29 #[.agg #[v1,v2,v3]] w (qtS g w):=by
 obtain⟨A1,A2,A3,c1,c2,c3,rfl,rfl,rfl⟩:=h.form;have HC:=Lt (Hu g=([],[],[])) (if_neg (by rw[hb];decide));obtain⟨S,hS⟩:=Xe w.heap.size;have HB1:=Lh (show Below S w ((w.alloc (.cells #[.slice A1 g.1.length c1,.slice A2 g.2.1.length c2,.slice A3 g.2.2.length c3] 25)).alloc (.cells #[.slice none 0 0,.slice none 0 0,.slice none 0 0] 25))from
  ((Xr S w).alloc (Yj hS) _).alloc (by rw[Xs];omega) _)
 have HR1:=Lh (show ((w.alloc (.cells #[.slice A1 g.1.length c1,.slice A2 g.2.1.length c2,.slice A3 g.2.2.length c3] 25)).alloc (.cells #[.slice none 0 0,.slice none 0 0,.slice none 0 0] 25)).heap[S+1]?=some (.cells #[.slice none 0 0,.slice none 0 0,.slice none 0 0] 25 (0,0)) by
  have:=Xn (w.alloc (.cells #[.slice A1 g.1.length c1,.slice A2 g.2.1.length c2,.slice A3 g.2.2.length c3] 25)) (.cells #[.slice none 0 0,.slice none 0 0,.slice none 0 0] 25)
  rwa [Xs,<-hS]at this)
 rw[<-hS]at h;have qsT:=Lh (fun(W:World)(hb:Below S w W)(hs:S<=W.heap.size)=>Tp (.slice A1 g.1.length c1) (.slice A2 g.2.1.length c2) (.slice A3 g.2.2.length c3) g.1 g.2.1 g.2.2 W Fb (h.names.fut hb (Yb _) hs) (h.terms.fut hb (Yb _) hs) (h.rules.fut hb (Yb _) hs));have HBB:=Lh hb;have HSE:=Lh hS;clear h hb;generalize g.1.length=n at*;generalize g.2.1.length=m at*;generalize g.2.2.length=q at*;go_enter Tryz.func29,Tryz.ntmps29;go_wp2_with fail;rw[<-hS];clear hS;generalize (w.alloc (.cells #[.slice A1 n c1,.slice A2 m c2,.slice A3 q c3] 25)).alloc (.cells #[.slice none 0 0,.slice none 0 0,.slice none 0 0] 25)=w1 at*;have HZ1:=Lt (S+1<w1.heap.size) ((gl HR1.o));refine (qsT.o w1 HB1.o (by have:=HZ1.o;omega)).mono ?_;rintro e w2 ⟨rfl,Jd⟩;rw[show Ut (g.1,g.2.1,g.2.2)=false from HBB.o];have HB2:=Lh (HB1.o.trans (Jd.mono (by have:=HZ1.o;omega)));have HR2:=Lh ((Jd.block (S+1) HZ1.o).trans HR1.o);clear Jd HB1 HR1 HZ1 qsT;go_wp2_with (refine Zv none rfl ?_);refine Stop.go (Zo rfl 25 rfl rfl rfl (Vp HR2.o rfl rfl rfl rfl) ?_);have Ej:=Lh (Zj _ _ _ _ _ _ HR2.o:(w2.setRow (S+1) [.slice none 0 0,.slice none 0 0,.slice none 0 0].toArray).heap[S+1]?=_);have Do:=Lh (Zk HB2.o (Yi S) [.slice none 0 0,.slice none 0 0,.slice none 0 0].toArray);generalize w2.setRow (S+1) [.slice none 0 0,.slice none 0 0,.slice none 0 0].toArray=wz at*;(conv in Act.put _ _ _=>simp[Act.put]);go_wp2_with fail;refine uS (g:=S+1) rfl rfl rfl Ej.o ?_;exact⟨_,_,_,rfl,fun _ _=>by rw[HC.o];exact jR.zero,by rw[<-HSE.o];exact Do.o⟩
theorem jG(v1 v2 v3:Value)(g:Kd)(w:World)(Fb:g.1.length+g.2.1.length<=4611686018427387904)(h:jR w w.heap.size v1 v2 v3 g) :
  Calls Tryz.prog 29 #[.agg #[v1,v2,v3]] w (qtS g w):=by
 rcases Yo (Ut g)with hg|hg
 .have hgd:=(Fy g).1 hg;refine (qbE v1 v2 v3 (g.1.map Wt) (g.2.1.map Wt) g.2.2 w (by rw[Tf];exact hgd) (by rw[show (g.1.map Wt).map Jp=g.1 from congrArg Prod.fst (Tf g)];exact h.names) (by rw[show (g.2.1.map Wt).map Jp=g.2.1 from congrArg (fun x:Kd=>x.2.1) (Tf g)];exact h.terms) h.rules).mono ?_;rintro e w' ⟨u1,u2,u3,rfl,ha,hb⟩;refine⟨u1,u2,u3,rfl,fun w'' hw=>?_,hb⟩;obtain⟨a1,a2,a3⟩:=ha w'' hw;rw[show Hu g=Jh g from if_pos hg];exact⟨qvX a1,qvX a2,a3⟩
 exact kx v1 v2 v3 g w hg Fb h
def mG(K:Nat)(x:Kh):Prop:=x.2.length<=K/\x.1.size<=32/\∀a∈x.2,∀it∈a,it.2.size<=32
def zhH(a:List Wf):Prop:=∀it∈a,it.2.size<=32
def zfK(k:Nat):PSt->Prop
 |.name done=>done.length<=k/\∀x∈done,mG k x
 |.colon done nm=>done.length+1<=k/\(∀x∈done,mG k x)/\nm.size<=32
 |.item done nm alts alt=>done.length+1<=k/\(∀x∈done,mG k x)/\nm.size<=32/\alts.length+1<=k/\(∀a∈alts,zhH a)/\zhH alt
theorem mG.up{K L:Nat}{x:Kh}(h:mG K x)(hk:K<=L):mG L x:=⟨Yd h.1 hk,h.2⟩
theorem qvU{st st':PSt}{t:Kz}(h:Rn st t=some st')(hs:zfK k st)(ht:t.2.1.length<=32):zfK (k+1) st':=by
 have hb:(Jp t.2.1).size<=32:=by rw[tO];exact ht
 cases st with
 |name done =>
  change (if t.1=1 then some (PSt.colon done (Jp t.2.1))else none)=some st' at h
  split at h
  .injection h with h;subst h;exact⟨Nat.succ_le_succ hs.1,fun x hx=>(hs.2 x hx).up (Yi k),hb⟩
  cases h
 |colon done nm =>
  obtain⟨h1,h2,h3⟩:=hs;change (if t.1=3 then some (PSt.item done nm [] [])else none)=some st' at h
  split at h
  .injection h with h;subst h;exact⟨by omega,fun x hx=>(h2 x hx).up (Yi k),h3,by simp,fun a ha=>(by cases ha),fun a ha=>(by cases ha)⟩
  cases h
 |item done nm alts alt =>
  obtain⟨h1,h2,h3,h4,h5,h6⟩:=hs;have h2':∀x∈done,mG (k+1) x:=fun x hx=>(h2 x hx).up (Yi k);change (if t.1=1\/t.1=2 then some (PSt.item done nm alts (alt++[(decide (t.1=2),Jp t.2.1)]))else if t.1=4 then some (PSt.item done nm (alts++[alt]) [])else if t.1=5 then some (PSt.name (done++[(nm,alts++[alt])]))else none)=some st' at h
  have h7:∀a∈alts++[alt],zhH a:=fun a ha=>by
   rcases Qh.1 ha with ha|ha
   .exact h5 a ha
   rw[Qi.1 ha];exact h6
  split at h
  .injection h with h;subst h;refine⟨by omega,h2',h3,by omega,h5,fun it jY=>?_⟩;rcases Qh.1 jY with jY|jY
   .exact h6 it jY
   rw[Qi.1 jY];exact hb
  split at h
  .injection h with h;subst h;exact⟨by omega,h2',h3,by rw[Qe,Qf];omega,h7,fun it jY=>by cases jY⟩
  split at h
  .injection h with h;subst h;refine⟨by rw[Qe,Qf];omega,fun x hx=>?_⟩;rcases Qh.1 hx with hx|hx
   .exact h2' x hx
   rw[Qi.1 hx];exact⟨by show List.length (alts++[alt])<=_;rw[Qe,Qf];omega,h3,h7⟩
  cases h
theorem zbN(len:Nat):∀(toks:List Kz)(k:Nat)(st:PSt),zfK k st->(∀t∈toks,t.2.1.length<=32)->(nh len st toks).1.length<=k+toks.length/\∀x∈(nh len st toks).1,mG (k+toks.length) x
 |[],k,st,hs,_=>by
  cases st with
  |name done =>
   unfold nh;split
   .exact⟨Yg _,fun x hx=>by cases hx⟩
   exact hs
  |colon _ _=>exact⟨Yg _,fun x hx=>by cases hx⟩
  |item _ _ _ _=>exact⟨Yg _,fun x hx=>by cases hx⟩
 |t::r,k,st,hs,ht=>by
  rw[dI];split
  .exact⟨Yg _,fun x hx=>by cases hx⟩
  rename_i st' h;have:=zbN len r (k+1) st' (qvU h hs (ht t (by simp))) (fun x hx=>ht x (by simp[hx]));rw[show k+1+r.length=k+(t::r).length by rw[Qu];omega]at this;exact this
theorem lh(s:Wd):(Nc s).1.length<=65536/\∀x∈(Nc s).1,mG 65536 x:=by
 unfold Nc;split
 .exact⟨Yg _,fun x hx=>by cases hx⟩
 obtain⟨h1,h2⟩:=L_ s;obtain⟨h3,h4⟩:=zbN s.length (Sk s).1 0 (.name []) ⟨Yb _,fun x hx=>by cases hx⟩ h2;exact⟨by show List.length (nh _ _ _).1<=_;omega,fun x hx=>(h4 x hx).up (by omega)⟩
theorem qbK(s:Wd):LnS (Nc s).1:=fun x hx=>by
 obtain⟨h1,h2,h3⟩:=(lh s).2 x hx;exact⟨by unfold maxLen;omega,fun a ha it jY=>by have:=h3 a ha it jY;unfold maxLen;omega⟩
def Dj(s:Wd):Kd×Nat×Nat:=if (Nc s).2.2≠0 then (([],[],[]),(Nc s).2.1,(Nc s).2.2)else (Hu (Jn (Nc s).1).1,0,(Jn (Nc s).1).2)
theorem cg{x:Tmp}{y:Value}{Q:Ending->World->Prop}(h:fn.results=#[.cell p 25,.tmp u,.tmp x]){g:Nat}(hd:a.defers=[])
  (hp:a.tmps.getD p undef=.pointer (some ⟨g,0,none⟩)) (hu:a.tmps.getD u undef=r) (hx:a.tmps.getD x undef=y) (hg:w.heap[g]?=some (.cells #[c0,c1,c2] t fr)) (hq:Q (.returned (.tuple #[.agg #[c0,c1,c2],r,y])) w):bodyPost Tryz.prog fn Q .ret a w:=by
 refine Zh (v:=.tuple #[.agg #[c0,c1,c2],r,y]) ?_ hd hq;rw[Nl h,hp,hu,hx];simp[asAddr,Result.andThen,run_loadVar_row w g t 25 #[c0,c1,c2] fr _ hg Tryz.underlying25 rfl (by kernel_rfl)]
def jO(s:Wd)(w:World)(e:Ending)(w':World):Prop:=∃v1 v2 v3,e=.returned (.tuple #[.agg #[v1,v2,v3],.int .i64 (Dj s).2.1,.int .i64 (Dj s).2.2])/\jR w' w'.heap.size v1 v2 v3 (Dj s).1/\Below w.heap.size w w'
theorem jO.of{s:Wd}(h:Dj s=(g,i,n))(hg:jR w' w'.heap.size v1 v2 v3 g)(hb:Below w.heap.size w w'):jO s w (.returned (.tuple #[.agg #[v1,v2,v3],.int .i64 i,.int .i64 n])) w':=by
 unfold jO;rw[h];exact⟨_,_,_,rfl,hg,hb⟩
theorem zH(l:List Kh):(Jn l).1.1.length+(Jn l).1.2.1.length<=256:=by
 unfold Jn
 repeat' split
 all_goals first
  |(simp;done)
  |(simp only[Qk];omega)
theorem qnM(s:ByteArray)(w:World)(hs:s.size<=maxLen):Calls Tryz.prog 56 #[.string s] w (jO s.data.toList w):=by
 obtain⟨S,hS⟩:=Xe w.heap.size;have Bf:Below w.heap.size w (w.alloc (.cells #[.slice none 0 0,.slice none 0 0,.slice none 0 0] 25)):=(Xr _ _).alloc (Yb _) _;have HS1:=Lh (Xn w (.cells #[.slice none 0 0,.slice none 0 0,.slice none 0 0] 25));have HZ1:=Lh (Xs w (.cells #[.slice none 0 0,.slice none 0 0,.slice none 0 0] 25));have HB1:=Lh Bf;rw[<-hS]at HS1 HZ1;have HSE:=Lh hS;have sW:=Lh (fun W:World=>qkJ s W hs);obtain⟨l,zV,er,hF⟩:∃l zV er,Nc s.data.toList=(l,zV,er):=⟨_,_,_,rfl⟩;have HF:=Lh hF;have HZ:=Lh (lh s.data.toList);have md:=Lh (qbK s.data.toList);rw[hF]at HZ md;unfold Nb at sW;rw[hF]at sW;simp only at HZ md sW;clear hF Bf hs;go_enter Tryz.func56,Tryz.ntmps56;go_wp2_with fail;rw[<-hS];clear hS;generalize w.alloc (.cells #[.slice none 0 0,.slice none 0 0,.slice none 0 0] 25)=w1 at*;refine (sW.o w1).mono ?_;rintro e w2 ⟨vl,rfl,Mo,Jd⟩;have HS2:=Lh ((Jd.block S (by rw[HZ1.o];omega)).trans HS1.o);have HB2:=Lh (HB1.o.trans (Jd.mono (by rw[HZ1.o,HSE.o];omega)));have HSL:=Lh Mo;clear Jd Mo HS1 HB1 HZ1;by_cases her:er=0
 .subst her;have HRF:=Lh (show Dj s.data.toList=(Hu (Jn l).1,0,(Jn l).2) by
   unfold Dj
   rw[HF.o,if_neg (by simp)])
  have HRE:=Lh (pw vl l w2 HSL.o md.o (by have:=HZ.o.1;omega) (fun x hx=>by have:=(HZ.o.2 x hx).1;omega));obtain⟨A0,c0,rfl,_,_⟩:=HSL.o.form;obtain⟨g,en,hRF⟩:∃g en,Jn l=(g,en):=⟨_,_,rfl⟩;have ii:=Lh (zH l);unfold Ex at HRE;rw[hRF]at HRE HRF ii;simp only at HRE HRF ii;clear hRF;obtain⟨n0,hn0⟩:=Xe l.length;rw[<-hn0]at HRE |-;clear hn0;go_wp2_with fail;refine HRE.o.mono ?_;rintro e w3 ⟨v1,v2,v3,rfl,a1,a2,a3,hb3⟩;obtain⟨A1,A2,A3,c1,c2,c3,rfl,rfl,rfl⟩:=jR.form (B:=w3.heap.size) ⟨a1,a2,a3⟩;have hb4:Below w3.heap.size w3 (w3.alloc (.cells #[.slice A1 g.1.length c1,.slice A2 g.2.1.length c2,.slice A3 g.2.2.length c3] 25)):=(Xr _ _).alloc (Yb _) _;have HS4:=Lh (((hb3.trans (hb4.mono hb3.size)).block S (gl HS2.o)).trans HS2.o);have HB4:=Lh (HB2.o.trans ((hb3.trans (hb4.mono hb3.size)).mono (by have:=(gl HS2.o);rw[<-HSE.o];omega)));have HG4:=Lh (jR.fut (B':=(w3.alloc (.cells #[.slice A1 g.1.length c1,.slice A2 g.2.1.length c2,.slice A3 g.2.2.length c3] 25)).heap.size) ⟨a1,a2,a3⟩ hb4 (Yb _) hb4.size);have HCN:=Lh (jG (.slice A1 g.1.length c1) (.slice A2 g.2.1.length c2) (.slice A3 g.2.2.length c3) g (w3.alloc (.cells #[.slice A1 g.1.length c1,.slice A2 g.2.1.length c2,.slice A3 g.2.2.length c3] 25)) (by have:=ii.o;omega) HG4.o);obtain⟨n,hn⟩:=Xe g.1.length;obtain⟨m,hm⟩:=Xe g.2.1.length;obtain⟨q,hq⟩:=Xe g.2.2.length;rw[<-hn,<-hm,<-hq]at HCN HS4 HB4 |-;clear a1 a2 a3 hb3 hb4 HG4 hn hm hq ii;go_wp2_with fail;refine HCN.o.mono ?_;generalize w3.alloc (.cells #[.slice A1 n c1,.slice A2 m c2,.slice A3 q c3] 25)=w4 at*;rintro e w5 ⟨u1,u2,u3,rfl,Lu,hb5⟩;obtain⟨B1,B2,B3,d1,d2,d3,rfl,rfl,rfl⟩:=(Lu w5 fun _ _ _=>rfl).form;have yF:=Lh ((hb5.block S (gl HS4.o)).trans HS4.o);have HB5:=Lh (HB4.o.trans (hb5.mono (by have:=(gl HS4.o);rw[<-HSE.o];omega)));have HG5:=Lh Lu;clear Lu hb5;generalize (Hu g).1.length=n1 at*;generalize (Hu g).2.1.length=m1 at*;generalize (Hu g).2.2.length=q1 at*;go_wp2_with (refine Zv none rfl ?_);refine Stop.go (Zo rfl 25 rfl rfl rfl (Vp yF.o rfl rfl rfl rfl) ?_);have Ej:=Lh (Zj _ _ _ _ _ _ yF.o:(w5.setRow S [.slice B1 n1 d1,.slice B2 m1 d2,.slice B3 q1 d3].toArray).heap[S]?=_);have Do:=Lh (Zk HB5.o (Yj HSE.o.symm) [.slice B1 n1 d1,.slice B2 m1 d2,.slice B3 q1 d3].toArray);have HGF:=Lh (HG5.o (w5.setRow S [.slice B1 n1 d1,.slice B2 m1 d2,.slice B3 q1 d3].toArray) fun b h1 _=>setRow_other w5 S b _ (fun e=>by have:=(gl HS4.o);omega));generalize w5.setRow S [.slice B1 n1 d1,.slice B2 m1 d2,.slice B3 q1 d3].toArray=wz at*;(conv in Act.put _ _ _=>simp[Act.put]);go_wp2_with fail;refine cg (g:=S) rfl rfl rfl rfl rfl Ej.o ?_;exact jO.of HRF.o HGF.o Do.o
 have g0:((er:Int) != 0)=true:=by simp;omega
 have Jw:=Lh (show Dj s.data.toList=(([],[],[]),zV,er) by
  unfold Dj
  rw[HF.o,if_pos her])
 go_wp2_with (refine Zv none rfl ?_);refine Stop.go (Zo rfl 25 rfl rfl rfl (Vp HS2.o rfl rfl rfl rfl) ?_);have Ej:=Lh (Zj _ _ _ _ _ _ HS2.o:(w2.setRow S [.slice none 0 0,.slice none 0 0,.slice none 0 0].toArray).heap[S]?=_);have Do:=Lh (Zk HB2.o (Yj HSE.o.symm) [.slice none 0 0,.slice none 0 0,.slice none 0 0].toArray);generalize w2.setRow S [.slice none 0 0,.slice none 0 0,.slice none 0 0].toArray=wz at*;(conv in Act.put _ _ _=>simp[Act.put]);go_wp2_with fail;refine cg (g:=S) rfl rfl rfl rfl rfl Ej.o ?_;exact jO.of Jw.o jR.zero Do.o
theorem fg(a b:Value)(xs ys:List ByteArray)(w:World)(ha:Je Mi w w.heap.size a xs)(hb:Je Mi w w.heap.size b ys) :
  Calls Tryz.prog 118 #[a,b] w fun e w'=>e=.returned (.bool (decide (xs=ys)))/\Below w.heap.size w w':=by
 obtain⟨A,c,rfl,Nj,Uw⟩:=ha.form;obtain⟨B,d,rfl,mW,mV⟩:=hb.form;unfold maxLen at Uw mV;by_cases hl:xs.length=ys.length
 .have hne:((xs.length:Int) != (ys.length:Int))=false:=by simp;omega
  go_enter Tryz.func118,Tryz.ntmps118;go_wp2;go_loopw [13] (fun v8 wr=>∃k:Nat,k<=xs.length/\v8=.int .i64 k/\Hid (∀(j:Nat)(h:j<xs.length)(h2:j<ys.length),j<k->xs[j]=ys[j])/\Below w.heap.size w wr) (fun v8 _=>xs.length-(intOf v8).toNat);exact⟨0,by omega,rfl,fun j h h2 hj=>by omega,Xr _ _⟩;obtain⟨k,hk,rfl,hno,hbr⟩:=hrel;by_cases Jl:k<xs.length
  .have jv:k<ys.length:=by omega
   obtain⟨ab,ao,cs,rfl,_,Bg,Ja,Zn⟩:=(ha.below hbr).get Jl (by decide);obtain⟨rfl,Lr⟩:=Ja;have Vn:=Zn 0 _ rfl;obtain⟨bb,bo,cs,rfl,_,ng,Ja,Jr⟩:=(hb.below hbr).get jv (by decide);obtain⟨rfl,sG⟩:=Ja;have hd0:=Jr 0 _ rfl;clear Zn Jr;simp only[show Mi.size=1 from rfl,Ys,Yq]at Vn hd0;by_cases heq:xs[k]=ys[k]
   .have hq:(xs[k].toList==ys[k].toList)=true:=by rw[heq];exact beq_self_eq_true _
    have HQ:=Lh heq;clear heq;go_wp2;refine Text.wt (by kernel_rfl) fun Q' hQ'=>?_;go_wp2;refine⟨by rfl,?_⟩;go_wp2;go_roundw;exact⟨k+1,by omega,by go_num,fun j h h2 hj=>by by_cases e:j=k;(subst e;exact HQ.o);exact hno.o j h h2 (by omega),hbr.drew⟩;simp[intOf];omega
   have hq:(xs[k].toList==ys[k].toList)=false:=by rw[<-beq_toListBytes,Re,Yl];exact fun e=>heq e.symm
   have HQ:=Lh heq;clear heq;go_wp2;refine Text.wt (by kernel_rfl) fun Q' hQ'=>?_;go_wp2;refine⟨by rfl,?_⟩;go_wp2;go_ret;exact⟨Kw (Zw (by rw[eq_comm,Yl];intro h;subst h;exact HQ.o rfl)),hbr.drew⟩
  have HEQ:Hid (xs=ys):=List.ext_getElem hl fun j h h2=>hno.o j h h2 (by omega);go_wp2;go_ret;exact⟨Kw (Zw (by rw[eq_comm,Yk];exact HEQ.o)),hbr⟩
 have hne:((xs.length:Int) != (ys.length:Int))=true:=by simp;omega
 go_enter Tryz.func118,Tryz.ntmps118;go_wp2;go_ret;exact⟨Kw (Zw (by rw[eq_comm,Yl];intro h;subst h;exact hl rfl)),Xr _ _⟩
theorem qrD(a b:Value)(xs ys:List Jj)(w:World)(ha:Je Vw w w.heap.size a xs)(hb:Je Vw w w.heap.size b ys) :
  Calls Tryz.prog 119 #[a,b,.func (.func 120) #[] #[]] w fun e w'=>e=.returned (.bool (decide (xs=ys)))/\Below w.heap.size w w':=by
 obtain⟨A,c,rfl,Nj,Uw⟩:=ha.form;obtain⟨B,d,rfl,mW,mV⟩:=hb.form;unfold maxLen at Uw mV;have HA:=Lh ha;have HB:=Lh hb;clear ha hb;by_cases hl:xs.length=ys.length
 .have hne:((xs.length:Int) != (ys.length:Int))=false:=by simp;omega
  obtain⟨n,hn⟩:=Xe xs.length;rw[<-hl]at HB mW |-;rw[<-hn]at HA HB Nj mW |-;have HN:=Lh hn;have HL:=Lh hl;clear hn hl hne;go_enter Tryz.func119,Tryz.ntmps119;go_wp2_with fail;have HE0:=Lt (∀(j:Nat)(h:j<xs.length)(h2:j<ys.length),j<0->xs[j]=ys[j]) (fun j h h2 hj=>by omega);have HB0:=Lh (Xr w.heap.size w);go_loopw [17] (fun v8 wr=>∃k:Nat,k<=n/\v8=.int .i64 k/\Hid (∀(j:Nat)(h:j<xs.length)(h2:j<ys.length),j<k->xs[j]=ys[j])/\Hid (Below w.heap.size w wr)) (fun v8 _=>n-(intOf v8).toNat);exact⟨0,by omega,rfl,HE0.o,HB0.o⟩;clear HE0 HB0;obtain⟨k,hk,rfl,hno,hbr⟩:=hrel;by_cases Jl:k<n
  .have hlx:k<xs.length:=by rw[<-HN.o];exact Jl
   have hly:k<ys.length:=by rw[<-HL.o];exact hlx
   obtain⟨ab,ao,cs,rfl,_,Bg,Ja,Zn⟩:=(HA.o.below hbr.o).get hlx (by decide);obtain⟨u1,rfl,hu1,Ik,Si⟩:=Kn Ja;obtain⟨bb,bo,cs,rfl,_,ng,Mv,Jr⟩:=(HB.o.below hbr.o).get hly (by decide);obtain⟨u2,rfl,sH,hz3,hz4⟩:=Kn Mv;obtain⟨A1,e1,rfl,ew,sL⟩:=hu1.form;obtain⟨A2,e2,rfl,he3,he4⟩:=sH.form;have a0:=Zn 0 _ rfl;have a1:=Zn 1 _ rfl;have b0:=Jr 0 _ rfl;have b1:=Jr 1 _ rfl;simp only[show Vw.size=2 from rfl,Yq,<-Yy]at a0 a1 b0 b1;clear Zn Jr Ja Mv;have kA:=Lh hu1;have fF:=Lh sH;have Po:=Lh (show ∀(j:Nat)(h:j<xs.length)(h2:j<ys.length),xs[k]=ys[k]->j<k+1->xs[j]=ys[j]from fun j h h2 e hj=>by
    by_cases e2:j=k
    .subst e2;exact e
    exact hno.o j h h2 (by omega))
   have HNE:=Lt (xs[k]≠ys[k]->xs≠ys) (fun h e=>h (by subst e;rfl));clear hu1 sH;generalize xs[k]=x at*;generalize ys[k]=y at*;clear hlx hly;obtain⟨x1,x2⟩:=x;obtain⟨y1,y2⟩:=y;simp only at a0 a1 b0 b1 kA fF ew he3;generalize x2.length=n1 at*;generalize y2.length=n2 at*;have Jd:Below wr.heap.size wr ((wr.alloc (.cells #[.int .i64 x1,.slice A1 n1 e1] 63)).alloc (.cells #[.int .i64 y1,.slice A2 n2 e2] 63)):=((Xr _ _).alloc (Yb _) _).alloc (by rw[Xs];omega) _;have HB2:=Lh (hbr.o.trans (Jd.mono hbr.o.size));have HLK:=Lh (rt (.slice A1 n1 e1) (.slice A2 n2 e2) x1 y1 x2 y2 ((wr.alloc (.cells #[.int .i64 x1,.slice A1 n1 e1] 63)).alloc (.cells #[.int .i64 y1,.slice A2 n2 e2] 63)) (kA.o.fut Jd hbr.o.size (Yd hbr.o.size Jd.size)) (fF.o.fut Jd hbr.o.size (Yd hbr.o.size Jd.size)));clear Jd;have hab':ab<wr.heap.size:=Ye Bg hbr.o.size;have hbb':bb<wr.heap.size:=Ye ng hbr.o.size;go_wp2_with fail;clear a0 a1 b0 b1;generalize (wr.alloc (.cells #[.int .i64 x1,.slice A1 n1 e1] 63)).alloc (.cells #[.int .i64 y1,.slice A2 n2 e2] 63)=w2 at*;refine HLK.o.mono ?_;rintro e w3 ⟨rfl,hb3⟩;have HB3:=Lh (HB2.o.trans (hb3.mono HB2.o.size));by_cases heq:((x1,x2):Jj)=(y1,y2)
   .rw[Yw heq];have HNX:=Lh (fun(j:Nat)(h:j<xs.length)(h2:j<ys.length)(hj:j<k+1)=>Po.o j h h2 heq hj);clear heq hb3;go_wp2;go_roundw;exact⟨k+1,by omega,by go_num,HNX.o,HB3.o⟩;simp[intOf];omega
   rw[Yx heq];have HNX:=Lh (HNE.o heq);clear heq hb3;go_wp2;go_ret;exact⟨Kw (Zw (Yx HNX.o).symm),HB3.o⟩
  obtain rfl:k=n:=by omega
  have HEQ:=Lt (xs=ys) (List.ext_getElem HL.o fun j h h2=>hno.o j h h2 (by rw[HN.o];exact h));go_wp2;go_ret;exact⟨Kw (Zw (Yw HEQ.o).symm),hbr.o⟩
 have hne:((xs.length:Int) != (ys.length:Int))=true:=by simp;omega
 have HNE:=Lt (¬ xs=ys) (fun e=>hl (by rw[e]));go_enter Tryz.func119,Tryz.ntmps119;go_wp2;go_ret;exact⟨Kw (Zw (Yx HNE.o).symm),Xr _ _⟩
theorem qyA{h:Kd}(h1:g.1=h.1)(h2:g.2.1=h.2.1):decide (g=h)=decide (g.2.2=h.2.2):=by
 rw[decide_eq_decide];constructor
 .intro e;rw[e]
 intro e;obtain⟨a,b,c⟩:=g;obtain⟨a',b',c'⟩:=h;simp only at h1 h2 e;rw[h1,h2,e]
theorem lO(v1 v2 v3 u1 u2 u3:Value)(g h:Kd)(w:World)(hg:jR w w.heap.size v1 v2 v3 g)(hh:jR w w.heap.size u1 u2 u3 h) :
  Calls Tryz.prog 62 #[.agg #[v1,v2,v3],.agg #[u1,u2,u3]] w fun e w'=>e=.returned (.bool (decide (g=h)))/\Below w.heap.size w w':=by
 obtain⟨A1,A2,A3,c1,c2,c3,rfl,rfl,rfl⟩:=hg.form;obtain⟨B1,B2,B3,d1,d2,d3,rfl,rfl,rfl⟩:=hh.form;obtain⟨S,hS⟩:=Xe w.heap.size;have HE1:=Lh (fun(W:World)(hb:Below w.heap.size w W)=>fg _ _ g.1 h.1 W (hg.names.fut hb (Yb _) hb.size) (hh.names.fut hb (Yb _) hb.size));have HE2:=Lh (fun(W:World)(hb:Below w.heap.size w W)=>fg _ _ g.2.1 h.2.1 W (hg.terms.fut hb (Yb _) hb.size) (hh.terms.fut hb (Yb _) hb.size));have HE3:=Lh (fun(W:World)(hb:Below w.heap.size w W)=>qrD _ _ g.2.2 h.2.2 W (hg.rules.fut hb (Yb _) hb.size) (hh.rules.fut hb (Yb _) hb.size));have zzJ:=Lt (g.1≠h.1->decide (g=h)=false) (fun e=>Yx fun e2=>e (by rw[e2]));have zzI:=Lt (g.2.1≠h.2.1->decide (g=h)=false) (fun e=>Yx fun e2=>e (by rw[e2]));have HEQ:=Lh (fun(a:g.1=h.1)(b:g.2.1=h.2.1)=>qyA a b);clear hg hh;generalize g.1.length=n at*;generalize g.2.1.length=m at*;generalize g.2.2.length=q at*;generalize h.1.length=n' at*;generalize h.2.1.length=m' at*;generalize h.2.2.length=q' at*;have HB1:=Lt (Below w.heap.size w ((w.alloc (.cells #[.slice A1 n c1,.slice A2 m c2,.slice A3 q c3] 25)).alloc (.cells #[.slice B1 n' d1,.slice B2 m' d2,.slice B3 q' d3] 25))) (((Xr _ _).alloc (Yb _) _).alloc (by rw[Xs];omega) _);have HG1:=Lh (Go.heap_alloc2_old w (.cells #[.slice A1 n c1,.slice A2 m c2,.slice A3 q c3] 25) (.cells #[.slice B1 n' d1,.slice B2 m' d2,.slice B3 q' d3] 25));have HH1:=Lh (Go.heap_alloc2_new w (.cells #[.slice A1 n c1,.slice A2 m c2,.slice A3 q c3] 25) (.cells #[.slice B1 n' d1,.slice B2 m' d2,.slice B3 q' d3] 25));rw[<-hS]at HG1 HH1;by_cases e1:g.1=h.1
 .by_cases e2:g.2.1=h.2.1
  .have HR:=Lh (HEQ.o e1 e2);simp only[Yw e1]at HE1;simp only[Yw e2]at HE2;clear e1 e2;go_enter Tryz.func62,Tryz.ntmps62;go_wp2_with fail;rw[<-hS];clear hS;generalize (w.alloc (.cells #[.slice A1 n c1,.slice A2 m c2,.slice A3 q c3] 25)).alloc (.cells #[.slice B1 n' d1,.slice B2 m' d2,.slice B3 q' d3] 25)=w1 at*;refine (HE1.o w1 HB1.o).mono ?_;rintro e w2 ⟨rfl,Jd⟩;have HB2:=Lh (HB1.o.trans (Jd.mono HB1.o.size));have HG2:=Lh ((Jd.block S (gl HG1.o)).trans HG1.o);have HH2:=Lh ((Jd.block (S+1) (gl HH1.o)).trans HH1.o);obtain⟨a0,a1,a2⟩:=Zq HG2.o;obtain⟨b0,b1,b2⟩:=Zq HH2.o;go_wp2_with fail;refine (HE2.o w2 HB2.o).mono ?_;rintro e w3 ⟨rfl,hb3⟩;have HB3:=Lh (HB2.o.trans (hb3.mono HB2.o.size));have qY:=Lh ((hb3.block S (gl HG2.o)).trans HG2.o);have HH3:=Lh ((hb3.block (S+1) (gl HH2.o)).trans HH2.o);obtain⟨a0,a1,a2⟩:=Zq qY.o;obtain⟨b0,b1,b2⟩:=Zq HH3.o;go_wp2_with fail;refine (HE3.o w3 HB3.o).mono ?_;rintro e w4 ⟨rfl,hb4⟩;have HB4:=Lh (HB3.o.trans (hb4.mono HB3.o.size));go_wp2;go_ret;exact⟨Kw (Zw HR.o.symm),HB4.o⟩
  have HR:=Lh (zzI.o e2);simp only[Yw e1]at HE1;simp only[Yx e2]at HE2;clear e1 e2;go_enter Tryz.func62,Tryz.ntmps62;go_wp2_with fail;rw[<-hS];clear hS;generalize (w.alloc (.cells #[.slice A1 n c1,.slice A2 m c2,.slice A3 q c3] 25)).alloc (.cells #[.slice B1 n' d1,.slice B2 m' d2,.slice B3 q' d3] 25)=w1 at*;refine (HE1.o w1 HB1.o).mono ?_;rintro e w2 ⟨rfl,Jd⟩;have HB2:=Lh (HB1.o.trans (Jd.mono HB1.o.size));have HG2:=Lh ((Jd.block S (gl HG1.o)).trans HG1.o);have HH2:=Lh ((Jd.block (S+1) (gl HH1.o)).trans HH1.o);obtain⟨a0,a1,a2⟩:=Zq HG2.o;obtain⟨b0,b1,b2⟩:=Zq HH2.o;go_wp2_with fail;refine (HE2.o w2 HB2.o).mono ?_;rintro e w3 ⟨rfl,hb3⟩;have HB3:=Lh (HB2.o.trans (hb3.mono HB2.o.size));have qY:=Lh ((hb3.block S (gl HG2.o)).trans HG2.o);have HH3:=Lh ((hb3.block (S+1) (gl HH2.o)).trans HH2.o);obtain⟨a0,a1,a2⟩:=Zq qY.o;obtain⟨b0,b1,b2⟩:=Zq HH3.o;go_wp2;go_ret;exact⟨Kw (Zw HR.o.symm),HB3.o⟩
 have HR:=Lh (zzJ.o e1);simp only[Yx e1]at HE1;clear e1;go_enter Tryz.func62,Tryz.ntmps62;go_wp2_with fail;rw[<-hS];clear hS;generalize (w.alloc (.cells #[.slice A1 n c1,.slice A2 m c2,.slice A3 q c3] 25)).alloc (.cells #[.slice B1 n' d1,.slice B2 m' d2,.slice B3 q' d3] 25)=w1 at*;refine (HE1.o w1 HB1.o).mono ?_;rintro e w2 ⟨rfl,Jd⟩;have HB2:=Lh (HB1.o.trans (Jd.mono HB1.o.size));have HG2:=Lh ((Jd.block S (gl HG1.o)).trans HG1.o);have HH2:=Lh ((Jd.block (S+1) (gl HH1.o)).trans HH1.o);obtain⟨a0,a1,a2⟩:=Zq HG2.o;obtain⟨b0,b1,b2⟩:=Zq HH2.o;go_wp2;go_ret;exact⟨Kw (Zw HR.o.symm),HB2.o⟩
theorem n_(F:FuncId)(cap:Array Value)(p:Int×List (Int×Int)->Bool)(v:Value)(xs:List (Int×List (Int×Int)))(w:World)(hv:Je Ju w w.heap.size v xs)
  (hF:∀(args:Array Value)(w:World),(callFunc F args).run Tryz.prog w=.ok (.enter F args) w)
  (hp:∀(cs:List Value)(x:Int×List (Int×Int))(w1:World),x∈xs->Below w.heap.size w w1->(Ju).rep w1 w.heap.size cs x->Calls Tryz.prog F (#[.agg cs.toArray]++cap) w1 fun e w2=>e=.returned (.bool (p x))/\Below w1.heap.size w1 w2) :
  Calls Tryz.prog 168 #[v,.func (.func F) #[] cap] w fun e w'=>e=.returned (.int .i64 (idxOf p xs))/\Below w.heap.size w w':=by
 have HP:=Lh hp;clear hp;obtain⟨A,c,rfl,Nj,Uw⟩:=hv.form;unfold maxLen at Uw;go_enter Tryz.func168,Tryz.ntmps168;go_wp2_with fail;go_loopw [8] (fun v8 wr=>∃k:Nat,k<=xs.length/\v8=.int .i64 k/\Hid (∀(j:Nat)(h:j<xs.length),j<k->p xs[j]=false)/\Below w.heap.size w wr) (fun v8 _=>xs.length-(intOf v8).toNat);exact⟨0,by omega,rfl,fun j h hj=>by omega,Xr _ _⟩;obtain⟨k,hk,rfl,hno,hbr⟩:=hrel;by_cases Jl:k<xs.length
 .obtain⟨ab,ao,cs,rfl,_,Bg,Ja,Zn⟩:=(hv.below hbr).get Jl (by decide);obtain⟨u0,u1,rfl⟩:∃u0 u1,cs=[u0,u1]:=by
   match cs,(Ju).len Ja with
   |[u0,u1],_=>exact⟨u0,u1,rfl⟩
  have Vn:=Zn 0 _ rfl;have iX:=Zn 1 _ rfl;have Ja:=Lh Ja;clear Zn;simp only[show (Ju).size=2 from rfl,Yq,<-Yy]at Vn iX;rcases Yo (p xs[k])with ej|ej
  .have HB:=Lh ej;have Mc:=Lh (By Jl hno.o ej);clear ej;go_wp2_with fail;refine (HP.o [u0,u1] xs[k] wr (Qg Jl) hbr Ja.o).mono ?_;rintro e w1 ⟨rfl,hb1⟩;rw[HB.o];go_wp2;go_ret;exact⟨Kw (Gn Mc.o.symm),hbr.trans (hb1.mono hbr.size)⟩
  have HB:=Lh ej;clear ej;go_wp2_with fail;refine (HP.o [u0,u1] xs[k] wr (Qg Jl) hbr Ja.o).mono ?_;rintro e w1 ⟨rfl,hb1⟩;rw[HB.o];go_wp2;go_roundw;exact⟨k+1,by omega,by go_num,fun j h hj=>by by_cases e:j=k;(subst e;exact HB.o);exact hno.o j h (by omega),hbr.trans (hb1.mono hbr.size)⟩;simp[intOf];omega
 have Mc:=Lh (Cq fun j h=>hno.o j h (by omega));go_wp2;go_ret;exact⟨Kw (Gn Mc.o.symm),hbr⟩
theorem qaX(F:FuncId)(cap:Array Value)(p:Int×List (Int×Int)->Bool)(v:Value)(xs:List (Int×List (Int×Int)))(w:World)(hv:Je Ju w w.heap.size v xs)
  (hF:∀(args:Array Value)(w:World),(callFunc F args).run Tryz.prog w=.ok (.enter F args) w)
  (hp:∀(cs:List Value)(x:Int×List (Int×Int))(w1:World),x∈xs->Below w.heap.size w w1->(Ju).rep w1 w.heap.size cs x->Calls Tryz.prog F (#[.agg cs.toArray]++cap) w1 fun e w2=>e=.returned (.bool (p x))/\Below w1.heap.size w1 w2) :
  Calls Tryz.prog 105 #[v,.func (.func F) #[] cap] w fun e w'=>e=.returned (.bool (xs.any p))/\Below w.heap.size w w':=by
 have HC:=Lh (n_ F cap p v xs w hv hF hp);clear hp;rcases oD p xs with ⟨h1,h2⟩|⟨h1,h2⟩
 all_goals
  have H2:=Lh h2;clear h2;go_enter Tryz.func105,Tryz.ntmps105;go_wp2_with fail;refine HC.o.mono ?_;rintro e w1 ⟨rfl,hb1⟩;go_wp2;go_ret;exact⟨Kw (Zw (by first|exact H2.o.symm|(rw[H2.o];simp;done)|(rw[H2.o];simp;omega))),hb1⟩
structure lw(g:Kd)(k:Nat):Prop where
 b:Ut g=true
 k1:1<=k
 k4:k<=4
 few:g.2.1.length<=3
 made:∀a,0<=a->a<(g.1.length:Int)->xW g.2.2 a/\qbO g.2.2 a
theorem sF{k:Int}(h:¬ Ip k g)(hm:g.2.1.length<=3):∃kk:Nat,k=(kk:Int)/\lw g kk:=by
 unfold Ip at h;have h1:¬ k<1:=fun e=>h (.inl e);have h2:¬ 4<k:=fun e=>h (.inr (.inl e));have h3:Kf g=0:=by
  rcases Decidable.em (Kf g=0)with e|e
  .exact e
  exact absurd (.inr (.inr e)) h
 have hb:Ut g=true:=by
  unfold Kf at h3;split at h3
  .assumption
  cases h3
 have hw:wellE g.1.length g.2.1.length g.2.2=0:=by
  unfold Kf at h3
  rwa [if_pos hb]at h3
 exact⟨k.toNat,by omega,hb,by omega,by omega,hm,qmI (Ud hb).well hw⟩
section
variable {g:Kd} {k:Nat} (h:lw g k)
include h
theorem lw.well:Sb g.2.2 g.1.length:=(Ud h.b).well
theorem lw.wellT:xp g.2.2 g.2.1.length:=fun a r hr s hs=>(((Ud h.b).fit (a,r) hr).2.2.2 s hs).2
theorem lw.fewR:zhF g.2.2:=fun a r hr s hs=>by
 have:=h.wellT a r hr s hs;have:=h.few;omega
theorem lw.n0:0<g.1.length:=(Ud h.b).n1
theorem lw.sets{o:Option Jb}(ho:Og k g o):∃s,o=some s/\xX g.2.2 g.1.length k s:=by
 have y_:(k:Int)<=4:=by have:=h.k4;omega
 obtain⟨o1,h1,h2⟩:=ho;obtain⟨s,rfl,Gc,eR⟩:=h1.few y_ h.well h.fewR;obtain⟨o2,h3,h4⟩:=h2;obtain⟨f,rfl,hf1,hf2⟩:=h3.few y_ h.well h.fewR Gc eR;obtain⟨out,Ls⟩:=xR y_ Gc hf1 g.2.2 (fun r hr=>by
  have hw:=h.well r.1 r.2 hr
  exact⟨⟨hw.1,by rw[hf2];exact hw.2.1⟩,fun x hx=>⟨h.fewR r.1 r.2 hr x hx,by rw[eR];exact hw.2.2 x hx⟩⟩)
 exact⟨out,h4.trans Ls,zjE h.n0 h.well h1 h3 Ls⟩
end
noncomputable def ahD(rs:Zz)(k:Nat)(w:Wd)(i:Nat):Bool:=@decide (∃r,rs[i]?=some r/\mq rs k r w) (Classical.propDecidable _)
theorem li(rs:Zz)(k:Nat)(w:Wd):zpE rs k (ahD rs k) w:=fun i r hr=>by
 unfold ahD;rw[@decide_eq_true_iff _ (Classical.propDecidable _)];constructor
 .rintro⟨r',zS,h⟩;rw[hr]at zS;injection zS with e;subst e;exact h
 exact fun h=>⟨r,hr,h⟩
theorem tu(h:Ut g=true):∀r∈g.2.2,0<=r.1/\r.1<(g.1.length:Int)/\∀s∈r.2,s<(g.1.length:Int)/\-256<=s:=fun r hr=>by
 obtain⟨f1,f2,f3,f4⟩:=(Ud h).fit r hr;have:=(Ud h).nm;exact⟨f1,f2,fun s hs=>⟨(f4 s hs).1,by have:=(f4 s hs).2;omega⟩⟩
def jaY{α:Type}(E:gX α)(w:World)(B:Nat):List (List Value)->List α->Prop
 |[],[]=>True
 |c::cs,x::xs=>E.rep w B c x/\jaY E w B cs xs
 |_,_=>False
def gA:Kd:=([⟨#[83]⟩],[⟨#[97]⟩],[(0,[]),(0,[-1,0])])
def gAr:Zz:=[(0,[]),(0,[-1,0])]
theorem s1:Mk [([]:Wd)]=[[]]:=Rp (by simp[sA]) (by simp)
theorem s2:Mk [([0]:Wd)]=[[0]]:=Rp (by simp[sA]) (by simp)
theorem s3:Mk [([]:Wd),[0]]=[[],[0]]:=Rp (by simp[sA]) (by simp)
theorem s4:Mk [([]:Wd),[0],[]]=[[],[0]]:=Rp (by simp[sA]) (by
 intro x
 simp only[List.mem_cons,List.not_mem_nil,or_false]
 constructor
 .rintro (h|h|h) <;> simp[h]
 rintro (h|h) <;> simp[h])
theorem s5:Mk [([]:Wd),[0],[0]]=[[],[0]]:=Rp (by simp[sA]) (by simp)
theorem s6:Mk [([0]:Wd),[0]]=[[0]]:=Rp (by simp[sA]) (by simp)
theorem s7:Mk [([]:Wd),[]]=[[]]:=Rp (by simp[sA]) (by simp)
theorem qjE:Mx 1 gAr [[]]=some ([[[],[0]]],true):=by
 simp[Mx,Gu,Fk,nS,Nq,Sj,Ep,Ai,Kv,tb,gAr,s1,s2,s3]
theorem qjD:Mx 1 gAr [[[],[0]]]=some ([[[],[0]]],false):=by
 simp[Mx,Gu,Fk,nS,Nq,Sj,Ep,Ai,Kv,tb,gAr,s2,s4,s5,s6]
theorem qqV:Gl 1 gAr 1 (some [[[],[0]]]):=.more qjE (.done qjD)
theorem qyC:Rx [[[],[0]]] 1 gAr [[[]]]=some ([[[]]],false):=by
 simp[Rx,Wi,Wa,Vx,Kk,nS,Nq,Sj,Ep,Ai,Kv,gAr,s1,s3,s7]
theorem zfA:Ek [[[],[0]]] 1 gAr 1 (some [[[]]]):=.done qyC
theorem qqY:My [[[],[0]]] [[[]]] 1 gAr=some [[[]],[[0]]]:=by
 simp[My,Kk,nS,Nq,Sj,Ep,Ai,tb,gAr,s1,s2,s6]
theorem qqW:Nh gAr 1 [[[]],[[0]]]=[]:=by kernel_rfl
theorem qyB:Vl 0 gAr [[[]],[[0]]]=[(0,[],0),(0,[0],1)]:=by kernel_rfl
def Bj:gX Uk:=Cx Wg (Cx eW Wg)
abbrev Ty(x:Uk):List Value:=[.int .i64 x.1,wv x.2.1,.int .i64 x.2.2]
abbrev qwA(x:Uk):Value:=.agg #[.int .i64 x.1,wv x.2.1,.int .i64 x.2.2]
theorem oP(h:Bj.rep w B cs x):cs=Ty x/\(-9223372036854775808<=x.1/\x.1<=9223372036854775807)/\x.2.1.length<=maxLen/\(-9223372036854775808<=x.2.2/\x.2.2<=9223372036854775807):=by
 obtain⟨c1,c2,rfl,⟨rfl,h1,h2⟩,c3,c4,rfl,h3,⟨rfl,h5,h6⟩⟩:=h;obtain⟨rfl,h4⟩:=sO h3;exact⟨rfl,⟨h1,h2⟩,h4,h5,h6⟩
theorem qyE(h1:-9223372036854775808<=x.1)(h2:x.1<=9223372036854775807)(h3:x.2.1.length<=maxLen)(h4:-9223372036854775808<=x.2.2)(h5:x.2.2<=9223372036854775807):Bj.rep w B (Ty x) x :=
 ⟨_,_,rfl,⟨rfl,h1,h2⟩,_,_,rfl,zbO h3,⟨rfl,h4,h5⟩⟩
theorem Je.rowAt{A:Option Addr}{c:Nat}{xs:List Uk}(h:Je Bj w B (.slice A n c) xs)(hk:k<xs.length):∃b off,A=some ⟨b,off,none⟩/\n<=c/\b<B /\
  w.cell? ⟨b,off+k*3,none⟩=some (.int .i64 xs[k].1)/\w.cell? ⟨b,off+k*3+1,none⟩=some (wv xs[k].2.1)/\w.cell? ⟨b,off+k*3+2,none⟩=some (.int .i64 xs[k].2.2)/\Bj.rep w B (Ty xs[k]) xs[k]:=by
 obtain⟨b,off,cs,e,h1,h2,h3,h4⟩:=h.get hk (by decide);have hr:=h3;obtain⟨rfl,_⟩:=oP h3;have a0:=h4 0 _ rfl;have a1:=h4 1 _ rfl;have a2:=h4 2 _ rfl;simp only[show Bj.size=3 from rfl,Yq,<-Yy]at a0 a1 a2;exact⟨b,off,e,h1,h2,a0,a1,a2,hr⟩
def iO(x y:Uk):Int:=if x.1=y.1 then Lib.compareBytes x.2.1 y.2.1 else Lib.compareInt x.1 y.1
theorem jE:∀a b:Wd,Lib.compareBytes a b<0↔a<b
 |[],[]=>by simp[Lib.compareBytes]
 |[],b::lb=>by simp[Lib.compareBytes]
 |a::la,[]=>by simp[Lib.compareBytes]
 |a::la,b::lb=>by
  rw[List.cons_lt_cons_iff];unfold Lib.compareBytes;by_cases h:a<b
  .simp[h]
  rw[if_neg h];by_cases h2:b<a
  .rw[if_pos h2];have hne:a≠b:=fun e=>by subst e;exact h h2
   simp[h,hne]
  rw[if_neg h2];have e:a=b:=UInt8.le_antisymm (UInt8.not_lt.1 h2) (UInt8.not_lt.1 h);subst e;rw[jE la lb];simp[UInt8.lt_irrefl]
theorem qcX(x y:Uk):iO x y<0↔Mq x y:=by
 unfold iO Mq;split
 .rename_i h;rw[jE];constructor
  .exact fun h2=>.inr ⟨h,h2⟩
  rintro (h2|⟨_,h2⟩)
  .omega
  exact h2
 rename_i h;unfold Lib.compareInt;split
 .rename_i h1;simp[h1]
 rename_i h1;split <;> omega
theorem da(x y:Uk)(w:World):Calls Tryz.prog 42 #[qwA x,qwA y] w fun e w'=>e=.returned (.int .i64 (iO x y))/\Below w.heap.size w w'/\w.drawn<=w'.drawn:=by
 obtain⟨a,s,i⟩:=x;obtain⟨b,t,j⟩:=y;by_cases h:a=b
 .have hq:(a==b)=true:=by simp[h]
  have HO:=Lh (show iO (a,s,i) (b,t,j)=Lib.compareBytes s t by unfold iO;rw[if_pos h]);clear h;go_enter Tryz.func42,Tryz.ntmps42;go_wp2_with fail;refine (Tryz.strings_Compare ⟨s.toArray⟩ ⟨t.toArray⟩ _).mono ?_;rintro e w1 ⟨rfl,rfl⟩;go_wp2;go_ret;exact⟨Kw (Gn HO.o.symm),by go_grown,Yb _⟩
 have hq:(a==b)=false:=by simp[h]
 have HO:=Lh (show iO (a,s,i) (b,t,j)=Lib.compareInt a b by unfold iO;rw[if_neg h]);clear h;go_enter Tryz.func42,Tryz.ntmps42;go_wp2_with fail;refine (Tryz.cmp_Compare_int a b _).mono ?_;rintro e w1 ⟨rfl,rfl⟩;go_wp2;go_ret;exact⟨Kw (Gn HO.o.symm),by go_grown,Yb _⟩
end Go.Proofs.YtmaojnmnbpomeaaGreatDoor
