/- A part. -/
import Derived.Test.YtmaojnmnbpomeaaGreatDoorVM16
import Derived.Test.YtmaojnmnbpomeaaGreatDoorCards
import Derived.Test.YtmaojnmnbpomeaaGreatDoorTie
import Derived.Deep.DeepHandedRow
import Derived.Stop.LaidErr
set_option maxRecDepth 100000
set_option maxHeartbeats 64000000
namespace Go.Proofs.YtmaojnmnbpomeaaGreatDoor
open Go.RowKit
theorem vv:Dc Tryz.prog 44 100 2 40 (.agg #[.string ⟨#[]⟩,.slice none 0 0]):=Gq (by kernel_rfl) (by kernel_rfl) rfl (by omega)
theorem Se.snoc{tL tA tI:TypeId}{w w1:World}{N:Nat}{vL vL':Value}{done:List Ke}{css:List (List Value)}{nm:ByteArray}{vA:Value}{alts:List (List Vw)}(h:Se tL tA tI w N vL done css)(hLA:tL≠tA)(hLI:tL≠tI)(ho:w1.ownsRow N tL 2 vL' (done.length+1) (css.flatten++[.string nm,vA]))(hg:w.grownBy w1 vL.ownBlock)
  (hs:nm.size<=maxLen) (ha:Tn (wZ tI) tA w w.heap.size vA alts):Se tL tA tI w1 N vL' (done++[(nm,alts)]) (css++[[.string nm,vA]]):=by
 have hk:Jg [tA,tI] w w1:=Jg.of_grown h.lines hg (by simp[hLA,hLI]);refine⟨?_,?_,Yb h.nB hg.size⟩
 ·rw[Qe,Qf,Qs];simpa using ho
 ·refine Vj.snoc ((h.dn.keep (.of_keepT hk)).more hg.size) ⟨[.string nm],[vA],rfl,⟨rfl,hs⟩,vA,rfl,(ha.keep (.of_keepT hk)).more hg.size⟩
theorem U_(s:ByteArray)(w:World)(hs:s.size<=maxLen):Calls Tryz.prog 18 #[.string s] w (Mm s.data.toList w):=by
 have Ab:=hs;unfold maxLen at hs;have Nh:=Lh (show s.data.toList.length=s.size by simp);have pY:=Lh (vw s.data.toList);have HLX:=Lh (qgT s w Ab);obtain⟨toks,xS,er,hF⟩:∃ toks xS er,Rv s.data.toList=(toks,xS,er):=⟨_,_,_,rfl⟩;have HF:=Lh hF;rw[hF] at pY;unfold Ih at HLX;rw[hF] at HLX;simp only at pY HLX;clear hF;by_cases her:er=0
 ·subst her;have Cq:=Lh (show Ms s.data.toList=gD toks s.size by
   unfold Ms
   rw[HF.o,if_neg (by simp),Nh.o])
  go_enter Tryz.func18,Tryz.ntmps18;go_wp2_with fail;refine HLX.o.mono ?_;rintro e w1 ⟨vT,rfl,hown,hb1⟩;obtain⟨AT,cT,rfl,hT1,hT2⟩:=Zo hown;unfold maxLen at hT2;have HOWN:=Lh hown;have HB1:=Lh hb1;have HTK:=Lh (show ∀(j:Nat)(hj:j<toks.length),∃ bT oT,AT=some ⟨bT,oT,none⟩/\∀ W:World,Below w1.heap.size w1 W->W.cell? ⟨bT,oT+j*3+2,none⟩=some (.int .i64 toks[j].2.2) from fun j hj=>by
   obtain⟨bT,oT,hAT,hbT,hcT⟩:=Rd.of_own hown (fun e=>by have:=rM toks;rw[e,Xt] at this;omega)
   exact⟨bT,oT,hAT,fun W hb=>(hb.cell (p:=⟨bT,oT+j*3+2,none⟩) hbT).trans (hcT (j*3+2) _ (fR hj).2.2)⟩)
  clear hown hb1;obtain⟨n,hn⟩:=Xe toks.length;have HRL:=Lh (fun(W:World)(i:Nat)(hb:Below w1.heap.size w1 W)(hi:i<n)=>tz (.slice AT toks.length cT) toks i w.heap.size W (Zy HOWN.o hb) (hn ▸ hi) pY.o.1 pY.o.2);rw[<-hn] at hT1 HRL |-;have HN:=Lh hn;clear hn;have hn6:n<=65536:=by have:=pY.o.1;rw[HN.o];exact this
  have HR0:=Lh (Cg.start toks);have HM0:=Lt (Se 100 105 107 w1 w1.heap.size (.slice none 0 0) [] []) (⟨Yz _ _ _ _,Vj.nil _ _ _,Ya _⟩);have HBW:=Lh (Xr w1.heap.size w1);go_wp2_with fail;go_loopw [8,9] (fun v8 v9 wr=>∃(k:Nat)(done:List Ke)(css:List (List Value)),k<=n/\v9=.int .i64 k/\done.length<=k/\Hid (Cg toks k done)/\Hid (Se 100 105 107 wr w1.heap.size v8 done css)/\Hid (Below w1.heap.size w1 wr)) (fun _ v9 _=>n - (intOf v9).toNat);exact⟨0,[],[],by omega,rfl,Ya _,HR0.o,HM0.o,HBW.o⟩;clear HR0 HM0 HBW;obtain⟨k,done,css,hk,rfl,hdk,HR,HM,HB⟩:=hrel;obtain⟨AL,cL,rfl,hL1,hL2⟩:=Zo HM.o.lines;unfold maxLen at hL2;by_cases Ji:k<n
  ·have HC:=Lh (HRL.o wr k HB.o Ji);go_wp2_with fail;refine HC.o.mono ?_;rintro e w2 hto;rcases hto with ⟨nx,nm,A3,n3,c3,hx,rfl,Ja⟩ | ⟨nx,nm,vA,alts,hy,rfl,hs4,hsu,Ja⟩
   ·have Ju:=Lh (HR.o.bad hx s.size);have hnx:=hx.le;rw[<-HN.o] at hnx;have HB2:=Lh (HB.o.trans (Ja.mono HB.o.size));have HB3:=Lh (HB2.o.alloc HB2.o.size (.cells #[.string nm,.slice A3 n3 c3] 100));have sr:=Lh (HB1.o.trans (HB3.o.mono HB1.o.size));clear Ja hx;by_cases yf:nx<n
    ·have Ly:nx<toks.length:=by rw[<-HN.o];exact yf
     obtain⟨bT,oT,hAT,Zm⟩:=HTK.o nx Ly;subst hAT;have c2:=Zm _ HB3.o;have Dl:=Lh (Cq.o.trans (Ju.o.trans (dif_pos Ly)));clear Zm;generalize toks[nx].2.2=ti at *;clear Ly;go_wp2_with fail;refine Text.wt (by kernel_rfl) fun Q' hQ'=>?_;go_wp2_with fail;refine⟨by rfl,?_⟩;go_wp2_with fail;refine Zg (Zh rfl _ _ _) rfl ?_;exact Mm.of Dl.o Je.nil_ sr.o.drew
    ·have Dl:=Lh (Cq.o.trans (Ju.o.trans (dif_neg (by rw[<-HN.o];exact yf))));have g0:decide ((nx:Int)<(n:Int))=false:=by simp;omega
     have g0':decide (nx<n)=false:=by simp;omega
     go_wp2_with fail;refine Zg (Zh rfl _ _ _) rfl ?_;exact Mm.of Dl.o Je.nil_ sr.o
   ·obtain⟨css4,ho4,_,_⟩:=id hsu;obtain⟨A4,c4,rfl,pk,h42⟩:=Zo ho4;have HRN:=Lh (HR.o.more hy);have hle:=hy.le;have hkx:=hy.lt;rw[<-HN.o] at hle;have HB2:=Lh (HB.o.trans (Ja.mono HB.o.size));have HM2:=Lh (HM.o.below Ja);have hb4:Below w2.heap.size w2 ((w2.alloc (.cells #[.string nm,.slice A4 alts.length c4] 100)).alloc (.cells #[.string nm,.slice A4 alts.length c4] 100)):=((Xr _ _).alloc (Ya _) _).alloc (by rw[Xs];omega) _;have Lc:=Lh (HM2.o.below hb4);have zsB:=Lh ((hsu.keep (.of_below hb4)).more hb4.size);have HB4:=Lh (HB2.o.trans (hb4.mono HB2.o.size));have HN4:=Lh (Xn (w2.alloc (.cells #[.string nm,.slice A4 alts.length c4] 100)) (.cells #[.string nm,.slice A4 alts.length c4] 100));rw[Xs] at HN4;have HS4:=Lh (show ((w2.alloc (.cells #[.string nm,.slice A4 alts.length c4] 100)).alloc (.cells #[.string nm,.slice A4 alts.length c4] 100)).heap.size=w2.heap.size+2 by rw[Xs,Xs]);have HW2:=Lt (w1.heap.size<=w2.heap.size) (HB2.o.size);have HS:=Lh hs4;clear Ja hb4 hy hsu ho4 hs4;go_wp2_with (at_builtin;refine Zz (m:=1) vv rfl rfl rfl rfl Lc.o.lines (Rd.row (B:=w2.heap.size+2) HN4.o (by omega)) rfl (by simp[Value.oneCell']) ?h63 ?hby ?hbase ?_)
    case h63=>simp only[maxLen];omega
    case hby=>omega
    case hbase=>have:=HW2.o;rw[HS4.o];omega
    intro v8' w7 Na Ta _ _;have HM7:=Lh (Lc.o.snoc (by decide) (by decide) Na Ta HS.o zsB.o);have HB7:=Lh (Zt HB4.o Ta Lc.o.lines (Ya _) HB4.o.size);clear Na Ta;go_wp2_with fail;go_roundw;exact⟨nx,done++[(nm,alts)],_,by omega,by go_num,by rw[Qe,Qf];omega,HRN.o,HM7.o,HB7.o⟩;simp[intOf];omega
  ·have Ju:=Lh (HR.o.all (by rw[<-HN.o];omega) s.size);have sr:=Lh (HB1.o.trans (HB.o.mono HB1.o.size));have HSL:=Lt (Je sn wr wr.heap.size (.slice AL done.length cL) done) (HM.o.sl);clear HM;by_cases hd:done=[]
   ·subst hd;have Dl:=Lh (Cq.o.trans (Ju.o.trans (if_pos rfl)));go_wp2_with fail;refine Zg (Zh rfl _ _ _) rfl ?_;exact Mm.of Dl.o Je.nil_ sr.o
   ·have Dl:=Lh (Cq.o.trans (Ju.o.trans (if_neg hd)));have Dg:=Qy.2 hd;obtain⟨m,hm⟩:=Xe done.length;rw[<-hm] at Dg hL1 HSL |-;have hz:((m:Int)==0)=false:=by rw[Yo];omega
    clear hm hd;go_wp2_with fail;refine Zg (Zh rfl _ _ _) rfl ?_;exact Mm.of Dl.o HSL.o sr.o
 ·have Cq:=Lh (show Ms s.data.toList=([],xS,er) by
   unfold Ms
   rw[HF.o,if_pos (by simpa using her)])
  have g0:((er:Int) != 0)=true:=by rw[Yu];omega
  clear her;go_enter Tryz.func18,Tryz.ntmps18;go_wp2_with fail;refine HLX.o.mono ?_;rintro e w1 ⟨vT,rfl,hown,hb1⟩;obtain⟨AT,cT,rfl,hT1,hT2⟩:=Zo hown;have HB1:=Lh hb1;clear hown hb1;go_wp2_with fail;refine Zg (Zh rfl _ _ _) rfl ?_;exact Mm.of Cq.o Je.nil_ HB1.o
theorem jw(A:Option Addr)(n c:Nat)(rs:List (Int×List Int))(w:World)(hv:Je Vv w w.heap.size (.slice A n c) rs) :
  Calls Tryz.prog 55 #[.slice A n c] w fun e w'=>e=.returned (.bool (decide (¬ rs.Nodup)))/\Below w.heap.size w w':=by
 have HV:=Lh hv;have hnc:=hv.n_le;have HN:=Lh hv.n_eq;clear hv;go_enter Tryz.func55,Tryz.ntmps55;go_wp2_with fail;go_loopg [3] n (fun left v3 wr=>∃ i:Nat,i<=n/\n - i<=left/\v3=.int .i64 i/\Hid ((rs.take i).Nodup)/\Hid (Below w.heap.size w wr));exact⟨0,by omega,by omega,rfl,by simp[Hid],Xr _ _⟩;obtain⟨i,hi,Dp,rfl,HND,HB⟩:=hrel;obtain⟨gas,Gf⟩:=Xe gk;rw[<-Gf] at Dp;have HGK:=Lh Gf;clear Gf;generalize wr=wo at *;by_cases Li:i<n
 ·have Wt:i<rs.length:=by rw[<-HN.o];exact Li
  go_wp2_with fail;go_loopg [4] i (fun qkY v4 wt=>∃ j:Nat,j<=i/\i - j<=qkY/\v4=.int .i64 j/\Hid (∀(l:Nat)(h:l<rs.length),l<j->rs[l]≠rs[i])/\Hid (Below w.heap.size w wt));exact⟨0,by omega,by omega,rfl,fun l h hl=>by omega,HB.o⟩;clear HB;obtain⟨j,hj,qmC,rfl,HNO,HB⟩:=hrel;by_cases Ad:j<i
  ·have Mn:j<rs.length:=by omega
   obtain⟨b1,o1,cs1,rfl,-,hb1,Fm,Kt⟩:=(HV.o.below HB.o).get Wt (by decide);obtain⟨v1,rfl,iF,Ib,Sc⟩:=Kq Fm;have x0:=Kt 0 _ rfl;have x1:=Kt 1 _ rfl;simp only[show Vv.size=2 from rfl,Yp,<-Yx] at x0 x1;obtain⟨b2,o2,cs2,qN,-,Ja,Mz,Jr⟩:=(HV.o.below HB.o).get Mn (by decide);injection qN with qN;injection qN with e1 e2;subst e1 e2;obtain⟨v2,rfl,oM,hz3,hz4⟩:=Kq Mz;have y0:=Jr 0 _ rfl;have y1:=Jr 1 _ rfl;simp only[show Vv.size=2 from rfl,Yp,<-Yx] at y0 y1;have Ot:=Lt (rs[j]=rs[i]↔rs[j].1=rs[i].1/\rs[j].2=rs[i].2) (Prod.ext_iff);obtain⟨A3,c3,rfl,h31,uE⟩:=iF.form;obtain⟨A4,c4,rfl,pk,h42⟩:=oM.form;have hbs:=HB.o.size;have Ii:=Lh (fun w1 (hb:Below wr.heap.size wr w1)=>sD _ _ _ _ w1 (iF.fut hb hbs (Yb hbs hb.size)) (oM.fut hb hbs (Yb hbs hb.size)));obtain⟨r,hr⟩:=Xe (rs[i]);obtain⟨s,hs⟩:=Xe (rs[j]);rw[<-hr] at x0 x1 Ot Ii;rw[<-hs] at y0 y1 Ot Ii;have HR:=Lh hr;have HS:=Lh hs;clear iF oM Kt Jr Fm Mz hr hs Ib Sc hz3 hz4 h31 uE pk h42;obtain⟨l1,r1⟩:=r;obtain⟨l2,r2⟩:=s;simp only at x0 x1 y0 y1;by_cases kW:l1=l2
   ·have hq:(l1==l2)=true:=by simp[kW]
    have HLL:=Lh kW;clear kW;go_wp2_with fail;refine Text.wp_grow [22] [4,9,16,21] [] (by kernel_rfl) (by kernel_rfl) ?_;refine Text.wpS_seg 22 _ _ _ _ (by decide) (fun Q' hQ'=>?_);simp only[Xta,Xtz];go_wp2_with fail
    try simp only[Yq,Xx,List.drop_zero]
    refine Text.wpS_one (fun Q' hQ'=>?_);go_wp2_with fail;refine (Ii.o _ Ub).mono ?_;rintro e w5 ⟨rfl,hb5⟩;go_wp2_with fail;refine⟨hb5,?_⟩;refine Text.wpS_seg 1 _ _ _ _ (by decide) (fun Q' hQ'=>?_);simp only[Xta,Xtz];go_wp2_with fail;refine⟨by rfl,?_,?_⟩
    ·exact⟨fun _=>⟨_,_,rfl,x0⟩,fun _=>⟨_,_,rfl,y0⟩,fun _=>⟨_,_,rfl,x1⟩,fun _=>⟨_,_,rfl,y1⟩,trivial⟩
    have HB5:=Lh (HB.o.trans ((Ub.trans hb5).mono hbs));clear hb5;by_cases pH:r1=r2
    ·have hd:decide (r1=r2)=true:=by simpa using pH
     have HX:=Lh (show ¬ rs.Nodup by
      intro So
      rw[List.Nodup,List.pairwise_iff_getElem] at So
      refine So j i Mn Wt Ad ?_
      rw[<-HR.o,<-HS.o,HLL.o,pH])
     go_wp2_with fail;go_ret;exact⟨Kx (Zv (by rw[eq_comm,Yj];exact HX.o)),HB5.o⟩
    ·have hd:decide (r1=r2)=false:=by simpa using pH
     have HX:=Lh (show rs[j]≠rs[i] by
      rw[<-HR.o,<-HS.o]
      intro e
      injection e with e1 e2
      exact pH e2.symm)
     go_wp2_with fail;go_roundg (gk - 1);exact⟨j+1,by omega,by omega,by go_num,fun l h hl=>by by_cases e:l=j;(subst e;exact HX.o);exact HNO.o l h (by omega),HB5.o⟩;omega
   ·have hq:(l1==l2)=false:=by simp[kW]
    have HX:=Lh (show rs[j]≠rs[i] by
     rw[<-HR.o,<-HS.o]
     intro e
     injection e with e1 e2
     exact kW e1.symm)
    clear kW;go_wp2_with fail;refine Text.wp_grow [22] [4,9,16,21] [] (by kernel_rfl) (by kernel_rfl) ?_;refine Text.wpS_seg 22 _ _ _ _ (by decide) (fun Q' hQ'=>?_);simp only[Xta,Xtz];go_wp2_with fail
    try simp only[Yq,Xx,List.drop_zero]
    refine Text.wpS_one (fun Q' hQ'=>?_);go_wp2_with fail;refine⟨Xr _ _,?_⟩;refine Text.wpS_seg 1 _ _ _ _ (by decide) (fun Q' hQ'=>?_);simp only[Xta,Xtz];go_wp2_with fail;refine⟨by rfl,?_,?_⟩
    ·exact⟨fun _=>⟨_,_,rfl,x0⟩,fun _=>⟨_,_,rfl,y0⟩,Text.no_want rfl,Text.no_want rfl,trivial⟩
    go_wp2_with fail;go_roundg (gk - 1);exact⟨j+1,by omega,by omega,by go_num,fun l h hl=>by by_cases e:l=j;(subst e;exact HX.o);exact HNO.o l h (by omega),HB.o.drew⟩;omega
  ·have HND2:=Lh (show (rs.take (i+1)).Nodup by
    refine (gG rs i Wt).2 ⟨HND.o,?_⟩
    rw[List.any_eq_false]
    intro x hx
    obtain⟨l,hl,rfl⟩:=Qz hx
    rw[List.getElem_take]
    rw[Qq] at hl
    simpa using HNO.o l (by omega) (by omega))
   go_wp2_with fail;go_roundg (gas - 1);exact⟨i+1,by omega,by omega,by go_num,HND2.o,HB.o⟩;have:=HGK.o;omega
 ·have HX:=Lh (show rs.Nodup by
   have:=HND.o
   rwa [Qd (by have:=HN.o;omega)] at this)
  go_wp2_with fail;go_ret;exact⟨Kx (Zv (by rw[eq_comm,Yk];exact fun h=>h HX.o)),HB.o⟩
theorem xG(v:Value)(l:List Ke)(w:World)(h:Je sn w w.heap.size v l)(hln:LnS l)(hn0:l.length<=1048576)(qmS:∀ x∈l,x.2.length<=1048576) :
  Calls Tryz.prog 19 #[v] w (Eg l w):=by
 obtain⟨A1,c1,rfl,uD,wT⟩:=h.form;unfold maxLen at wT;have HL:=Lt (∀ W,Below w.heap.size w W->Je sn W w.heap.size (.slice A1 l.length c1) l) (fun W hb=>h.below hb);have io:=Lh hln;have iM:=Lh qmS;clear h hln qmS;obtain⟨n,hn⟩:=Xe l.length;rw[<-hn] at HL uD hn0 |-;have HN:=Lh hn;clear hn;have HGR:=Lh (mQ l);obtain⟨S,hS⟩:=Xe w.heap.size;have HB1:=Lt (Below w.heap.size w ((w.alloc (.cells #[.slice none 0 0,.slice none 0 0,.slice none 0 0] 25)).alloc (.cells #[.slice none 0 0,.slice none 0 0,.slice none 0 0] 25))) (((Xr _ _).alloc (Ya _) _).alloc (by rw[Xs];omega) _);have HS1:=Lh (Go.heap_alloc2_old w (.cells #[.slice none 0 0,.slice none 0 0,.slice none 0 0] 25) (.cells #[.slice none 0 0,.slice none 0 0,.slice none 0 0] 25));have HK1:=Lh (Go.heap_alloc2_new w (.cells #[.slice none 0 0,.slice none 0 0,.slice none 0 0] 25) (.cells #[.slice none 0 0,.slice none 0 0,.slice none 0 0] 25));rw[<-hS] at HS1 HK1;go_enter Tryz.func19,Tryz.ntmps19;go_wp2_with fail;rw[<-hS];have HSE:=Lh hS;clear hS;generalize (w.alloc (.cells #[.slice none 0 0,.slice none 0 0,.slice none 0 0] 25)).alloc (.cells #[.slice none 0 0,.slice none 0 0,.slice none 0 0] 25)=w1 at *;have H0:=Lt (Da (l.take 0)=0/\Hp (l.take 0)=false) (⟨rfl,rfl⟩);go_loop [5,6] (fun v5 v6=>∃ k m:Nat,k<=n/\m<=k*1048576/\v5=.int .i64 m/\v6=.int .i64 k/\Hid (Da (l.take k)=m)/\Hid (Hp (l.take k)=false)) (fun _ v6=>n - (intOf v6).toNat);exact⟨0,0,by omega,by omega,rfl,rfl,H0.o.1,H0.o.2⟩;clear H0;obtain⟨k,m,hk,hm,rfl,rfl,HM,HLO⟩:=hrel;by_cases Ji:k<n
 ·as_aux_lemma =>
  have Eu:k<l.length:=by rw[<-HN.o];exact Ji
  obtain⟨b,off,cs,hA1,_,_,Zx,Zm⟩:=(HL.o w1 HB1.o).get Eu (by decide);subst hA1;obtain⟨v2,rfl,_,Mi⟩:=Oc Zx;obtain⟨A2,c2,rfl,Ic,kX⟩:=Mi.form;unfold maxLen at kX;have Cm:=Zm 1 _ rfl;simp only[show sn.size=2 from rfl,<-Yx] at Cm;have zaV:=Lh (Hb l Eu);have HS2:=Lh (tQ l Eu);have HS3:=Lh (zY l Eu);have si:=iM.o l[k] (Qg Eu);have HSL:=Lh Mi;clear Zm Mi Zx;generalize l[k]=x at *;obtain⟨nm,al⟩:=x;simp only at Cm zaV HS2 HS3 si HSL Ic;obtain⟨p,hp⟩:=Xe al.length;rw[<-hp] at Cm zaV si HSL Ic;have HP:=Lh hp;clear hp Eu;have HQ0:=Lt (∀(j:Nat)(h:j<al.length),j<0->¬ 64<al[j].length) (fun j _ h=>by omega);go_wp2_with fail;go_loop [7] (fun v7=>∃ j:Nat,j<=p/\v7=.int .i64 j/\Hid (∀(i:Nat)(h:i<al.length),i<j->¬ 64<al[i].length)) (fun v7=>p - (intOf v7).toNat);exact⟨0,by omega,rfl,HQ0.o⟩;clear HQ0;obtain⟨j,hj,rfl,HQ⟩:=hrel;by_cases Mn:j<p
  ·have hja:j<al.length:=by rw[<-HP.o];exact Mn
   obtain⟨b7,o7,cs,hA2,_,_,Zx,Zm⟩:=HSL.o.get hja (by decide);subst hA2;obtain⟨v7,rfl,hs7⟩:=Zx;obtain⟨A7,c7,rfl,hl7,yn⟩:=hs7.form;unfold maxLen at yn;have zb:=Zm 0 _ rfl;simp only[show (Th (Ca bh Nk)).size=1 from rfl,Yr,Yp] at zb;clear Zm hs7;by_cases zh:64<al[j].length
   ·have Ld:=Lh (show Rh l=true by
     rw[HGR.o,HS3.o (Xq.2 ⟨al[j],Qg hja,by simpa using zh⟩)];rfl)
    have g0:decide ((64:Int)<(al[j].length:Int))=true:=by simp;omega
    generalize al[j]=a at *;generalize a.length=q at *;clear zh;go_wp2_with (refine Zs none rfl ?_);refine Stop.go (Zn rfl 25 rfl rfl rfl (Vk HS1.o rfl rfl rfl rfl) ?_);have Dl:=Lh (Zi _ _ _ _ _ _ HS1.o:(w1.setRow S [.slice none 0 0,.slice none 0 0,.slice none 0 0].toArray).heap[S]? = _);have Db:=Lh (Zj HB1.o (Yi HSE.o.symm) [.slice none 0 0,.slice none 0 0,.slice none 0 0].toArray);generalize w1.setRow S [.slice none 0 0,.slice none 0 0,.slice none 0 0].toArray=wz at *;generalize ha:Act.put _ _ _=z9;simp[Act.put] at ha;subst ha;go_wp2_with fail;refine Ur (g:=S) rfl rfl rfl rfl Dl.o ?_;exact Eg.bad (Sy Ld.o) Db.o
   ·have g0:decide ((64:Int)<(al[j].length:Int))=false:=by simp;omega
    have HQ':=Lh (show ∀(i:Nat)(h:i<al.length),i<j+1->¬ 64<al[i].length from fun i h hi=>by
     by_cases e:i=j
     ·subst e;exact zh
     ·exact HQ.o i h (by omega))
    generalize al[j]=a at *;generalize a.length=q at *;clear zh;go_wp2_with fail;go_round;exact⟨j+1,by omega,by go_num,HQ'.o⟩;simp[intOf];omega
  ·obtain rfl:j=p:=by omega
   have HL':=Lh (show Hp (l.take (k+1))=false by
    rw[HS2.o,HLO.o,Ys,List.any_eq_false]
    intro a ha
    obtain⟨i,hi,rfl⟩:=Qz ha
    have:=HQ.o i hi (by rw[HP.o];exact hi)
    simpa using this)
   have HM':=Lh (show Da (l.take (k+1))=m+j by rw[zaV.o,HM.o]);go_wp2_with fail;go_round;exact⟨k+1,m+j,by omega,by omega,by go_num,by go_num,HM'.o,HL'.o⟩;simp[intOf];omega
 ·obtain rfl:k=n:=by omega
  have HTK:=Lt (l.take k=l) (Qd (by rw[<-HN.o];exact Ya _));rw[HTK.o] at HM HLO;have Ju:=Lh (show Rh l=(decide (4096<m)||decide (256<k)) by rw[HGR.o,HLO.o,HM.o,<-HN.o,Ys]);clear HTK;by_cases h1:4096<m
  ·have g1:decide ((4096:Int)<(m:Int))=true:=by simp;omega
   have Ld:=Lh (Ju.o.trans (show _=true by rw[Yv h1,Bool.true_or]));clear h1;go_wp2_with (refine Zs none rfl ?_);refine Stop.go (Zn rfl 25 rfl rfl rfl (Vk HS1.o rfl rfl rfl rfl) ?_);have Dl:=Lh (Zi _ _ _ _ _ _ HS1.o:(w1.setRow S [.slice none 0 0,.slice none 0 0,.slice none 0 0].toArray).heap[S]? = _);have Db:=Lh (Zj HB1.o (Yi HSE.o.symm) [.slice none 0 0,.slice none 0 0,.slice none 0 0].toArray);generalize w1.setRow S [.slice none 0 0,.slice none 0 0,.slice none 0 0].toArray=wz at *;generalize ha:Act.put _ _ _=z9;simp[Act.put] at ha;subst ha;go_wp2_with fail;refine Ur (g:=S) rfl rfl rfl rfl Dl.o ?_;exact Eg.bad (Sy Ld.o) Db.o
  ·have g1:decide ((4096:Int)<(m:Int))=false:=by simp;omega
   by_cases h2:256<k
   ·have g2:decide ((256:Int)<(k:Int))=true:=by simp;omega
    have Ld:=Lh (Ju.o.trans (show _=true by rw[Yv h2,Bool.or_true]));clear h1 h2;go_wp2_with (refine Zs none rfl ?_);refine Stop.go (Zn rfl 25 rfl rfl rfl (Vk HS1.o rfl rfl rfl rfl) ?_);have Dl:=Lh (Zi _ _ _ _ _ _ HS1.o:(w1.setRow S [.slice none 0 0,.slice none 0 0,.slice none 0 0].toArray).heap[S]? = _);have Db:=Lh (Zj HB1.o (Yi HSE.o.symm) [.slice none 0 0,.slice none 0 0,.slice none 0 0].toArray);generalize w1.setRow S [.slice none 0 0,.slice none 0 0,.slice none 0 0].toArray=wz at *;generalize ha:Act.put _ _ _=z9;simp[Act.put] at ha;subst ha;go_wp2_with fail;refine Ur (g:=S) rfl rfl rfl rfl Dl.o ?_;exact Eg.bad (Sy Ld.o) Db.o
   ·have g2:decide ((256:Int)<(k:Int))=false:=by simp;omega
    have HG:=Lh (Ju.o.trans (show _=false by rw[Yw h1,Yw h2,Bool.or_false]));have zwF:k<=256:=by omega
    have zoN:m<=4096:=by omega
    clear h1 h2 Ju HM HLO hm Ji hk;go_wp2_with fail;clear g1 g2;have HP0:=Lt (d_ w1 S (.slice none 0 0) (Jt (l.take 0))) (⟨HS1.o,HK1.o,Yz _ _ _ _⟩);have HND0:=Lt ((Jt (l.take 0)).Nodup) (List.nodup_nil);go_loopw [8] (fun v8 wr=>∃(i:Nat)(vN:Value),i<=k/\v8=.int .i64 i/\Hid (d_ wr S vN (Jt (l.take i)))/\Hid ((Jt (l.take i)).Nodup)/\Hid (Below w.heap.size w wr)) (fun v8 _=>k - (intOf v8).toNat);exact⟨0,_,by omega,rfl,HP0.o,HND0.o,HB1.o⟩;clear HP0 HND0 HS1 HK1;obtain⟨i,vN,hi,rfl,HGP,HND,HB⟩:=hrel;have iL:=Lh (show (Jt (l.take i)).length=i by unfold Jt;rw[Qk,Qq,<-HN.o];omega);obtain⟨AN,cN,hvN,hN1,hN2⟩:=Zo HGP.o.names;rw[iL.o] at hvN hN1;subst hvN;unfold maxLen at hN2;have HTS:=Lh (show jl (Jt (l.take i)) from fun t ht=>by
     obtain⟨x,hx,rfl⟩:=Xa.1 ht
     rw[Dd]
     exact (io.o x (List.mem_of_mem_take hx)).1)
    by_cases Ji:i<k
    ·as_aux_lemma =>
     have Wt:i<l.length:=by rw[<-HN.o];exact Ji
     obtain⟨b,off,cs,hA1,_,aw,Zx,Zm⟩:=(HL.o w (Xr _ _)).get Wt (by decide);subst hA1;obtain⟨v2,rfl,hxs,Ab⟩:=Oc Zx;clear Ab;have dz:=Zm 0 _ rfl;simp only[show sn.size=2 from rfl,Yp] at dz;have yD:=Lh (mC l Wt);have HTW:=Lh (fun hm=>zQ l Wt hm);have HR0:=Lt (∀ W,Below w.heap.size w W->W.cell? ⟨b,off+i*2,none⟩=some (.string l[i].1)) (fun W hb=>(hb.cell (p:=⟨b,off+i*2,none⟩) aw).trans dz);have HF:=Lh (fun(W:World)(hg:Je Nk W W.heap.size (.slice AN i cN) ((Jt (l.take i)).map Jp))=>gR (.slice AN i cN) ((Jt (l.take i)).map Jp) l[i].1 W hg);have HFX:=Lh (fc (Jt (l.take i)) l[i].1);clear Zm Zx hxs dz;generalize l[i].1=x at *;clear Wt;have q0:=(Jb HGP.o.box).1;have r0:=HR0.o wr HB.o;have qA:=Lh (HGP.o.below Ub);have HBD:=Lh HB.o.drew;have HFD:=Lh (HF.o wr.drew (qA.o.sl HTS.o));clear HF;by_cases Ua:Wp x∈Jt (l.take i)
     ·rw[HFX.o,if_pos Ua] at HFD;have Ju:=Lh (eJ HG.o (HTW.o Ua));have Fv:=List.idxOf_le_length (l:=Jt (l.take i)) (a:=Wp x);rw[iL.o] at Fv;generalize (Jt (l.take i)).idxOf (Wp x)=ix at *;clear Ua;have g0:decide ((0:Int)<=(ix:Int))=true:=by simp
      go_wp2_with fail;refine Text.wp_grow [7] [1,6] [] (by kernel_rfl) (by kernel_rfl) ?_;refine Text.wpS_seg 7 _ _ _ _ (by decide) (fun Q' hQ'=>?_);simp only[Xta,Xtz];go_wp2_with fail
      try simp only[Yq,Xx,List.drop_zero]
      refine Text.wpS_one (fun Q' hQ'=>?_);go_wp2_with fail;refine HFD.o.mono ?_;rintro e w5 ⟨rfl,rfl⟩;go_wp2_with fail;refine⟨Xr _ _,?_⟩;refine Text.wpS_seg 1 _ _ _ _ (by decide) (fun Q' hQ'=>?_);simp only[Xta,Xtz];go_wp2_with fail;refine⟨by rfl,⟨fun _=>⟨_,_,rfl,q0⟩,fun _=>⟨_,_,rfl,r0⟩,trivial⟩,?_⟩;clear q0 r0;generalize wr.drew=w4 at *;go_wp2_with (refine Zs none rfl ?_);refine Stop.go (Zn rfl 25 rfl rfl rfl (Vk qA.o.res rfl rfl rfl rfl) ?_);have Dl:=Lh (Zi _ _ _ _ _ _ qA.o.res:(w4.setRow S [.slice none 0 0,.slice none 0 0,.slice none 0 0].toArray).heap[S]? = _);have Db:=Lh (Zj HBD.o (Yi HSE.o.symm) [.slice none 0 0,.slice none 0 0,.slice none 0 0].toArray);generalize w4.setRow S [.slice none 0 0,.slice none 0 0,.slice none 0 0].toArray=wz at *;generalize ha:Act.put _ _ _=z9;simp[Act.put] at ha;subst ha;go_wp2_with fail;refine Ur (g:=S) rfl rfl rfl rfl Dl.o ?_;exact Eg.bad Ju.o Db.o
     ·rw[HFX.o,if_neg Ua] at HFD;have HNDN:=Lt ((Jt (l.take (i+1))).Nodup) (by
       rw[yD.o,List.nodup_append]
       exact⟨HND.o,by simp,fun a ha c hc e=>Ua (by rw[Qi.1 hc] at e;rw[<-e];exact ha)⟩)
      clear Ua;go_wp2_with fail;refine Text.wp_grow [7] [1,6] [] (by kernel_rfl) (by kernel_rfl) ?_;refine Text.wpS_seg 7 _ _ _ _ (by decide) (fun Q' hQ'=>?_);simp only[Xta,Xtz];go_wp2_with fail
      try simp only[Yq,Xx,List.drop_zero]
      refine Text.wpS_one (fun Q' hQ'=>?_);go_wp2_with fail;refine HFD.o.mono ?_;rintro e w5 ⟨rfl,rfl⟩;go_wp2_with fail;refine⟨Xr _ _,?_⟩;refine Text.wpS_seg 1 _ _ _ _ (by decide) (fun Q' hQ'=>?_);simp only[Xta,Xtz];go_wp2_with fail;refine⟨by rfl,⟨fun _=>⟨_,_,rfl,q0⟩,fun _=>⟨_,_,rfl,r0⟩,trivial⟩,?_⟩;clear q0 r0;generalize wr.drew=w4 at *;clear HGP HB;go_wp2_with fail;have fI:=Lt (∀ W,W.heap[S+1]? = some (.cells #[.slice AN i cN,.slice none 0 0,.slice none 0 0] 25 (0,0))->Below w.heap.size w W->W.cell? ⟨S+1,0,none⟩=some (.slice AN i cN)/\W.cell? ⟨b,off+i*2,none⟩=some (.string x)) (fun W h1 h2=>⟨(Jb h1).1,HR0.o W h2⟩);have Ei:=Lh (fI.o w4.drew qA.o.box HBD.o.drew);refine Gi (fun w'=>w'.cell? ⟨S+1,0,none⟩=some (.slice AN i cN)/\w'.cell? ⟨b,off+i*2,none⟩=some (.string x)) [9] 11 (by kernel_rfl) rfl ?_;have HG5:=Lh (qA.o.below Ub);have HB5:=Lh HBD.o.drew;generalize w4.drew=w5 at *;clear qA HBD;refine Lg 0 (.pointer (some ⟨S+1,0,none⟩)) rfl (by kernel_rfl) rfl (fun wq=>by go_simp) Ei.o ?_;generalize ha:Act.put _ _ _=z9;simp[Act.put] at ha;subst ha;refine jp 1 (.slice AN i cN) rfl (by kernel_rfl) rfl (fun wq dW=>Wi rfl rfl (Et (e:=9) (by kernel_rfl) dW.1)) Ei.o ?_;generalize ha:Act.put _ _ _=z9;simp[Act.put] at ha;subst ha;refine Lg 2 (.slice (some ⟨b,off,none⟩) k c1) rfl (by kernel_rfl) rfl (fun wq=>by go_simp) Ei.o ?_;generalize ha:Act.put _ _ _=z9;simp[Act.put] at ha;subst ha;refine Lg 3 (.int .i64 i) rfl (by kernel_rfl) rfl (fun wq=>by go_simp) Ei.o ?_;generalize ha:Act.put _ _ _=z9;simp[Act.put] at ha;subst ha;refine Lg 4 (.pointer (some ⟨b,off+i*2,none⟩)) rfl (by kernel_rfl) rfl (fun wq=>by go_simp) Ei.o ?_;generalize ha:Act.put _ _ _=z9;simp[Act.put] at ha;subst ha;refine Lg 5 (.pointer (some ⟨b,off+i*2,none⟩)) rfl (by kernel_rfl) rfl (fun wq=>by go_simp) Ei.o ?_;generalize ha:Act.put _ _ _=z9;simp[Act.put] at ha;subst ha;refine jp 6 (.string x) rfl (by kernel_rfl) rfl (fun wq dW=>Wi rfl rfl (Bd (by kernel_rfl) dW.2)) Ei.o ?_;generalize ha:Act.put _ _ _=z9;simp[Act.put] at ha;subst ha;have HB9:=Lh ((Xr w5.heap.size w5).alloc (Ya _) (.cells #[.string x] 9));have Ss:=Lh (Xn w5 (.cells #[.string x] 9));have ij:=Lt (w5.heap.size+1=(w5.alloc (.cells #[.string x] 9)).heap.size) ((Xs _ _).symm);refine Jz (i:=7) (by kernel_rfl) rfl (fun Q' hQ'=>?_);go_wp2_with fail;generalize w5.alloc (.cells #[.string x] 9)=w9 at *;have HG9:=Lh (HG5.o.below HB9.o);have c_:=Lh (HB5.o.trans (HB9.o.mono HB5.o.size));refine⟨dv (fI.o w9 HG9.o.box c_.o),?_⟩;have Hr:=HG9.o.names;rw[iL.o] at Hr;refine Jz (i:=8) (by kernel_rfl) rfl (fun Q' hQ'=>?_);refine Zz (m:=1) iS rfl rfl rfl rfl Hr (Rd.row (B:=w9.heap.size) Ss.o (by rw[<-ij.o];exact Ye _)) rfl (by simp[Value.oneCell']) (by simp only[maxLen];omega) (by omega) HG9.o.lt ?_;intro sh iO hown hg _ _;obtain⟨A8,c8,mL,_,_⟩:=Zo hown;subst mL;have HG12:=Lh (d_.snoc (T:=Wp x) HG9.o (by rw[iL.o];rw[show wv (Wp x)=.string x from congrArg Value.string (Dd x)];exact hown) hg);rw[<-yD.o] at HG12;have kR:=Lh (Zq Hr hg HG9.o.box (by decide));have qhD:=Lh (Zt c_.o hg Hr (by have:=HSE.o;omega) c_.o.size);have HB12:=Lh (qhD.o.setCell (p:=⟨S+1,0,none⟩) (by show w.heap.size<=S+1;have:=HSE.o;omega) (.slice A8 (i+1) c8));clear hown hg Hr;generalize ha:Act.put _ _ _=z9;simp[Act.put] at ha;subst ha;refine hQ' _ _ ⟨dv (fI.o iO kR.o qhD.o),?_⟩;have q2:=(Jb kR.o).1;have f2:iO.frozen? ⟨S+1,0,none⟩=false:=by simp[World.frozen?,kR.o]
      clear Ei fI HG5 HB5 HG9 c_ HB9 Ss ij;refine Jz (i:=9) (by kernel_rfl) rfl (fun Q' hQ'=>?_);go_wp2_with fail;refine⟨Vg (by kernel_rfl),?_⟩;refine Jz (i:=10) (by kernel_rfl) rfl (fun Q' hQ'=>?_);go_wp2_with fail;refine⟨Vg (by kernel_rfl),?_⟩;refine Cs (by kernel_rfl) ?_ _;clear q2 f2 kR qhD;go_wp2_with fail;go_roundw;exact⟨i+1,_,by omega,by go_num,HG12.o,HNDN.o,HB12.o⟩;simp[intOf];omega
    ·as_aux_lemma =>
     obtain rfl:i=k:=by omega
     have HTK:=Lt (l.take i=l) (Qd (by rw[<-HN.o];exact Ya _));rw[HTK.o] at HGP HND HTS iL;have HGM:=Lh (HGP.o.done HTS.o);obtain⟨B0,hB0⟩:=Xe wr.heap.size;have HGM':=Lt (kS wr S (.slice AN i cN) (.slice none 0 0) (.slice none 0 0) B0 wr.heap.size (Jt l) [] [] []) (hB0 ▸ HGM.o);have HGF:=Lh (oQ HG.o);have HE0:=Lt (Kz (Jt l) 0 [] [] l=Kz (Jt l) 0 [] [] (l.drop 0)) (rfl);have HR0:=Lt (([]:List Jo).length=Da (l.take 0)) (rfl);have HT0:=Lt (jl []) (fun t ht=>by cases ht);clear hB0 HGM HGP HTK Ji hi;go_wp2_with fail;go_loopw [9] (fun v9 wq=>∃(j:Nat)(ts:List Wd)(rs:List Jo)(vT vR:Value)(css:List (List Value)),j<=i/\v9=.int .i64 j/\ts.length<=64*rs.length/\rs.length<=4096/\Hid (rs.length=Da (l.take j))/\Hid (Kz (Jt l) 0 [] [] l=Kz (Jt l) j ts rs (l.drop j))/\Hid (jl ts)/\Hid (kS wq S (.slice AN i cN) vT vR B0 wq.heap.size (Jt l) ts rs css)/\Hid (Below w.heap.size w wq)) (fun v9 _=>i - (intOf v9).toNat);exact⟨0,[],[],_,_,[],by omega,rfl,by simp,by simp,HR0.o,HE0.o,HT0.o,HGM'.o,HB.o⟩;clear HR0 HE0 HT0 HGM' HB;obtain⟨j,ts,rs,vT,vR,css,hj,rfl,htr,hr4,L_,HEQ,HTS,HGM,HB⟩:=hrel;by_cases Ji:j<i
     ·as_aux_lemma =>
      have Mn:j<l.length:=by rw[<-HN.o];exact Ji
      obtain⟨b,off,cs,hA1,_,aw,Zx,Zm⟩:=(HL.o w (Xr _ _)).get Mn (by decide);subst hA1;obtain⟨v2,rfl,_,Mi⟩:=Oc Zx;obtain⟨A2,c2,rfl,Ic,kX⟩:=Mi.form;unfold maxLen at kX;have Cm:=Zm 1 _ rfl;simp only[show sn.size=2 from rfl,<-Yx] at Cm;have HST:=Lh (tR (ns:=Jt l) (ts:=ts) (rs:=rs) Mn);have HAS:=Lh (Hb l Mn);have zbT:=Lh (rl l (j+1));have quN:=Lh (io.o l[j] (Qg Mn)).2;have HGX:=Lh (HGF.o.1 l[j] (Qg Mn));clear Zm Zx;generalize l[j]=x at *;obtain⟨nm,al⟩:=x;simp only at Cm HST HAS quN HGX Mi Ic;obtain⟨p,hp⟩:=Xe al.length;rw[<-hp] at Ic Cm Mi HAS;have HSL:=Lt (Je (Th pR) w w.heap.size (.slice A2 p c2) al) (Mi);have HR1:=Lt (∀ W,Below w.heap.size w W->W.cell? ⟨b,off+j*2+1,none⟩=some (.slice A2 p c2)) (fun W hb=>(hb.cell (p:=⟨b,off+j*2+1,none⟩) aw).trans Cm);have HP:=Lh hp;clear hp Mn Mi Cm;have HEQ4:=Lt (Kz (Jt l) 0 [] [] l=match Cf (Jt l) (j:Int) ts rs (al.drop 0) with | none=>none | some (Bk,ts')=>Kz (Jt l) (j+1) ts' Bk (l.drop (j+1))) (HEQ.o.trans HST.o)
      have HR4:=Lt (rs.length=Da (l.take j)+0) (L_.o);clear HEQ HST L_;go_wp2_with fail;go_loopw [10] (fun v10 wq=>∃(k:Nat)(ts:List Wd)(rs:List Jo)(vT vR:Value)(css:List (List Value)),k<=p/\v10=.int .i64 k/\ts.length<=64*rs.length/\rs.length<=4096/\Hid (rs.length=Da (l.take j)+k)/\Hid (Kz (Jt l) 0 [] [] l=match Cf (Jt l) (j:Int) ts rs (al.drop k) with | none=>none | some (Bk,ts')=>Kz (Jt l) (j+1) ts' Bk (l.drop (j+1)))/\Hid (jl ts)/\Hid (kS wq S (.slice AN i cN) vT vR B0 wq.heap.size (Jt l) ts rs css)/\Hid (Below w.heap.size w wq)) (fun v10 _=>p - (intOf v10).toNat)
      exact⟨0,ts,rs,vT,vR,css,by omega,rfl,htr,hr4,HR4.o,HEQ4.o,HTS.o,HGM.o,HB.o⟩;clear HR4 HEQ4 HTS HGM HB htr hr4;clear ts rs vT vR css;obtain⟨k,ts,rs,vT,vR,css,hk,rfl,htr,hr4,HR4,HEQ4,HTS,HGM,HB⟩:=hrel;have r1:=HR1.o wr HB.o;by_cases Eu:k<p
      ·as_aux_lemma =>
       have hka:k<al.length:=by rw[<-HP.o];exact Eu
       obtain⟨b7,o7,cs,hA2,_,Ae,Zx,Zm⟩:=HSL.o.get hka (by decide);subst hA2;obtain⟨v7,rfl,hs7⟩:=Zx;obtain⟨A7,c7,rfl,hl7,yn⟩:=hs7.form;unfold maxLen at yn;have zb:=Zm 0 _ rfl;simp only[show (Th pR).size=1 from rfl,Yr,Yp] at zb;have HST:=Lh (bv (ns:=Jt l) (ts:=ts) (rs:=rs) (i:=(j:Int)) hka);have HGA:=Lh (HGX.o al[k] (Qg hka));have qyF:Je pR w w.heap.size (.slice A7 al[k].length c7) al[k]:=hs7;clear Zm hs7;generalize al[k]=a at *;clear hka;have hr5:rs.length+1<=4096:=by have h1:=HR4.o;have h2:=HAS.o;have h3:=zbT.o;have h4:=HGF.o.2.1;omega
       obtain⟨q,hq⟩:=Xe a.length;rw[<-hq] at zb HGA hl7 qyF;have HS7:=Lh qyF;have HC7:=Lt (∀ W,Below w.heap.size w W->W.cell? ⟨b7,o7+k,none⟩=some (.slice A7 q c7)) (fun W hb=>(hb.cell (p:=⟨b7,o7+k,none⟩) Ae).trans zb);have HQQ:=Lh hq;clear hq zb qyF;have qsW:=HGA.o;obtain⟨KR,hKR⟩:=Xe wr.heap.size;have Ag:Below wr.heap.size wr (wr.alloc (.cells #[.int .i64 j,.slice none 0 0] 63)):=(Xr _ _).alloc (Ya _) _;have HGM1:=Lh (HGM.o.below Ag);have HB1':=Lh (HB.o.trans (Ag.mono HB.o.size));have HRW0:=Lh (Xn wr (.cells #[.int .i64 j,.slice none 0 0] 63));rw[<-hKR] at HRW0 HGM1;have HSK:=Lh (show S+1<KR/\w.heap.size<=KR by have h1:=HGM.o.lt;have h2:=HB.o.size;omega);have jm:=Lh (show vR.ownBlock≠some KR from fun e=>by
        rcases HGM.o.rules.2 with ⟨h0,_⟩ | ⟨g',cap,cur,h0,_,hh,_⟩
        ·rw[h0] at e;simp[Value.ownBlock] at e
        ·rw[h0] at e
         have e:g'=KR:=by simpa[Value.ownBlock] using e
         have:=(gl hh)
         omega)
       clear Ag;go_wp2_with fail;rw[<-hKR];clear hKR r1;generalize wr.alloc (.cells #[.int .i64 j,.slice none 0 0] 63)=w2 at *;have HOW0:=Lt (w2.ownsRow (KR+1) 3 1 (.slice none 0 0) ([]:List Int).length (([]:List Int).map (Value.int .i64))) (Yz _ _ _ _);have HBD0:=Lt (∀ s∈([]:List Int),-9223372036854775808<=s/\s<=9223372036854775807) (fun s hs=>by cases hs);have HAQ0:=Lt (Ez (Jt l) ts [] a=Ez (Jt l) ts [] (a.drop 0)) (rfl);clear HGM HB;go_loopw [12] (fun v12 wq=>∃(m:Nat)(r:List Int)(ts':List Wd)(aH vr:Value),m<=q/\v12=.int .i64 m/\r.length=m/\ts'.length<=ts.length+m/\Hid (Ez (Jt l) ts [] a=Ez (Jt l) ts' r (a.drop m))/\Hid (jl ts')/\Hid (kS wq S (.slice AN i cN) aH vR B0 KR (Jt l) ts' rs css)/\Hid (wq.heap[KR]? = some (.cells #[.int .i64 j,vr] 63 (0,0)))/\Hid (wq.ownsRow (KR+1) 3 1 vr r.length (r.map (Value.int .i64)))/\Hid (∀ s∈r,-9223372036854775808<=s/\s<=9223372036854775807)/\Hid (Below w.heap.size w wq)) (fun v12 _=>q - (intOf v12).toNat);exact⟨0,[],ts,vT,_,by omega,rfl,rfl,by omega,HAQ0.o,HTS.o,HGM1.o,HRW0.o,HOW0.o,HBD0.o,HB1'.o⟩;clear HAQ0 HOW0 HBD0 HGM1 HRW0 HB1' HTS;obtain⟨m,r,ts',aH,vr,hm,rfl,hrm,htm,HAQ,HTS,HGM,HRW,HOW,HBD,HB⟩:=hrel;have r1:=HR1.o wr HB.o;have c7':=HC7.o wr HB.o;by_cases hmq:m<q
       ·as_aux_lemma =>
        have hma:m<a.length:=by rw[<-HQQ.o];exact hmq
        obtain⟨b9,o9,cs,hA7,_,zg,Zx,Zm⟩:=HS7.o.get hma (by decide);subst hA7;obtain⟨rfl,qtF⟩:=bf Zx;have c0:=Zm 0 _ rfl;have c1':=Zm 1 _ rfl;simp only[show pR.size=2 from rfl,Yp,<-Yx] at c0 c1';have jo:=Lh (show Ez (Jt l) ts' r (a.drop m)=match Lm (Jt l) ts' a[m] with | none=>none | some (s,ts'')=>Ez (Jt l) ts'' (r++[s]) (a.drop (m+1)) by rw[Ql hma];rfl)
        clear Zm Zx;obtain⟨it,iI⟩:=Xe (a[m]);rw[<-iI] at c0 c1' jo qtF;clear iI hma;obtain⟨bo,x⟩:=it;simp only at c0 c1' qtF;replace c0:=(HB.o.cell (p:=⟨b9,o9+m*2,none⟩) zg).trans c0;replace c1':=(HB.o.cell (p:=⟨b9,o9+m*2+1,none⟩) zg).trans c1';have ztP:=Lh qtF;clear qtF;obtain⟨AT,cT,hvT,hT1,hT2⟩:=Zo HGM.o.terms;subst hvT;obtain⟨Ar,cr,hvr,Cm,hr2⟩:=Zo HOW.o;subst hvr;unfold maxLen at hT2 hr2;obtain⟨KI,hKI⟩:=Xe wr.heap.size;have Ja:Below wr.heap.size wr (wr.alloc (.cells #[.bool bo,.string x] 107)):=(Xr _ _).alloc (Ya _) _;have HX2:=Lh (Xn wr (.cells #[.bool bo,.string x] 107));rw[<-hKI] at HX2;have HGM2:=Lh (HGM.o.below Ja);have Lb:=Lh ((Ja.block KR (gl HRW.o)).trans HRW.o);have im:=Lh (Zy HOW.o Ja);have HB2:=Lh (HB.o.trans (Ja.mono HB.o.size));clear Ja;have HFX:=Lh (fc ts' x);have HFN:=Lh (fc (Jt l) x);have ztB:=Lh (fun(W:World)(hg:Je Nk W W.heap.size (.slice AN i cN) ((Jt l).map Jp))=>gR (.slice AN i cN) ((Jt l).map Jp) x W hg);obtain⟨tn,htn⟩:=Xe ts'.length;have zhL:=Lh (fun(W:World)(hg:Je Nk W W.heap.size (.slice AT ts'.length cT) (ts'.map Jp))=>gR (.slice AT ts'.length cT) (ts'.map Jp) x W hg);rw[<-htn] at htm hT1 HGM2 zhL;rw[hrm] at Cm Lb im;have HTN:=Lh htn;have HRM:=Lh hrm;clear htn hrm HGM HRW HOW HB;have zpD:=List.idxOf_le_length (l:=Jt l) (a:=Wp x);have zpC:=List.idxOf_le_length (l:=ts') (a:=Wp x);rw[iL.o] at zpD;rw[<-HTN.o] at zpC;have htn6:tn<=1048576:=by omega
        cases bo with
        |true =>
         rw[qjA x] at jo;go_wp2_with (refine Zs (some 127) rfl ?_);rw[<-hKI];clear hKI c0 c1' r1 c7';refine Stop.go ?_;generalize wr.alloc (.cells #[.bool true,.string x] 107)=w3 at *;obtain⟨k0,k1⟩:=Kn HX2.o;obtain⟨q0,q1,q2⟩:=Jb HGM2.o.box;have HFD:=Lh (zhL.o w3 (by exact (HGM2.o.uT HTS.o).sl));by_cases Ua:Wp x∈ts'
         ·rw[HFX.o,if_pos Ua] at HFD;rw[if_pos Ua] at jo;clear Ua;generalize ts'.idxOf (Wp x)=ix at *;go_wp2_with fail;refine HFD.o.mono ?_;rintro e w4 ⟨rfl,rfl⟩;clear k0 k1 q0 q1 q2;have HAQ':=Lt (Ez (Jt l) ts [] a=Ez (Jt l) ts' (r++[-1 - (ix:Int)]) (a.drop (m+1))) (HAQ.o.trans jo.o);have kN:=Lh (show -9223372036854775808<=-1 - (ix:Int)/\-1 - (ix:Int)<=9223372036854775807 by omega);obtain⟨r0,r1⟩:=Kn Lb.o;have Ae:Below w3.heap.size w3 (w3.alloc (.cells #[.int .i64 (-1 - (ix:Int))] 3)):=(Xr _ _).alloc (Ya _) _;have HN7:=Lh (Xn w3 (.cells #[.int .i64 (-1 - (ix:Int))] 3));have HZ7:=Lh (Xs w3 (.cells #[.int .i64 (-1 - (ix:Int))] 3));have rz:=Lh (HGM2.o.below Ae);have kO:=Lh ((Ae.block KR (gl Lb.o)).trans Lb.o);have Om:=Lh (Zy im.o Ae);have HB7:=Lh (HB2.o.trans (Ae.mono HB2.o.size));have HKX:=Lt (KR<w3.heap.size) ((gl Lb.o));clear Ae;go_wp2_with (at_builtin;refine Zz (m:=1) dC rfl rfl rfl rfl Om.o (Rd.row (B:=w3.heap.size+1) HN7.o (Ye _)) rfl (by simp[Value.oneCell']) ?a163 ?a1by ?a1base ?_)
          case a163=>simp only[maxLen];omega
          case a1by=>omega
          case a1base=>have h1:=HKX.o;first | omega | (rw[HZ7.o];omega)
          intro vr8 w8 Fn pI _ _;obtain⟨A8,c8,mL,_,_⟩:=Zo Fn;subst mL;have ry:=Lh (rz.o.ints Om.o pI (Yh KR));have HRW8:=Lh (Zq Om.o pI kO.o (by decide));have HB8:=Lh (Zt HB7.o pI Om.o (by have:=HSK.o;omega) HB7.o.size);have q8:=(Kn HRW8.o).2;have f8:w8.frozen? ⟨KR,1,none⟩=false:=by simp[World.frozen?,HRW8.o]
          have HRW9:=Lh (Kj (k:=1) HRW8.o (.slice A8 (m+1) c8));have HGM9:=Lh (ry.o.rule (k:=1) HRW8.o jm.o (.slice A8 (m+1) c8));have HB9:=Lh (HB8.o.setCell (p:=⟨KR,1,none⟩) (by show w.heap.size<=KR;exact HSK.o.2) (.slice A8 (m+1) c8));have HOW9:=Lt ((w8.setCell ⟨KR,1,none⟩ (.slice A8 (m+1) c8)).ownsRow (KR+1) 3 1 (.slice A8 (m+1) c8) (r++[-1 - (ix:Int)]).length ((r++[-1 - (ix:Int)]).map (Value.int .i64))) (by
           rw[Qe,Qf,HRM.o,Qt]
           exact Zk Fn (Ye KR) _)
          have HBD9:=Lh (show ∀ y∈r++[-1 - (ix:Int)],-9223372036854775808<=y/\y<=9223372036854775807 from fun y hy=>by
           rcases Qh.1 hy with hy | hy
           ·exact HBD.o y hy
           ·rw[Qi.1 hy];exact kN.o)
          have HRL:=Lh (show (r++[-1 - (ix:Int)]).length=m+1 by rw[Qe,Qf,HRM.o]);clear Fn pI HRW8 ry HB8 r0 r1 kO Om rz HN7;go_wp2_with fail;go_roundw;exact⟨m+1,r++[-1 - (ix:Int)],ts',_,_,by omega,by go_num,HRL.o,by rw[<-HTN.o];omega,HAQ'.o,HTS.o,HGM9.o,HRW9.o,HOW9.o,HBD9.o,HB9.o⟩;simp[intOf];omega
         ·rw[HFX.o,if_neg Ua] at HFD;rw[if_neg Ua,<-HTN.o] at jo;clear Ua;go_wp2_with fail;refine HFD.o.mono ?_;rintro e w4 ⟨rfl,rfl⟩;have hb4:Below w3.heap.size w3 (w3.alloc (.cells #[.string x] 9)):=(Xr _ _).alloc (Ya _) _;have HN4:=Lh (Xn w3 (.cells #[.string x] 9));have HZ4:=Lh (Xs w3 (.cells #[.string x] 9));have HGM4:=Lh (HGM2.o.below hb4);have quH:=Lh ((hb4.block KR (gl Lb.o)).trans Lb.o);have HX4:=Lh ((hb4.block KI (gl HX2.o)).trans HX2.o);have rv:=Lh (Zy im.o hb4);have HB4:=Lh (HB2.o.trans (hb4.mono HB2.o.size));have Gl:=HGM4.o.terms;rw[<-HTN.o] at Gl;clear hb4;go_wp2_with (at_builtin;refine Zz (m:=1) iS rfl rfl rfl rfl Gl (Rd.row (B:=w3.heap.size+1) HN4.o (Ye _)) rfl (by simp[Value.oneCell']) ?h63 ?hby ?hbase ?_)
          case h63=>simp only[maxLen];omega
          case hby=>omega
          case hbase=>first | exact HGM4.o.b0 | (have:=HGM2.o.b0;omega) | (have:=HGM4.o.b0;rw[HZ4.o] at this;exact this)
          intro vT5 w5 Sd aB _ _;obtain⟨A5,c5,hv5,_,_⟩:=Zo Sd;subst hv5;have HBX5:=Lh (Zq Gl aB HGM4.o.box (by decide));have zsO:=Lh (Zq Gl aB quH.o (by decide));have zsX:=Lh (Vr rv.o Gl (by decide) aB);have HB5:=Lh (Zt HB4.o aB Gl (by have h1:=HGM4.o.lo;have h2:=HSE.o;omega) HB4.o.size);have HGM6:=Lh (HGM4.o.term (T:=Wp x) (by rw[<-HTN.o,show wv (Wp x)=.string x from congrArg Value.string (Dd x)];exact Sd) aB);have q5:=(Jb HBX5.o).2.1;have f5:w5.frozen? ⟨S+1,1,none⟩=false:=by simp[World.frozen?,HBX5.o]
          have HRW6:=Lh (Vd (g:=S+1) (k:=1) zsO.o (by have:=HSK.o;omega) (.slice A5 (tn+1) c5));have zsW:=Lh (Vi zsX.o (Vm (ts:=[3]) (k:=1) HBX5.o (by decide) (.slice A5 (tn+1) c5)) (by simp));have HB6:=Lh (HB5.o.setCell (p:=⟨S+1,1,none⟩) (by show w.heap.size<=S+1;have:=HSE.o;omega) (.slice A5 (tn+1) c5));have HTS6:=Lh (show jl (ts'++[Wp x]) from fun t ht=>by
           rcases Qh.1 ht with ht | ht
           ·exact HTS.o t ht
           ·rw[Qi.1 ht,Dd];exact ztP.o)
          clear Sd aB k0 k1 q0 q1 q2 HGM4 quH HX4 rv HB4 Gl;go_wp2_with (refine Zs (some 146) rfl ?_);refine Stop.go ?_;clear q5 f5;generalize w5.setCell ⟨S+1,1,none⟩ (.slice A5 (tn+1) c5)=w6 at *;have HAQ':=Lt (Ez (Jt l) ts [] a=Ez (Jt l) (ts'++[Wp x]) (r++[-1 - (tn:Int)]) (a.drop (m+1))) (HAQ.o.trans jo.o);have kN:=Lh (show -9223372036854775808<=-1 - (tn:Int)/\-1 - (tn:Int)<=9223372036854775807 by omega);obtain⟨r0,r1⟩:=Kn HRW6.o;have Ae:Below w6.heap.size w6 (w6.alloc (.cells #[.int .i64 (-1 - (tn:Int))] 3)):=(Xr _ _).alloc (Ya _) _;have HN7:=Lh (Xn w6 (.cells #[.int .i64 (-1 - (tn:Int))] 3));have HZ7:=Lh (Xs w6 (.cells #[.int .i64 (-1 - (tn:Int))] 3));have rz:=Lh (HGM6.o.below Ae);have kO:=Lh ((Ae.block KR (gl HRW6.o)).trans HRW6.o);have Om:=Lh (Zy zsW.o Ae);have HB7:=Lh (HB6.o.trans (Ae.mono HB6.o.size));have HKX:=Lt (KR<w6.heap.size) ((gl HRW6.o));clear Ae;go_wp2_with (at_builtin;refine Zz (m:=1) dC rfl rfl rfl rfl Om.o (Rd.row (B:=w6.heap.size+1) HN7.o (Ye _)) rfl (by simp[Value.oneCell']) ?a263 ?a2by ?a2base ?_)
          case a263=>simp only[maxLen];omega
          case a2by=>omega
          case a2base=>have h1:=HKX.o;first | omega | (rw[HZ7.o];omega)
          intro vr8 w8 Fn pI _ _;obtain⟨A8,c8,mL,_,_⟩:=Zo Fn;subst mL;have ry:=Lh (rz.o.ints Om.o pI (Yh KR));have HRW8:=Lh (Zq Om.o pI kO.o (by decide));have HB8:=Lh (Zt HB7.o pI Om.o (by have:=HSK.o;omega) HB7.o.size);have q8:=(Kn HRW8.o).2;have f8:w8.frozen? ⟨KR,1,none⟩=false:=by simp[World.frozen?,HRW8.o]
          have HRW9:=Lh (Kj (k:=1) HRW8.o (.slice A8 (m+1) c8));have HGM9:=Lh (ry.o.rule (k:=1) HRW8.o jm.o (.slice A8 (m+1) c8));have HB9:=Lh (HB8.o.setCell (p:=⟨KR,1,none⟩) (by show w.heap.size<=KR;exact HSK.o.2) (.slice A8 (m+1) c8));have HOW9:=Lt ((w8.setCell ⟨KR,1,none⟩ (.slice A8 (m+1) c8)).ownsRow (KR+1) 3 1 (.slice A8 (m+1) c8) (r++[-1 - (tn:Int)]).length ((r++[-1 - (tn:Int)]).map (Value.int .i64))) (by
           rw[Qe,Qf,HRM.o,Qt]
           exact Zk Fn (Ye KR) _)
          have HBD9:=Lh (show ∀ y∈r++[-1 - (tn:Int)],-9223372036854775808<=y/\y<=9223372036854775807 from fun y hy=>by
           rcases Qh.1 hy with hy | hy
           ·exact HBD.o y hy
           ·rw[Qi.1 hy];exact kN.o)
          have HRL:=Lh (show (r++[-1 - (tn:Int)]).length=m+1 by rw[Qe,Qf,HRM.o]);clear Fn pI HRW8 ry HB8 r0 r1 kO Om rz HN7;go_wp2_with fail;go_roundw;exact⟨m+1,r++[-1 - (tn:Int)],(ts'++[Wp x]),_,_,by omega,by go_num,HRL.o,by rw[Qe,Qf,<-HTN.o];omega,HAQ'.o,HTS6.o,HGM9.o,HRW9.o,HOW9.o,HBD9.o,HB9.o⟩;simp[intOf];omega
        |false =>
         rw[qjB x] at jo;go_wp2_with (refine Zs (some 127) rfl ?_);rw[<-hKI];clear hKI c0 c1' r1 c7';refine Stop.go ?_;generalize wr.alloc (.cells #[.bool false,.string x] 107)=w3 at *;obtain⟨k0,k1⟩:=Kn HX2.o;obtain⟨q0,q1,q2⟩:=Jb HGM2.o.box;have HFD:=Lh (ztB.o w3 HGM2.o.slN);by_cases Ua:Wp x∈Jt l
         ·rw[HFN.o,if_pos Ua] at HFD;rw[if_pos Ua] at jo;clear Ua;generalize (Jt l).idxOf (Wp x)=ix at *;go_wp2_with fail;refine HFD.o.mono ?_;rintro e w4 ⟨rfl,rfl⟩;clear k0 k1 q0 q1 q2;have HAQ':=Lt (Ez (Jt l) ts [] a=Ez (Jt l) ts' (r++[(ix:Int)]) (a.drop (m+1))) (HAQ.o.trans jo.o);have kN:=Lh (show -9223372036854775808<=(ix:Int)/\(ix:Int)<=9223372036854775807 by omega);obtain⟨r0,r1⟩:=Kn Lb.o;have Ae:Below w3.heap.size w3 (w3.alloc (.cells #[.int .i64 ((ix:Int))] 3)):=(Xr _ _).alloc (Ya _) _;have HN7:=Lh (Xn w3 (.cells #[.int .i64 ((ix:Int))] 3));have HZ7:=Lh (Xs w3 (.cells #[.int .i64 ((ix:Int))] 3));have rz:=Lh (HGM2.o.below Ae);have kO:=Lh ((Ae.block KR (gl Lb.o)).trans Lb.o);have Om:=Lh (Zy im.o Ae);have HB7:=Lh (HB2.o.trans (Ae.mono HB2.o.size));have HKX:=Lt (KR<w3.heap.size) ((gl Lb.o));clear Ae;go_wp2_with (at_builtin;refine Zz (m:=1) dC rfl rfl rfl rfl Om.o (Rd.row (B:=w3.heap.size+1) HN7.o (Ye _)) rfl (by simp[Value.oneCell']) ?a363 ?a3by ?a3base ?_)
          case a363=>simp only[maxLen];omega
          case a3by=>omega
          case a3base=>have h1:=HKX.o;first | omega | (rw[HZ7.o];omega)
          intro vr8 w8 Fn pI _ _;obtain⟨A8,c8,mL,_,_⟩:=Zo Fn;subst mL;have ry:=Lh (rz.o.ints Om.o pI (Yh KR));have HRW8:=Lh (Zq Om.o pI kO.o (by decide));have HB8:=Lh (Zt HB7.o pI Om.o (by have:=HSK.o;omega) HB7.o.size);have q8:=(Kn HRW8.o).2;have f8:w8.frozen? ⟨KR,1,none⟩=false:=by simp[World.frozen?,HRW8.o]
          have HRW9:=Lh (Kj (k:=1) HRW8.o (.slice A8 (m+1) c8));have HGM9:=Lh (ry.o.rule (k:=1) HRW8.o jm.o (.slice A8 (m+1) c8));have HB9:=Lh (HB8.o.setCell (p:=⟨KR,1,none⟩) (by show w.heap.size<=KR;exact HSK.o.2) (.slice A8 (m+1) c8));have HOW9:=Lt ((w8.setCell ⟨KR,1,none⟩ (.slice A8 (m+1) c8)).ownsRow (KR+1) 3 1 (.slice A8 (m+1) c8) (r++[(ix:Int)]).length ((r++[(ix:Int)]).map (Value.int .i64))) (by
           rw[Qe,Qf,HRM.o,Qt]
           exact Zk Fn (Ye KR) _)
          have HBD9:=Lh (show ∀ y∈r++[(ix:Int)],-9223372036854775808<=y/\y<=9223372036854775807 from fun y hy=>by
           rcases Qh.1 hy with hy | hy
           ·exact HBD.o y hy
           ·rw[Qi.1 hy];exact kN.o)
          have HRL:=Lh (show (r++[(ix:Int)]).length=m+1 by rw[Qe,Qf,HRM.o]);clear Fn pI HRW8 ry HB8 r0 r1 kO Om rz HN7;go_wp2_with fail;go_roundw;exact⟨m+1,r++[(ix:Int)],ts',_,_,by omega,by go_num,HRL.o,by rw[<-HTN.o];omega,HAQ'.o,HTS.o,HGM9.o,HRW9.o,HOW9.o,HBD9.o,HB9.o⟩;simp[intOf];omega
         ·rw[HFN.o,if_neg Ua] at HFD;rw[if_neg Ua] at jo;clear Ua;go_wp2_with fail;refine HFD.o.mono ?_;rintro e w4 ⟨rfl,rfl⟩;clear k0 k1 q0 q1 q2;have Ju:=Lh (jD HG.o HND.o (by rw[HEQ4.o,HST.o,HAQ.o,jo.o]));have wE:=Lh HGM2.o.res;go_wp2_with (refine Zs none rfl ?_);refine Stop.go (Zn rfl 25 rfl rfl rfl (Vk wE.o rfl rfl rfl rfl) ?_);have Dl:=Lh (Zi _ _ _ _ _ _ wE.o:(w3.setRow S [.slice none 0 0,.slice none 0 0,.slice none 0 0].toArray).heap[S]? = _);have Db:=Lh (Zj HB2.o (Yi HSE.o.symm) [.slice none 0 0,.slice none 0 0,.slice none 0 0].toArray);generalize w3.setRow S [.slice none 0 0,.slice none 0 0,.slice none 0 0].toArray=wz at *;generalize ha:Act.put _ _ _=z9;simp[Act.put] at ha;subst ha;go_wp2_with fail;refine Ur (g:=S) rfl rfl rfl rfl Dl.o ?_;exact Eg.bad Ju.o Db.o
       ·as_aux_lemma =>
        obtain rfl:m=q:=by omega
        have zuK:=Lh (show Ez (Jt l) ts [] a=some (r,ts') by
         rw[HAQ.o,Xl (by rw[<-HQQ.o];exact Ya _)];rfl)
        have HEQ6:=Lh (show Kz (Jt l) 0 [] [] l=match Cf (Jt l) (j:Int) ts' (rs++[((j:Int),r)]) (al.drop (k+1)) with | none=>none | some (Bk,ts')=>Kz (Jt l) (j+1) ts' Bk (l.drop (j+1)) by rw[HEQ4.o,HST.o,zuK.o])
        have HR6:=Lh (show (rs++[((j:Int),r)]).length=Da (l.take j)+(k+1) by rw[Qe,Qf,HR4.o];omega);have ht6:ts'.length<=64*(rs++[((j:Int),r)]).length:=by rw[Qe,Qf];omega
        have hr6:(rs++[((j:Int),r)]).length<=4096:=by rw[Qe,Qf];exact hr5
        obtain⟨Ar,cr,hvr,Cm,hr2⟩:=Zo HOW.o;subst hvr;obtain⟨AR,cR,hvR,hR1,hR2⟩:=Zo HGM.o.rules;subst hvR;unfold maxLen at hr2 hR2;obtain⟨r0,r1'⟩:=Kn HRW.o;obtain⟨q0,q1,q2⟩:=Jb HGM.o.box;have HXR:=Lt (∀ W,Below wr.heap.size wr W->Gv.rep W W.heap.size [.int .i64 j,.slice Ar r.length cr] ((j:Int),r)) (fun W hb=>⟨[.int .i64 j],[.slice Ar r.length cr],rfl,⟨rfl,by omega,by omega⟩,_,rfl,ob (Zy HOW.o hb) HBD.o⟩);have hb4:Below wr.heap.size wr (wr.alloc (.cells #[.int .i64 j,.slice Ar r.length cr] 63)):=(Xr _ _).alloc (Ya _) _;have HN4:=Lh (Xn wr (.cells #[.int .i64 j,.slice Ar r.length cr] 63));have HZ4:=Lh (Xs wr (.cells #[.int .i64 j,.slice Ar r.length cr] 63));have HGM4:=Lh (HGM.o.below hb4);have HX4:=Lh (HXR.o _ hb4);have HB4:=Lh (HB.o.trans (hb4.mono HB.o.size));obtain⟨z,hz⟩:=Xe rs.length;have Gl:=HGM4.o.rules;rw[<-hz] at Gl hr5 q2 hR1;have HZE:=Lh hz;have hB0w:=HGM.o.b0;clear hb4 hz HRW HOW;rw[hrm] at HX4 HN4 HZ4 Gl HB4 HGM4 r1' Cm;go_wp2_with (at_builtin;refine Zz (m:=1) sI rfl rfl rfl rfl Gl (Rd.row (B:=wr.heap.size+1) HN4.o (Ye _)) rfl (by simp[Value.oneCell']) ?h63 ?hby ?hbase ?_)
        case h63=>simp only[maxLen];omega
        case hby=>omega
        case hbase=>first | exact HGM4.o.b0 | omega | (have:=HGM4.o.b0;rw[HZ4.o] at this;exact this)
        intro vR5 w5 Sd aB _ _;obtain⟨A5,c5,hv5,_,_⟩:=Zo Sd;subst hv5;have HBX5:=Lh (Zq Gl aB HGM4.o.box (by decide));have HGM6:=Lh (kS.snoc HGM4.o HX4.o (by rw[<-HZE.o];exact Sd) (by rw[<-HZE.o];exact aB));have HB5:=Lh (Zt HB4.o aB Gl (by have h1:=HGM4.o.lo;have h2:=HSE.o;omega) HB4.o.size);have q5:=(Jb HBX5.o).2.2;have f5:w5.frozen? ⟨S+1,2,none⟩=false:=by simp[World.frozen?,HBX5.o]
        have HB6:=Lh (HB5.o.setCell (p:=⟨S+1,2,none⟩) (by show w.heap.size<=S+1;have:=HSE.o;omega) (.slice A5 (z+1) c5));clear Sd aB Gl q0 q1 q2 r0 r1' r1 c7' HGM HGM4 HX4 HN4;go_wp2_with fail;go_roundw;exact⟨k+1,ts',_,_,_,_,by omega,by go_num,ht6,hr6,HR6.o,HEQ6.o,HTS.o,HGM6.o,HB6.o⟩;simp[intOf];omega
      ·obtain rfl:k=p:=by omega
       have HEQ5:=Lh (show Kz (Jt l) 0 [] [] l=Kz (Jt l) (j+1) ts rs (l.drop (j+1)) by
        rw[HEQ4.o,Xl (by rw[<-HP.o];exact Ya _)];rfl)
       have HR5:=Lh (show rs.length=Da (l.take (j+1)) by rw[HR4.o,HAS.o]);go_wp2_with fail;go_roundw;exact⟨j+1,ts,rs,vT,vR,css,by omega,by go_num,htr,hr4,HR5.o,HEQ5.o,HTS.o,HGM.o,HB.o⟩;simp[intOf];omega
     ·as_aux_lemma =>
      obtain rfl:j=i:=by omega
      have HLR:=Lh (show Kz (Jt l) 0 [] [] l=some (rs,ts) by
       rw[HEQ.o,Xl (by rw[<-HN.o];exact Ya _)];rfl)
      have Ju:=Lh (jC HG.o HND.o HLR.o);rw[<-HN.o] at Ju;obtain⟨AT,cT,hvT,hT1,hT2⟩:=Zo HGM.o.terms;subst hvT;obtain⟨AR,cR,hvR,hR1,hR2⟩:=Zo HGM.o.rules;subst hvR;unfold maxLen at hT2 hR2;have HUN:=Lt (Tn dQ 9 wr wr.heap.size (.slice AN j cN) ((Jt l).map Jp)) (HGM.o.names.more HGM.o.b0);have HUT:=Lh (HGM.o.uT HTS.o);have HUR:=Lh HGM.o.uR;have HSR:=Lh HGM.o.uR.sl;have Em:=Lh HGM.o.box;have pY:=Lh HGM.o.res;obtain⟨t,ht⟩:=Xe ts.length;obtain⟨q,hq⟩:=Xe rs.length;rw[<-ht] at htr hT1 Ju HUT Em;rw[<-hq] at htr hr4 hR1 HUR HSR Em;clear ht hq HGM HEQ L_;obtain⟨q0,q1,q2⟩:=Jb Em.o;by_cases xT:256<j+t
      ·have g1:decide ((256:Int)<(j:Int)+(t:Int))=true:=by simp;omega
       have Rw:=Lt (Jn l=(([],[],[]),19)) (Ju.o.trans (if_pos xT));clear xT;go_wp2_with (refine Zs (some 174) rfl ?_);refine Stop.go ?_;go_wp2_with (refine Zs none rfl ?_);refine Stop.go (Zn rfl 25 rfl rfl rfl (Vk pY.o rfl rfl rfl rfl) ?_);have Dl:=Lh (Zi _ _ _ _ _ _ pY.o:(wr.setRow S [.slice none 0 0,.slice none 0 0,.slice none 0 0].toArray).heap[S]? = _);have Db:=Lh (Zj HB.o (Yi HSE.o.symm) [.slice none 0 0,.slice none 0 0,.slice none 0 0].toArray);generalize wr.setRow S [.slice none 0 0,.slice none 0 0,.slice none 0 0].toArray=wz at *;generalize ha:Act.put _ _ _=z9;simp[Act.put] at ha;subst ha;go_wp2_with fail;refine Ur (g:=S) rfl rfl rfl rfl Dl.o ?_;exact Eg.bad Rw.o Db.o
      ·have g1:decide ((256:Int)<(j:Int)+(t:Int))=false:=by simp;omega
       have kP:=Lh (Ju.o.trans (if_neg xT));clear xT;go_wp2_with fail;refine (jw AR q cR rs wr HSR.o).mono ?_;rintro e w6 ⟨rfl,hb6⟩;have wE:=Lh ((hb6.block S (gl pY.o)).trans pY.o);have qhA:=Lh ((hb6.block (S+1) (gl Em.o)).trans Em.o);have HB6:=Lh (HB.o.trans (hb6.mono HB.o.size));clear q0 q1 q2;by_cases So:rs.Nodup
       ·have qpE:=Lh (show Jn l=((l.map fun x=>x.1,ts.map Jp,rs),0) from kP.o.trans (if_neg (fun e=>e So)));rw[show decide (¬ rs.Nodup)=false from Yw fun e=>e So];obtain⟨q0,q1,q2⟩:=Jb qhA.o;have HN6:=Lh (show Je Nk (w6.setRow S [.slice AN j cN,.slice AT t cT,.slice AR q cR].toArray) (w6.setRow S [.slice AN j cN,.slice AT t cT,.slice AR q cR].toArray).heap.size (.slice AN j cN) (l.map fun x=>x.1) from by
         have h1:=Tn.setRow ((HUN.o.keep (.of_below hb6)).more hb6.size) wE.o (by decide) [.slice AN j cN,.slice AT t cT,.slice AR q cR].toArray
         have e1:(Jt l).map Jp=l.map fun x=>x.1:=by
          unfold Jt
          rw[List.map_map]
          exact List.map_congr_left fun x _=>Dd x.1
         rw[e1] at h1
         exact h1)
        have HT6:=Lh (Tn.setRow ((HUT.o.keep (.of_below hb6)).more hb6.size) wE.o (by decide) [.slice AN j cN,.slice AT t cT,.slice AR q cR].toArray);have HR6:=Lh (Tn.setRow ((HUR.o.keep (.of_below hb6)).more hb6.size) wE.o (by decide) [.slice AN j cN,.slice AT t cT,.slice AR q cR].toArray);have Db:=Lh (Zj HB6.o (Yi HSE.o.symm) [.slice AN j cN,.slice AT t cT,.slice AR q cR].toArray);have HRW:=Lh (Zi _ _ _ _ _ _ wE.o:(w6.setRow S [.slice AN j cN,.slice AT t cT,.slice AR q cR].toArray).heap[S]? = _);clear hb6 So;go_wp2_with (refine Zs none rfl ?_);refine Stop.go (Zn rfl 25 rfl rfl rfl (Vk wE.o rfl rfl rfl rfl) ?_);generalize w6.setRow S [.slice AN j cN,.slice AT t cT,.slice AR q cR].toArray=wz at *;generalize ha:Act.put _ _ _=z9;simp[Act.put] at ha;subst ha;go_wp2_with fail;refine Ur (g:=S) rfl rfl rfl rfl HRW.o ?_;exact Eg.good qpE.o HN6.o HT6.o HR6.o Db.o
       ·have Rw:=Lt (Jn l=(([],[],[]),15)) (kP.o.trans (if_pos So));rw[show decide (¬ rs.Nodup)=true from Yv So];clear hb6 So;go_wp2_with (refine Zs none rfl ?_);refine Stop.go (Zn rfl 25 rfl rfl rfl (Vk wE.o rfl rfl rfl rfl) ?_);have Dl:=Lh (Zi _ _ _ _ _ _ wE.o:(w6.setRow S [.slice none 0 0,.slice none 0 0,.slice none 0 0].toArray).heap[S]? = _);have Db:=Lh (Zj HB6.o (Yi HSE.o.symm) [.slice none 0 0,.slice none 0 0,.slice none 0 0].toArray);generalize w6.setRow S [.slice none 0 0,.slice none 0 0,.slice none 0 0].toArray=wz at *;generalize ha:Act.put _ _ _=z9;simp[Act.put] at ha;subst ha;go_wp2_with fail;refine Ur (g:=S) rfl rfl rfl rfl Dl.o ?_;exact Eg.bad Rw.o Db.o
theorem rB(s:ByteArray)(k:Int)(w:World)(hs:s.size<=maxLen)(ht:dX w) :
  Calls Tryz.prog 4 #[.string s,.int .i64 k] w fun e w'=>e=.returned (.bool true)/\Below w.heap.size w w':=by
 have HT:=Lh ht;have HAW:=Lh (fun(W:World)(hb:Below w.heap.size w W)=>rj W (HT.o.below hb));have iM:=Lh (U_ s w hs);have HLS:=Lh (qoL s.data.toList);have HLZ:=Lh (V_ s.data.toList);have HMK:=Lh (fun(W:World)(hb:Below w.heap.size w W) hf=>tN s k W hs hf (HT.o.below hb));clear ht;unfold maxLen at hs;by_cases ze:2000<s.size
 ·have g0:decide ((2000:Int)<(s.size:Int))=true:=by simp;omega
  have g0':decide (2000<s.size)=true:=by simp;omega
  go_enter Tryz.func4,Tryz.ntmps4;go_wp2_with fail;refine (HAW.o w (Xr _ _)).mono ?_;rintro e w3 ⟨rfl,hb3⟩;go_wp2_with fail;go_ret;exact⟨rfl,hb3⟩
 have g0:decide ((2000:Int)<(s.size:Int))=false:=by simp;omega
 have g0':decide (2000<s.size)=false:=by simp;omega
 obtain⟨l,at',sw,hF⟩:∃ l at' sw,Ms s.data.toList=(l,at',sw):=⟨_,_,_,rfl⟩;obtain⟨g,bad,hR⟩:∃ g bad,Jn l=(g,bad):=⟨_,_,rfl⟩;have HF:=Lh hF;have HR:=Lh hR;unfold Mm at iM;rw[hF] at HLS HLZ iM;simp only at HLS HLZ iM;have Dl:=Lh (fun(W:World)(v:Value)(h:Je sn W W.heap.size v l)=>xG v l W h HLS.o (by have:=HLZ.o.1;omega) (fun x hx=>by have:=(HLZ.o.2 x hx).1;omega));unfold Eg at Dl;rw[hR] at Dl;simp only at Dl;clear hF hR ze HLS HLZ;go_enter Tryz.func4,Tryz.ntmps4;go_wp2_with fail;refine iM.o.mono ?_;rintro e w1 ⟨v5,rfl,Mi,hb1⟩;obtain⟨A5,c5,rfl,_,_⟩:=Mi.form;have HB1:=Lh hb1;have HC:=Lh (Dl.o w1 _ Mi);clear Mi hb1 Dl;generalize l.length=nl at *;go_wp2_with fail;refine HC.o.mono ?_;rintro e w2 ⟨v1,v2,v3,rfl,h1,h2,h3,Ja⟩;obtain⟨A1,c1,rfl,_,_⟩:=h1.form;obtain⟨A2,c2,rfl,h21,h22⟩:=h2.form;obtain⟨A3,c3,rfl,_,_⟩:=h3.form;unfold maxLen at h22;have HB2:=Lh (HB1.o.trans (Ja.mono HB1.o.size));have HGS:=Lt (∀ W,Below w2.heap.size w2 W->nL W W.heap.size (.slice A1 g.1.length c1) (.slice A2 g.2.1.length c2) (.slice A3 g.2.2.length c3) g) (fun W hb=>(nL.mk h1 h2 h3).fut hb (Ya _) hb.size);have HFW:=Lh (fun(W:World)(hb:Below w2.heap.size w2 W)=>qfW _ _ _ g.1 g.2.1 g.2.2 W (HGS.o W hb).names (HGS.o W hb).terms (HGS.o W hb).rules);have nI:=Lh (fun(W:World)(hb:Below w2.heap.size w2 W)(hf:cE g)=>tH _ _ _ g k W hf (HGS.o W hb) (HT.o.below (HB2.o.trans (hb.mono HB2.o.size))));clear h1 h2 h3 Ja HC iM;obtain⟨n,hn⟩:=Xe g.1.length;obtain⟨m,hm⟩:=Xe g.2.1.length;obtain⟨q,hq⟩:=Xe g.2.2.length;simp only[<-hn,<-hm,<-hq] at HFW nI HGS;rw[<-hm] at h21;rw[<-hn,<-hm,<-hq];have HNE:=Lt (m=g.2.1.length) (hm);clear hn hm hq;have hb3:Below w2.heap.size w2 (w2.alloc (.cells #[.slice A1 n c1,.slice A2 m c2,.slice A3 q c3] 25)):=(Xr _ _).alloc (Ya _) _;have iD:=Lh (Xn w2 (.cells #[.slice A1 n c1,.slice A2 m c2,.slice A3 q c3] 25));have HD3:=Lh hb3;have HB3:=Lh (HB2.o.trans (hb3.mono HB2.o.size));obtain⟨G,hG⟩:=Xe w2.heap.size;rw[<-hG] at iD;clear hb3;by_cases hw:sw=0
 ·subst hw;go_wp2_with (refine Zs (some 33) rfl ?_);rw[<-hG];clear hG;refine Stop.go ?_;generalize w2.alloc (.cells #[.slice A1 n c1,.slice A2 m c2,.slice A3 q c3] 25)=w3 at *;have gw:((0:Nat):Int)=0:=rfl;by_cases hbd:bad=0
  ·subst hbd;obtain⟨a0,a1,a2⟩:=Jb iD.o;go_wp2_with fail;refine (HFW.o w3 HD3.o).mono ?_;rintro e w3x ⟨z,rfl,hz,qtM⟩;have iu:=Lh (HB3.o.trans (qtM.mono HB3.o.size));have ziT:=Lh (HD3.o.trans (qtM.mono HD3.o.size));have zbM:=Lh ((qtM.block G (gl iD.o)).trans iD.o);clear qtM a0 a1 a2;obtain⟨a0,a1,a2⟩:=Jb zbM.o;rcases hz with rfl | ⟨rfl,hf1,_,hf3⟩
   ·go_wp2_with fail;refine (HAW.o w3x iu.o).mono ?_;rintro e w9 ⟨rfl,zg⟩;go_wp2_with fail;go_ret;exact⟨rfl,iu.o.trans (zg.mono iu.o.size)⟩
   by_cases hm3:m<=3
   ·have HFG:=Lt (cE g) (⟨hf1,by rw[<-HNE.o];exact hm3,hf3⟩);have hd:decide ((3:Int)<m)=false:=by simp;omega
    have jQ:decide (3<m)=false:=by simp;omega
    clear hf1 hf3;go_wp2_with fail;clear a0 a1 a2;refine (HMK.o w3x iu.o (tM HF.o HR.o (fun _ _=>HFG.o))).mono ?_;rintro e w4 ⟨u1,u2,u3,ur,um,uc,v,cl,nn,er,hmv,rfl,sj,Oa,hb4⟩;obtain⟨B1,B2,B3,B4,B5,d1,d2,d3,d4,d5,rfl,rfl,rfl,rfl,rfl⟩:=sj.form;obtain⟨B6,d6,rfl,_,_⟩:=Oa.form;have HB4:=Lh (iu.o.trans (hb4.mono iu.o.size));have HD4:=Lh (ziT.o.trans (hb4.mono ziT.o.size));have HG4:=Lh ((hb4.block G (gl zbM.o)).trans zbM.o);have HV:=Lh (fun(W:World)(hb:Below w4.heap.size w4 W)=>sj.fut hb (Ya _) hb.size);have HC:=Lh (fun(W:World)(hb:Below w4.heap.size w4 W)=>Oa.fut hb (Ya _) hb.size);have HMV:=Lh hmv;clear sj Oa hmv hb4;unfold Im;have iK:=Lh (fun(W:World)(hb:Below w4.heap.size w4 W)(u:Ng)(u1 u2 u3 ur um:Value)(hu:Gh W W.heap.size u1 u2 u3 ur um u)=>In _ _ _ _ _ u1 u2 u3 ur um v u W (HV.o W hb) hu);have hb5:Below w4.heap.size w4 (w4.alloc (.cells #[.slice B1 v.1.1.length d1,.slice B2 v.1.2.1.length d2,.slice B3 v.1.2.2.length d3,.int .i64 v.2.1,.slice B4 v.2.2.1.length d4,.slice B5 v.2.2.2.length d5] 31)):=(Xr _ _).alloc (Ya _) _;have HX5:=Lh (Xn w4 (.cells #[.slice B1 v.1.1.length d1,.slice B2 v.1.2.1.length d2,.slice B3 v.1.2.2.length d3,.int .i64 v.2.1,.slice B4 v.2.2.1.length d4,.slice B5 v.2.2.2.length d5] 31));have HD5:=Lh hb5;have HB5:=Lh (HB4.o.trans (hb5.mono HB4.o.size));have HE5:=Lh (HD4.o.trans (hb5.mono HD4.o.size));have HG5:=Lh ((hb5.block G (gl HG4.o)).trans HG4.o);obtain⟨X,hX⟩:=Xe w4.heap.size;rw[<-hX] at HX5;clear hb5;go_wp2_with (refine Zs (some 59) rfl ?_);rw[<-hX];clear hX;refine Stop.go ?_;generalize w4.alloc (.cells #[.slice B1 v.1.1.length d1,.slice B2 v.1.2.1.length d2,.slice B3 v.1.2.2.length d3,.int .i64 v.2.1,.slice B4 v.2.2.1.length d4,.slice B5 v.2.2.2.length d5] 31)=w5 at *;by_cases hk:1<=k/\k<=4
    ·have Iu:decide (k<1)=false:=by simp;omega
     have iH:decide (4<k)=false:=by simp;omega
     obtain⟨e1,hov⟩:=qkS HMV.o HF.o HR.o hk;subst e1;have HOV:=Lh hov;clear hov;obtain⟨a0,a1,a2⟩:=Jb HG5.o;go_wp2_with fail;refine (nI.o w5 HE5.o HFG.o).mono ?_;rintro e w6 ⟨y1,y2,y3,yr,ym,yc,u,cl2,er2,zeU,rfl,sk,hb6⟩;obtain⟨e1,e2,e3⟩:=y_ HFG.o.2.1 HOV.o zeU;subst e1 e2 e3;have HB6:=Lh (HB5.o.trans (hb6.mono HB5.o.size));have HX6:=Lh ((hb6.block X (gl HX5.o)).trans HX5.o);have HD6:=Lh (HD5.o.trans (hb6.mono HD5.o.size));obtain⟨hv6,hc6⟩:=sk w6 fun _ _ _=>rfl;obtain⟨E1,E2,E3,E4,E5,f1,f2,f3,f4,f5,rfl,rfl,rfl,rfl,rfl⟩:=hv6.form;obtain⟨E6,f6,rfl,_,_⟩:=hc6.form;have HU:=Lh (fun(W:World)(hb:Below w6.heap.size w6 W)=>hv6.fut hb (Ya _) hb.size);have HUC:=Lh (fun(W:World)(hb:Below w6.heap.size w6 W)=>hc6.fut hb (Ya _) hb.size);clear sk hb6 hv6 hc6 zeU a0 a1 a2;unfold Im;have Ae:Below w6.heap.size w6 (w6.alloc (.cells #[.slice E1 v.1.1.length f1,.slice E2 v.1.2.1.length f2,.slice E3 v.1.2.2.length f3,.int .i64 v.2.1,.slice E4 v.2.2.1.length f4,.slice E5 v.2.2.2.length f5] 31)):=(Xr _ _).alloc (Ya _) _;have HY7:=Lh (Xn w6 (.cells #[.slice E1 v.1.1.length f1,.slice E2 v.1.2.1.length f2,.slice E3 v.1.2.2.length f3,.int .i64 v.2.1,.slice E4 v.2.2.1.length f4,.slice E5 v.2.2.2.length f5] 31));have HU7:=Lh Ae;have HB7:=Lh (HB6.o.trans (Ae.mono HB6.o.size));have HD7:=Lh (HD6.o.trans (Ae.mono HD6.o.size));have HX7:=Lh ((Ae.block X (gl HX6.o)).trans HX6.o);obtain⟨Y,hY⟩:=Xe w6.heap.size;rw[<-hY] at HY7;clear Ae;have HCL:=Lh (fun(W:World)(hb:Below w6.heap.size w6 W)=>qp _ _ cl cl W (HC.o W (HD6.o.trans (hb.mono HD6.o.size))) (HUC.o W hb));obtain⟨ncl,qyP⟩:=Xe cl.length;simp only[<-qyP,decide_true] at HCL;rw[<-qyP];clear qyP;have HS7:=iK.o _ HD7.o v _ _ _ _ _ (HU.o _ HU7.o);rw[Yv (rfl:v=v)] at HS7;replace HS7:=Lh HS7;go_wp2_with (refine Zs (some 135) rfl ?_);rw[<-hY];clear hY;refine Stop.go ?_;generalize w6.alloc (.cells #[.slice E1 v.1.1.length f1,.slice E2 v.1.2.1.length f2,.slice E3 v.1.2.2.length f3,.int .i64 v.2.1,.slice E4 v.2.2.1.length f4,.slice E5 v.2.2.2.length f5] 31)=w7 at *;obtain⟨x0,x1,x2,x3,x4,x5⟩:=Zp HX7.o;obtain⟨z0,z1,z2,z3,z4,z5⟩:=Zp HY7.o;have hee:(er==er)=true:=by simp
     go_wp2_with fail;refine HS7.o.mono ?_;rintro e w8 ⟨rfl,hb8⟩;have HB8:=Lh (HB7.o.trans (hb8.mono HB7.o.size));have HU8:=Lh (HU7.o.trans (hb8.mono HU7.o.size));clear hb8;go_wp2_with fail;refine (HCL.o w8 HU8.o).mono ?_;rintro e w8b ⟨rfl,hb8⟩;have zbS:=Lh (HB8.o.trans (hb8.mono HB8.o.size));clear hb8;go_wp2_with fail;refine (HAW.o w8b zbS.o).mono ?_;rintro e w9 ⟨rfl,zg⟩;go_wp2_with fail;go_ret;exact⟨rfl,zbS.o.trans (zg.mono zbS.o.size)⟩
    ·obtain⟨e1,e2,e3,e4⟩:=dw HMV.o hk;subst e1 e2 e3 e4;by_cases Iu:k<1
     ·have jR:decide (k<1)=true:=by simpa using Iu
      obtain⟨x0,x1,x2,x3,x4,x5⟩:=Zp HX5.o;go_wp2_with fail;refine (iK.o w5 HD5.o Wa _ _ _ _ _ Gh.zero).mono ?_;rintro e w6 ⟨rfl,hb6⟩;have HB6:=Lh (HB5.o.trans (hb6.mono HB5.o.size));clear hb6;rw[Yv (rfl:Wa=Wa)];go_wp2_with fail;refine (HAW.o w6 HB6.o).mono ?_;rintro e w7 ⟨rfl,Ae⟩;go_wp2_with fail;go_ret;exact⟨rfl,HB6.o.trans (Ae.mono HB6.o.size)⟩
     ·have jR:decide (k<1)=false:=by simpa using Iu
      have jQ:decide (4<k)=true:=by simp;omega
      obtain⟨x0,x1,x2,x3,x4,x5⟩:=Zp HX5.o;go_wp2_with fail;refine (iK.o w5 HD5.o Wa _ _ _ _ _ Gh.zero).mono ?_;rintro e w6 ⟨rfl,hb6⟩;have HB6:=Lh (HB5.o.trans (hb6.mono HB5.o.size));clear hb6;rw[Yv (rfl:Wa=Wa)];go_wp2_with fail;refine (HAW.o w6 HB6.o).mono ?_;rintro e w7 ⟨rfl,Ae⟩;go_wp2_with fail;go_ret;exact⟨rfl,HB6.o.trans (Ae.mono HB6.o.size)⟩
   ·have hd:decide ((3:Int)<m)=true:=by simp;omega
    have jQ:decide (3<m)=true:=by simp;omega
    go_wp2_with fail;refine (HAW.o w3x iu.o).mono ?_;rintro e w9 ⟨rfl,zg⟩;go_wp2_with fail;go_ret;exact⟨rfl,iu.o.trans (zg.mono iu.o.size)⟩
  ·have gb:((bad:Int)==0)=false:=by rw[Yo];omega
   have gb2:((bad:Int) != 0)=true:=by rw[Yu];omega
   have HBD:=Lh hbd;clear hbd;go_wp2_with fail;refine (HMK.o w3 HB3.o (tM HF.o HR.o (fun _ h=>absurd h HBD.o))).mono ?_;rintro e w4 ⟨u1,u2,u3,ur,um,uc,v,cl,nn,er,hmv,rfl,sj,Oa,hb4⟩;obtain⟨B1,B2,B3,B4,B5,d1,d2,d3,d4,d5,rfl,rfl,rfl,rfl,rfl⟩:=sj.form;obtain⟨B6,d6,rfl,_,_⟩:=Oa.form;have HB4:=Lh (HB3.o.trans (hb4.mono HB3.o.size));have HD4:=Lh (HD3.o.trans (hb4.mono HD3.o.size));have HG4:=Lh ((hb4.block G (gl iD.o)).trans iD.o);have HV:=Lh (fun(W:World)(hb:Below w4.heap.size w4 W)=>sj.fut hb (Ya _) hb.size);have HC:=Lh (fun(W:World)(hb:Below w4.heap.size w4 W)=>Oa.fut hb (Ya _) hb.size);have HMV:=Lh hmv;clear sj Oa hmv hb4;unfold Im;have iK:=Lh (fun(W:World)(hb:Below w4.heap.size w4 W)(u:Ng)(u1 u2 u3 ur um:Value)(hu:Gh W W.heap.size u1 u2 u3 ur um u)=>In _ _ _ _ _ u1 u2 u3 ur um v u W (HV.o W hb) hu);have hb5:Below w4.heap.size w4 (w4.alloc (.cells #[.slice B1 v.1.1.length d1,.slice B2 v.1.2.1.length d2,.slice B3 v.1.2.2.length d3,.int .i64 v.2.1,.slice B4 v.2.2.1.length d4,.slice B5 v.2.2.2.length d5] 31)):=(Xr _ _).alloc (Ya _) _;have HX5:=Lh (Xn w4 (.cells #[.slice B1 v.1.1.length d1,.slice B2 v.1.2.1.length d2,.slice B3 v.1.2.2.length d3,.int .i64 v.2.1,.slice B4 v.2.2.1.length d4,.slice B5 v.2.2.2.length d5] 31));have HD5:=Lh hb5;have HB5:=Lh (HB4.o.trans (hb5.mono HB4.o.size));have HE5:=Lh (HD4.o.trans (hb5.mono HD4.o.size));have HG5:=Lh ((hb5.block G (gl HG4.o)).trans HG4.o);obtain⟨X,hX⟩:=Xe w4.heap.size;rw[<-hX] at HX5;clear hb5;go_wp2_with (refine Zs (some 59) rfl ?_);rw[<-hX];clear hX;refine Stop.go ?_;generalize w4.alloc (.cells #[.slice B1 v.1.1.length d1,.slice B2 v.1.2.1.length d2,.slice B3 v.1.2.2.length d3,.int .i64 v.2.1,.slice B4 v.2.2.1.length d4,.slice B5 v.2.2.2.length d5] 31)=w5 at *;by_cases hk:1<=k/\k<=4
   ·have Iu:decide (k<1)=false:=by simp;omega
    have iH:decide (4<k)=false:=by simp;omega
    obtain⟨e1,e2,e3,e4⟩:=qdL HMV.o HF.o HR.o HBD.o hk;subst e1 e2 e3 e4;obtain⟨x0,x1,x2,x3,x4,x5⟩:=Zp HX5.o;go_wp2_with fail;refine (iK.o w5 HD5.o Wa _ _ _ _ _ Gh.zero).mono ?_;rintro e w6 ⟨rfl,hb6⟩;have HB6:=Lh (HB5.o.trans (hb6.mono HB5.o.size));clear hb6;rw[Yv (rfl:Wa=Wa)];go_wp2_with fail;refine (HAW.o w6 HB6.o).mono ?_;rintro e w7 ⟨rfl,Ae⟩;go_wp2_with fail;go_ret;exact⟨rfl,HB6.o.trans (Ae.mono HB6.o.size)⟩
   ·obtain⟨e1,e2,e3,e4⟩:=dw HMV.o hk;subst e1 e2 e3 e4;by_cases Iu:k<1
    ·have jR:decide (k<1)=true:=by simpa using Iu
     obtain⟨x0,x1,x2,x3,x4,x5⟩:=Zp HX5.o;go_wp2_with fail;refine (iK.o w5 HD5.o Wa _ _ _ _ _ Gh.zero).mono ?_;rintro e w6 ⟨rfl,hb6⟩;have HB6:=Lh (HB5.o.trans (hb6.mono HB5.o.size));clear hb6;rw[Yv (rfl:Wa=Wa)];go_wp2_with fail;refine (HAW.o w6 HB6.o).mono ?_;rintro e w7 ⟨rfl,Ae⟩;go_wp2_with fail;go_ret;exact⟨rfl,HB6.o.trans (Ae.mono HB6.o.size)⟩
    ·have jR:decide (k<1)=false:=by simpa using Iu
     have jQ:decide (4<k)=true:=by simp;omega
     obtain⟨x0,x1,x2,x3,x4,x5⟩:=Zp HX5.o;go_wp2_with fail;refine (iK.o w5 HD5.o Wa _ _ _ _ _ Gh.zero).mono ?_;rintro e w6 ⟨rfl,hb6⟩;have HB6:=Lh (HB5.o.trans (hb6.mono HB5.o.size));clear hb6;rw[Yv (rfl:Wa=Wa)];go_wp2_with fail;refine (HAW.o w6 HB6.o).mono ?_;rintro e w7 ⟨rfl,Ae⟩;go_wp2_with fail;go_ret;exact⟨rfl,HB6.o.trans (Ae.mono HB6.o.size)⟩
 ·go_wp2_with (refine Zs (some 33) rfl ?_);rw[<-hG];clear hG;refine Stop.go ?_;generalize w2.alloc (.cells #[.slice A1 n c1,.slice A2 m c2,.slice A3 q c3] 25)=w3 at *;have gw:((sw:Int)==0)=false:=by rw[Yo];omega
  have gw2:((sw:Int) != 0)=true:=by rw[Yu];omega
  have HW:=Lh hw;clear hw;go_wp2_with fail;refine (HMK.o w3 HB3.o (tM HF.o HR.o (fun h=>absurd h HW.o))).mono ?_;rintro e w4 ⟨u1,u2,u3,ur,um,uc,v,cl,nn,er,hmv,rfl,sj,Oa,hb4⟩;obtain⟨B1,B2,B3,B4,B5,d1,d2,d3,d4,d5,rfl,rfl,rfl,rfl,rfl⟩:=sj.form;obtain⟨B6,d6,rfl,_,_⟩:=Oa.form;have HB4:=Lh (HB3.o.trans (hb4.mono HB3.o.size));have HD4:=Lh (HD3.o.trans (hb4.mono HD3.o.size));have HG4:=Lh ((hb4.block G (gl iD.o)).trans iD.o);have HV:=Lh (fun(W:World)(hb:Below w4.heap.size w4 W)=>sj.fut hb (Ya _) hb.size);have HC:=Lh (fun(W:World)(hb:Below w4.heap.size w4 W)=>Oa.fut hb (Ya _) hb.size);have HMV:=Lh hmv;clear sj Oa hmv hb4;unfold Im;have iK:=Lh (fun(W:World)(hb:Below w4.heap.size w4 W)(u:Ng)(u1 u2 u3 ur um:Value)(hu:Gh W W.heap.size u1 u2 u3 ur um u)=>In _ _ _ _ _ u1 u2 u3 ur um v u W (HV.o W hb) hu);have hb5:Below w4.heap.size w4 (w4.alloc (.cells #[.slice B1 v.1.1.length d1,.slice B2 v.1.2.1.length d2,.slice B3 v.1.2.2.length d3,.int .i64 v.2.1,.slice B4 v.2.2.1.length d4,.slice B5 v.2.2.2.length d5] 31)):=(Xr _ _).alloc (Ya _) _;have HX5:=Lh (Xn w4 (.cells #[.slice B1 v.1.1.length d1,.slice B2 v.1.2.1.length d2,.slice B3 v.1.2.2.length d3,.int .i64 v.2.1,.slice B4 v.2.2.1.length d4,.slice B5 v.2.2.2.length d5] 31));have HD5:=Lh hb5;have HB5:=Lh (HB4.o.trans (hb5.mono HB4.o.size));have HE5:=Lh (HD4.o.trans (hb5.mono HD4.o.size));have HG5:=Lh ((hb5.block G (gl HG4.o)).trans HG4.o);obtain⟨X,hX⟩:=Xe w4.heap.size;rw[<-hX] at HX5;clear hb5;go_wp2_with (refine Zs (some 59) rfl ?_);rw[<-hX];clear hX;refine Stop.go ?_;generalize w4.alloc (.cells #[.slice B1 v.1.1.length d1,.slice B2 v.1.2.1.length d2,.slice B3 v.1.2.2.length d3,.int .i64 v.2.1,.slice B4 v.2.2.1.length d4,.slice B5 v.2.2.2.length d5] 31)=w5 at *;by_cases hk:1<=k/\k<=4
  ·have Iu:decide (k<1)=false:=by simp;omega
   have iH:decide (4<k)=false:=by simp;omega
   obtain⟨e1,e2,e3,e4⟩:=qdK HMV.o HF.o HW.o hk;subst e1 e2 e3 e4;obtain⟨x0,x1,x2,x3,x4,x5⟩:=Zp HX5.o;go_wp2_with fail;refine (iK.o w5 HD5.o Wa _ _ _ _ _ Gh.zero).mono ?_;rintro e w6 ⟨rfl,hb6⟩;have HB6:=Lh (HB5.o.trans (hb6.mono HB5.o.size));clear hb6;rw[Yv (rfl:Wa=Wa)];go_wp2_with fail;refine (HAW.o w6 HB6.o).mono ?_;rintro e w7 ⟨rfl,Ae⟩;go_wp2_with fail;go_ret;exact⟨rfl,HB6.o.trans (Ae.mono HB6.o.size)⟩
  ·obtain⟨e1,e2,e3,e4⟩:=dw HMV.o hk;subst e1 e2 e3 e4;by_cases Iu:k<1
   ·have jR:decide (k<1)=true:=by simpa using Iu
    obtain⟨x0,x1,x2,x3,x4,x5⟩:=Zp HX5.o;go_wp2_with fail;refine (iK.o w5 HD5.o Wa _ _ _ _ _ Gh.zero).mono ?_;rintro e w6 ⟨rfl,hb6⟩;have HB6:=Lh (HB5.o.trans (hb6.mono HB5.o.size));clear hb6;rw[Yv (rfl:Wa=Wa)];go_wp2_with fail;refine (HAW.o w6 HB6.o).mono ?_;rintro e w7 ⟨rfl,Ae⟩;go_wp2_with fail;go_ret;exact⟨rfl,HB6.o.trans (Ae.mono HB6.o.size)⟩
   ·have jR:decide (k<1)=false:=by simpa using Iu
    have jQ:decide (4<k)=true:=by simp;omega
    obtain⟨x0,x1,x2,x3,x4,x5⟩:=Zp HX5.o;go_wp2_with fail;refine (iK.o w5 HD5.o Wa _ _ _ _ _ Gh.zero).mono ?_;rintro e w6 ⟨rfl,hb6⟩;have HB6:=Lh (HB5.o.trans (hb6.mono HB5.o.size));clear hb6;rw[Yv (rfl:Wa=Wa)];go_wp2_with fail;refine (HAW.o w6 HB6.o).mono ?_;rintro e w7 ⟨rfl,Ae⟩;go_wp2_with fail;go_ret;exact⟨rfl,HB6.o.trans (Ae.mono HB6.o.size)⟩
open Go.ChangeMaps (open_string)
open Go.ChangeShapes Go.WideShapes Go.ChangeAt Go.RowKit
theorem own:ownKnob Tryz.prog.godebug=none:=by kernel_rfl
theorem qsN:laidOutB Tryz.prog=true:=by kernel_rfl
section
variable {H:Type} {enc:TypeId×Value->H}
end
abbrev vu:List (String×DataW Unit):=Rows.valueOfRow.laid
theorem zqT : Tryz.prog.globalNamed "internal/strconv.uint64pow10" = some 1 := by kernel_rfl
theorem qmX:(Tryz.prog.globals[1]?).map (·.type)=some 327:=by kernel_rfl
theorem qnR:Tryz.prog.cellsOf 327=20:=by kernel_rfl
theorem qnQ:Tryz.prog.cellsOf 201=1:=by kernel_rfl
theorem qrG{W:World}(h:laidMetH Tryz.prog vu W):dX W:=by
 have h0:laidMet Tryz.prog vu W:=h;exact Lib.tabIs_of_head zqT qmX Tryz.underlying327 Tryz.underlying201 qnQ qnR h0.tail.tail
def zdI:Array Value:=(#[0,1,28,2,29,14,24,3,30,22,20,15,25,17,4,8,31,27,13,23,21,19,16,7,26,12,18,6,11,5,10,9]:Array Int).map fun z=>.int .u8 z
def zdH:Array Value:=(#[0,1,56,2,57,49,28,3,61,58,42,50,38,29,17,4,62,47,59,36,45,43,51,22,53,39,33,30,24,18,12,5,63,55,48,27,60,41,37,16,46,35,44,21,52,32,23,11,54,26,40,15,34,20,31,10,25,14,19,9,13,8,7,6]:Array Int).map fun z=>.int .u8 z
def qxP:Array Value:=(#[1,10,100,1000,10000,100000,1000000,10000000,100000000,1000000000,10000000000,100000000000,1000000000000,10000000000000,100000000000000,1000000000000000,10000000000000000,100000000000000000,1000000000000000000,10000000000000000000]:Array Int).map fun z=>.int .u64 z
def qjU(cs:Array Value):Obj->Obj
 |.cells _ t frozen=>.cells cs t frozen
 |o=>o
noncomputable def mH(os:Os):World :=
 let w0:=World.holding Tryz.prog os ⟨#[],#[],[]⟩
 { w0 with heap:=((w0.heap.modify 2 (qjU zdI)).modify 3 (qjU zdH)).modify 1 (qjU qxP) }
theorem xb(os:Os)(args:Array Value):laidMet Tryz.prog vu ((mH os).forCall (fun _ _=>0) ⟨#[],args,[]⟩).memory :=
 laidMet_of_run' 8 (by kernel_rfl) (by kernel_rfl)
end Go.Proofs.YtmaojnmnbpomeaaGreatDoor
