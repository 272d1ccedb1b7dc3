/- A part. -/
import Derived.Test.YtmaojnmnbpomeaaGreatDoorVO13
set_option maxRecDepth 100000
set_option maxHeartbeats 64000000
namespace Go.Proofs.YtmaojnmnbpomeaaGreatDoor
open Go.RowKit
theorem qmN:Ev Tryz.prog 61 3 1 8 (.int .i64 0):=Sv Tryz.underlying61 (by kernel_rfl) rfl (by omega)
theorem qdN:Ev Tryz.prog 64 118 2 32 (.agg #[.int .i64 0,.slice none 0 0]):=Sv (by kernel_rfl) (by kernel_rfl) rfl (by omega)
theorem aZ:Rv Tryz.prog 143 3 3 (Value.int .i64):=qfJ (by kernel_rfl) (by kernel_rfl)
def zcE(m:Kf)(w:World)(e:Ending)(w':World):Prop:=∃ vm,e=.returned vm/\(∀ w'':World,(∀ b,w.heap.size<=b->b<w'.heap.size->w''.heap[b]? = w'.heap[b]?)->Jb Jn w'' w''.heap.size vm (Nz m))/\Below w.heap.size w w'
theorem iX(v:Value)(m:v_)(w:World)(hv:Jb Jn w w.heap.size v m)(hl:m.length<=2199023255552)(he:∀ k<m.length,(Md m k).length<=2199023255552)(ht:dR w) :
  Calls Tryz.prog 45 #[v] w (zcE m w):=by
 have HR:=Lh (eG v m w hv);obtain⟨A,c,rfl,-,-⟩:=hv.form;have hc1:=hv.n_le;have HV:=Lh hv;have HE:=Lh he;have HT:=Lh ht;clear hv he ht;by_cases oE:Uj m 9223372036854775807=true
 ·rw[oE] at HR;have HVD:=Lh oE;have HG:=Lh (Ft oE);clear oE;obtain⟨n,hn⟩:=Xe m.length;have HN:=Lh hn;rw[<-hn] at hc1 HV hl HE HR |-;clear hn;have Dh:0<n:=by rw[HN.o];exact Qy.2 HG.o.some
  go_enter Tryz.func45,Tryz.ntmps45;go_wp2_with fail;refine HR.o.mono ?_;rintro e w1 ⟨rfl,hb1⟩;have HB1:=Lh hb1;have HU:=Lh (uz (.slice A m.length c) m w1 (by have:=HV.o.fut hb1 (Xz _) hb1.size;rwa [HN.o] at this) HVD.o (by rw[<-HN.o];exact hl));rw[<-HN.o] at HU;clear hb1 HR;go_wp2_with fail;refine HU.o.mono ?_;rintro e w2 ⟨x,rfl,hx,jz,Zy⟩;have HX:=Lh hx;have HB2:=Lh (HB1.o.trans (Zy.mono HB1.o.size));have c0:=(hx.at_ (k:=0) (by rw[Cf];exact Dh)).1;rw[At,Yt Dh,Bool.true_and] at c0;clear hx Zy HU HB1;obtain⟨b,hb⟩:=Xe (Kb m 0);rw[<-hb] at c0;have jh:=Lh hb;clear hb;cases b
  ·have HM:Hid (Nz m=[(-1,[])]):=by
    show _=_;unfold Nz;rw[if_pos HVD.o,<-jh.o];rfl
   go_wp2_with fail;go_ret;refine⟨_,rfl,fun w'' hw=>?_,HB2.o.alloc HB2.o.size _⟩;have hO:qyO w'' w2.heap.size w2.heap.size (List.replicate 1 (-1,.slice none 0 0)) (List.replicate 1 []):=Ob.mk0 ((hw _ HB2.o.size (by rw[Xs];omega)).trans (Xn w2 _));have hs:=hO.sl Jn Gg rfl rfl (c:=1) (by simp) (by simp[maxLen]) (fun r hr=>by simp at hr;subst hr;omega) (fun l hl e he=>by simp at hl;subst hl;simp at he);rw[HM.o];exact hs
  ·have HC:=Lh (rp A c x m w2 (by have:=HV.o.fut HB2.o (Xz _) HB2.o.size;rwa [HN.o] at this) (by rw[<-HN.o];exact HX.o) HVD.o (by rw[<-HN.o];exact hl) (by rw[<-HN.o];exact HE.o) (HT.o.below HB2.o));rw[<-HN.o] at HC;go_wp2_with fail;refine HC.o.mono ?_;rintro e w3 ⟨y,cl,rfl,hy,hyl,hb3,hcb,hca⟩;have HY:=Lh hy;have HB3:=Lh (HB2.o.trans (hb3.mono HB2.o.size));have HX3:=Lt (Ko w3 x (Iy n (Kb m))) ((hb3.block x (gl HX.o)).trans HX.o);have HCA:=Lh hca;have hyw:y<w3.heap.size:=(gl hy);have c1:=(hy.at_ Dh).1;have pu:=@run_makeMap Tryz.prog;obtain⟨W1,gZ,jF,Cp,Ea⟩:=(Uo.made (κ:=Value.int .i64) w3).update aZ (cl 0) (.int .i64 0);have HM1:=Lh jF;have HG1:=Lh Cp;have HS1:=Lh Ea;clear hy hb3 hcb hca HX HB2 HC jF Cp Ea c0;go_wp2_with fail;have HMK:=Lt (MkI w3 (W1.alloc (.cells #[.int .i64 0] 3)) w3.heap.size cl [0] (.slice (some ⟨W1.heap.size,0,none⟩) 1 1) (.slice none 0 0) [] []) (by
    have hB1:Below w3.heap.size w3 W1:=((Xr w3.heap.size w3).alloc (Xz _) (.map #[] 0)).grown HG1.o (by rw[Xs];omega) (fun k e=>by injection e with e;omega)
    have hz:w3.heap.size<W1.heap.size:=by rw[HS1.o,Xs];omega
    refine⟨⟨_,HM1.o.alloc _,fun z=>?_⟩,⟨rfl,.inr ⟨_,1,_,rfl,by omega,Xn W1 _,by decide,by decide,rfl,rfl⟩⟩,⟨rfl,Yx _ _ _ _,fun i r l hr=>by simp at hr⟩,hB1.alloc (by omega) _,Xz _⟩
    rw[Ps]
    by_cases hz:z=cl 0
    ·subst hz
     simp[List.findIdx?_cons]
    ·have:¬ cl 0=z:=fun e=>hz e.symm
     rw[if_neg hz]
     simp[List.findIdx?_cons,this,Ni])
   generalize W1.alloc (.cells #[.int .i64 0] 3)=wq at *;generalize hv6:(Value.slice (some ⟨W1.heap.size,0,none⟩) 1 1)=v6 at *;clear hv6 gZ HG1 HS1 HM1 c1;obtain⟨g,hg⟩:=Xe w3.heap.size;have HMK':=Lt (MkI w3 wq g cl [0] v6 (.slice none 0 0) [] []) (hg ▸ HMK.o);rw[<-hg];clear hg HMK;have h0:Kb m 0=true:=jh.o.symm;have HQU:=Lh (cp HG.o h0);have HFQ:=Lh (fun(n x:Nat)(h:(Ww m n).1[n]? = some x)(k:Nat)=>oO HG.o h0 h k);have HFN:=Lh (fun(n x:Nat)(h:(Ww m n).1[n]? = some x)(hx:x<m.length)=>bm HG.o h0 h hx);clear h0;go_loopw [8,6,7] (fun v8 v6 v7 wr=>∃(i:Nat)(q:List Nat)(rs:List (Int×Value))(es:List (List (Int×Int))),v8=.int .i64 i/\i<=q.length/\q.length<=n/\Hid (q=(Ww m i).1)/\Hid (rs.length=i)/\Hid ((rs.zip es).map (fun p=>(p.1.1,p.2))=(Ww m i).2) /\
    Hid (∀ r∈rs,-9223372036854775808<=r.1/\r.1<=9223372036854775807)/\Hid (∀ l∈es,∀ e∈l,(-9223372036854775808<=e.1/\e.1<=9223372036854775807)/\-9223372036854775808<=e.2/\e.2<=9223372036854775807)/\Hid (MkI w3 wr g cl q v6 v7 rs es)) (fun v8 _ _ _=>n+1 - (intOf v8).toNat)
   exact⟨0,[0],[],[],rfl,by simp,by simp;omega,rfl,rfl,rfl,fun r hr=>by simp at hr,fun l hl=>by simp at hl,HMK'.o⟩;clear HMK';obtain⟨i,q,rs,es,rfl,hi,hqn,HQ,HRL,HZ,HB1,HB2,HK⟩:=hrel;obtain⟨A6,c6,rfl,Tc,fY⟩:=Zk HK.o.que;obtain⟨A7,c7,rfl,hl7,hl8⟩:=Zk HK.o.o.row;unfold maxLen at fY hl8;by_cases Jo:i<q.length
   ·obtain⟨g6,zuO,hv6⟩:=zM HK.o.que (by omega);injection hv6 with e1 e2 e3;subst e1;clear e2 e3 zuO;obtain⟨xq,hxq⟩:∃ xq,q[i]? = some xq:=⟨_,Qa Jo⟩;have cq:wr.cell? ⟨g6,i,none⟩=some (.int .i64 xq):=by
     rw[(HK.o.que).cellAt (g:=g6) (cap:=c6) i (by omega)];unfold fM;rw[Qv,hxq];rfl
    have HXQ:=Lh (show (Ww m i).1[i]? = some xq by rw[<-HQ.o];exact hxq);have hxn:xq<n:=by
     have h:=((HQU.o i).1 xq (Qp HXQ.o)).1;rw[HN.o];exact h
    have hxm:xq<m.length:=by rw[<-HN.o];exact hxn
    have HBW:=Lh (HB3.o.trans (HK.o.bel.mono HB3.o.size));obtain⟨b1,o1,cs,rfl,-,hb1,Zt,Zj⟩:=(HV.o.below HBW.o).get hxm (by decide);obtain⟨u0,rfl,hu,Sr,Fn⟩:=Mi Zt;obtain⟨A4,e4,rfl,oM,oL⟩:=hu.form;unfold maxLen at oL;have d0:=Zj 0 _ rfl;have d1:=Zj 1 _ rfl;clear Zj Zt;simp only[show Jn.size=2 from rfl,Yo,<-Yv] at d0 d1;have wR:=Lh (Al hxm);have HOU:=Lh (Bq hxm);have HEL:=Lh (HE.o xq hxn);have HTO:=Lh (HG.o.tos xq hxm);have HU:=Lt (Jb Gg w w.heap.size (.slice A4 (m[xq]).2.length e4) (m[xq]).2) (hu.keep fun p hp=>(HBW.o.cell hp).symm);obtain⟨s,hs⟩:=Xe (m[xq]);rw[<-hs] at d0 d1 wR HOU HU oM Sr Fn;clear hs hu;obtain⟨so,se⟩:=s;simp only at d0 d1 oM Sr Fn HU wR HOU;obtain⟨qe,hqe⟩:=Xe se.length;have HQE:=Lh hqe;rw[<-hqe] at d1 oM HU;clear hqe;have HK2:=Lh ((HK.o.alloc (.cells #[.int .i64 so,.slice A4 qe e4] 118)).open_ so);have bh:(wr.alloc (.cells #[.int .i64 so,.slice A4 qe e4] 118)).heap.size=wr.heap.size+1:=Xs ..;rw[bh] at HK2;clear bh;go_wp2_with fail;generalize (wr.alloc (.cells #[.int .i64 so,.slice A4 qe e4] 118)).alloc (.cells #[.int .i64 so,.slice none 0 0] 118)=wa at *;generalize wr.heap.size+1=kQ at *;go_loopw [54,6] (fun v54 v6 wt=>∃(k:Nat)(q2:List Nat)(l:List (Int×Int))(u:Value),v54=.int .i64 k/\k<=qe/\Hid (Eu m xq (Ww m i).1 k=(q2,l))/\Hid (jr w3 wt g kQ cl q2 q2 v6 (.slice A7 rs.length c7) rs es so u l)) (fun v54 _ _=>qe - (intOf v54).toNat);exact⟨0,q,[],.slice none 0 0,rfl,by omega,(uE m xq _).trans (by rw[HQ.o]),HK2.o⟩;clear HK2 HK cq d0 d1;obtain⟨k,q2,l,u,rfl,hk,HF,HK⟩:=hrel;obtain⟨A9,c9,rfl,hl5',zrY⟩:=Zk HK.o.que;obtain⟨Au,cu,rfl,hlu,zrS⟩:=Zk HK.o.uo;unfold maxLen at zrY zrS;have HQ2:=Lh (HFQ.o i xq HXQ.o k);rw[HF.o,<-HN.o] at HQ2;have hq2n:q2.length<=n:=HQ2.o.2;have hlk2:l.length<=k:=by
     have h:=qhG m xq (Ww m i).1 k;rw[HF.o] at h;exact h
    have hqeb:qe<=2199023255552:=by
     have h:=HEL.o;rw[wR.o,<-HQE.o] at h;exact h
    by_cases hlk:k<qe
    ·have Dl:k<se.length:=by rw[<-HQE.o];exact hlk
     have zlX:=Lh (HB3.o.trans (HK.o.bel.mono HB3.o.size));obtain⟨b2,o2,cs,rfl,-,Zy,Zt,Zj⟩:=(HU.o.below zlX.o).get Dl (by decide);obtain⟨rfl,qC,tP,pl,hy4⟩:=Nh Zt;have d0:=Zj 0 _ rfl;have d1:=Zj 1 _ rfl;clear Zj Zt;simp only[show Gg.size=2 from rfl,Yo,<-Yv] at d0 d1;have Uz:se[k]∈Md m xq:=by rw[wR.o];exact Qg Dl
     have HST:=Lh (uF (q:=(Ww m i).1) (show (Md m xq)[k]? = some se[k] by rw[wR.o];exact Qa Dl));rw[HF.o] at HST;have hto:=HTO.o _ Uz;obtain⟨ed,hed⟩:=Xe (se[k]);rw[<-hed] at d0 d1 qC tP pl hy4 HST hto;clear hed Uz;obtain⟨et,en0⟩:=ed;simp only at d0 d1 qC tP pl hy4 hto;obtain⟨en,rfl⟩:∃ en:Nat,en0=(en:Int):=⟨en0.toNat,by omega⟩;have hen:en<n:=by rw[HN.o];omega
     have HE1:=Lh (HK.o.alloc (.cells #[.int .i64 et,.int .i64 en] 145));have hcu:=((show Ko (wr.alloc (.cells #[.int .i64 et,.int .i64 en] 145)) x (Iy n (Kb m)) from (HE1.o.bel.block x (gl HX3.o)).trans HX3.o).at_ (k:=en) (by rw[Cf];exact hen)).1;rw[At,Yt hen,Bool.true_and] at hcu;have hcy:=((show Ed (wr.alloc (.cells #[.int .i64 et,.int .i64 en] 145)) y (Fz n cl) from (HE1.o.bel.block y hyw).trans HY.o).at_ hen).1;have Wu:=Xn wr (.cells #[.int .i64 et,.int .i64 en] 145);have HBX:=Lh Wu;clear Wu HK zlX HF;obtain⟨b,hb⟩:=Xe (Kb m en);rw[<-hb] at hcu;have HUE:=Lh hb;clear hb;cases b
     ·have HFK:=Lh (show Eu m xq (Ww m i).1 (k+1)=(q2,l) by
       rw[HST.o]
       unfold Ee
       simp only[Yw]
       rw[<-HUE.o]
       rfl)
      clear HST;go_wp2_with fail;go_roundw;exact⟨k+1,q2,l,.slice Au l.length cu,by go_num,by omega,HFK.o,HE1.o⟩;simp[intOf];omega
     ·have kN:=qhR (m:=m) HCA.o HQ2.o.1 hen HUE.o.symm;have Ky:=HE1.o.map.look (P:=Tryz.prog) aZ Dv (cl en);rw[kN] at Ky;have cbx:(wr.alloc (.cells #[.int .i64 et,.int .i64 en] 145)).cell? ⟨kQ,1,none⟩=some (.slice Au l.length cu):=Xc HE1.o.box rfl;cases hf:q2.findIdx? (Nt m en) with
      |some nn =>
       rw[hf] at Ky;simp only at Ky;have xY:nn<q2.length:=(List.findIdx?_eq_some_iff_getElem.1 hf).1;have HFK:=Lh (show Eu m xq (Ww m i).1 (k+1)=(q2,l++[(et,(nn:Int))]) by
        rw[HST.o]
        unfold Ee
        simp only[Yw]
        rw[<-HUE.o,if_pos rfl,hf])
       clear HST hf kN;go_wp2_with (refine Jc (some 97) rfl ?_);refine Stop.go (Ja (m:=1) (n:=l.length) uN rfl rfl rfl rfl (HE1.o.uo.alloc _) (Rd.row (B:=wr.heap.size+2) (Fo wr _ _) (by omega)) rfl (by simp[Value.oneCell']) ?h63 ?hby ?hbase ?_)
       case h63=>simp only[maxLen];omega
       case hby=>omega
       case hbase=>have h:=HE1.o.bel.size;rw[Xs] at h;simp only[Xs];omega
       intro v8 w8 Mm wM zy _;obtain⟨A8,c8,rfl,hl9,qnM⟩:=Zk Mm;have qoA:=(Zc (wr.alloc (.cells #[.int .i64 et,.int .i64 en] 145)) (.cells #[.int .i64 et,.int .i64 nn] 145) _ (gl HE1.o.box)).trans HE1.o.box;have M_:=Dr (HE1.o.uo.alloc (.cells #[.int .i64 et,.int .i64 nn] 145)) wM qoA (fun cur e=>by cases e);have hc8:w8.cell? ⟨kQ,1,none⟩=some (.slice Au l.length cu):=Xc M_ rfl;have hf8:w8.frozen? ⟨kQ,1,none⟩=false:=by simp[World.frozen?,M_]
       have HE9:=Lh ((HE1.o.alloc (.cells #[.int .i64 et,.int .i64 nn] 145)).edge (W':=w8) (e:=(et,(nn:Int))) (by rw[bJ];exact Mm) wM zy);clear Mm wM zy qoA M_;go_wp2_with fail;go_roundw;exact⟨k+1,q2,l++[(et,(nn:Int))],.slice A8 (l.length+1) c8,by go_num,by omega,HFK.o,HE9.o⟩;simp[intOf];omega
      |none =>
       rw[hf] at Ky;simp only at Ky;have hf2:(q2.findIdx? fun x=>decide (cl x=cl en))=none:=by rw[kN,hf]
       obtain⟨W4,gZ,hE4,-,zgN⟩:=HE1.o.put (P:=Tryz.prog) aZ hf2;have qvC:=zgN _ _ _ _ HBX.o;have e40:W4.cell? ⟨wr.heap.size,0,none⟩=some (.int .i64 et):=Xc qvC rfl;have e41:W4.cell? ⟨wr.heap.size,1,none⟩=some (.int .i64 en):=Xc qvC rfl;have Ck:=Lh qvC;have HE4:=Lh hE4;have hz4:=hE4.bel.size;have HFK:=Lh (show Eu m xq (Ww m i).1 (k+1)=(q2++[en],l++[(et,(q2.length:Int))]) by
        rw[HST.o]
        unfold Ee
        simp only[Yw]
        rw[<-HUE.o,if_pos rfl,hf])
       clear HST hf kN hf2 hE4 qvC zgN;go_wp2_with (refine Jc (some 89) rfl ?_);refine Stop.go (Ja (m:=1) (n:=q2.length) qmN rfl rfl rfl rfl (HE4.o.que.alloc _) (Rd.row (B:=W4.heap.size+1) (Xn W4 (.cells #[.int .i64 en] 3)) (by omega)) rfl (by simp[Value.oneCell']) ?h63 ?hby ?hbase ?_)
       case h63=>simp only[maxLen];omega
       case hby=>omega
       case hbase=>rw[Xs];omega
       intro v5 w5 Rt fZ zhD _;obtain⟨A5,c5,rfl,zsA,hl12⟩:=Zk Rt;have ziT:=Dr (HE4.o.que.alloc (.cells #[.int .i64 en] 3)) fZ ((Zc W4 _ _ (gl Ck.o)).trans Ck.o) (fun cur e=>by cases e);have f50:w5.cell? ⟨wr.heap.size,0,none⟩=some (.int .i64 et):=Xc ziT rfl;have HE5:=Lh ((HE4.o.alloc (.cells #[.int .i64 en] 3)).quep (y:=en) Rt fZ);have cbx5:w5.cell? ⟨kQ,1,none⟩=some (.slice Au l.length cu):=Xc HE5.o.box rfl;clear Rt fZ zhD ziT e40 e41;go_wp2_with (refine Jc (some 97) rfl ?_);refine Stop.go (Ja (m:=1) (n:=l.length) uN rfl rfl rfl rfl (HE5.o.uo.alloc _) (Rd.row (B:=w5.heap.size+1) (Xn w5 _) (by omega)) rfl (by simp[Value.oneCell']) ?h63 ?hby ?hbase ?_)
       case h63=>simp only[maxLen];omega
       case hby=>omega
       case hbase=>have h:=HE5.o.bel.size;rw[Xs];omega
       intro v8 w8 Mm wM zy _;obtain⟨A8,c8,rfl,hl9,qnM⟩:=Zk Mm;have qoA:=(Zc w5 (.cells #[.int .i64 et,.int .i64 (q2.length:Int)] 145) _ (gl HE5.o.box)).trans HE5.o.box;have M_:=Dr (HE5.o.uo.alloc (.cells #[.int .i64 et,.int .i64 (q2.length:Int)] 145)) wM qoA (fun cur e=>by cases e);have hc8:w8.cell? ⟨kQ,1,none⟩=some (.slice Au l.length cu):=Xc M_ rfl;have hf8:w8.frozen? ⟨kQ,1,none⟩=false:=by simp[World.frozen?,M_]
       have HE9:=Lh ((HE5.o.alloc (.cells #[.int .i64 et,.int .i64 (q2.length:Int)] 145)).edge (W':=w8) (e:=(et,(q2.length:Int))) (by rw[bJ];exact Mm) wM zy);clear Mm wM zy qoA M_;go_wp2_with fail;go_roundw;exact⟨k+1,q2++[en],l++[(et,(q2.length:Int))],.slice A8 (l.length+1) c8,by go_num,by omega,HFK.o,HE9.o⟩;simp[intOf];omega
    ·have hkq:k=qe:=by omega
     subst hkq;have Te:=Lh (sk HXQ.o);have hke:k=(Md m xq).length:=by rw[wR.o,HQE.o]
     rw[<-hke,HF.o,HOU.o] at Te;have Bw:(Ww m i).1.length<=q2.length:=by
      have h:=(dB (Kb m) (Nt m) ((Md m xq).take k) ((Ww m i).1,[])).1.length_le;have h2:=HF.o;unfold Eu at h2;rw[h2] at h;exact h
     rw[<-HQ.o] at Bw;have HNM:=Lh (HFN.o i xq HXQ.o hxm k);rw[HF.o] at HNM;have HEB:=Lh (fun e (he:e∈l)=>by
      obtain⟨⟨d,hd,h1⟩,h2,h3⟩:=HNM.o e he
      rw[wR.o] at hd
      obtain⟨j,hj,rfl⟩:=Qz hd
      obtain⟨_,_,cs,_,_,_,Zt,_⟩:=HU.o.get hj (by decide)
      obtain⟨_,h4,h5,_,_⟩:=Nh Zt
      exact (show (-9223372036854775808<=e.1/\e.1<=9223372036854775807)/\-9223372036854775808<=e.2/\e.2<=9223372036854775807 from ⟨by rw[h1];exact⟨h4,h5⟩,by omega,by rw[<-HN.o] at h3;omega⟩))
     have b0:wr.cell? ⟨kQ,0,none⟩=some (.int .i64 so):=Xc HK.o.box rfl;have b1':wr.cell? ⟨kQ,1,none⟩=some (.slice Au l.length cu):=Xc HK.o.box rfl;have hrn:rs.length<=n:=by rw[HRL.o];omega
     clear hke hxq;go_wp2_with (refine Jc (some 103) rfl ?_);refine Stop.go (Ja (m:=1) (n:=rs.length) qdN rfl rfl rfl rfl (HK.o.o.row.alloc _) (Rd.row (B:=wr.heap.size+1) (Xn wr _) (by omega)) rfl (by simp[Value.oneCell']) ?h63 ?hby ?hbase ?_)
     case h63=>simp only[maxLen];omega
     case hby=>omega
     case hbase=>have h:=HK.o.bel.size;rw[Xs];omega
     intro v8 w8 Mm wM zy _;have HD:=Lh ((HK.o.alloc (.cells #[.int .i64 so,.slice Au l.length cu] 118)).done Mm wM);clear Mm wM zy;go_wp2_with fail;go_roundw
     case rel =>
      refine⟨i+1,q2,rs++[(so,Value.slice Au l.length cu)],es++[l],by go_num,by omega,by omega,?_,?_,?_,?_,?_,HD.o⟩
      ·show q2=_;rw[Te.o]
      ·show _=_;rw[Qe,HRL.o];rfl
      ·show _=_;rw[Te.o,<-HZ.o,List.zip_append HK.o.o.len,Qt];rfl
      ·intro r hr;rcases Qh.1 hr with hr | hr
       ·exact HB1.o r hr
       ·rw[Qi] at hr;subst hr;exact⟨Sr,Fn⟩
      ·intro l' kM e he;rcases Qh.1 kM with kM | kM
       ·exact HB2.o l' kM e he
       ·rw[Qi] at kM;subst kM;exact HEB.o e he
     case measure=>simp[intOf];omega
   ·have hiq:i=q.length:=by omega
    have HM:Hid (Nz m=(Ww m i).2):=by
     show _=_;unfold Nz;rw[if_pos HVD.o,if_pos jh.o.symm];exact congrArg Prod.snd (qvV HG.o ((Eo m 0).1 jh.o.symm) (by rw[<-HQ.o];exact hiq.symm))
    have HSL:=Lh (fun(w'':World)(hw:∀ b,w.heap.size<=b->b<wr.heap.size->w''.heap[b]? = wr.heap[b]?)=>by
     have hs:=(HK.o.o.fresh (W':=w'') fun b h1 h2=>hw b (Ya HB3.o.size h1) h2).sl HB1.o HB2.o
     rw[HZ.o,<-HM.o] at hs
     exact hs)
    have HBF:=Lh (HB3.o.trans (HK.o.bel.mono HB3.o.size));clear HK;go_wp2_with fail;go_ret;exact⟨_,rfl,HSL.o,HBF.o⟩
 ·rw[show Uj m 9223372036854775807=false by simpa using oE] at HR;have HM:=Lh (qlY oE);clear oE;go_enter Tryz.func45,Tryz.ntmps45;go_wp2_with fail;refine HR.o.mono ?_;rintro e w1 ⟨rfl,hb1⟩;go_wp2_with fail;go_ret;exact⟨_,rfl,fun w'' _=>by rw[HM.o];exact Jb.nil_,hb1⟩
noncomputable def Bb(rows:List Dt):List Wd:=@dite _ (∃ F,Nw rows F) (Classical.propDecidable _) (fun h=>Classical.choose h) (fun _=>[])
theorem Om{rows:List Dt}{F:List Wd}(h:Nw rows F):Bb rows=F:=by
 have hx:∃ F,Nw rows F:=⟨F,h⟩;unfold Bb;rw[dif_pos hx];exact yC (Classical.choose_spec hx) h
noncomputable def He(rows:List Dt):Kf:=Nx rows (Bb rows)
noncomputable def Sq(rows:List Dt):Kf:=Nz (He rows)
noncomputable def Me(rows:List Dt)(n:Nat):List Kf:=(List.range n).map fun(left:Nat)=>Sq (Wj ((left:Nat):Int) rows)
def qqB(m:Kf)(w:World)(e:Ending)(w':World):Prop:=∃ vm,e=.returned vm/\(∀ w'':World,(∀ b,w.heap.size<=b->b<w'.heap.size->w''.heap[b]? = w'.heap[b]?)->Jb Jn w'' w''.heap.size vm m)/\Below w.heap.size w w'
structure Pw(rows:List Wr):Prop where
 n:rows.length<=1048576
 w:∀ r∈rows,r.2.1.length<=1048576
theorem Pw.of{rows:List Wr}(h:Pw rows)(left:Int):Pw (Wj left rows):=by
 have hs:(Wj left rows).Sublist rows:=List.filter_sublist;exact⟨Ya hs.length_le h.n,fun r hr=>h.w r (hs.subset hr)⟩
theorem qtX(v:Value)(rows:List Wr)(b3 left:Nat)(w:World)(hv:Jb An w w.heap.size v rows)(hf:Pw rows)(h3:w.cell? ⟨b3,0,none⟩=some v)(ht:dR w) :
  Calls Tryz.prog 44 #[.int .i64 left,.pointer (some ⟨b3,0,none⟩)] w (qqB (Sq (Wj left rows)) w):=by
 obtain⟨A,c,rfl,hc1,hc2⟩:=hv.form;unfold maxLen at hc2;have HV:=Lh hv;have HF:=Lh (hf.of left);have HFR:=Lh hf.n;have HT:=Lh ht;clear hv hf ht;obtain⟨nr,xX⟩:=Xe rows.length;rw[<-xX] at h3 hc1 HV;clear xX;go_enter Tryz.func44,Tryz.ntmps44;go_wp2_with fail;refine (qtR _ left rows w HV.o HFR.o).mono ?_;rintro e w1 ⟨v1,rfl,ft,hb1⟩;have Es:qqZ (Wj left rows):=fun x hx=>HV.o.fitR x (Qw.1 hx).1;have HS1:=Lh (qaQ Es ft);have HB1:=Lh hb1;clear ft hb1;go_wp2_with fail;refine (dl v1 (Wj left rows) w1 HS1.o HF.o.w HF.o.n).mono ?_;rintro e w2 ⟨v2,F,rfl,hF,hFl,Le,Zy⟩;have htr:Nx (Wj left rows) F=He (Wj left rows):=by unfold He;rw[Om hF]
 have HL2:=Lh (show (He (Wj left rows)).length<=1099512676353 by rw[<-htr,Dm];exact hFl);have de:=Lh (show ∀ k<(He (Wj left rows)).length,(Md (He (Wj left rows)) k).length<=2199023255552 from fun k hk=>by
  rw[<-htr] at hk |-
  rw[Dm] at hk
  rw[(Gp (Qa hk)).2]
  have:=aq F F[k]
  omega)
 rw[htr] at Le;have HS2:=Lh Le;have HB2:=Lh (HB1.o.trans (Zy.mono HB1.o.size));clear Le Zy htr hF hFl HS1;go_wp2_with fail;refine (iX v2 (He (Wj left rows)) w2 HS2.o (by have:=HL2.o;omega) de.o (HT.o.below HB2.o)).mono ?_;rintro e w3 ⟨v3,rfl,hs3,hb3⟩;have HS3:=Lh hs3;have HB3:=Lh (HB2.o.trans (hb3.mono HB2.o.size));clear hs3 hb3;go_wp2_with fail;go_ret;exact⟨_,rfl,fun w'' hw=>HS3.o w'' fun b h1 h2=>hw b (Ya HB2.o.size h1) h2,HB3.o⟩
structure Oh(W:World)(N:Nat)(v:Value)(vs:List Value)(ms:List Kf):Prop where
 len:vs.length=ms.length
 row:W.ownsRow N 64 1 v vs.length vs
 el:∀(i:Nat)(u:Value)(x:Kf),vs[i]? = some u->ms[i]? = some x->∃ s e,(N<=s/\e<=W.heap.size)/\(∀ g,v.ownBlock=some g->g<s\/e<=g)/\∀ w'':World,(∀ b,s<=b->b<e->w''.heap[b]? = W.heap[b]?)->Jb Jn w'' w''.heap.size u x
theorem Oh.nil(W:World)(N:Nat):Oh W N (.slice none 0 0) [] []:=⟨rfl,Yx _ _ _ _,fun i u x h=>by simp at h⟩
theorem Oh.below{W W':World}{N:Nat}{v:Value}{vs:List Value}{ms:List Kf}(h:Oh W N v vs ms)(hb:Below W.heap.size W W'):Oh W' N v vs ms:=by
 refine⟨h.len,Jk h.row hb,fun i u x hu hx=>?_⟩;obtain⟨s,e,h1,h2,h3⟩:=h.el i u x hu hx;exact⟨s,e,⟨h1.1,Ya h1.2 hb.size⟩,h2,fun w'' hw=>h3 w'' fun b hb1 Zy=>(hw b hb1 Zy).trans (hb.block b (by omega))⟩
theorem Oh.snoc{W0 W W':World}{N:Nat}{v v' vm:Value}{vs:List Value}{ms:List Kf}{m:Kf}(h:Oh W0 N v vs ms)(hN:N<=W0.heap.size)(hb:Below W0.heap.size W0 W)(hm:∀ w'':World,(∀ b,W0.heap.size<=b->b<W.heap.size->w''.heap[b]? = W.heap[b]?)->Jb Jn w'' w''.heap.size vm m)
  (o:Obj) (hown:W'.ownsRow N 64 1 v' (vs.length+1) (vs++[vm])) (hg:(W.alloc o).grownBy W' v.ownBlock) (hv:v'.ownBlock=v.ownBlock\/v'.ownBlock=some (W.alloc o).heap.size):Oh W' N v' (vs++[vm]) (ms++[m]):=by
 have hz:W.heap.size<W'.heap.size:=by have:=hg.size;rw[Xs] at this;omega
 have Jo:∀ g,v.ownBlock=some g->g<W0.heap.size:=fun g pJ=>(h.row.lt g pJ).2;have qxN:∀ b,b<W.heap.size->some b≠v.ownBlock->W'.heap[b]? = W.heap[b]? := fun b h1 h2=>(hg.block b (by rw[Xs];omega) h2).trans (Zc W o b h1);refine⟨by simp[h.len],by rw[Qe];exact hown,fun i u x hu hx=>?_⟩;by_cases Vq:i<vs.length
 ·rw[Qo Vq] at hu;rw[Qo (by rw[<-h.len];exact Vq)] at hx;obtain⟨s,e,h1,h2,h3⟩:=(h.below hb).el i u x hu hx;have h1':e<=W0.heap.size\/W0.heap.size<=e:=by omega
  refine⟨s,e,by omega,fun g pJ=>?_,fun w'' hw=>h3 w'' fun b hb1 Zy=>(hw b hb1 Zy).trans (qxN b (by omega) fun e'=>?_)⟩
  ·rcases hv with h4 | h4
   ·exact h2 g (by rw[<-h4];exact pJ)
   ·rw[h4] at pJ;injection pJ with pJ;rw[Xs] at pJ;exact .inr (by omega)
  ·rcases h2 b e'.symm with h5 | h5 <;> omega
 ·have hie:i=vs.length:=by
   have:=(Qj.1 hu).1;rw[Qe,Qf] at this;omega
  subst hie;rw[Qn (Xz _),Nat.sub_self] at hu;rw[h.len,Qn (Xz _),Nat.sub_self] at hx;injection hu with hu;injection hx with hx;subst hu hx;refine⟨W0.heap.size,W.heap.size,by omega,fun g pJ=>?_,fun w'' hw=>hm w'' fun b hb1 Zy=>(hw b hb1 Zy).trans (qxN b Zy fun e'=>?_)⟩
  ·rcases hv with h4 | h4
   ·exact .inl (Jo g (by rw[<-h4];exact pJ))
   ·rw[h4] at pJ;injection pJ with pJ;rw[Xs] at pJ;exact .inr (by omega)
  ·have:=Jo b e'.symm;omega
theorem lH{w w':World}{N base:Nat}{e:TypeId}{size:Nat}{v:Value}{n:Nat}{xs:List Value}(h:w.ownsRow base e size v n xs)(hN:N<=base)(hw:∀ b,N<=b->b<w.heap.size->w'.heap[b]? = w.heap[b]?):w'.ownsRow base e size v n xs:=by
 refine⟨h.1,?_⟩;rcases h.2 with h' | ⟨g,cap,cur,rfl,hg,hh,r⟩
 ·exact .inl h'
 ·exact .inr ⟨g,cap,cur,rfl,hg,(hw g (Ya hN hg) (gl hh)).trans hh,r⟩
theorem Oh.fresh{W:World}{N:Nat}{v:Value}{vs:List Value}{ms:List Kf}(h:Oh W N v vs ms)(w'':World)(hw:∀ b,N<=b->b<W.heap.size->w''.heap[b]? = W.heap[b]?):Jb (Ro Jn) w'' w''.heap.size v ms:=by
 have Nk:=lH h.row (Xz N) hw;obtain⟨A,c,hv,hc,hc2⟩:=Zk Nk;rw[hv] at Nk |-;refine⟨A,c,vs.map fun u=>[u],by rw[h.len],by rw[<-h.len];exact hc,hc2,by rw[Qk];exact h.len,?_,fun i cs x hi hx=>?_⟩
 ·have:(vs.map fun u=>[u]).flatten=vs:=by
   generalize vs=l
   induction l with
   |nil=>rfl
   |cons u l ih=>rw[List.map_cons,List.flatten_cons,ih];rfl
  rw[this];exact Rd.of_own Nk
 ·rw[Qv] at hi;cases hu:vs[i]? with
  |none=>rw[hu] at hi;cases hi
  |some u =>
   rw[hu] at hi;injection hi with hi;subst hi;obtain⟨s,e,h1,h2,h3⟩:=h.el i u x hu hx;exact⟨u,rfl,h3 w'' fun b hb1 Zy=>hw b (Ya h1.1 hb1) (Yb Zy h1.2)⟩
section
variable {g:Jw} {k:Nat} {s:Zu} (h:jg g k) (hM:vQ g.2.2 g.1.length k s)
include h hM
theorem aP{rows:List Wr}(hp:rows.Perm (Vf 0 g.2.2 s)):∀ x∈rows,Hm g k x=true/\0<=x.1/\x.1<4096/\x.2.1.length<=4/\0<=x.2.2/\x.2.2<4096:=by
 intro x hx;obtain⟨i,hi,hw,hm⟩:=(pZ (by have:=h.few;omega) h.wellT hM (fun w _=>iy g.2.2 k w)).1 (hp.mem_iff.1 hx);obtain⟨r,hr,Oi,_⟩:=fV.1 hm;have Vq:i<g.2.2.length:=(Qj.1 hr).1;obtain⟨w1,w2⟩:=(Pc (by have:=h.few;omega) k x.2.1).1 hw;have hq:=(Ka h.b).q;have hnm:=(Ka h.b).nm;have hb:=qp h.b r (Qp hr);have Y_:=h.k4;refine⟨?_,by omega,by omega,by omega,by omega,by omega⟩;unfold Hm;have e1:decide (x.2.2<0)=false:=by rw[Yj];omega
 have e2:decide ((g.2.2.length:Int)<=x.2.2)=false:=by rw[Yj];omega
 have e3:Rz g x.2.2=x.1:=by
  unfold Rz;rw[hi,Yw,Qb,hr];exact Oi
 have e4:Ok g.2.1.length k x.2.1=true:=by
  unfold Ok eF;rw[Yk,Xp];exact⟨fun c hc=>by rw[Yi];have:=w2 c hc;omega,by rw[Yi];omega⟩
 have e5:decide (Rz g x.2.2≠x.1)=false:=by simp[e3]
 rw[e1,e2,e4,e5];rfl
theorem qtZ{rows:List Wr}(hc:Uk g.2.2 g.1.length s=[])(hp:rows.Perm (Vf 0 g.2.2 s))(hs:rows.Pairwise fun a b=>¬ Mh b a):zk g k rows=true:=by
 have wJ:rows.Pairwise Mh:=nK hp (eI h.well hM hc) hs;have hr:=aP h hM hp;have hf:∀(l:List Wr)(p:Option Wr),(∀ x∈l,Hm g k x=true)->l.Pairwise Mh->(∀ y,p=some y->∀ x∈l,Mh y x)->It g k p l=true:=by
  intro l
  induction l with
  |nil=>intro p _ _ _;cases p <;> rfl
  |cons x l ih =>
   intro p h1 h2 h3;rw[Qx] at h2;have ha:mV p x=false:=by
    cases p with
    |none=>rfl
    |some y =>
     have:=(qaV y x).2 (h3 y rfl x (by simp));show decide (0<=fR y x)=false;rw[Yj];omega
   have e:It g k p (x::l)=(!mV p x&&Hm g k x&&It g k (some x) l):=by cases p <;> rfl
   rw[e,ha,h1 x (by simp),ih (some x) (fun y hy=>h1 y (by simp[hy])) h2.2 (fun y hy z hz=>by injection hy with hy;subst hy;exact h2.1 z hz)];rfl
 unfold zk;rw[h.b,hf rows none (fun x hx=>(hr x hx).1) wJ (fun y hy=>by cases hy)];rfl
theorem mf{rows:List Wr}(hp:rows.Perm (Vf 0 g.2.2 s)):qqZ rows:=fun x hx=>by
 obtain⟨_,h1,h2,h3,h4,h5⟩:=aP h hM hp x hx;exact⟨by omega,by unfold maxLen;omega,by omega⟩
theorem tF{rows:List Wr}(hs:Ds s)(hq:g.2.2.length<=40)(hp:rows.Perm (Vf 0 g.2.2 s)):Pw rows:=by
 refine⟨?_,fun r hr=>by have:=(aP h hM hp r hr).2.2.2.1;omega⟩;rw[hp.length_eq,<-sA hM.len];have:=Or (rs:=g.2.2) hs g.2.2.length;omega
theorem me{rows:List Wr}(hp:rows.Perm (Vf 0 g.2.2 s)):∀ r∈rows,0<=r.2.2:=fun r hr=>(aP h hM hp r hr).2.2.2.2.1
theorem qdU{rows:List Wr}(hp:rows.Perm (Vf 0 g.2.2 s)):∀ r∈rows,∀ c∈r.2.1,c.toNat<g.2.1.length:=fun x hx=>by
 obtain⟨i,hi,hw,hm⟩:=(pZ (by have:=h.few;omega) h.wellT hM (fun w _=>iy g.2.2 k w)).1 (hp.mem_iff.1 hx);exact ((Pc (by have:=h.few;omega) k x.2.1).1 hw).2
theorem qB{rows:List Wr}(hc:Uk g.2.2 g.1.length s=[])(hp:rows.Perm (Vf 0 g.2.2 s))(hs:rows.Pairwise fun a b=>¬ Mh b a):rows.Pairwise Mh :=
 nK hp (eI h.well hM hc) hs
end
theorem ae{g:Jw}{k:Nat}{s s':Zu}{rows sB:List Wr}(h:jg g k)(hM:vQ g.2.2 g.1.length k s)(hM':vQ g.2.2 g.1.length k s')(hp:rows.Perm (Vf 0 g.2.2 s))(hp':sB.Perm (Vf 0 g.2.2 s'))
  (hl:rows.Pairwise Mh) (kM:sB.Pairwise Mh):rows=sB:=by
 have Uz:∀ x,x∈rows↔x∈sB:=fun x=>by
  rw[hp.mem_iff,hp'.mem_iff,pZ (by have:=h.few;omega) h.wellT hM (fun w _=>iy g.2.2 k w),pZ (by have:=h.few;omega) h.wellT hM' (fun w _=>iy g.2.2 k w)]
 have Id:∀{l:List Wr},l.Pairwise Mh->l.Nodup:=fun hl=>hl.imp fun{a b} Aj e=>by subst e;exact nN Aj Aj
 have oH:rows.Perm sB:=(List.perm_ext_iff_of_nodup (Id hl) (Id kM)).2 Uz;exact oH.eq_of_pairwise (fun a b _ _ h1 h2=>(nN h1 h2).elim) hl kM
theorem zg{m M:Kf}(h:Tm m M){terms:Int}(ht:∀ k<m.length,∀ e∈Md m k,e.1<terms):∀ k<M.length,∀ e∈Md M k,e.1<terms:=by
 intro k hk e he;obtain⟨i,hi,d,hd,e2⟩:=h.term k hk e he;rw[e2];exact ht i hi d hd
theorem uC(rows:List Wr):∃ F,Nw rows F/\F.length<=(Tr rows).length+1:=by
 have hd:∀ a b,Decidable (Bk a b):=fun a b=>Classical.propDecidable _;refine⟨(Vn (Tr rows)).mergeSort (fun a b=>@decide (¬ Bk b a) (@instDecidableNot _ (hd b a))),?_,?_⟩
 ·refine eO (List.mergeSort_perm _ _) ?_;refine (List.pairwise_mergeSort (le:=fun a b=>@decide (¬ Bk b a) (@instDecidableNot _ (hd b a))) ?_ ?_ _).imp ?_
  ·intro a b c h1 h2;simp only[Yi] at h1 h2 |-;intro h3;rcases rO a b with h | h | h
   ·exact h2 (fF h3 h)
   ·subst h;exact h2 h3
   ·exact h1 h
  ·intro a b;simp only[Ys,Yi];by_cases h:Bk b a
   ·exact .inr (rP h)
   ·exact .inl h
  ·intro a b h;simpa only[Yi] using h
 ·rw[(List.mergeSort_perm _ _).length_eq];exact (Ie (Tr rows)).2.2
theorem qhY(rows:List Wr)(n:Nat)(h:∀ r∈rows,r.2.1.length<=n):(Tr rows).length<=rows.length*(n+1):=by
 unfold Tr Av;rw[Qk]
 induction rows with
 |nil=>simp
 |cons r l ih =>
  have:=ih fun x hx=>h x (Xi _ hx);have h1:=h r (Xh ..);rw[List.flatMap_cons,Qe,Qu,Nat.succ_mul];have:(Ts r).length=r.2.1.length+1:=by simp[Ts]
  omega
theorem Cv(rows:List Wr):Nw rows (Bb rows):=by
 obtain⟨F,hF,_⟩:=uC rows;rw[Om hF];exact hF
theorem qkH(rows:List Wr)(n:Nat)(h:∀ r∈rows,r.2.1.length<=n):(He rows).length<=rows.length*(n+1)+1:=by
 obtain⟨F,hF,hl⟩:=uC rows;unfold He;rw[Dm,Om hF];have:=qhY rows n h;omega
theorem qlW{m:Kf}(h:Uj m 9223372036854775807=true):(Nz m).length<=m.length:=by
 have hg:=Ft h;have hp:=Qy.2 hg.some;unfold Nz;rw[if_pos h];by_cases h0:Kb m 0=true
 ·rw[if_pos h0];have hb:=mQ hg (Cu m) (Lx m) ((Eo m 0).1 h0) m.length;have h2:(Ww m m.length).2.length=min m.length (Ww m m.length).1.length:=hb.len;omega
 ·rw[if_neg h0];exact hp
section
variable {rows:List Wr} (hr:∀ r∈rows,0<=r.2.2)
include hr
theorem rE:Uj (He rows) 9223372036854775807=true:=vb (Cv rows) hr
theorem Pg:Tm (He rows) (Sq rows):=yo (rE hr)
theorem qeY(l:Wd):Uq (Sq rows) 0 (byI l)=Do rows l:=by
 rw[(Pg hr).tell,show He rows=Nx rows (Bb rows) from rfl,qdA (Cv rows) hr]
theorem qeX{n:Nat}(hb:∀ r∈rows,∀ c∈r.2.1,c.toNat<n):∀ k<(Sq rows).length,∀ e∈Md (Sq rows) k,e.1<(n:Int) :=
 zg (Pg hr) (cE (Cv rows) hb)
theorem qmB(n:Nat)(h:∀ r∈rows,r.2.1.length<=n):(Sq rows).length<=rows.length*(n+1)+1 :=
 Ya (qlW (rE hr)) (qkH rows n h)
end
theorem ag(rows:List Wr)(n:Nat):(Me rows n).length=n:=by simp[Me]
theorem ai(rows:List Wr){n k:Nat}(hk:k<n):(Me rows n)[k]? = some (Sq (Wj (k:Int) rows)):=by
 unfold Me;rw[Qv,List.getElem?_range hk];rfl
theorem sY{rows:List Wr}(hr:∀ r∈rows,0<=r.2.2)(left:Int):∀ r∈Wj left rows,0<=r.2.2:=fun r h=>hr r (Qw.1 h).1
theorem qpN{r:List Wr}(h:r=[(0,[],0),(0,[0],1)]):(Sq r).length=2/\Nd (Sq r) 0=0/\Nd (Sq r) 1=1:=by
 have hr:∀ x∈r,0<=x.2.2:=by
  subst h;intro x hx;simp only[List.mem_cons,List.not_mem_nil,or_false] at hx;rcases hx with rfl | rfl <;> decide
 have hb:∀ x∈r,∀ c∈x.2.1,c.toNat<1:=by
  subst h;intro x hx c hc;simp only[List.mem_cons,List.not_mem_nil,or_false] at hx;rcases hx with rfl | rfl
  ·simp at hc
  ·simp only[List.mem_cons,List.not_mem_nil,or_false] at hc;subst hc;decide
 have hL:=Pg hr;have hT:=qeX hr hb;have qmV:=qeY hr;have o0:Do r []=0:=by subst h;decide
 have o1:Do r [0]=1:=by subst h;decide
 have o2:∀ l:Wd,Do r (0::0::l)=-1:=by subst h;intro l;rw[lI hr];simp
 have hg:=hL.good;have hp:=Qy.2 hg.some;generalize Sq r=M at *;have t0:Nd M 0=0:=by rw[<-kV,<-o0];exact qmV []
 have t1:Uq M 0 [0]=1:=by rw[<-o1];exact qmV [0]
 have h0:∀ k<M.length,∀ e∈Md M k,e.1=0:=fun k hk e he=>by
  have h1:=(hg.tos k hk e he).1;have h2:=hT k hk e he;omega
 obtain⟨j,hj⟩:∃ j,Ny M 0 0=some j:=by
  rw[Vv] at t1;cases h:Ny M 0 0 with
  |none=>rw[h] at t1;cases t1
  |some j=>exact⟨j,rfl⟩
 have Uh:=Dc hj;have tj:Nd M j=1:=by
  have:=t1;rw[Vv,hj] at this;exact this
 have hj0:j≠0:=fun e=>by rw[e,t0] at tj;cases tj
 have tjj:∀ i,Ny M j 0=some i->∀ l:List Int,(∀ b∈l,b=0)->Uq M i l=-1:=fun i hi l hl=>by
  obtain⟨w,rfl⟩:∃ w:Wd,l=byI w:=⟨List.replicate l.length 0,by
   unfold byI
   rw[List.map_replicate]
   exact List.eq_replicate_iff.2 ⟨rfl,hl⟩⟩
  have h1:=qmV (0::0::w);rw[o2] at h1;have h2:byI (0::0::w)=(0:Int)::(0:Int)::byI w:=rfl;rw[h2,Vv,hj] at h1;simp only at h1;rw[Vv,hi] at h1;exact h1
 have hz:∀(l:List Int)(k:Nat),k<M.length->Uq M k l≠-1->∀ b∈l,b=0:=by
  intro l
  induction l with
  |nil=>intro k _ _ b hb;cases hb
  |cons c l ih =>
   intro k hk ht b hb;rw[Vv] at ht;cases hs:Ny M k c with
   |none=>rw[hs] at ht;exact absurd rfl ht
   |some i =>
    rw[hs] at ht;have he:=(Wa hg hk c i).1 hs;rcases List.mem_cons.1 hb with rfl | hb
    ·exact h0 k hk _ he
    ·exact ih i (Dc hs) ht b hb
 have hj1:j=1:=by
  have h1l:1<M.length:=by omega
  obtain⟨p,hp1,t,ht⟩:=hL.new 1 (by omega) h1l;have hp0:p=0:=by omega
  subst hp0;have h3:=h0 0 hp _ ht;simp only at h3;subst h3;have h4:=(Wa hg hp 0 1).2 ht;rw[hj] at h4;injection h4
 subst hj1;refine⟨?_,t0,tj⟩;rcases Nat.lt_or_ge 2 M.length with h2l | h2l
 ·exfalso;obtain⟨p,hp1,t,ht⟩:=hL.new 2 (by omega) h2l;have h3:=h0 p (by omega) _ ht;simp only at h3;subst h3;have h4:=(Wa hg (by omega) 0 2).2 ht;have hp2:p=1:=by
   rcases Nat.lt_or_ge p 1 with h5 | h5
   ·have:p=0:=by omega
    subst this;rw[hj] at h4;injection h4 with h4;cases h4
   ·omega
  subst hp2;obtain⟨l,hl⟩:=hL.tells 2 (by omega) h2l;exact hl (tjj 2 h4 l (hz l 2 h2l hl))
 ·omega
theorem B_{p:Nat->Bool}{x n:Nat}(h:∀ k<n,p k=true↔k=x):(List.range n).findIdx? p=if x<n then some x else none:=by
 by_cases hx:x<n
 ·rw[if_pos hx,List.findIdx?_eq_some_iff_getElem];refine⟨by rw[List.length_range];exact hx,by rw[List.getElem_range];exact (h x hx).2 rfl,fun j hj=>?_⟩;rw[List.getElem_range];intro e;have:=(h j (by omega)).1 e;omega
 ·rw[if_neg hx,List.findIdx?_eq_none_iff];intro k hk;rw[Xy] at hk;cases e:p k with
  |false=>rfl
  |true =>
   have:=(h k hk).1 e;omega
theorem mF{M:Kf}(hu:∀ i<M.length,Kb M i=true)(ha:∀ i<M.length,∀ k<M.length,Nt M i k=true↔k=i):∀(es:List (Int×Int))(i j:Nat)(l:List (Int×Int)),(∀ e∈es,0<=e.2/\e.2<M.length)->i<=M.length->Ox i es=some j ->
  es.foldl (Ee (Kb M) (Nt M)) (List.range i,l)=(List.range j,l++es)/\j<=M.length
 |[],i,j,l,_,hi,h=>by
  rw[Ox] at h;injection h with h;subst h;exact⟨by rw[List.append_nil];rfl,hi⟩
 |e::r,i,j,l,he,hi,h=>by
  obtain⟨e1,e2⟩:=he e (by simp);rw[Ox] at h;rw[List.foldl_cons];unfold Ee;rw[if_pos (hu _ (by omega))];have hf:(List.range i).findIdx? (Nt M e.2.toNat)=if e.2.toNat<i then some e.2.toNat else none:=B_ fun k hk=>ha _ (by omega) k (by omega)
  simp only[hf];split at h
  ·cases h
  ·rename_i h1;split at h
   ·rename_i h2;rw[if_neg (by omega)];simp only[List.length_range];obtain⟨k1,k2⟩:=mF hu ha r (i+1) j (l++[e]) (fun x hx=>he x (by simp[hx])) (by omega) h;refine⟨?_,k2⟩;rw[show e.2.toNat=i from by omega,<-List.range_succ,show (e.1,(i:Int))=e from by rw[<-h2]];refine Eq.trans k1 ?_;rw[Xd];rfl
   ·rename_i h2;rw[if_pos (by omega)];obtain⟨k1,k2⟩:=mF hu ha r i j (l++[e]) (fun x hx=>he x (by simp[hx])) hi h;refine⟨?_,k2⟩;simp only;rw[show (e.1,((e.2.toNat:Nat):Int))=e from by rw[Int.toNat_of_nonneg e1]];refine Eq.trans k1 ?_;rw[Xd];rfl
theorem Hf{M:Kf}{n:Nat}(h:n<M.length):M.take n++[(Nd M n,Md M n)]=M.take (n+1):=by
 rw[List.take_add_one,Qa h,Bq h,Al h];rfl
theorem qlX{m M:Kf}(h:Tm m M)(hv:Uj M 9223372036854775807=true):Nz M=M:=by
 unfold Nz;rw[if_pos hv];have hg:=h.good;have Dh:0<M.length:=Qy.2 hg.some;by_cases h0:Kb M 0=true
 ·rw[if_pos h0];have hr:∀ i,i<M.length->Oa M i:=by
   intro i
   induction i using Nat.strongRecOn with
   |_ i ih =>
    intro hi;rcases Nat.eq_zero_or_pos i with e | e
    ·subst e;exact Bl M
    ·obtain⟨p,hp,t,ht⟩:=h.new i e hi;have:=Bm hg (ih p hp (by omega)) ht
     rwa [Yw] at this
  have hu:∀ i<M.length,Kb M i=true:=fun i hi=>by
   rcases Nat.eq_zero_or_pos i with e | e
   ·subst e;exact h0
   ·exact (Eo M i).2 ⟨hr i hi,h.tells i e hi⟩
  have ha:∀ i<M.length,∀ k<M.length,Nt M i k=true↔k=i:=fun i hi k hk=>by
   rw[gQ];constructor
   ·intro Tq;refine Classical.byContradiction fun hne=>?_;obtain⟨l,hl⟩:=h.apart i k hi hk (fun e=>hne e.symm);exact hl (Tq l)
   ·rintro rfl l;rfl
  have hb:∀ n,n<=M.length->∃ i,Ox 1 ((M.take n).flatMap fun s=>s.2)=some i/\i<=M.length/\Ww M n=(List.range i,M.take n):=by
   intro n
   induction n with
   |zero=>intro _;exact⟨1,rfl,Dh,rfl⟩
   |succ n ih =>
    intro hn;obtain⟨i,o1,o2,o3⟩:=ih (by omega);obtain⟨i',p1,p2⟩:=h.ord n (by omega);have:i'=i:=by rw[p1] at o1;exact Option.some.inj o1
    subst this;have hj:∃ j,Ox 1 ((M.take (n+1)).flatMap fun s=>s.2)=some j:=by
     by_cases hl:n+1<M.length
     ·obtain⟨j,q1,_⟩:=h.ord (n+1) hl;exact⟨j,q1⟩
     ·rw[Qd (by omega)];exact h.ordl
    obtain⟨j,hj⟩:=hj;have hj2:Ox i' (Md M n)=some j:=by
     rw[<-Hf (by omega:n<M.length),List.flatMap_append,Gc,p1] at hj;simpa using hj
    obtain⟨f1,f2⟩:=mF hu ha (Md M n) i' j [] (fun e he=>(hg.tos n (by omega) e he).2) o2 hj2;refine⟨j,hj,f2,?_⟩;have e3:Hy M (Kb M) (Nt M) n=(List.range i',M.take n):=o3;show Hy M (Kb M) (Nt M) (n+1)=_;rw[Hy,e3];simp only[List.getElem?_range p2,f1,List.nil_append];rw[Hf (by omega)]
  obtain⟨i,_,_,e⟩:=hb M.length (Xz _);rw[e];exact List.take_length
 ·rw[if_neg h0];have hn:∀ l,Uq M 0 l=-1:=zW fun ht=>h0 ((Eo M 0).2 ⟨Bl M,ht⟩);have hz:=h.zero hn;have h1:M.length=1:=by
   refine Classical.byContradiction fun hne=>?_;obtain⟨p,hp,t,ht⟩:=h.new 1 (by omega) (by omega);have:p=0:=by omega
   subst this;rw[hz] at ht;cases ht
  obtain⟨s,rfl⟩:=List.length_eq_one_iff.1 h1;have ho:Nd [s] 0=-1:=hn [];obtain⟨a,b⟩:=s;have ho:a=-1:=ho;have hz:b=[]:=hz;rw[ho,hz]
theorem pf{m M:Kf}(h:Tm m M):∀ i,i<M.length->Oa M i:=by
 intro i
 induction i using Nat.strongRecOn with
 |_ i ih =>
  intro hi;rcases Nat.eq_zero_or_pos i with e | e
  ·subst e;exact Bl M
  ·obtain⟨p,hp,t,ht⟩:=h.new i e hi;have:=Bm h.good (ih p hp (by omega)) ht
   rwa [Yw] at this
theorem qfD{m M:Kf}(hm:m≠[])(h:Tm m M){k:Nat}(hk:k<M.length):Nd M k=-1\/∃ j<m.length,Nd m j=Nd M k:=by
 obtain⟨l,hl⟩:=pf h k hk;have h1:Uq M 0 l=Nd M k:=by
  unfold Uq;rw[hl]
 rw[<-h1,h.tell];unfold Uq;cases e:dM m 0 l with
 |none=>exact .inl rfl
 |some j=>exact .inr ⟨j,xb (Qy.2 hm) e,rfl⟩
theorem qeI(rows:List Dt)(w:Wd):Do rows w=-1\/∃ r∈rows,Do rows w=r.2.2:=by
 unfold Do;have:∀(l:List Dt)(o:Int),(∀ r∈l,r∈rows)->(o=-1\/∃ r∈rows,o=r.2.2)->(l.foldl (fun o r=>if r.2.1=w/\o<0 then r.2.2 else o) o=-1\/∃ r∈rows,l.foldl (fun o r=>if r.2.1=w/\o<0 then r.2.2 else o) o=r.2.2):=by
  intro l
  induction l with
  |nil=>intro o _ h;exact h
  |cons r l ih =>
   intro o hl h;rw[List.foldl_cons];refine ih _ (fun x hx=>hl x (by simp[hx])) ?_;split
   ·exact .inr ⟨r,hl r (by simp),rfl⟩
   ·exact h
 exact this rows (-1) (fun _ h=>h) (.inl rfl)
theorem rC{rows:List Dt}{F:List Wd}(hF:Nw rows F){M:Kf}(h:Tm (Nx rows F) M){k:Nat}(hk:k<M.length):Nd M k=-1\/∃ r∈rows,Nd M k=r.2.2:=by
 have h0:=(Qj.1 (bI hF)).1;rcases qfD (by intro e;have:=Dm rows F;rw[e] at this;simp at this;omega) h hk with e | ⟨j,hj,e⟩
 ·exact .inl e
 ·rw[Dm] at hj;rw[<-e,(Gp (rows:=rows) (Qa hj)).1];exact qeI rows _
theorem kT{rows:List Dt}{F:List Wd}(hF:Nw rows F){M:Kf}(h:Tm (Nx rows F) M){n:Nat}(hb:∀ r∈rows,∀ c∈r.2.1,c.toNat<n):Uj M (n:Int)=true:=by
 refine gG h.good fun k hk e he=>?_;obtain⟨i,hi,d,hd,e2⟩:=h.term k hk e he;rw[e2];exact cE hF hb i hi d hd
theorem rD{rows:List Dt}{F:List Wd}(hF:Nw rows F){M:Kf}(h:Tm (Nx rows F) M):Nz M=M :=
 qlX h (gG h.good fun k hk e he=>by
  obtain⟨i,hi,d,hd,e2⟩:=h.term k hk e he
  have:=cE (rows:=rows) hF (n:=256) (fun r _ c _=>c.toNat_lt) i hi d hd
  omega)
theorem aO(l:List Wd):Jp (Jp l)=Jp l:=(Tx (List.Perm.refl _) (lq l)).symm
theorem ce(l:List Wd):Wq (Wq l)=Wq l:=by
 cases l with
 |nil=>simp[Wq,Jp]
 |cons x r =>
  show [x]++Jp (Jp r)=[x]++Jp r;rw[aO]
theorem pk{l:List Wd}(hn:l.Nodup){i:Nat}(hi:i<l.length):l.idxOf (l.getD i [])=i:=by
 rw[Qb,Qa hi];exact List.Nodup.idxOf_getElem hn i hi
theorem yX{ns ts:List Wd}(hn:ns.Nodup)(hm:ts.Nodup){s:Int}(h:Vz ns.length ts.length s):Fv ns ts ns ts s=s:=by
 unfold Fv Vz at *;split
 ·rw[pk hm (by omega)];omega
 ·rw[pk hn (by omega)];omega
theorem xd{ns ts:List Wd}(hn:ns.Nodup)(hm:ts.Nodup){r:Jj}(h1:Vz ns.length ts.length r.1)(h2:∀ s∈r.2,Vz ns.length ts.length s):Dn ns ts ns ts r=r:=by
 unfold Dn;rw[yX hn hm h1,(List.map_congr_left fun s hs=>yX hn hm (h2 s hs)).trans (List.map_id' r.2)]
theorem oA(l:List Wd):(l.map Ki).map Mr=l:=by
 rw[List.map_map];exact (List.map_congr_left fun w _=>Ag w).trans (List.map_id l)
theorem gF{g:Jw}(h:Il g):Zx (Zx g)=Zx g:=by
 have hc:=Pk h;have e1:(Zx g).1.map Mr=Wq (g.1.map Mr):=oA _;have e2:(Zx g).2.1.map Mr=Jp (g.2.1.map Mr):=oA _;have hn:((Zx g).1.map Mr).Nodup:=Gd (fun _ _=>cV) hc.nn;have hm:((Zx g).2.1.map Mr).Nodup:=Gd (fun _ _=>cV) hc.tn;have hN:((Zx g).1.map Mr).length=(Zx g).1.length:=Qk ..;have hM:((Zx g).2.1.map Mr).length=(Zx g).2.1.length:=Qk ..;have Mq:∀ r∈(Zx g).2.2,Vz ((Zx g).1.map Mr).length ((Zx g).2.1.map Mr).length r.1/\∀ s∈r.2,Vz ((Zx g).1.map Mr).length ((Zx g).2.1.map Mr).length s:=fun r hr=>by
  rw[hN,hM];obtain⟨f1,_,f3⟩:=hc.fit r hr;exact⟨⟨by omega,f1.2⟩,f3⟩
 have hs:∀ r∈(Zx g).2.2,gV r:=fun r hr s hs=>by
  have:=((Mq r hr).2 s hs).1;rw[hM] at this;have:=hc.nm;omega
 have e3:mN ((Zx g).1.map Mr) ((Zx g).2.1.map Mr) (Zx g).2.2=(Zx g).2.2:=by
  have c1:Wq ((Zx g).1.map Mr)=(Zx g).1.map Mr:=by rw[e1,ce]
  have c2:Jp ((Zx g).2.1.map Mr)=(Zx g).2.1.map Mr:=by rw[e2,aO]
  unfold mN;rw[c1,c2,(List.map_congr_left fun r hr=>xd hn hm (Mq r hr).1 (Mq r hr).2).trans (List.map_id' _)];exact (Ty hs (List.Perm.refl _) (lr _)).symm
 show ((Wq ((Zx g).1.map Mr)).map Ki,(Jp ((Zx g).2.1.map Mr)).map Ki,mN ((Zx g).1.map Mr) ((Zx g).2.1.map Mr) (Zx g).2.2)=_;rw[e3,e1,e2,ce,aO];rfl
theorem S_{σ:Type}{f:σ->Int×List Int->σ}(I:σ->Prop)(μ:σ->Nat)(hI:∀ s r,I s->I (f s r))(h1:∀ s r,I s->μ s<=μ (f s r))(h2:∀ s r,I s->μ (f s r)<=μ s->f s r=s) :
  ∀(l:Zq)(s:σ),I s->I (l.foldl f s)/\μ s<=μ (l.foldl f s)/\(μ (l.foldl f s)<=μ s->l.foldl f s=s/\∀ r∈l,f s r=s):=by
 intro l
 induction l with
 |nil=>intro s hs;exact⟨hs,Xz _,fun _=>⟨rfl,by simp⟩⟩
 |cons r l ih =>
  intro s hs;obtain⟨a1,a2,a3⟩:=ih (f s r) (hI s r hs);refine⟨a1,Ya (h1 s r hs) a2,fun hle=>?_⟩;have hle:μ (l.foldl f (f s r))<=μ s:=hle;have e:=h2 s r hs (Ya a2 hle);have:=a3 (by rw[e] at hle |-;exact hle);rw[e] at this;refine⟨by show l.foldl f (f s r)=s;rw[e];exact this.1,fun x hx=>?_⟩;rcases List.mem_cons.1 hx with rfl | hx
  ·exact e
  ·exact this.2 x hx
theorem Hj{σ:Type}{f:σ->Int×List Int->σ}{rs:Zq}(I:σ->Prop)(μ:σ->Nat)(n:Nat)(hI:∀ s r,I s->I (f s r))(h1:∀ s r,I s->μ s<=μ (f s r))(h2:∀ s r,I s->μ (f s r)<=μ s->f s r=s)(h3:∀ s,I s->μ s<=n){s:σ}(hs:I s) :
  ∀ r∈rs,f (Kq f rs (n+1) s) r=Kq f rs (n+1) s:=by
 have qbJ:∀(k:Nat)(s:σ),rs.foldl f s=s->Kq f rs k s=s:=by
  intro k
  induction k with
  |zero=>intro s _;rfl
  |succ k ih=>intro s e;show Kq f rs k (rs.foldl f s)=s;rw[e];exact ih s e
 have key:∀(k:Nat)(s:σ),I s->(∀ r∈rs,f (Kq f rs k s) r=Kq f rs k s)\/(I (Kq f rs k s)/\μ s+k<=μ (Kq f rs k s)):=by
  intro k
  induction k with
  |zero=>intro s hs;exact .inr ⟨hs,Xz _⟩
  |succ k ih =>
   intro s hs;obtain⟨a1,a2,a3⟩:=S_ I μ hI h1 h2 rs s hs;by_cases hle:μ (rs.foldl f s)<=μ s
   ·left;obtain⟨e1,e2⟩:=a3 hle;rw[qbJ (k+1) s e1];exact e2
   ·rcases ih _ a1 with h | ⟨h,h'⟩
    ·exact .inl h
    ·refine .inr ⟨h,?_⟩;show μ s+(k+1)<=μ (Kq f rs k (rs.foldl f s));omega
 rcases key (n+1) s hs with h | ⟨h,h'⟩
 ·exact h
 ·have:=h3 _ h;omega
theorem count_set:∀(P:List Bool)(i:Nat),P.count true<=(P.set i true).count true/\((P.set i true).count true<=P.count true->P.set i true=P)
 |[],i=>⟨Xz _,fun _=>rfl⟩
 |b::P,0=>by
  cases b <;> simp
 |b::P,i+1=>by
  obtain⟨h1,h2⟩:=count_set P i;simp only[List.set_cons_succ,List.count_cons];exact⟨by omega,fun h=>by rw[h2 (by omega)]⟩
theorem lz{P:List Bool}{i:Nat}(hi:i<P.length)(h:P.set i true=P):P[i]? = some true:=by
 rw[<-h,List.getElem?_set_self hi]
theorem eD(P:List Bool)(r:Int×List Int):P.count true<=(Jm P r).count true/\((Jm P r).count true<=P.count true->Jm P r=P):=by
 unfold Jm;split
 ·exact count_set P _
 ·exact⟨Xz _,fun _=>rfl⟩
theorem xM(P:List Bool)(r:Int×List Int):(Jm P r).length=P.length:=by
 unfold Jm;split
 ·exact Qm ..
 ·rfl
theorem xJ(P:List Bool)(a s:Int):P.count true<=(Zv P a s).count true/\((Zv P a s).count true<=P.count true->Zv P a s=P):=by
 unfold Zv;split
 ·exact count_set P _
 ·exact⟨Xz _,fun _=>rfl⟩
theorem Gu(a:Int):∀(l:List Int)(P:List Bool),P.count true<=(l.foldl (fun R s=>Zv R a s) P).count true/\((l.foldl (fun R s=>Zv R a s) P).count true<=P.count true->l.foldl (fun R s=>Zv R a s) P=P/\∀ s∈l,Zv P a s=P)
 |[],P=>⟨Xz _,fun _=>⟨rfl,by simp⟩⟩
 |s::l,P=>by
  obtain⟨h1,h2⟩:=Gu a l (Zv P a s);obtain⟨h3,h4⟩:=xJ P a s;refine⟨Ya h3 h1,fun hle=>?_⟩;have hle:(l.foldl (fun R s=>Zv R a s) (Zv P a s)).count true<=P.count true:=hle;have e:=h4 (by omega);have:=h2 (by rw[e] at hle |-;exact hle);rw[e] at this;refine⟨by show l.foldl (fun R s=>Zv R a s) (Zv P a s)=P;rw[e];exact this.1,fun x hx=>?_⟩;rcases List.mem_cons.1 hx with rfl | hx
  ·exact e
  ·exact this.2 x hx
theorem eC(P:List Bool)(r:Int×List Int):(Kc P r).length=P.length:=by
 unfold Kc;have:∀(l:List Int)(P:List Bool),(l.foldl (fun R s=>Zv R r.1 s) P).length=P.length:=by
  intro l
  induction l with
  |nil=>intro P;rfl
  |cons s l ih =>
   intro P;refine (ih (Zv P r.1 s)).trans ?_;unfold Zv;split
   ·exact Qm ..
   ·rfl
 exact this r.2 P
inductive ProdP(rs:Zq):Int->Prop
 |mk {a:Int} {r:List Int}:(a,r)∈rs->(∀ s∈r,0<=s->ProdP rs s)->ProdP rs a
inductive ReachP(rs:Zq):Int->Prop
 |start:ReachP rs 0
 |step {a s:Int} {r:List Int}:ReachP rs a->(a,r)∈rs->s∈r->0<=s->ReachP rs s
theorem dA{P:List Bool}{i:Nat}:P.getD i false=true↔P[i]? = some true:=by
 rw[Qb];cases P[i]? with
 |none=>simp
 |some b=>simp
theorem aT{rs:Zq}{n:Nat}(hw:Rg rs n):(Jz rs n).all id=true↔∀ a:Nat,a<n->ProdP rs a:=by
 have hl:(Jz rs n).length=n:=(Bn hw).len;constructor
 ·intro h a ha;have hs:∀ a:Nat,(Jz rs n)[a]? = some true->ProdP rs a:=by
   refine (De (f:=Jm) (rs:=rs) (fun P=>∀ a:Nat,P[a]? = some true->ProdP rs a) (fun P r hr hP a ha=>?_) (n+1) (List.replicate n false) ?_)
   ·unfold Jm at ha;split at ha
    ·rename_i Vj;rcases Ez ha with rfl | ha
     ·rw[Int.toNat_of_nonneg (hw r.1 r.2 hr).1];refine .mk (r:=r.2) hr fun s hs h0=>?_;have:=Xp.1 Vj s hs;simp only[Ys,Yi] at this;rcases this with h1 | h1
      ·omega
      ·have:=hP _ (dA.1 h1)
       rwa [Int.toNat_of_nonneg h0] at this
     ·exact hP a ha
    ·exact hP a ha
   ·intro a ha;rw[Xg] at ha;split at ha <;> cases ha
  exact hs a (qL h (by rw[hl];exact ha))
 ·intro h;have hc:∀ r∈rs,Jm (Jz rs n) r=Jz rs n :=
   Hj (fun P=>P.length=n) (fun P=>P.count true) n (fun P r hP=>(xM P r).trans hP) (fun P r _=>(eD P r).1) (fun P r _=>(eD P r).2) (fun P hP=>hP ▸ List.count_le_length) (by simp)
  have Vj:∀ a:Int,ProdP rs a->(Jz rs n)[a.toNat]? = some true:=by
   intro a ha
   induction ha with
   |@mk a r hr _ ih =>
    have e:=hc _ hr;unfold Jm at e;rw[if_pos (Xp.2 fun s hs=>by
     simp only[Ys,Yi]
     rcases Int.lt_or_le s 0 with h0 | h0
     ·exact .inl h0
     ·exact .inr (dA.2 (ih s hs h0)))] at e
    obtain⟨w1,w2,_⟩:=hw a r hr;exact lz (by rw[hl];show a.toNat<n;omega) e
  refine Xp.2 fun b hb=>?_;obtain⟨i,hi,rfl⟩:=Qz hb;have:=Vj i (h i (by rw[<-hl];exact hi));rw[Yw,Qa hi] at this;exact Option.some.inj this
theorem nS{rs:Zq}{n:Nat}(hn:0<n)(hw:Rg rs n):(Vk rs n).all id=true↔∀ a:Nat,a<n->ReachP rs a:=by
 have hl:(Vk rs n).length=n :=
  De (f:=Kc) (rs:=rs) (fun P=>P.length=n) (fun P r _ hP=>(eC P r).trans hP) (n+1) ((List.replicate n false).set 0 true) (by simp)
 constructor
 ·intro h a ha;have hs:∀ a:Nat,(Vk rs n)[a]? = some true->ReachP rs a:=by
   refine (De (f:=Kc) (rs:=rs) (fun P=>∀ a:Nat,P[a]? = some true->ReachP rs a) (fun P r hr hP=>?_) (n+1) ((List.replicate n false).set 0 true) ?_)
   ·unfold Kc;have:∀(l:List Int)(P:List Bool),(∀ s∈l,s∈r.2)->(∀ a:Nat,P[a]? = some true->ReachP rs a)->∀ a:Nat,(l.foldl (fun R s=>Zv R r.1 s) P)[a]? = some true->ReachP rs a:=by
     intro l
     induction l with
     |nil=>intro P _ hP;exact hP
     |cons s l ih =>
      intro P hl hP;refine ih (Zv P r.1 s) (fun s hs=>hl s (by simp[hs])) (fun a ha=>?_);unfold Zv at ha;split at ha
      ·rename_i hc;simp only[Yk,Yi] at hc;rcases Ez ha with rfl | ha
       ·rw[Int.toNat_of_nonneg hc.2];have:=hP _ (dA.1 hc.1);rw[Int.toNat_of_nonneg (hw r.1 r.2 hr).1] at this;exact .step this (r:=r.2) hr (hl s (by simp)) hc.2
       ·exact hP a ha
      ·exact hP a ha
    exact this r.2 P (fun _ h=>h) hP
   ·intro a ha;rcases Ez ha with rfl | ha
    ·exact .start
    ·rw[Xg] at ha;split at ha <;> cases ha
  exact hs a (qL h (by rw[hl];exact ha))
 ·intro h;have hc:∀ r∈rs,Kc (Vk rs n) r=Vk rs n :=
   Hj (fun P=>P.length=n) (fun P=>P.count true) n (fun P r hP=>(eC P r).trans hP) (fun P r _=>(Gu r.1 r.2 P).1) (fun P r _ hle=>((Gu r.1 r.2 P).2 hle).1) (fun P hP=>hP ▸ List.count_le_length) (by simp)
  have h0:(Vk rs n)[0]? = some true :=
   De (f:=Kc) (rs:=rs) (fun P=>P[0]? = some true) (fun P r _ hP=>by
    unfold Kc
    have:∀(l:List Int)(P:List Bool),P[0]? = some true->(l.foldl (fun R s=>Zv R r.1 s) P)[0]? = some true:=by
     intro l
     induction l with
     |nil=>intro P hP;exact hP
     |cons s l ih =>
      intro P hP
      refine ih (Zv P r.1 s) ?_
      unfold Zv
      split
      ·rw[Xu]
       split
       ·rename_i e
        rw[e,if_pos]
        exact (Qj.1 hP).1
       ·exact hP
      ·exact hP
    exact this r.2 P hP) (n+1) ((List.replicate n false).set 0 true) (by
     rw[List.getElem?_set_self (by simp;exact hn)])
  have Vj:∀ a:Int,ReachP rs a->(Vk rs n)[a.toNat]? = some true:=by
   intro a ha
   induction ha with
   |start=>exact h0
   |@step a s r _ hr hs wI ih =>
    have e:=((Gu a r (Vk rs n)).2 (by
     have:=hc _ hr
     unfold Kc at this
     rw[this]
     exact Xz _)).2 s hs
    unfold Zv at e;rw[if_pos (by simp only[Yk,Yi];exact⟨dA.2 ih,wI⟩)] at e;have:=(hw a r hr).2.2 s hs;exact lz (by rw[hl];omega) e
  refine Xp.2 fun b hb=>?_;obtain⟨i,hi,rfl⟩:=Qz hb;have:=Vj i (h i (by rw[<-hl];exact hi));rw[Yw,Qa hi] at this;exact Option.some.inj this
theorem qkD{rs:Zq}{t:Nat}:Fh rs t=true↔∃ a r,(a,r)∈rs/\-1 - (t:Int)∈r:=by
 unfold Fh;simp only[Xq,Yi];constructor
 ·rintro⟨r,hr,s,hs,e⟩;exact⟨r.1,r.2,hr,by rw[<-e];exact hs⟩
 ·rintro⟨a,r,hr,hs⟩;exact⟨(a,r),hr,_,hs,rfl⟩
theorem Il.wellG{g:Jw}(h:Il g):Rg g.2.2 g.1.length:=fun a r hr=>by
 obtain⟨⟨h1,h2⟩,_,h3⟩:=h.fit (a,r) hr;exact⟨h1,h2,fun s hs=>(h3 s hs).2⟩
structure Ren(rs rY:Zq)(n m:Nat)(S:Int->Int):Prop where
 sign:∀ s,S s<0↔s<0
 mem:∀ a r,(a,r)∈rs->(S a,r.map S)∈rY
 back:∀ b r',(b,r')∈rY->∃ a r,(a,r)∈rs/\b=S a/\r'=r.map S
 inj:∀ s t,Vz n m s->Vz n m t->S s=S t->s=t
 fit:∀ a r,(a,r)∈rs->Vz n m a/\∀ s∈r,Vz n m s
 onto:∀ j:Nat,j<n->∃ i<n,S ((i:Nat):Int)=(j:Int)
 ontoT:∀ j:Nat,j<m->∃ i<m,S (-1 - ((i:Nat):Int))=-1 - (j:Int)
 into:∀ j:Nat,j<n->∃ i<n,S (j:Int)=((i:Nat):Int)
 intoT:∀ j:Nat,j<m->∃ i<m,S (-1 - (j:Int))=-1 - ((i:Nat):Int)
 zero:S 0=0
section
variable {rs rY:Zq} {n m:Nat} {S:Int->Int} (h:Ren rs rY n m S)
include h
theorem Ren.prod{a:Int}(ha:ProdP rs a):ProdP rY (S a):=by
 induction ha with
 |@mk a r hr _ ih =>
  refine .mk (h.mem a r hr) fun s hs h0=>?_;obtain⟨t,ht,rfl⟩:=Xa.1 hs;refine ih t ht ?_;have:=h.sign t;omega
theorem Ren.prod_back{b:Int}(hb:ProdP rY b):∀ a,Vz n m a->S a=b->ProdP rs a:=by
 induction hb with
 |@mk b r' hr _ ih =>
  intro a ha e;obtain⟨a',r,h1,h2,h3⟩:=h.back b r' hr;obtain⟨f1,f2⟩:=h.fit a' r h1;have:=h.inj a a' ha f1 (e.trans h2);subst this;refine .mk h1 fun s hs h0=>ih (S s) (by rw[h3];exact List.mem_map_of_mem hs) ?_ s (f2 s hs) rfl;have:=h.sign s;omega
theorem Ren.reach{a:Int}(ha:ReachP rs a):ReachP rY (S a):=by
 induction ha with
 |start=>rw[h.zero];exact .start
 |@step a s r _ hr hs wI ih =>
  refine .step ih (h.mem a r hr) (List.mem_map_of_mem hs) ?_;have:=h.sign s;omega
theorem Ren.reach_back(hn:0<n){b:Int}(hb:ReachP rY b):∀ a,Vz n m a->S a=b->ReachP rs a:=by
 induction hb with
 |start =>
  intro a ha e;have:=h.inj a 0 ha ⟨by omega,by omega⟩ (e.trans h.zero.symm);subst this;exact .start
 |@step b s' r' _ hr hs wI ih =>
  intro a ha e;obtain⟨a',r,h1,h2,h3⟩:=h.back b r' hr;obtain⟨f1,f2⟩:=h.fit a' r h1;rw[h3] at hs;obtain⟨s,Ea,Le⟩:=Xa.1 hs;have:=h.inj s a (f2 s Ea) ha (Le.trans e.symm);subst this;refine .step (ih a' f1 h2.symm) h1 Ea ?_;have:=h.sign s;omega
theorem Ren.wellE(hn:0<n)(hw:Rg rs n)(av:Rg rY n):wellE n m rY=wellE n m rs:=by
 have hsn:∀ i:Nat,i<n->Vz n m (i:Int):=fun i hi=>⟨by omega,by omega⟩;have e1:(Jz rY n).all id=(Jz rs n).all id:=by
  rw[Bool.eq_iff_iff,aT hw,aT av];constructor
  ·intro hp a ha;obtain⟨i,hi,e⟩:=h.into a ha;exact h.prod_back (hp i hi) a (hsn a ha) e
  ·intro hp a ha;obtain⟨i,hi,e⟩:=h.onto a ha;rw[<-e];exact h.prod (hp i hi)
 have e2:(Vk rY n).all id=(Vk rs n).all id:=by
  rw[Bool.eq_iff_iff,nS hn hw,nS hn av];constructor
  ·intro hp a ha;obtain⟨i,hi,e⟩:=h.into a ha;exact h.reach_back hn (hp i hi) a (hsn a ha) e
  ·intro hp a ha;obtain⟨i,hi,e⟩:=h.onto a ha;rw[<-e];exact h.reach (hp i hi)
 have e3:(List.range m).all (Fh rY)=(List.range m).all (Fh rs):=by
  rw[Bool.eq_iff_iff,Xp,Xp];simp only[Xy,qkD];constructor
  ·intro hp t ht;obtain⟨i,hi,e⟩:=h.intoT t ht;obtain⟨b,r',h1,h2⟩:=hp i hi;obtain⟨a,r,h3,h4,h5⟩:=h.back b r' h1;rw[h5] at h2;obtain⟨s,h6,h7⟩:=Xa.1 h2;have:=h.inj s _ ((h.fit a r h3).2 s h6) ⟨by omega,by omega⟩ (h7.trans e.symm);subst this;exact⟨a,r,h3,h6⟩
  ·intro hp t ht;obtain⟨i,hi,e⟩:=h.ontoT t ht;obtain⟨a,r,h1,h2⟩:=hp i hi;exact⟨_,_,h.mem a r h1,e ▸ List.mem_map_of_mem h2⟩
 unfold Go.Proofs.YtmaojnmnbpomeaaGreatDoor.wellE;rw[e1,e2,e3]
end
theorem qgX{g:Jw}(h:Il g):Ren g.2.2 (Zx g).2.2 g.1.length g.2.1.length (Fv (g.1.map Mr) (g.2.1.map Mr) (Wq (g.1.map Mr)) (Jp (g.2.1.map Mr))):=by
 have hp:=Uf (g.1.map Mr);have hq:=Vl (g.2.1.map Mr);have hn:(g.1.map Mr).Nodup:=Gd (fun _ _=>cV) h.nn;have hm:(g.2.1.map Mr).Nodup:=Gd (fun _ _=>cV) h.tn;have hN:(g.1.map Mr).length=g.1.length:=Qk ..;have hM:(g.2.1.map Mr).length=g.2.1.length:=Qk ..;refine⟨yW _ _ _ _,fun a r hr=>(Fw _).mem_iff.2 (List.mem_map_of_mem (f:=Dn _ _ _ _) hr),fun b r' hr=>?_,fun s t hs ht e=>?_,fun a r hr=>?_,fun j hj=>?_,fun j hj=>?_,fun j hj=>?_,fun j hj=>?_,?_⟩
 ·obtain⟨x,hx,e⟩:=sg hr;exact⟨x.1,x.2,hx,congrArg Prod.fst e,congrArg Prod.snd e⟩
 ·rw[<-hN,<-hM] at hs ht;exact rK hp hq hn hm hs ht e
 ·obtain⟨f1,_,f3⟩:=h.fit (a,r) hr;exact⟨⟨by have:=f1.1;simp only at this;omega,f1.2⟩,f3⟩
 ·obtain⟨i,hi,e⟩:=tO hp hn (j:=j) (by rw[hN];exact hj);refine⟨i,by rw[<-hN];exact hi,?_⟩;unfold Fv;rw[if_neg (by omega),Yw,e]
 ·obtain⟨i,hi,e⟩:=tO hq hm (j:=j) (by rw[hM];exact hj);refine⟨i,by rw[<-hM];exact hi,?_⟩;unfold Fv;rw[if_pos (by omega),show (-1 - (-1 - (i:Int))).toNat=i from by omega,e]
 ·have:=Lp hp (i:=j) (by rw[hN];exact hj);refine⟨_,by rw[<-hN,<-hp.length_eq];exact this,?_⟩;unfold Fv;rw[if_neg (by omega),Yw]
 ·have:=Lp hq (i:=j) (by rw[hM];exact hj);refine⟨_,by rw[<-hM,<-hq.length_eq];exact this,?_⟩;unfold Fv;rw[if_pos (by omega),show (-1 - (-1 - (j:Int))).toNat=j from by omega]
 ·unfold Fv;rw[if_neg (by omega)];have:=h.n1;cases e:g.1.map Mr with
  |nil=>rw[e] at hN;simp at hN;omega
  |cons x l =>
   show ((([x]++Jp l).idxOf x:Nat):Int)=0;simp
theorem nE{g:Jw}(h:Il g):wellE (Zx g).1.length (Zx g).2.1.length (Zx g).2.2=wellE g.1.length g.2.1.length g.2.2:=by
 obtain⟨l1,l2,_⟩:=Kh g;have hc:=(Pk h).wellG;rw[l1] at hc;rw[l1,l2];exact (qgX h).wellE h.n1 h.wellG hc
abbrev Nu:=Jw×Int×List Wr×List Kf
def Mz:Nu:=(([],[],[]),0,[],[])
theorem Rb{g:Jw}(h:Jr g=0):Il g/\Jr (Zx g)=0:=by
 unfold Jr at h;split at h
 ·rename_i hb;have hg:=(Gf g).1 hb;refine⟨hg,?_⟩;unfold Jr;rw[if_pos ((Gf _).2 (Pk hg)),nE hg];exact h
 ·cases h
def np(g:Jw)(left:Nat)(m:Kf):Bool:=m.all fun s=>!(decide ((g.2.2.length:Int)<=s.1)||decide (0<=s.1)&&decide (Rz g s.1≠(left:Int)))
structure zbZ(v:Nu):Prop where
 k1:1<=v.2.1
 k4:v.2.1<=4
 chk:Jr v.1=0
 len:v.2.2.2.length=v.1.1.length
 mach:∀ i m,v.2.2.2[i]? = some m->Uj m (v.1.2.1.length:Int)=true/\np v.1 i m=true/\Nz m=m
 canon:Zx v.1=v.1
 rows:zk v.1 v.2.1 v.2.2.1=true
def OfS(g:Jw)(k:Int)(s:Zu)(v:Nu)(c:List We)(e:Int):Prop :=
 (Uk g.2.2 g.1.length s≠[]/\v=Mz/\c=Uk g.2.2 g.1.length s/\e=20) \/
 (Uk g.2.2 g.1.length s=[]/\∃ rows,rows.Perm (Vf 0 g.2.2 s)/\rows.Pairwise (fun a b=>¬ Mh b a)/\v=(g,k,rows,Me rows g.1.length)/\c=[]/\e=0)
def wP(g:Jw)(k:Int)(v:Nu)(c:List We)(e:Int):Prop :=
 (¬ (1<=k/\k<=4)->v=Mz/\c=[]/\e=1) /\
 ((1<=k/\k<=4)->Jr g≠0->v=Mz/\c=[]/\e=Jr g) /\
 ((1<=k/\k<=4)->Jr g=0->∃ s,Lc k (Zx g) (some s)/\OfS (Zx g) k s v c e)
theorem jV{g:Jw}{k:Int}(hk:1<=k/\k<=4)(hc:Jr g=0):¬ Ct k (Zx g):=by
 unfold Ct;rintro (h | h | h)
 ·omega
 ·omega
 ·exact h (Rb hc).2
theorem qtT{g:Jw}{k:Int}{v v':Nu}{c c':List We}{e e':Int}(hm:g.2.1.length<=3)(h:wP g k v c e)(h':wP g k v' c' e'):v=v'/\c=c'/\e=e':=by
 obtain⟨a1,a2,a3⟩:=h;obtain⟨b1,b2,b3⟩:=h';by_cases hk:1<=k/\k<=4
 ·by_cases hc:Jr g=0
  ·obtain⟨s,ho,hs⟩:=a3 hk hc;obtain⟨s',wL,hs'⟩:=b3 hk hc;have e0:=Option.some.inj (ho.det wL);subst e0;rcases hs with ⟨n1,n2,n3,n4⟩ | ⟨n1,rows,p1,p2,n2,n3,n4⟩ <;> rcases hs' with ⟨m1,m2,m3,m4⟩ | ⟨m1,sB,q1,q2,m2,m3,m4⟩
   ·exact⟨n2.trans m2.symm,n3.trans m3.symm,n4.trans m4.symm⟩
   ·exact absurd m1 n1
   ·exact absurd n1 m1
   ·obtain⟨kk,rfl,hL⟩:=jA (jV hk hc) (by rw[(Kh g).2.1];exact hm);obtain⟨s1,Ea,hM⟩:=hL.sets ho;have e1:=Option.some.inj Ea;subst e1;have er:=ae hL hM hM p1 q1 (qB hL hM n1 p1 p2) (qB hL hM n1 q1 q2);subst er;exact⟨n2.trans m2.symm,n3.trans m3.symm,n4.trans m4.symm⟩
  ·obtain⟨n2,n3,n4⟩:=a2 hk hc;obtain⟨m2,m3,m4⟩:=b2 hk hc;exact⟨n2.trans m2.symm,n3.trans m3.symm,n4.trans m4.symm⟩
 ·obtain⟨n2,n3,n4⟩:=a1 hk;obtain⟨m2,m3,m4⟩:=b1 hk;exact⟨n2.trans m2.symm,n3.trans m3.symm,n4.trans m4.symm⟩
theorem zT{g:Jw}{k:Int}{v:Nu}{c:List We}(hm:g.2.1.length<=3)(h:wP g k v c 0):zbZ v/\c=[]:=by
 obtain⟨a1,a2,a3⟩:=h;by_cases hk:1<=k/\k<=4
 ·by_cases hc:Jr g=0
  ·obtain⟨s,ho,hs⟩:=a3 hk hc;rcases hs with ⟨_,_,_,n4⟩ | ⟨n1,rows,p1,p2,n2,n3,_⟩
   ·cases n4
   ·obtain⟨kk,rfl,hL⟩:=jA (jV hk hc) (by rw[(Kh g).2.1];exact hm);obtain⟨s1,Ea,hM⟩:=hL.sets ho;have e1:=Option.some.inj Ea;subst e1;obtain⟨hgood,fz⟩:=Rb hc;have zaT:=me hL hM p1;have zgL:=qdU hL hM p1;have hrg:=aP hL hM p1;refine⟨?_,n3⟩;rw[n2];refine⟨hk.1,hk.2,fz,ag _ _,fun i m hi=>?_,gF hgood,qtZ hL hM n1 p1 p2⟩;have Mq:i<(Zx g).1.length:=by
     have:=(Qj.1 hi).1
     rwa [ag] at this
    change (Me rows (Zx g).1.length)[i]? = some m at hi;rw[ai rows Mq] at hi;injection hi with hi;have hlo:=sY zaT (i:Int);have hL2:Tm (Nx (Wj (i:Int) rows) (Bb (Wj (i:Int) rows))) m:=hi ▸ Pg hlo;have hF:=Cv (Wj (i:Int) rows);refine⟨kT hF hL2 fun r hr=>zgL r (Qw.1 hr).1,?_,rD hF hL2⟩;unfold np;rw[Xp];intro st hst;obtain⟨j,hj,rfl⟩:=Qz hst;have ho2:=rC hF hL2 hj;rw[Bq hj] at ho2;simp only[Bool.not_eq_true',Yl,Yj,Bool.and_eq_false_iff,ne_eq,Decidable.not_not];rcases ho2 with e | ⟨r,hr,e⟩
    ·exact⟨by omega,.inl (by omega)⟩
    ·have Uz:=Qw.1 hr;have h1:=(hrg r Uz.1).1;unfold Hm at h1;simp only[Bool.not_eq_true',Yl,Yj,ne_eq,Decidable.not_not] at h1;have hl:=of_decide_eq_true Uz.2;rw[e];exact⟨h1.1.1.2,.inr (h1.1.2.trans hl)⟩
  ·have:=(a2 hk hc).2.2;exact absurd this.symm hc
 ·have:=(a1 hk).2.2;cases this
theorem qeP{g:Jw}{k:Int}{v:Nu}{c:List We}{e:Int}(hg:Il g):wP (Zx g) k v c e↔wP g k v c e:=by
 have fz:Jr (Zx g)=Jr g:=by
  unfold Jr;rw[if_pos ((Gf _).2 (Pk hg)),if_pos ((Gf _).2 hg),nE hg]
 unfold wP;rw[fz,gF hg]
theorem qeQ{g:Jw}{k:Int}{v:Nu}{c:List We}(hm:g.2.1.length<=3)(h:wP g k v c 0):v.1=Zx g/\v.2.1=k/\wP v.1 v.2.1 v [] 0:=by
 have Vi:=(zT hm h).2;subst Vi;obtain⟨a1,a2,a3⟩:=h;by_cases hk:1<=k/\k<=4
 ·by_cases hc:Jr g=0
  ·obtain⟨s,ho,hs⟩:=a3 hk hc;have hgood:=(Rb hc).1;rcases hs with ⟨_,_,_,n4⟩ | ⟨n1,rows,p1,p2,n2,n3,_⟩
   ·cases n4
   ·have e1:v.1=Zx g:=by rw[n2]
    have e2:v.2.1=k:=by rw[n2]
    refine⟨e1,e2,?_⟩;rw[e1,e2,qeP hgood];exact⟨fun h=>absurd hk h,fun _ h=>absurd hc h,fun _ _=>⟨s,ho,.inr ⟨n1,rows,p1,p2,n2,rfl,rfl⟩⟩⟩
  ·exact absurd (a2 hk hc).2.2.symm hc
 ·cases (a1 hk).2.2
theorem C_(A B:Option Addr)(ca cb:Nat)(xs ys:List (Int×Int))(w:World)(ha:Jb Gg w w.heap.size (.slice A xs.length ca) xs)(hb:Jb Gg w w.heap.size (.slice B ys.length cb) ys) :
  Calls Tryz.prog 171 #[.slice A xs.length ca,.slice B ys.length cb] w fun e w'=>e=.returned (.bool (decide (xs=ys)))/\Below w.heap.size w w':=by
 have HA:=Lh ha;have HB:=Lh hb;have h1:=ha.n_le;have h2:=hb.n_le;by_cases hl:xs.length=ys.length
 ·rw[<-hl] at HB h2 |-;obtain⟨n,hn⟩:=Xe xs.length;rw[<-hn] at HA HB h1 h2 |-;have HN:=Lh hn;have Ci:=Lh (hn.trans hl);clear ha hb hl hn;go_enter Tryz.func171,Tryz.ntmps171;go_wp2_with fail;go_loopg [13] n (fun left v13 wr=>∃ i:Nat,i<=n/\n - i<=left/\v13=.int .i64 i/\Hid (xs.take i=ys.take i)/\Hid (Below w.heap.size w wr));exact⟨0,by omega,by omega,rfl,by simp[Hid],Xr _ _⟩;obtain⟨i,hi,Vt,rfl,HE,HBR⟩:=hrel;by_cases Sb:i<n
  ·have Ge:i<xs.length:=by rw[<-HN.o];exact Sb
   have Gn:i<ys.length:=by rw[<-Ci.o];exact Sb
   obtain⟨b1,o1,cs1,rfl,-,hb1,Eg,Kn⟩:=(HA.o.below HBR.o).get Ge (by decide);obtain⟨b2,o2,cs2,rfl,-,Zy,Us,Je⟩:=(HB.o.below HBR.o).get Gn (by decide);obtain⟨rfl,Sr,Fn,hz3,hz4⟩:=Nh Eg;obtain⟨rfl,qC,tP,pl,hy4⟩:=Nh Us;have a0:=Kn 0 _ rfl;have a1:=Kn 1 _ rfl;have c0:=Je 0 _ rfl;have c1:=Je 1 _ rfl;clear Kn Je Eg Us;simp only[show Gg.size=2 from rfl,Yo,<-Yv] at a0 a1 c0 c1;have HT:=Lh (Qc Ge);have HT2:=Lh (Qc Gn);have Oj:=Lh (Qa Ge);have bX:=Lh (Qa Gn);obtain⟨x,hx⟩:=Xe (xs[i]);obtain⟨y,hy⟩:=Xe (ys[i]);rw[<-hx] at a0 a1 HT Oj Sr Fn hz3 hz4;rw[<-hy] at c0 c1 HT2 bX qC tP pl hy4;clear hx hy Ge Gn;obtain⟨xa,xi⟩:=x;obtain⟨ya,yi⟩:=y;simp only at a0 a1 c0 c1;go_wp2_with fail;refine Text.wp_text [8] (by kernel_rfl) (by kernel_rfl) (fun Q' hQ'=>?_);go_wp2_with fail
   all_goals refine⟨by rfl,?_⟩
   case isTrue.isTrue =>
    rename_i g1 g2;subst g1 g2;go_wp2_with fail;go_roundg (gk - 1);exact⟨i+1,by omega,by omega,by go_num,by show _=_;rw[HT.o,HT2.o,HE.o],HBR.o.drew⟩;omega
   all_goals
    have HNE:=Lh (show ¬ xs=ys by
     intro e
     have e2:=Oj.o.symm.trans ((congrArg (fun l:List (Int×Int)=>l[i]?) e).trans bX.o)
     injection e2 with e2
     injection e2 with e2 e3
     contradiction)
    go_wp2_with fail;go_ret;exact⟨Kd (Zm (by rw[Yu HNE.o])),HBR.o.drew⟩
  ·have Mq:i=n:=by omega
   have HEQ:=Lh (show xs=ys by
    have h:=HE.o
    rwa [Mq,Qd (by rw[<-HN.o];exact Xz _),Qd (by rw[<-Ci.o];exact Xz _)] at h)
   go_wp2_with fail;go_ret;exact⟨Kd (Zm (by rw[Yt HEQ.o])),HBR.o⟩
 ·have HNE:=Lt (¬ xs=ys) (fun e=>hl (by rw[e]));have hlb:((xs.length:Int)==(ys.length:Int))=false:=by
   rw[Yn];omega
  have kM:¬ ((xs.length:Int)=(ys.length:Int)):=by omega
  generalize xs.length=n1 at *;generalize ys.length=n2 at *;clear ha hb;go_enter Tryz.func171,Tryz.ntmps171;go_wp2_with fail
  all_goals first
   |(exfalso;omega)
   |(go_ret;exact⟨Kd (Zm (by rw[Yu HNE.o])),Xr _ _⟩)
theorem qdR(o1 o2:Int)(v1 v2:Value)(l1 l2:List (Int×Int))(w:World)(h1:Jb Gg w w.heap.size v1 l1)(h2:Jb Gg w w.heap.size v2 l2) :
  Calls Tryz.prog 170 #[.agg #[.int .i64 o1,v1],.agg #[.int .i64 o2,v2]] w fun e w'=>e=.returned (.bool (decide (o1=o2)&&decide (l1=l2)))/\Below w.heap.size w w':=by
 obtain⟨A1,c1,rfl,-,-⟩:=h1.form;obtain⟨A2,c2,rfl,-,-⟩:=h2.form;have HBW:=Lt (Below w.heap.size w ((w.alloc (.cells #[.int .i64 o1,.slice A1 l1.length c1] 118)).alloc (.cells #[.int .i64 o2,.slice A2 l2.length c2] 118))) (((Xr _ _).alloc (Xz _) _).alloc (by rw[Xs];omega) _);have HE:=Lh (C_ A1 A2 c1 c2 l1 l2 _ (h1.fut HBW.o (Xz _) HBW.o.size) (h2.fut HBW.o (Xz _) HBW.o.size));clear h1 h2;generalize l1.length=n1 at *;generalize l2.length=n2 at *;by_cases ho:o1=o2
 ·subst ho;go_enter Tryz.func170,Tryz.ntmps170;go_wp2_with fail;refine HE.o.mono ?_;rintro e w1 ⟨rfl,hb1⟩;have HB1:=Lh (HBW.o.trans (hb1.mono HBW.o.size));clear hb1;obtain⟨d,hd⟩:=Xe (decide (l1=l2));rw[<-hd];have HD:=Lh hd;clear hd;cases d
  all_goals
   go_wp2_with fail;go_ret;exact⟨Kd (Zm (by rw[<-HD.o];simp)),HB1.o⟩
 ·have hd:(o1==o2)=false:=by simpa using ho
  have HD:=Lh ho;clear ho;go_enter Tryz.func170,Tryz.ntmps170;go_wp2_with fail;go_ret;exact⟨Kd (Zm (by rw[Yu HD.o];rfl)),HBW.o⟩
theorem ii(v1 v2:Value)(m1 m2:v_)(w:World)(h1:Jb Jn w w.heap.size v1 m1)(h2:Jb Jn w w.heap.size v2 m2) :
  Calls Tryz.prog 169 #[v1,v2,.func (.func 170) #[] #[]] w fun e w'=>e=.returned (.bool (decide (m1=m2)))/\Below w.heap.size w w':=by
 obtain⟨A1,c1,rfl,kP,oN⟩:=h1.form;obtain⟨A2,c2,rfl,hb1,Zy⟩:=h2.form;unfold maxLen at oN Zy;have H1:=Lh h1;have H2:=Lh h2;clear h1 h2;by_cases hl:m1.length=m2.length
 ·rw[<-hl] at H2 hb1 |-;obtain⟨n,hn⟩:=Xe m1.length;rw[<-hn] at H1 H2 kP hb1 |-;have HN:=Lh hn;have Ci:=Lh (hn.trans hl);clear hl hn;go_enter Tryz.func169,Tryz.ntmps169;go_wp2_with fail;go_loopw [17] (fun v17 wr=>∃ i:Nat,i<=n/\v17=.int .i64 i/\Hid (m1.take i=m2.take i)/\Hid (Below w.heap.size w wr)) (fun v17 _=>n - (intOf v17).toNat);exact⟨0,by omega,rfl,by simp[Hid],Xr _ _⟩;obtain⟨i,hi,rfl,HE,HBR⟩:=hrel;by_cases Sb:i<n
  ·have Ge:i<m1.length:=by rw[<-HN.o];exact Sb
   have Gn:i<m2.length:=by rw[<-Ci.o];exact Sb
   obtain⟨b1,o1,cs1,rfl,-,qoD,Eg,Kn⟩:=(H1.o.below HBR.o).get Ge (by decide);obtain⟨b2,o2,cs2,rfl,-,ztA,Us,Je⟩:=(H2.o.below HBR.o).get Gn (by decide);obtain⟨u1,rfl,hu1,Sr,Fn⟩:=Mi Eg;obtain⟨u2,rfl,qD,qC,tP⟩:=Mi Us;obtain⟨B1,k1,rfl,-,-⟩:=hu1.form;obtain⟨B2,k2,rfl,-,-⟩:=qD.form;have a0:=Kn 0 _ rfl;have a1:=Kn 1 _ rfl;have d0:=Je 0 _ rfl;have d1:=Je 1 _ rfl;clear Kn Je Eg Us;simp only[show Jn.size=2 from rfl,Yo,<-Yv] at a0 a1 d0 d1;have iC:=Lh hu1;have HU2:=Lh qD;have HT:=Lh (Qc Ge);have HT2:=Lh (Qc Gn);have Oj:=Lh (Qa Ge);have bX:=Lh (Qa Gn);obtain⟨x,hx⟩:=Xe (m1[i]);obtain⟨y,hy⟩:=Xe (m2[i]);rw[<-hx] at a0 a1 HT Oj iC;rw[<-hy] at d0 d1 HT2 bX HU2;clear hx hy Ge Gn hu1 qD Sr Fn qC tP;obtain⟨xa,xl⟩:=x;obtain⟨ya,yl⟩:=y;simp only at a0 a1 d0 d1 iC HU2;have HS:=Lh (fun W (hW:Below w.heap.size wr W) (hs:w.heap.size<=W.heap.size)=>qdR xa ya (.slice B1 xl.length k1) (.slice B2 yl.length k2) xl yl W (iC.o.fut hW (Xz _) hs) (HU2.o.fut hW (Xz _) hs));generalize xl.length=n1 at *;generalize yl.length=n2 at *;have HBX:=Lt (Below w.heap.size wr ((wr.alloc (.cells #[.int .i64 xa,.slice B1 n1 k1] 118)).alloc (.cells #[.int .i64 ya,.slice B2 n2 k2] 118))) (((Xr _ _).alloc HBR.o.size _).alloc (by rw[Xs];have:=HBR.o.size;omega) _);have hbr:=HBR.o.size;have d0':(wr.alloc (.cells #[.int .i64 xa,.slice B1 n1 k1] 118)).cell? ⟨b2,o2+i*2,none⟩=some (.int .i64 ya):=(World.cell?_of_block (w:=wr) (Zc wr _ b2 (by omega))).trans d0;have d1':(wr.alloc (.cells #[.int .i64 xa,.slice B1 n1 k1] 118)).cell? ⟨b2,o2+i*2+1,none⟩=some (.slice B2 n2 k2):=(World.cell?_of_block (w:=wr) (Zc wr _ b2 (by omega))).trans d1;go_wp2_with fail;refine (HS.o _ HBX.o (Ya HBR.o.size (by simp only[Xs];omega))).mono ?_;rintro e w1 ⟨rfl,hb1⟩;have HB1:=Lh (HBR.o.trans (HBX.o.trans (hb1.mono (by simp only[Xs];have:=HBR.o.size;omega))));clear hb1;obtain⟨d,hd⟩:=Xe ((decide (xa=ya)&&decide (xl=yl)));rw[<-hd];have HD:=Lh hd;clear hd;cases d
   ·have HNE:=Lh (show ¬ m1=m2 by
     intro e
     have e2:=Oj.o.symm.trans ((congrArg (fun l:v_=>l[i]?) e).trans bX.o)
     injection e2 with e2
     injection e2 with e2 e3
     have:=HD.o
     rw[Yt e2,Yt e3] at this
     cases this)
    go_wp2_with fail;go_ret;exact⟨Kd (Zm (by rw[Yu HNE.o])),HB1.o⟩
   ·have HQ:=Lh (show xa=ya/\xl=yl by
     have h:=HD.o.symm
     rw[Yk,decide_eq_true_iff,decide_eq_true_iff] at h
     exact h)
    go_wp2_with fail;go_roundw;exact⟨i+1,by omega,by go_num,by show _=_;rw[HT.o,HT2.o,HE.o,HQ.o.1,HQ.o.2],HB1.o⟩;simp[intOf];omega
  ·have Mq:i=n:=by omega
   have HEQ:=Lh (show m1=m2 by
    have h:=HE.o
    rwa [Mq,Qd (by rw[<-HN.o];exact Xz _),Qd (by rw[<-Ci.o];exact Xz _)] at h)
   go_wp2_with fail;go_ret;exact⟨Kd (Zm (by rw[Yt HEQ.o])),HBR.o⟩
 ·have HNE:=Lt (¬ m1=m2) (fun e=>hl (by rw[e]));have kM:((m1.length:Int) != (m2.length:Int))=true:=by simpa using (show ¬ (m1.length:Int)=m2.length by omega)
  clear hl;go_enter Tryz.func169,Tryz.ntmps169;go_wp2_with fail;go_ret;exact⟨Kd (Zm (by rw[Yu HNE.o])),Xr _ _⟩
theorem iW(v1 v2:Value)(m1 m2:v_)(w:World)(h1:Jb Jn w w.heap.size v1 m1)(h2:Jb Jn w w.heap.size v2 m2) :
  Calls Tryz.prog 107 #[v1,v2] w fun e w'=>e=.returned (.bool (decide (m1=m2)))/\Below w.heap.size w w':=by
 have HE:=Lh (ii v1 v2 m1 m2 w h1 h2);obtain⟨A1,c1,rfl,-,-⟩:=h1.form;obtain⟨A2,c2,rfl,-,-⟩:=h2.form;clear h1 h2;go_enter Tryz.func107,Tryz.ntmps107;go_wp2_with fail;refine HE.o.mono ?_;rintro e w1 ⟨rfl,hb1⟩;go_wp2_with fail;go_ret;exact⟨rfl,hb1⟩
theorem re(v1 v2:Value)(m1 m2:List Kf)(w:World)(h1:Jb (Ro Jn) w w.heap.size v1 m1)(h2:Jb (Ro Jn) w w.heap.size v2 m2) :
  Calls Tryz.prog 122 #[v1,v2,.func (.func 107) #[] #[]] w fun e w'=>e=.returned (.bool (decide (m1=m2)))/\Below w.heap.size w w':=by
 obtain⟨A1,c1,rfl,kP,oN⟩:=h1.form;obtain⟨A2,c2,rfl,hb1,Zy⟩:=h2.form;unfold maxLen at oN Zy;have H1:=Lh h1;have H2:=Lh h2;clear h1 h2;by_cases hl:m1.length=m2.length
 ·rw[<-hl] at H2 hb1 |-;obtain⟨n,hn⟩:=Xe m1.length;rw[<-hn] at H1 H2 kP hb1 |-;have HN:=Lh hn;have Ci:=Lh (hn.trans hl);clear hl hn;go_enter Tryz.func122,Tryz.ntmps122;go_wp2_with fail;go_loopw [17] (fun v17 wr=>∃ i:Nat,i<=n/\v17=.int .i64 i/\Hid (m1.take i=m2.take i)/\Hid (Below w.heap.size w wr)) (fun v17 _=>n - (intOf v17).toNat);exact⟨0,by omega,rfl,by simp[Hid],Xr _ _⟩;obtain⟨i,hi,rfl,HE,HBR⟩:=hrel;by_cases Sb:i<n
  ·have Ge:i<m1.length:=by rw[<-HN.o];exact Sb
   have Gn:i<m2.length:=by rw[<-Ci.o];exact Sb
   obtain⟨b1,o1,cs1,rfl,-,qoD,Eg,Kn⟩:=(H1.o.below HBR.o).get Ge (by decide);obtain⟨b2,o2,cs2,rfl,-,ztA,Us,Je⟩:=(H2.o.below HBR.o).get Gn (by decide);obtain⟨u1,rfl,hu1⟩:=Eg;obtain⟨u2,rfl,qD⟩:=Us;have a0:=Kn 0 _ rfl;have d0:=Je 0 _ rfl;clear Kn Je;simp only[show (Ro Jn).size=1 from rfl,Yo,Yq] at a0 d0;have hs:=HBR.o.size;have HS:=Lh (iW u1 u2 m1[i] m2[i] wr (hu1.more hs) (qD.more hs));obtain⟨B1,k1,rfl,-,-⟩:=hu1.form;obtain⟨B2,k2,rfl,-,-⟩:=qD.form;have HT:=Lh (Qc Ge);have HT2:=Lh (Qc Gn);have Oj:=Lh (Qa Ge);have bX:=Lh (Qa Gn);obtain⟨x,hx⟩:=Xe (m1[i]);obtain⟨y,hy⟩:=Xe (m2[i]);rw[<-hx] at a0 HT Oj HS;rw[<-hy] at d0 HT2 bX HS;clear hx hy Ge Gn hu1 qD;generalize x.length=n1 at *;generalize y.length=n2 at *;go_wp2_with fail;refine HS.o.mono ?_;rintro e w1 ⟨rfl,hb1⟩;have HB1:=Lh (HBR.o.trans (hb1.mono hs));clear hb1;obtain⟨d,hd⟩:=Xe (decide (x=y));rw[<-hd];have HD:=Lh hd;clear hd;cases d
   ·have HNE:=Lh (show ¬ m1=m2 by
     intro e
     have e2:=Oj.o.symm.trans ((congrArg (fun l:List Kf=>l[i]?) e).trans bX.o)
     injection e2 with e2
     have:=HD.o
     rw[Yt e2] at this
     cases this)
    go_wp2_with fail;go_ret;exact⟨Kd (Zm (by rw[Yu HNE.o])),HB1.o⟩
   ·have HQ:=Lt (x=y) (of_decide_eq_true HD.o.symm);go_wp2_with fail;go_roundw;exact⟨i+1,by omega,by go_num,by show _=_;rw[HT.o,HT2.o,HE.o,HQ.o],HB1.o⟩;simp[intOf];omega
  ·have Mq:i=n:=by omega
   have HEQ:=Lh (show m1=m2 by
    have h:=HE.o
    rwa [Mq,Qd (by rw[<-HN.o];exact Xz _),Qd (by rw[<-Ci.o];exact Xz _)] at h)
   go_wp2_with fail;go_ret;exact⟨Kd (Zm (by rw[Yt HEQ.o])),HBR.o⟩
 ·have HNE:=Lt (¬ m1=m2) (fun e=>hl (by rw[e]));have kM:((m1.length:Int) != (m2.length:Int))=true:=by simpa using (show ¬ (m1.length:Int)=m2.length by omega)
  clear hl;go_enter Tryz.func122,Tryz.ntmps122;go_wp2_with fail;go_ret;exact⟨Kd (Zm (by rw[Yu HNE.o])),Xr _ _⟩
theorem xQ(v1 v2:Value)(m1 m2:List Kf)(w:World)(h1:Jb (Ro Jn) w w.heap.size v1 m1)(h2:Jb (Ro Jn) w w.heap.size v2 m2) :
  Calls Tryz.prog 64 #[v1,v2] w fun e w'=>e=.returned (.bool (decide (m1=m2)))/\Below w.heap.size w w':=by
 have HE:=Lh (re v1 v2 m1 m2 w h1 h2);obtain⟨A1,c1,rfl,-,-⟩:=h1.form;obtain⟨A2,c2,rfl,-,-⟩:=h2.form;clear h1 h2;go_enter Tryz.func64,Tryz.ntmps64;go_wp2_with fail;refine HE.o.mono ?_;rintro e w1 ⟨rfl,hb1⟩;go_wp2_with fail;go_ret;exact⟨rfl,hb1⟩
def Bv(k:Int):Bool:=decide (1<=k/\k<=4)
theorem lT(k:Int)(w:World):Calls Tryz.prog 27 #[.int .i64 k] w fun e w'=>e=.returned (.bool (Bv k))/\w=w':=by
 have hc:k<1\/(1<=k/\k<=4)\/4<k:=by omega
 rcases hc with h | h | h
 all_goals
  go_enter Tryz.func27,Tryz.ntmps27;go_wp2
  all_goals first
   |(exfalso;omega)
   |(exfalso;simp at *;omega)
   |(go_ret;exact⟨Kd (Zm (by rw[Bool.eq_iff_iff];simp[Bv] <;> omega)),rfl⟩)
def pR(g:Jw)(left:Int)(s:Int×List (Int×Int)):Bool:=decide ((g.2.2.length:Int)<=s.1)||decide (0<=s.1)&&decide (Rz g s.1≠left)
theorem qlG(g:Jw)(left:Nat)(m:Kf):np g left m=!m.any (pR g (left:Int)):=by
 unfold np pR
 induction m with
 |nil=>rfl
 |cons s m ih =>
  rw[List.all_cons,List.any_cons,ih];generalize (m.any fun s=>decide ((g.2.2.length:Int)<=s.1)||decide (0<=s.1)&&decide (Rz g s.1≠(left:Int)))=x;generalize (decide ((g.2.2.length:Int)<=s.1)||decide (0<=s.1)&&decide (Rz g s.1≠(left:Int)))=y;cases x <;> cases y <;> rfl
theorem qlH(gb lb:Nat)(v1 v2 vn:Value)(A3:Option Addr)(q c3:Nat)(g:Jw)(left:Int)(s:Int×List (Int×Int))(w:World)(B:Nat)(hg:w.heap[gb]? = some (.cells #[v1,v2,.slice A3 q c3] 25 (0,0)))(hl:w.heap[lb]? = some (.cells #[.int .i64 left] 3 (0,0)))
  (hr:Jb Kx w B (.slice A3 q c3) g.2.2) (hB:B<=w.heap.size) (hvn:∃ A n c,vn=.slice A n c) :
  Calls Tryz.prog 106 #[.agg #[.int .i64 s.1,vn],.pointer (some ⟨gb,0,none⟩),.pointer (some ⟨lb,0,none⟩)] w fun e w'=>e=.returned (.bool (pR g left s))/\Below w.heap.size w w':=by
 obtain⟨A0,n0,c0,rfl⟩:=hvn;have hq:=hr.n_eq;have hqs:=hr.n_le;obtain⟨o,ho⟩:=Xe s.1;rw[<-ho];have Te:=Lh (show pR g left s=(decide ((q:Int)<=o)||decide (0<=o)&&decide (Rz g o≠left)) by unfold pR;rw[<-hq,<-ho]);have HBW:=Lt (Below w.heap.size w (w.alloc (.cells #[.int .i64 o,.slice A0 n0 c0] 118))) ((Xr _ _).alloc (Xz _) _);have HS:=Lh (Xn w (.cells #[.int .i64 o,.slice A0 n0 c0] 118));have HG:=Lh ((HBW.o.block gb (gl hg)).trans hg);have HL:=Lh ((HBW.o.block lb (gl hl)).trans hl);have HR:=Lh (hr.below (HBW.o.mono hB));obtain⟨K,hK⟩:=Xe w.heap.size;rw[<-hK] at HS;clear hg hl hr ho;by_cases h1:(q:Int)<=o
 ·have d1:decide (o≥(q:Int))=true:=by simpa using h1
  have d1':decide ((q:Int)<=o)=true:=by simpa using h1
  have Kl:=Lh (show pR g left s=true by rw[Te.o,Yt h1];rfl);clear h1 hq;go_enter Tryz.func106,Tryz.ntmps106;go_wp2_with fail;rw[<-hK];clear hK;generalize w.alloc (.cells #[.int .i64 o,.slice A0 n0 c0] 118)=w1 at *;obtain⟨a0,a1,a2⟩:=Ot HG.o;have s0:w1.cell? ⟨K,0,none⟩=some (.int .i64 o):=Xc HS.o rfl;refine Text.wt (by kernel_rfl) fun Q' hQ'=>?_;go_wp2_with fail;refine⟨by rfl,?_⟩;go_wp2_with fail;go_ret;exact⟨Kd (Zm Kl.o.symm),HBW.o.drew⟩
 ·have d1:decide ((q:Int)<=o)=false:=by simpa using h1
  by_cases h2:0<=o
  ·obtain⟨k,hk⟩:∃ k:Nat,o=(k:Int):=⟨o.toNat,by omega⟩;have hkq:k<g.2.2.length:=by omega
   have hkq2:k<q:=by omega
   have HLF:=Lh (show Rz g o=g.2.2[k].1 by unfold Rz;rw[hk];simp[hkq]);obtain⟨b,off,cs,hA3,_,_,Zt,Zj⟩:=HR.o.get hkq (by decide);subst hA3;obtain⟨u,rfl,hsu,Sr,Fn⟩:=Jv Zt;have c0':=Zj 0 _ rfl;simp only[show Kx.size=2 from rfl,Yo] at c0';clear Zj Zt hsu;generalize g.2.2[k].1=lv at *;have Kl:=Lh (show pR g left s=decide (lv≠left) by rw[Te.o,d1,HLF.o,Yt h2];rfl);subst hk;have d2:decide ((0:Int)<=(k:Int))=true:=by simp
   have d1n:decide (q<=k)=false:=by simp;omega
   by_cases he:lv=left
   ·have hx:(lv != left)=false:=by simp[he]
    have db:=Lh (show pR g left s=false by rw[Kl.o,Yu (fun e=>e he)]);clear he;clear h1 h2 hq hkq;go_enter Tryz.func106,Tryz.ntmps106;go_wp2_with fail;rw[<-hK];clear hK;generalize w.alloc (.cells #[.int .i64 (k:Int),.slice A0 n0 c0] 118)=w1 at *;obtain⟨a0,a1,a2⟩:=Ot HG.o;have s0:w1.cell? ⟨K,0,none⟩=some (.int .i64 (k:Int)):=Xc HS.o rfl;have l0:w1.cell? ⟨lb,0,none⟩=some (.int .i64 left):=Xc HL.o rfl;refine Text.wt (by kernel_rfl) fun Q' hQ'=>?_;go_wp2_with fail;refine⟨by rfl,?_⟩;go_wp2_with fail;go_ret;exact⟨Kd (Zm db.o.symm),HBW.o.drew⟩
   ·have hx:(lv != left)=true:=by simp[he]
    have db:=Lh (show pR g left s=true by rw[Kl.o,Yt he]);clear he;clear h1 h2 hq hkq;go_enter Tryz.func106,Tryz.ntmps106;go_wp2_with fail;rw[<-hK];clear hK;generalize w.alloc (.cells #[.int .i64 (k:Int),.slice A0 n0 c0] 118)=w1 at *;obtain⟨a0,a1,a2⟩:=Ot HG.o;have s0:w1.cell? ⟨K,0,none⟩=some (.int .i64 (k:Int)):=Xc HS.o rfl;have l0:w1.cell? ⟨lb,0,none⟩=some (.int .i64 left):=Xc HL.o rfl;refine Text.wt (by kernel_rfl) fun Q' hQ'=>?_;go_wp2_with fail;refine⟨by rfl,?_⟩;go_wp2_with fail;go_ret;exact⟨Kd (Zm db.o.symm),HBW.o.drew⟩
  ·have d2:decide ((0:Int)<=o)=false:=by simpa using h2
   have Kl:=Lh (show pR g left s=false by rw[Te.o,d1,d2];rfl);clear h1 h2 hq;go_enter Tryz.func106,Tryz.ntmps106;go_wp2_with fail;rw[<-hK];clear hK;generalize w.alloc (.cells #[.int .i64 o,.slice A0 n0 c0] 118)=w1 at *;obtain⟨a0,a1,a2⟩:=Ot HG.o;have s0:w1.cell? ⟨K,0,none⟩=some (.int .i64 o):=Xc HS.o rfl;refine Text.wt (by kernel_rfl) fun Q' hQ'=>?_;go_wp2_with fail;refine⟨by rfl,?_⟩;go_wp2_with fail;go_ret;exact⟨Kd (Zm Kl.o.symm),HBW.o.drew⟩
theorem qtI(v1 v2 v3 v:Value)(g:Jw)(left:Nat)(m:Kf)(w:World)(B:Nat)(hr:Jb Kx w B v3 g.2.2)(hB:B<=w.heap.size)(hm:Jb Jn w w.heap.size v m) :
  Calls Tryz.prog 49 #[.agg #[v1,v2,v3],.int .i64 left,v] w fun e w'=>e=.returned (.bool (np g left m))/\Below w.heap.size w w':=by
 obtain⟨A3,c3,rfl,_,_⟩:=hr.form;obtain⟨A,c,rfl,_,_⟩:=hm.form;have HOW:=Lh (qlG g left m);have HR:=Lh hr;have HM:=Lh hm;clear hr hm;generalize g.2.2.length=q at *;generalize m.length=n at *;have HB2:=Lt (Below w.heap.size w ((w.alloc (.cells #[v1,v2,.slice A3 q c3] 25)).alloc (.cells #[.int .i64 left] 3))) (((Xr _ _).alloc (Xz _) _).alloc (by rw[Xs];omega) _);have HG:=Lh (Go.heap_alloc2_old w (.cells #[v1,v2,.slice A3 q c3] 25) (.cells #[.int .i64 left] 3));have HL:=Lh (Go.heap_alloc2_new w (.cells #[v1,v2,.slice A3 q c3] 25) (.cells #[.int .i64 left] 3));go_enter Tryz.func49,Tryz.ntmps49;go_wp2_with fail;generalize (w.alloc (.cells #[v1,v2,.slice A3 q c3] 25)).alloc (.cells #[.int .i64 left] 3)=w2 at *;have HC:=Lh (P_ 106 #[.pointer (some ⟨w.heap.size,0,none⟩),.pointer (some ⟨w.heap.size+1,0,none⟩)] (pR g (left:Int)) (.slice A n c) m w2 (HM.o.fut HB2.o (Xz _) HB2.o.size) (fun _ _=>by kernel_rfl) (fun cs x w3 _ hb3 hrx=>by
  obtain⟨vx,rfl,Ld,_,_⟩:=Mi hrx
  obtain⟨Ax,cx,rfl,_,_⟩:=Ld.form
  exact qlH w.heap.size (w.heap.size+1) v1 v2 _ A3 q c3 g (left:Int) x w3 B ((hb3.block _ (gl HG.o)).trans HG.o) ((hb3.block _ (gl HL.o)).trans HL.o) (HR.o.below ((HB2.o.mono hB).trans (hb3.mono (Ya hB HB2.o.size)))) (Ya hB (Ya HB2.o.size hb3.size)) ⟨_,_,_,rfl⟩))
 refine HC.o.mono ?_;rintro e w3 ⟨rfl,hb3⟩;have HB3:=Lh (HB2.o.trans (hb3.mono HB2.o.size));generalize m.any (pR g (left:Int))=x at *;go_wp2_with fail;go_ret;exact⟨Kd (Zm HOW.o.symm),HB3.o⟩
theorem yp(v:Value)(m:Kf)(w:World)(hv:Jb Jn w w.heap.size v m)(hl:m.length<=2199023255552)(he:∀ k<m.length,(Md m k).length<=2199023255552)(ht:dR w) :
  Calls Tryz.prog 50 #[v] w fun e w'=>e=.returned (.bool (decide (m≠[])&&decide (Nz m=m)))/\Below w.heap.size w w':=by
 have HMK:=Lh (iX v m w hv hl he ht);have HV:=Lh hv;obtain⟨A,c,rfl,hc1,hc2⟩:=hv.form;unfold maxLen at hc2;by_cases hm:m=[]
 ·subst hm;clear HMK hv hl he;go_enter Tryz.func50,Tryz.ntmps50;go_wp2_with fail;go_ret;exact⟨Kd (Zm (by simp)),Xr _ _⟩
 ·have Dh:0<m.length:=Qy.2 hm;have Kl:=Lh (show (decide (m≠[])&&decide (Nz m=m))=decide (m=Nz m) by
   rw[Yt (show m≠[] from hm),Bool.true_and,decide_eq_decide]
   exact eq_comm)
  have qQ:=Lh (fun(W:World)(hb:Below w.heap.size w W)(v2:Value)(h2:Jb Jn W W.heap.size v2 (Nz m))=>iW (.slice A m.length c) v2 m (Nz m) W (HV.o.fut hb (Xz _) hb.size) h2);clear hv hl he hm HV;generalize m.length=n at *;have d0:decide ((0:Int)<(n:Int))=true:=by simp;omega
  have d0n:decide (0<n)=true:=by simp;omega
  go_enter Tryz.func50,Tryz.ntmps50;go_wp2_with fail;refine HMK.o.mono ?_;rintro e w2 ⟨v2,rfl,Le,Zy⟩;have hS2:=Le w2 fun _ _ _=>rfl;obtain⟨A2,c2,rfl,_,_⟩:=hS2.form;have HC:=Lh (qQ.o w2 Zy _ hS2);have HB2:=Lh Zy;clear Le hS2 Zy;generalize (Nz m).length=n2 at *;go_wp2_with fail;refine HC.o.mono ?_;rintro e w3 ⟨rfl,hb3⟩;have HB3:=Lh (HB2.o.trans (hb3.mono HB2.o.size));clear hb3;generalize decide (m=Nz m)=x at *;go_wp2_with fail;go_ret;exact⟨Kd (Zm Kl.o.symm),HB3.o⟩
theorem qmC:Ev Tryz.prog 29 64 1 24 (.slice none 0 0):=Sv (by kernel_rfl) (by kernel_rfl) rfl (by omega)
def zoF(ms:List Kf)(w:World)(e:Ending)(w':World):Prop:=∃ v,e=.returned v/\Jb (Ro Jn) w' w'.heap.size v ms/\Below w.heap.size w w'
def qqA(ms:List Kf)(w:World)(e:Ending)(w':World):Prop:=∃ v,e=.returned v/\(∀ w'':World,(∀ b,w.heap.size<=b->b<w'.heap.size->w''.heap[b]? = w'.heap[b]?)->Jb (Ro Jn) w'' w''.heap.size v ms)/\Below w.heap.size w w'
theorem qoR(F:FuncId)(cap:Array Value)(n:Nat)(f:Nat->Kf)(w:World)(hn:n<=1099511627776)(hF:∀(args:Array Value)(w:World),(callFunc F args).run Tryz.prog w=.ok (.enter F args) w)
  (hc:∀ left<n,∀ W,Below w.heap.size w W->Calls Tryz.prog F (#[.int .i64 (left:Nat)]++cap) W (qqB (f left) W)) :
  Calls Tryz.prog 43 #[.int .i64 n,.func (.func F) #[] cap] w (qqA ((List.range n).map f) w):=by
 have HC:=Lh hc;clear hc;go_enter Tryz.func43,Tryz.ntmps43;go_wp2_with fail;go_loopw [8,5] (fun v8 v5 wr=>∃(k:Nat)(vs:List Value),k<=n/\v8=.int .i64 k/\vs.length=k/\Hid (Oh wr w.heap.size v5 vs ((List.range k).map f))/\Hid (Below w.heap.size w wr)) (fun v8 _ _=>n - (intOf v8).toNat);exact⟨0,[],by omega,rfl,rfl,Oh.nil _ _,Xr _ _⟩;obtain⟨k,vs,hk,rfl,hvk,HE,HB⟩:=hrel;obtain⟨A5,c5,rfl,Tc,fY⟩:=Zk HE.o.row;unfold maxLen at fY;have HVK:=Lh hvk;clear hvk;by_cases Jo:k<n
 ·go_wp2_with fail;refine (HC.o k Jo wr HB.o).mono ?_;rintro e w1 ⟨vm,rfl,hm,hb1⟩;obtain⟨Am,cm,rfl,jF,hm2⟩:=(hm w1 fun _ _ _=>rfl).form;have HM:=Lh hm;have HB1:=Lh hb1;have hvl:vs.length<=n:=by rw[HVK.o];omega
  have hbz:=HB1.o.size;have hbz2:=HB.o.size;have HE1:=Lh (HE.o.below hb1);clear hm hb1;go_wp2_with (refine Jc (some 16) rfl ?_);refine Stop.go (Ja (m:=1) (n:=vs.length) qmC rfl rfl rfl rfl (HE1.o.row.alloc _) (Rd.row (B:=w1.heap.size+1) (Xn w1 _) (by omega)) rfl (by simp[Value.oneCell']) ?h63 ?hby ?hbase ?_)
  case h63=>simp only[maxLen];omega
  case hby=>omega
  case hbase=>rw[Xs];omega
  intro v2 w2 qxR aE zhE _;have de:=Lh (HE.o.snoc HB.o.size HB1.o HM.o (.cells #[.slice Am (f k).length cm] 64) qxR aE zhE);have HB2:=Lh (Zr ((HB.o.trans (HB1.o.mono HB.o.size)).alloc (by omega) (.cells #[.slice Am (f k).length cm] 64)) aE (HE1.o.row.alloc _) (Xz _) (by rw[Xs];omega));clear qxR aE zhE;go_wp2_with fail;go_roundw
  case rel =>
   refine⟨k+1,vs++[.slice Am (f k).length cm],by omega,by go_num,by rw[Qe,HVK.o];rfl,?_,HB2.o⟩;show Oh _ _ _ _ _;rw[List.range_succ,Qt];exact de.o
  case measure=>simp[intOf];omega
 ·have hkn:k=n:=by omega
  subst hkn;go_wp2_with fail;go_ret;exact⟨_,rfl,fun w'' hw=>HE.o.fresh w'' hw,HB.o⟩
theorem zU{A1 A2 A3 Ar:Option Addr}{n m q c1 c2 c3 nr cr:Nat}(rows:List Wr)(w:World)(hv:Jb An w w.heap.size (.slice Ar nr cr) rows)(hf:Pw rows)(hn:n<=1099511627776)(ht:dR w) :
  Calls Tryz.prog 15 #[Nr A1 A2 A3 n m q c1 c2 c3,.slice Ar nr cr] w (qqA (Me rows n) w):=by
 have HV:=Lh hv;have HF:=Lh hf;have HT:=Lh ht;have hb3:=Xn (w.alloc (.cells #[.slice A1 n c1,.slice A2 m c2,.slice A3 q c3] 25)) (.cells #[.slice Ar nr cr] 28);rw[Xs] at hb3;have HB3:=Lh hb3;have HBW:=Lt (Below w.heap.size w ((w.alloc (.cells #[.slice A1 n c1,.slice A2 m c2,.slice A3 q c3] 25)).alloc (.cells #[.slice Ar nr cr] 28))) (((Xr _ _).alloc (Xz _) _).alloc (by rw[Xs];omega) _);clear hv hf ht hb3;unfold Nr;go_enter Tryz.func15,Tryz.ntmps15;go_wp2_with fail;generalize (w.alloc (.cells #[.slice A1 n c1,.slice A2 m c2,.slice A3 q c3] 25)).alloc (.cells #[.slice Ar nr cr] 28)=wq at *;have Hx:w.heap.size+1<wq.heap.size:=(gl HB3.o);refine (qoR 44 #[.pointer (some ⟨w.heap.size+1,0,none⟩)] n (fun left=>Sq (Wj ((left:Nat):Int) rows)) wq hn (fun _ _=>by kernel_rfl) (fun left _ W hb=>?_)).mono ?_
 ·have hW:=HBW.o.trans (hb.mono HBW.o.size);exact qtX (.slice Ar nr cr) rows (w.heap.size+1) left W (HV.o.fut hW (Xz _) hW.size) HF.o (Vo (t:=28) ((hb.block _ Hx).trans HB3.o)) (HT.o.below hW)
 rintro e w1 ⟨v,rfl,hs,hb1⟩;have HS:=Lh hs;have HB1:=Lh (HBW.o.trans (hb1.mono HBW.o.size));clear hs hb1;go_wp2_with fail;go_ret;exact⟨_,rfl,fun w'' hw=>HS.o w'' fun b h1 h2=>hw b (by have:=HBW.o.size;omega) h2,HB1.o⟩
abbrev Hv(v1 v2 v3 vr vm:Value)(k:Int):Value:=.agg #[v1,v2,v3,.int .i64 k,vr,vm]
structure Sx(w:World)(B:Nat)(v1 v2 v3 vr vm:Value)(v:Nu):Prop where
 gram:kR w B v1 v2 v3 v.1
 rows:Jb An w B vr v.2.2.1
 machs:Jb (Ro Jn) w B vm v.2.2.2
section
variable {w w':World} {B B' N:Nat} {v1 v2 v3 vr vm:Value} {v:Nu}
theorem Sx.fut(h:Sx w B v1 v2 v3 vr vm v)(hb:Below N w w')(h1:B<=N)(h2:B<=B'):Sx w' B' v1 v2 v3 vr vm v:=⟨h.gram.fut hb h1 h2,h.rows.fut hb h1 h2,h.machs.fut hb h1 h2⟩
theorem Sx.zero:Sx w B (.slice none 0 0) (.slice none 0 0) (.slice none 0 0) (.slice none 0 0) (.slice none 0 0) Mz:=⟨kR.zero,Jb.nil_,Jb.nil_⟩
theorem Sx.form(h:Sx w B v1 v2 v3 vr vm v):∃ A1 A2 A3 A4 A5 c1 c2 c3 c4 c5,v1=.slice A1 v.1.1.length c1/\v2=.slice A2 v.1.2.1.length c2/\v3=.slice A3 v.1.2.2.length c3/\vr=.slice A4 v.2.2.1.length c4/\vm=.slice A5 v.2.2.2.length c5:=by
 obtain⟨A1,A2,A3,c1,c2,c3,rfl,rfl,rfl⟩:=h.gram.form;obtain⟨A4,c4,rfl,_⟩:=h.rows.form;obtain⟨A5,c5,rfl,_⟩:=h.machs.form;exact⟨_,_,_,_,_,_,_,_,_,_,rfl,rfl,rfl,rfl,rfl⟩
end
def If:Lf We where
 size:=4
 rep:=fun _ _ cs x=>cs=clc x/\x.2.1.length<=maxLen
 len:=fun h=>by rw[h.1];rfl
 keep:=fun h _=>h
 more:=fun h _=>h
 one:=fun h=>by rw[h.1];intro u hu;simp only[clc,List.mem_cons,List.not_mem_nil,or_false] at hu;rcases hu with rfl | rfl | rfl | rfl <;> rfl
theorem Ex{w:World}{g:Nat}{a b c d e f:Value}{cur:Array Value}{t:TypeId}(hg:w.heap[g]? = some (.cells cur t (0,0)))(hc:cur.size=6)(h1:a.oneCell'=true)(h2:b.oneCell'=true)(h3:c.oneCell'=true)(h4:d.oneCell'=true)(h5:e.oneCell'=true)(h6:f.oneCell'=true) :
  (Instr.storeAt 31 (.pointer (some ⟨g,0,none⟩)) (.agg #[a,b,c,d,e,f])).run Tryz.prog w=.ok () (w.setRow g [a,b,c,d,e,f].toArray):=by
 rw[cQ (vs:=[a,b,c,d,e,f]) rfl (by kernel_rfl) hg (by simp;omega) (by intro u hu;simp only[List.mem_cons,List.not_mem_nil,or_false] at hu;rcases hu with rfl | rfl | rfl | rfl | rfl | rfl <;> assumption)];congr 2;simp[List.drop_eq_nil_of_le (show cur.toList.length<=6 by simp;omega)]
theorem qA{fn:Func}{p u x:Tmp}{r y:Value}{Q:Ending->World->Prop}(h:fn.results=#[.cell p 31,.tmp u,.tmp x]){a:Act}{w:World}{g:Nat}{c0 c1 c2 c3 c4 c5:Value}{fr:Nat×Nat}{t:TypeId}(hd:a.defers=[])
  (hp:a.tmps.getD p undef=.pointer (some ⟨g,0,none⟩)) (hu:a.tmps.getD u undef=r) (hx:a.tmps.getD x undef=y) (hg:w.heap[g]? = some (.cells #[c0,c1,c2,c3,c4,c5] t fr)) (hq:Q (.returned (.tuple #[.agg #[c0,c1,c2,c3,c4,c5],r,y])) w):bodyPost Tryz.prog fn Q .ret a w:=by
 refine Ze (v:=.tuple #[.agg #[c0,c1,c2,c3,c4,c5],r,y]) ?_ hd hq;rw[Gs h,hp,hu,hx];simp[asAddr,Result.andThen,run_loadVar_row w g t 31 #[c0,c1,c2,c3,c4,c5] fr _ hg Tryz.underlying31 rfl (by kernel_rfl)]
def nC(g:Jw):Prop:=g.1.length<=12/\g.2.1.length<=3/\g.2.2.length<=40
def vO(g:Jw)(k:Int)(w:World)(e:Ending)(w':World):Prop :=
 ∃(v1 v2 v3 vr vm vc:Value)(v:Nu)(cl:List We)(er:Int),wP g k v cl er/\e=.returned (.tuple #[Hv v1 v2 v3 vr vm v.2.1,vc,.int .i64 er]) /\
  (∀ w'':World,(∀ b,w.heap.size<=b->b<w'.heap.size->w''.heap[b]? = w'.heap[b]?)->Sx w'' w''.heap.size v1 v2 v3 vr vm v/\Jb If w'' w''.heap.size vc cl)/\Below w.heap.size w w'
theorem vO.bad{g:Jw}{k:Int}{w w':World}{er:Int}(h:wP g k Mz [] er)(hb:Below w.heap.size w w'):vO g k w (.returned (.tuple #[Hv (.slice none 0 0) (.slice none 0 0) (.slice none 0 0) (.slice none 0 0) (.slice none 0 0) 0,.slice none 0 0,.int .i64 er])) w' :=
 ⟨_,_,_,_,_,_,Mz,[],er,h,rfl,fun _ _=>⟨Sx.zero,Jb.nil_⟩,hb⟩
theorem rr{w:World}{base:Nat}{v:Value}{cl:List We}(h:w.ownsRow base 85 4 v cl.length (Pp cl))(hs:∀ c∈cl,c.2.1.length<=maxLen):Jb If w w.heap.size v cl:=by
 obtain⟨A,c,rfl,h1,h2⟩:=Zk h;refine⟨A,c,cl.map clc,rfl,h1,h2,by rw[Qk],Rd.of_own h,fun i cs x hc hx=>?_⟩;rw[Qv,hx] at hc;injection hc with hc;subst hc;exact⟨rfl,hs x (Qp hx)⟩
theorem rZ{w:World}{base:Nat}{v:Value}{rows:List Wr}(h:w.ownsRow base 81 3 v rows.length (Wg rows))(hf:qqZ rows):Jb An w w.heap.size v rows:=qaQ hf h
end Go.Proofs.YtmaojnmnbpomeaaGreatDoor
