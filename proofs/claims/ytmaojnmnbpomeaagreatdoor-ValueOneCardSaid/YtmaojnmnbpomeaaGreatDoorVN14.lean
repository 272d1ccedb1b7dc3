/- A part. -/
import Derived.Test.YtmaojnmnbpomeaaGreatDoorVN13
set_option maxRecDepth 100000
set_option maxHeartbeats 64000000
namespace Go.Proofs.YtmaojnmnbpomeaaGreatDoor
open Go.RowKit
variable{e k:Int}{g:Kd}{M m:Kj}{P:List Bool}{ms:List Kj}{rows:List Uk}{vs:List Value}{F ns ts:List Wd}{c:List Wl}{N base i n:Nat}{σ:Type}{t:TypeId}{v:Value}{W W' w w':World}{rs:Zz}
theorem qoX:Dg Tryz.prog 61 3 1 8 (.int .i64 0):=Gh Tryz.underlying61 (by kernel_rfl) rfl (by omega)
theorem qfQ:Dg Tryz.prog 64 118 2 32 (.agg #[.int .i64 0,.slice none 0 0]):=Gh (by kernel_rfl) (by kernel_rfl) rfl (by omega)
theorem dA:St Tryz.prog 143 3 3 (Value.int .i64):=qhJ (by kernel_rfl) (by kernel_rfl)
def zfM(m:Kj)(w:World)(e:Ending)(w':World):Prop:=∃vm,e=.returned vm/\(∀w'':World,(∀b,w.heap.size<=b->b<w'.heap.size->w''.heap[b]?=w'.heap[b]?)->Je Ju w'' w''.heap.size vm (Dk m))/\Below w.heap.size w w'
theorem kY(v:Value)(m:qbU)(w:World)(hv:Je Ju w w.heap.size v m)(hl:m.length<=2199023255552)(he:∀k<m.length,(Mm m k).length<=2199023255552)(ht:fQ w) :
  Calls Tryz.prog 45 #[v] w (zfM m w):=by
 have HR:=Lh (gH v m w hv);obtain⟨A,c,rfl,-,-⟩:=hv.form;have Nj:=hv.n_le;have HV:=Lh hv;have HE:=Lh he;have HT:=Lh ht;clear hv he ht;by_cases qI:Uy m 9223372036854775807=true
 .rw[qI]at HR;have HVD:=Lh qI;have HG:=Lh (Gp qI);clear qI;obtain⟨n,hn⟩:=Xe m.length;have HN:=Lh hn;rw[<-hn]at Nj HV hl HE HR |-;clear hn;have Dt:0<n:=by rw[HN.o];exact Qy.2 HG.o.some
  go_enter Tryz.func45,Tryz.ntmps45;go_wp2_with fail;refine HR.o.mono ?_;rintro e w1 ⟨rfl,hb1⟩;have HB1:=Lh hb1;have HU:=Lh (zd (.slice A m.length c) m w1 (by have:=HV.o.fut hb1 (Yb _) hb1.size;rwa [HN.o]at this) HVD.o (by rw[<-HN.o];exact hl));rw[<-HN.o]at HU;clear hb1 HR;go_wp2_with fail;refine HU.o.mono ?_;rintro e w2 ⟨x,rfl,hx,zR,Jd⟩;have HX:=Lh hx;have HB2:=Lh (HB1.o.trans (Jd.mono HB1.o.size));have c0:=(hx.at_ (k:=0) (by rw[Ib];exact Dt)).1;rw[Bn,Yw Dt,Bool.true_and]at c0;clear hx Jd HU HB1;obtain⟨b,hb⟩:=Xe (Ke m 0);rw[<-hb]at c0;have lz:=Lh hb;clear hb;cases b
  .have HM:Hid (Dk m=[(-1,[])]):=by
    show _=_;unfold Dk;rw[if_pos HVD.o,<-lz.o];rfl
   go_wp2;go_ret;refine⟨_,rfl,fun w'' hw=>?_,HB2.o.alloc HB2.o.size _⟩;have hO:zbS w'' w2.heap.size w2.heap.size (List.replicate 1 (-1,.slice none 0 0)) (List.replicate 1 []):=Ph.mk0 ((hw _ HB2.o.size (by rw[Xs];omega)).trans (Xn w2 _));have hs:=hO.sl Ju Rc rfl rfl (c:=1) (by simp) (by simp[maxLen]) (fun r hr=>by simp at hr;subst hr;omega) (fun l hl e he=>by simp at hl;subst hl;simp at he);rw[HM.o];exact hs
  have HC:=Lh (ve A c x m w2 (by have:=HV.o.fut HB2.o (Yb _) HB2.o.size;rwa [HN.o]at this) (by rw[<-HN.o];exact HX.o) HVD.o (by rw[<-HN.o];exact hl) (by rw[<-HN.o];exact HE.o) (HT.o.below HB2.o));rw[<-HN.o]at HC;go_wp2_with fail;refine HC.o.mono ?_;rintro e w3 ⟨y,cl,rfl,hy,hyl,hb3,hcb,hca⟩;have HY:=Lh hy;have HB3:=Lh (HB2.o.trans (hb3.mono HB2.o.size));have HX3:=Lt (Ks w3 x (Ly n (Ke m))) ((hb3.block x (gl HX.o)).trans HX.o);have HCA:=Lh hca;have hyw:y<w3.heap.size:=(gl hy);have c1:=(hy.at_ Dt).1;have su:=@run_makeMap Tryz.prog;obtain⟨W1,jV,lH,Il,Gc⟩:=(Mb.made (κ:=Value.int .i64) w3).update dA (cl 0) (.int .i64 0);have HM1:=Lh lH;have HG1:=Lh Il;have HS1:=Lh Gc;clear hy hb3 hcb hca HX HB2 HC lH Il Gc c0;go_wp2_with fail;have HMK:=Lt (MkI w3 (W1.alloc (.cells #[.int .i64 0] 3)) w3.heap.size cl [0] (.slice (some ⟨W1.heap.size,0,none⟩) 1 1) (.slice none 0 0) [] []) (by
   have hB1:Below w3.heap.size w3 W1:=((Xr w3.heap.size w3).alloc (Yb _) (.map #[] 0)).grown HG1.o (by rw[Xs];omega) (fun k e=>by injection e with e;omega)
   have hz:w3.heap.size<W1.heap.size:=by rw[HS1.o,Xs];omega
   refine⟨⟨_,HM1.o.alloc _,fun z=>?_⟩,⟨rfl,.inr ⟨_,1,_,rfl,by omega,Xn W1 _,by decide,by decide,rfl,rfl⟩⟩,⟨rfl,Za _ _ _ _,fun i r l hr=>by simp at hr⟩,hB1.alloc (by omega) _,Yb _⟩
   rw[Hy]
   by_cases hz:z=cl 0
   .subst hz
    simp[List.findIdx?_cons]
   have:¬ cl 0=z:=fun e=>hz e.symm
   rw[if_neg hz]
   simp[List.findIdx?_cons,this,Nt])
  generalize W1.alloc (.cells #[.int .i64 0] 3)=wq at*;generalize hv6:(Value.slice (some ⟨W1.heap.size,0,none⟩) 1 1)=v6 at*;clear hv6 jV HG1 HS1 HM1 c1;obtain⟨g,hg⟩:=Xe w3.heap.size;have HMK':=Lt (MkI w3 wq g cl [0] v6 (.slice none 0 0) [] []) (hg ▸ HMK.o);rw[<-hg];clear hg HMK;have h0:Ke m 0=true:=lz.o.symm;have HQU:=Lh (fy HG.o h0);have HFQ:=Lh (fun(n x:Nat)(h:(Uo m n).1[n]?=some x)(k:Nat)=>qO HG.o h0 h k);have HFN:=Lh (fun(n x:Nat)(h:(Uo m n).1[n]?=some x)(hx:x<m.length)=>fb HG.o h0 h hx);clear h0;go_loopw [8,6,7] (fun v8 v6 v7 wr=>∃(i:Nat)(q:List Nat)(rs:List (Int×Value))(es:List (List (Int×Int))),v8=.int .i64 i/\i<=q.length/\q.length<=n/\Hid (q=(Uo m i).1)/\Hid (rs.length=i)/\Hid ((rs.zip es).map (fun p=>(p.1.1,p.2))=(Uo m i).2) /\
   Hid (∀r∈rs,-9223372036854775808<=r.1/\r.1<=9223372036854775807)/\Hid (∀l∈es,∀e∈l,(-9223372036854775808<=e.1/\e.1<=9223372036854775807)/\-9223372036854775808<=e.2/\e.2<=9223372036854775807)/\Hid (MkI w3 wr g cl q v6 v7 rs es)) (fun v8 _ _ _=>n+1-(intOf v8).toNat)
  exact⟨0,[0],[],[],rfl,by simp,by simp;omega,rfl,rfl,rfl,fun r hr=>by simp at hr,fun l hl=>by simp at hl,HMK'.o⟩;clear HMK';obtain⟨i,q,rs,es,rfl,hi,hqn,HQ,HRL,HZ,HB1,HB2,HK⟩:=hrel;obtain⟨A6,c6,rfl,Ct,jW⟩:=Zp HK.o.que;obtain⟨A7,c7,rfl,hl7,mz⟩:=Zp HK.o.o.row;unfold maxLen at jW mz;by_cases Jl:i<q.length
  .obtain⟨g6,zxE,hv6⟩:=ct HK.o.que (by omega);injection hv6 with e1 e2 e3;subst e1;clear e2 e3 zxE;obtain⟨xq,hxq⟩:∃xq,q[i]?=some xq:=⟨_,Qa Jl⟩;have cq:wr.cell? ⟨g6,i,none⟩=some (.int .i64 xq):=by
    rw[(HK.o.que).cellAt (g:=g6) (cap:=c6) i (by omega)];unfold iI;rw[Qv,hxq];rfl
   have HXQ:=Lh (show (Uo m i).1[i]?=some xq by rw[<-HQ.o];exact hxq);have hxn:xq<n:=by
    have h:=((HQU.o i).1 xq (Qp HXQ.o)).1;rw[HN.o];exact h
   have hxm:xq<m.length:=by rw[<-HN.o];exact hxn
   have HBW:=Lh (HB3.o.trans (HK.o.bel.mono HB3.o.size));obtain⟨b1,o1,cs,rfl,-,hb1,Ja,Zn⟩:=(HV.o.below HBW.o).get hxm (by decide);obtain⟨u0,rfl,hu,Ik,Si⟩:=Mr Ja;obtain⟨A4,e4,rfl,ew,sL⟩:=hu.form;unfold maxLen at sL;have d0:=Zn 0 _ rfl;have d1:=Zn 1 _ rfl;clear Zn Ja;simp only[show Ju.size=2 from rfl,Yq,<-Yy]at d0 d1;have yV:=Lh (Bi hxm);have HOU:=Lh (Cm hxm);have HEL:=Lh (HE.o xq hxn);have HTO:=Lh (HG.o.tos xq hxm);have HU:=Lt (Je Rc w w.heap.size (.slice A4 (m[xq]).2.length e4) (m[xq]).2) (hu.keep fun p hp=>(HBW.o.cell hp).symm);obtain⟨s,hs⟩:=Xe (m[xq]);rw[<-hs]at d0 d1 yV HOU HU ew Ik Si;clear hs hu;obtain⟨so,se⟩:=s;simp only at d0 d1 ew Ik Si HU yV HOU;obtain⟨qe,hqe⟩:=Xe se.length;have HQE:=Lh hqe;rw[<-hqe]at d1 ew HU;clear hqe;have HK2:=Lh ((HK.o.alloc (.cells #[.int .i64 so,.slice A4 qe e4] 118)).open_ so);have dD:(wr.alloc (.cells #[.int .i64 so,.slice A4 qe e4] 118)).heap.size=wr.heap.size+1:=Xs ..;rw[dD]at HK2;clear dD;go_wp2_with fail;generalize (wr.alloc (.cells #[.int .i64 so,.slice A4 qe e4] 118)).alloc (.cells #[.int .i64 so,.slice none 0 0] 118)=wa at*;generalize wr.heap.size+1=mZ at*;go_loopw [54,6] (fun v54 v6 wt=>∃(k:Nat)(q2:List Nat)(l:List (Int×Int))(u:Value),v54=.int .i64 k/\k<=qe/\Hid (Fl m xq (Uo m i).1 k=(q2,l))/\Hid (mi w3 wt g mZ cl q2 q2 v6 (.slice A7 rs.length c7) rs es so u l)) (fun v54 _ _=>qe-(intOf v54).toNat);exact⟨0,q,[],.slice none 0 0,rfl,by omega,(wT m xq _).trans (by rw[HQ.o]),HK2.o⟩;clear HK2 HK cq d0 d1;obtain⟨k,q2,l,u,rfl,hk,HF,HK⟩:=hrel;obtain⟨A9,c9,rfl,hl5',zuR⟩:=Zp HK.o.que;obtain⟨Au,cu,rfl,hlu,zuL⟩:=Zp HK.o.uo;unfold maxLen at zuR zuL;have HQ2:=Lh (HFQ.o i xq HXQ.o k);rw[HF.o,<-HN.o]at HQ2;have hq2n:q2.length<=n:=HQ2.o.2;have hlk2:l.length<=k:=by
    have h:=qjI m xq (Uo m i).1 k;rw[HF.o]at h;exact h
   have hqeb:qe<=2199023255552:=by
    have h:=HEL.o;rw[yV.o,<-HQE.o]at h;exact h
   by_cases hlk:k<qe
   .have Du:k<se.length:=by rw[<-HQE.o];exact hlk
    have zoQ:=Lh (HB3.o.trans (HK.o.bel.mono HB3.o.size));obtain⟨b2,o2,cs,rfl,-,Jd,Ja,Zn⟩:=(HU.o.below zoQ.o).get Du (by decide);obtain⟨rfl,sG,wF,sh,hy4⟩:=Nr Ja;have d0:=Zn 0 _ rfl;have d1:=Zn 1 _ rfl;clear Zn Ja;simp only[show Rc.size=2 from rfl,Yq,<-Yy]at d0 d1;have Ml:se[k]∈Mm m xq:=by rw[yV.o];exact Qg Du
    have HST:=Lh (wU (q:=(Uo m i).1) (show (Mm m xq)[k]?=some se[k] by rw[yV.o];exact Qa Du));rw[HF.o]at HST;have hto:=HTO.o _ Ml;obtain⟨ed,hed⟩:=Xe (se[k]);rw[<-hed]at d0 d1 sG wF sh hy4 HST hto;clear hed Ml;obtain⟨et,en0⟩:=ed;simp only at d0 d1 sG wF sh hy4 hto;obtain⟨en,rfl⟩:∃en:Nat,en0=(en:Int):=⟨en0.toNat,by omega⟩;have hen:en<n:=by rw[HN.o];omega
    have HE1:=Lh (HK.o.alloc (.cells #[.int .i64 et,.int .i64 en] 145));have hcu:=((show Ks (wr.alloc (.cells #[.int .i64 et,.int .i64 en] 145)) x (Ly n (Ke m))from (HE1.o.bel.block x (gl HX3.o)).trans HX3.o).at_ (k:=en) (by rw[Ib];exact hen)).1;rw[Bn,Yw hen,Bool.true_and]at hcu;have hcy:=((show Er (wr.alloc (.cells #[.int .i64 et,.int .i64 en] 145)) y (Gw n cl)from (HE1.o.bel.block y hyw).trans HY.o).at_ hen).1;have Nd:=Xn wr (.cells #[.int .i64 et,.int .i64 en] 145);have HBX:=Lh Nd;clear Nd HK zoQ HF;obtain⟨b,hb⟩:=Xe (Ke m en);rw[<-hb]at hcu;have HUE:=Lh hb;clear hb;cases b
    .have HFK:=Lh (show Fl m xq (Uo m i).1 (k+1)=(q2,l) by
      rw[HST.o]
      unfold Es
      simp only[Yz]
      rw[<-HUE.o]
      rfl)
     clear HST;go_wp2;go_roundw;exact⟨k+1,q2,l,.slice Au l.length cu,by go_num,by omega,HFK.o,HE1.o⟩;simp[intOf];omega
    have hfi:=qjU (m:=m) HCA.o HQ2.o.1 hen HUE.o.symm;have Vd:=HE1.o.map.look (P:=Tryz.prog) dA El (cl en);rw[hfi]at Vd;have cbx:(wr.alloc (.cells #[.int .i64 et,.int .i64 en] 145)).cell? ⟨mZ,1,none⟩=some (.slice Au l.length cu):=Xc HE1.o.box rfl;cases hf:q2.findIdx? (De m en)with
    |some nn =>
     rw[hf]at Vd;simp only at Vd;have sJ:nn<q2.length:=(List.findIdx?_eq_some_iff_getElem.1 hf).1;have HFK:=Lh (show Fl m xq (Uo m i).1 (k+1)=(q2,l++[(et,(nn:Int))]) by
      rw[HST.o]
      unfold Es
      simp only[Yz]
      rw[<-HUE.o,if_pos rfl,hf])
     clear HST hf hfi;go_wp2_with (refine Zv (some 97) rfl ?_);refine Stop.go (Zy (m:=1) (n:=l.length) xB rfl rfl rfl rfl (HE1.o.uo.alloc _) (Rd.row (B:=wr.heap.size+2) (Gg wr _ _) (by omega)) rfl (by simp[Value.oneCell']) ?h63 ?hby ?hbase ?_)
     case h63=>simp only[maxLen];omega
     case hby=>omega
     case hbase=>have h:=HE1.o.bel.size;rw[Xs]at h;simp only[Xs];omega
     intro v8 w8 Wk bD s_ _;obtain⟨A8,c8,rfl,hl9,qpW⟩:=Zp Wk;have qqJ:=(Zf (wr.alloc (.cells #[.int .i64 et,.int .i64 en] 145)) (.cells #[.int .i64 et,.int .i64 nn] 145) _ (gl HE1.o.box)).trans HE1.o.box;have qaI:=Eg (HE1.o.uo.alloc (.cells #[.int .i64 et,.int .i64 nn] 145)) bD qqJ (fun cur e=>by cases e);have hc8:w8.cell? ⟨mZ,1,none⟩=some (.slice Au l.length cu):=Xc qaI rfl;have hf8:w8.frozen? ⟨mZ,1,none⟩=false:=by simp[World.frozen?,qaI]
     have HE9:=Lh ((HE1.o.alloc (.cells #[.int .i64 et,.int .i64 nn] 145)).edge (W':=w8) (e:=(et,(nn:Int))) (by rw[dL];exact Wk) bD s_);clear Wk bD s_ qqJ qaI;go_wp2;go_roundw;exact⟨k+1,q2,l++[(et,(nn:Int))],.slice A8 (l.length+1) c8,by go_num,by omega,HFK.o,HE9.o⟩;simp[intOf];omega
    |none =>
     rw[hf]at Vd;simp only at Vd;have hf2:(q2.findIdx? fun x=>decide (cl x=cl en))=none:=by rw[hfi,hf]
     obtain⟨W4,jV,hE4,-,zjS⟩:=HE1.o.put (P:=Tryz.prog) dA hf2;have qxU:=zjS _ _ _ _ HBX.o;have e40:W4.cell? ⟨wr.heap.size,0,none⟩=some (.int .i64 et):=Xc qxU rfl;have e41:W4.cell? ⟨wr.heap.size,1,none⟩=some (.int .i64 en):=Xc qxU rfl;have Ig:=Lh qxU;have HE4:=Lh hE4;have hz4:=hE4.bel.size;have HFK:=Lh (show Fl m xq (Uo m i).1 (k+1)=(q2++[en],l++[(et,(q2.length:Int))]) by
      rw[HST.o]
      unfold Es
      simp only[Yz]
      rw[<-HUE.o,if_pos rfl,hf])
     clear HST hf hfi hf2 hE4 qxU zjS;go_wp2_with (refine Zv (some 89) rfl ?_);refine Stop.go (Zy (m:=1) (n:=q2.length) qoX rfl rfl rfl rfl (HE4.o.que.alloc _) (Rd.row (B:=W4.heap.size+1) (Xn W4 (.cells #[.int .i64 en] 3)) (by omega)) rfl (by simp[Value.oneCell']) ?h63 ?hby ?hbase ?_)
     case h63=>simp only[maxLen];omega
     case hby=>omega
     case hbase=>rw[Xs];omega
     intro v5 w5 Dl Lu zkF _;obtain⟨A5,c5,rfl,zuT,hl12⟩:=Zp Dl;have zlU:=Eg (HE4.o.que.alloc (.cells #[.int .i64 en] 3)) Lu ((Zf W4 _ _ (gl Ig.o)).trans Ig.o) (fun cur e=>by cases e);have f50:w5.cell? ⟨wr.heap.size,0,none⟩=some (.int .i64 et):=Xc zlU rfl;have HE5:=Lh ((HE4.o.alloc (.cells #[.int .i64 en] 3)).quep (y:=en) Dl Lu);have cbx5:w5.cell? ⟨mZ,1,none⟩=some (.slice Au l.length cu):=Xc HE5.o.box rfl;clear Dl Lu zkF zlU e40 e41;go_wp2_with (refine Zv (some 97) rfl ?_);refine Stop.go (Zy (m:=1) (n:=l.length) xB rfl rfl rfl rfl (HE5.o.uo.alloc _) (Rd.row (B:=w5.heap.size+1) (Xn w5 _) (by omega)) rfl (by simp[Value.oneCell']) ?h63 ?hby ?hbase ?_)
     case h63=>simp only[maxLen];omega
     case hby=>omega
     case hbase=>have h:=HE5.o.bel.size;rw[Xs];omega
     intro v8 w8 Wk bD s_ _;obtain⟨A8,c8,rfl,hl9,qpW⟩:=Zp Wk;have qqJ:=(Zf w5 (.cells #[.int .i64 et,.int .i64 (q2.length:Int)] 145) _ (gl HE5.o.box)).trans HE5.o.box;have qaI:=Eg (HE5.o.uo.alloc (.cells #[.int .i64 et,.int .i64 (q2.length:Int)] 145)) bD qqJ (fun cur e=>by cases e);have hc8:w8.cell? ⟨mZ,1,none⟩=some (.slice Au l.length cu):=Xc qaI rfl;have hf8:w8.frozen? ⟨mZ,1,none⟩=false:=by simp[World.frozen?,qaI]
     have HE9:=Lh ((HE5.o.alloc (.cells #[.int .i64 et,.int .i64 (q2.length:Int)] 145)).edge (W':=w8) (e:=(et,(q2.length:Int))) (by rw[dL];exact Wk) bD s_);clear Wk bD s_ qqJ qaI;go_wp2;go_roundw;exact⟨k+1,q2++[en],l++[(et,(q2.length:Int))],.slice A8 (l.length+1) c8,by go_num,by omega,HFK.o,HE9.o⟩;simp[intOf];omega
   have hkq:k=qe:=by omega
   subst hkq;have Do:=Lh (xb HXQ.o);have hke:k=(Mm m xq).length:=by rw[yV.o,HQE.o]
   rw[<-hke,HF.o,HOU.o]at Do;have Cr:(Uo m i).1.length<=q2.length:=by
    have h:=(eY (Ke m) (De m) ((Mm m xq).take k) ((Uo m i).1,[])).1.length_le;have h2:=HF.o;unfold Fl at h2;rw[h2]at h;exact h
   rw[<-HQ.o]at Cr;have HNM:=Lh (HFN.o i xq HXQ.o hxm k);rw[HF.o]at HNM;have HEB:=Lh (fun e (he:e∈l)=>by
    obtain⟨⟨d,hd,h1⟩,h2,h3⟩:=HNM.o e he
    rw[yV.o]at hd
    obtain⟨j,hj,rfl⟩:=Qz hd
    obtain⟨_,_,cs,_,_,_,Ja,_⟩:=HU.o.get hj (by decide)
    obtain⟨_,h4,h5,_,_⟩:=Nr Ja
    exact (show (-9223372036854775808<=e.1/\e.1<=9223372036854775807)/\-9223372036854775808<=e.2/\e.2<=9223372036854775807 from ⟨by rw[h1];exact⟨h4,h5⟩,by omega,by rw[<-HN.o]at h3;omega⟩))
   have b0:wr.cell? ⟨mZ,0,none⟩=some (.int .i64 so):=Xc HK.o.box rfl;have b1':wr.cell? ⟨mZ,1,none⟩=some (.slice Au l.length cu):=Xc HK.o.box rfl;have hrn:rs.length<=n:=by rw[HRL.o];omega
   clear hke hxq;go_wp2_with (refine Zv (some 103) rfl ?_);refine Stop.go (Zy (m:=1) (n:=rs.length) qfQ rfl rfl rfl rfl (HK.o.o.row.alloc _) (Rd.row (B:=wr.heap.size+1) (Xn wr _) (by omega)) rfl (by simp[Value.oneCell']) ?h63 ?hby ?hbase ?_)
   case h63=>simp only[maxLen];omega
   case hby=>omega
   case hbase=>have h:=HK.o.bel.size;rw[Xs];omega
   intro v8 w8 Wk bD s_ _;have HD:=Lh ((HK.o.alloc (.cells #[.int .i64 so,.slice Au l.length cu] 118)).done Wk bD);clear Wk bD s_;go_wp2;go_roundw
   case rel =>
    refine⟨i+1,q2,rs++[(so,Value.slice Au l.length cu)],es++[l],by go_num,by omega,by omega,?_,?_,?_,?_,?_,HD.o⟩
    .show q2=_;rw[Do.o]
    .show _=_;rw[Qe,HRL.o];rfl
    .show _=_;rw[Do.o,<-HZ.o,List.zip_append HK.o.o.len,Qt];rfl
    .intro r hr;rcases Qh.1 hr with hr|hr
     .exact HB1.o r hr
     rw[Qi]at hr;subst hr;exact⟨Ik,Si⟩
    intro l' mT e he;rcases Qh.1 mT with mT|mT
    .exact HB2.o l' mT e he
    rw[Qi]at mT;subst mT;exact HEB.o e he
   case measure=>simp[intOf];omega
  have hiq:i=q.length:=by omega
  have HM:Hid (Dk m=(Uo m i).2):=by
   show _=_;unfold Dk;rw[if_pos HVD.o,if_pos lz.o.symm];exact congrArg Prod.snd (qyH HG.o ((Ff m 0).1 lz.o.symm) (by rw[<-HQ.o];exact hiq.symm))
  have HSL:=Lh (fun(w'':World)(hw:∀b,w.heap.size<=b->b<wr.heap.size->w''.heap[b]?=wr.heap[b]?)=>by
   have hs:=(HK.o.o.fresh (W':=w'') fun b h1 h2=>hw b (Yd HB3.o.size h1) h2).sl HB1.o HB2.o
   rw[HZ.o,<-HM.o]at hs
   exact hs)
  have yw:=Lh (HB3.o.trans (HK.o.bel.mono HB3.o.size));clear HK;go_wp2;go_ret;exact⟨_,rfl,HSL.o,yw.o⟩
 rw[show Uy m 9223372036854775807=false by simpa using qI]at HR;have HM:=Lh (qoJ qI);clear qI;go_enter Tryz.func45,Tryz.ntmps45;go_wp2_with fail;refine HR.o.mono ?_;rintro e w1 ⟨rfl,hb1⟩;go_wp2;go_ret;exact⟨_,rfl,fun w'' _=>by rw[HM.o];exact Je.nil_,hb1⟩
noncomputable def Bt(rows:List Ei):List Wd:=@dite _ (∃F,Df rows F) (Classical.propDecidable _) (fun h=>Classical.choose h) (fun _=>[])
theorem Ps{rows:List Ei}(h:Df rows F):Bt rows=F:=by
 have hx:∃F,Df rows F:=⟨F,h⟩;unfold Bt;rw[dif_pos hx];exact zX (Classical.choose_spec hx) h
noncomputable def aJ(rows:List Ei):Kj:=Dh rows (Bt rows)
noncomputable def Ts(rows:List Ei):Kj:=Dk (aJ rows)
noncomputable def Gv(rows:List Ei)(n:Nat):List Kj:=(List.range n).map fun(left:Nat)=>Ts (Ub ((left:Nat):Int) rows)
def qsQ(m:Kj)(w:World)(e:Ending)(w':World):Prop:=∃vm,e=.returned vm/\(∀w'':World,(∀b,w.heap.size<=b->b<w'.heap.size->w''.heap[b]?=w'.heap[b]?)->Je Ju w'' w''.heap.size vm m)/\Below w.heap.size w w'
structure aB(rows:List Uk):Prop where
 n:rows.length<=1048576
 w:∀r∈rows,r.2.1.length<=1048576
theorem aB.of(h:aB rows)(left:Int):aB (Ub left rows):=by
 have hs:(Ub left rows).Sublist rows:=List.filter_sublist;exact⟨Yd hs.length_le h.n,fun r hr=>h.w r (hs.subset hr)⟩
theorem qwS(v:Value)(rows:List Uk)(b3 left:Nat)(w:World)(hv:Je Bj w w.heap.size v rows)(hf:aB rows)(h3:w.cell? ⟨b3,0,none⟩=some v)(ht:fQ w) :
  Calls Tryz.prog 44 #[.int .i64 left,.pointer (some ⟨b3,0,none⟩)] w (qsQ (Ts (Ub left rows)) w):=by
 obtain⟨A,c,rfl,Nj,Uw⟩:=hv.form;unfold maxLen at Uw;have HV:=Lh hv;have HF:=Lh (hf.of left);have HFR:=Lh hf.n;have HT:=Lh ht;clear hv hf ht;obtain⟨nr,sr⟩:=Xe rows.length;rw[<-sr]at h3 Nj HV;clear sr;go_enter Tryz.func44,Tryz.ntmps44;go_wp2_with fail;refine (qwM _ left rows w HV.o HFR.o).mono ?_;rintro e w1 ⟨v1,rfl,ju,hb1⟩;have Fj:qtO (Ub left rows):=fun x hx=>HV.o.fitR x (Qw.1 hx).1;have HS1:=Lh (qcR Fj ju);have HB1:=Lh hb1;clear ju hb1;go_wp2_with fail;refine (io v1 (Ub left rows) w1 HS1.o HF.o.w HF.o.n).mono ?_;rintro e w2 ⟨v2,F,rfl,hF,hFl,eR,Jd⟩;have htr:Dh (Ub left rows) F=aJ (Ub left rows):=by unfold aJ;rw[Ps hF]
 have HL2:=Lh (show (aJ (Ub left rows)).length<=1099512676353 by rw[<-htr,Eb];exact hFl);have HE2:=Lh (show ∀k<(aJ (Ub left rows)).length,(Mm (aJ (Ub left rows)) k).length<=2199023255552 from fun k hk=>by
  rw[<-htr]at hk |-
  rw[Eb]at hk
  rw[(Rm (Qa hk)).2]
  have:=ec F F[k]
  omega)
 rw[htr]at eR;have HS2:=Lh eR;have HB2:=Lh (HB1.o.trans (Jd.mono HB1.o.size));clear eR Jd htr hF hFl HS1;go_wp2_with fail;refine (kY v2 (aJ (Ub left rows)) w2 HS2.o (by have:=HL2.o;omega) HE2.o (HT.o.below HB2.o)).mono ?_;rintro e w3 ⟨v3,rfl,hs3,hb3⟩;have HS3:=Lh hs3;have HB3:=Lh (HB2.o.trans (hb3.mono HB2.o.size));clear hs3 hb3;go_wp2;go_ret;exact⟨_,rfl,fun w'' hw=>HS3.o w'' fun b h1 h2=>hw b (Yd HB2.o.size h1) h2,HB3.o⟩
structure Pl(W:World)(N:Nat)(v:Value)(vs:List Value)(ms:List Kj):Prop where
 len:vs.length=ms.length
 row:W.ownsRow N 64 1 v vs.length vs
 el:∀(i:Nat)(u:Value)(x:Kj),vs[i]?=some u->ms[i]?=some x->∃s e,(N<=s/\e<=W.heap.size)/\(∀g,v.ownBlock=some g->g<s\/e<=g)/\∀w'':World,(∀b,s<=b->b<e->w''.heap[b]?=W.heap[b]?)->Je Ju w'' w''.heap.size u x
theorem Pl.nil(W:World)(N:Nat):Pl W N (.slice none 0 0) [] []:=⟨rfl,Za _ _ _ _,fun i u x h=>by simp at h⟩
theorem Pl.below(h:Pl W N v vs ms)(hb:Below W.heap.size W W'):Pl W' N v vs ms:=by
 refine⟨h.len,Jc h.row hb,fun i u x hu hx=>?_⟩;obtain⟨s,e,h1,h2,h3⟩:=h.el i u x hu hx;exact⟨s,e,⟨h1.1,Yd h1.2 hb.size⟩,h2,fun w'' hw=>h3 w'' fun b hb1 Jd=>(hw b hb1 Jd).trans (hb.block b (by omega))⟩
theorem Pl.snoc{W0:World}{v' vm:Value}(h:Pl W0 N v vs ms)(hN:N<=W0.heap.size)(hb:Below W0.heap.size W0 W)(hm:∀w'':World,(∀b,W0.heap.size<=b->b<W.heap.size->w''.heap[b]?=W.heap[b]?)->Je Ju w'' w''.heap.size vm m)
  (o:Obj) (hown:W'.ownsRow N 64 1 v' (vs.length+1) (vs++[vm])) (hg:(W.alloc o).grownBy W' v.ownBlock) (hv:v'.ownBlock=v.ownBlock\/v'.ownBlock=some (W.alloc o).heap.size):Pl W' N v' (vs++[vm]) (ms++[m]):=by
 have hz:W.heap.size<W'.heap.size:=by have:=hg.size;rw[Xs]at this;omega
 have Jl:∀g,v.ownBlock=some g->g<W0.heap.size:=fun g rI=>(h.row.lt g rI).2;have zaL:∀b,b<W.heap.size->some b≠v.ownBlock->W'.heap[b]?=W.heap[b]? := fun b h1 h2=>(hg.block b (by rw[Xs];omega) h2).trans (Zf W o b h1);refine⟨by simp[h.len],by rw[Qe];exact hown,fun i u x hu hx=>?_⟩;by_cases Wp:i<vs.length
 .rw[Qo Wp]at hu;rw[Qo (by rw[<-h.len];exact Wp)]at hx;obtain⟨s,e,h1,h2,h3⟩:=(h.below hb).el i u x hu hx;have h1':e<=W0.heap.size\/W0.heap.size<=e:=by omega
  refine⟨s,e,by omega,fun g rI=>?_,fun w'' hw=>h3 w'' fun b hb1 Jd=>(hw b hb1 Jd).trans (zaL b (by omega) fun e'=>?_)⟩
  .rcases hv with h4|h4
   .exact h2 g (by rw[<-h4];exact rI)
   rw[h4]at rI;injection rI with rI;rw[Xs]at rI;exact .inr (by omega)
  rcases h2 b e'.symm with h5|h5 <;> omega
 have hie:i=vs.length:=by
  have:=(Qj.1 hu).1;rw[Qe,Qf]at this;omega
 subst hie;rw[Qn (Yb _),Nat.sub_self]at hu;rw[h.len,Qn (Yb _),Nat.sub_self]at hx;injection hu with hu;injection hx with hx;subst hu hx;refine⟨W0.heap.size,W.heap.size,by omega,fun g rI=>?_,fun w'' hw=>hm w'' fun b hb1 Jd=>(hw b hb1 Jd).trans (zaL b Jd fun e'=>?_)⟩
 .rcases hv with h4|h4
  .exact .inl (Jl g (by rw[<-h4];exact rI))
  rw[h4]at rI;injection rI with rI;rw[Xs]at rI;exact .inr (by omega)
 have:=Jl b e'.symm;omega
theorem nP{e:TypeId}{size:Nat}{xs:List Value}(h:w.ownsRow base e size v n xs)(hN:N<=base)(hw:∀b,N<=b->b<w.heap.size->w'.heap[b]?=w.heap[b]?):w'.ownsRow base e size v n xs:=by
 refine⟨h.1,?_⟩;rcases h.2 with h'|⟨g,cap,cur,rfl,hg,hh,r⟩
 .exact .inl h'
 exact .inr ⟨g,cap,cur,rfl,hg,(hw g (Yd hN hg) (gl hh)).trans hh,r⟩
theorem Pl.fresh(h:Pl W N v vs ms)(w'':World)(hw:∀b,N<=b->b<W.heap.size->w''.heap[b]?=W.heap[b]?):Je (Tw Ju) w'' w''.heap.size v ms:=by
 have Nu:=nP h.row (Yb N) hw;obtain⟨A,c,hv,hc,Uw⟩:=Zp Nu;rw[hv]at Nu |-;refine⟨A,c,vs.map fun u=>[u],by rw[h.len],by rw[<-h.len];exact hc,Uw,by rw[Qk];exact h.len,?_,fun i cs x hi hx=>?_⟩
 .have:(vs.map fun u=>[u]).flatten=vs:=by
   generalize vs=l
   induction l with
   |nil=>rfl
   |cons u l ih=>rw[List.map_cons,List.flatten_cons,ih];rfl
  rw[this];exact Rd.of_own Nu
 rw[Qv]at hi;cases hu:vs[i]? with
 |none=>rw[hu]at hi;cases hi
 |some u =>
  rw[hu]at hi;injection hi with hi;subst hi;obtain⟨s,e,h1,h2,h3⟩:=h.el i u x hu hx;exact⟨u,rfl,h3 w'' fun b hb1 Jd=>hw b (Yd h1.1 hb1) (Ye Jd h1.2)⟩
section
variable {g:Kd} {k:Nat} {s:Jb} (h:lw g k) (hM:xX g.2.2 g.1.length k s)
include h hM
theorem cD(hp:rows.Perm (Vl 0 g.2.2 s)):∀x∈rows,aR g k x=true/\0<=x.1/\x.1<4096/\x.2.1.length<=4/\0<=x.2.2/\x.2.2<4096:=by
 intro x hx;obtain⟨i,hi,hw,hm⟩:=(sD (by have:=h.few;omega) h.wellT hM (fun w _=>li g.2.2 k w)).1 (hp.mem_iff.1 hx);obtain⟨r,hr,Sr,_⟩:=iT.1 hm;have Wp:i<g.2.2.length:=(Qj.1 hr).1;obtain⟨w1,w2⟩:=(Hg (by have:=h.few;omega) k x.2.1).1 hw;have hq:=(Ud h.b).q;have hnm:=(Ud h.b).nm;have hb:=tu h.b r (Qp hr);have y_:=h.k4;refine⟨?_,by omega,by omega,by omega,by omega,by omega⟩;unfold aR;have e1:decide (x.2.2<0)=false:=by rw[Yl];omega
 have e2:decide ((g.2.2.length:Int)<=x.2.2)=false:=by rw[Yl];omega
 have e3:Tc g x.2.2=x.1:=by
  unfold Tc;rw[hi,Yz,Qb,hr];exact Sr
 have e4:Pp g.2.1.length k x.2.1=true:=by
  unfold Pp gG;rw[Ym,Xq];exact⟨fun c hc=>by rw[Yk];have:=w2 c hc;omega,by rw[Yk];omega⟩
 have e5:decide (Tc g x.2.2≠x.1)=false:=by simp[e3]
 rw[e1,e2,e4,e5];rfl
theorem qwV(hc:Nh g.2.2 g.1.length s=[])(hp:rows.Perm (Vl 0 g.2.2 s))(hs:rows.Pairwise fun a b=>¬ Mq b a):e_ g k rows=true:=by
 have yP:rows.Pairwise Mq:=pQ hp (gJ h.well hM hc) hs;have hr:=cD h hM hp;have hf:∀(l:List Uk)(p:Option Uk),(∀x∈l,aR g k x=true)->l.Pairwise Mq->(∀y,p=some y->∀x∈l,Mq y x)->Lq g k p l=true:=by
  intro l
  induction l with
  |nil=>intro p _ _ _;cases p <;> rfl
  |cons x l ih =>
   intro p h1 h2 h3;rw[Qx]at h2;have ha:pC p x=false:=by
    cases p with
    |none=>rfl
    |some y =>
     have:=(qcX y x).2 (h3 y rfl x (by simp));show decide (0<=iO y x)=false;rw[Yl];omega
   have e:Lq g k p (x::l)=(!pC p x&&aR g k x&&Lq g k (some x) l):=by cases p <;> rfl
   rw[e,ha,h1 x (by simp),ih (some x) (fun y hy=>h1 y (by simp[hy])) h2.2 (fun y hy z hz=>by injection hy with hy;subst hy;exact h2.1 z hz)];rfl
 unfold e_;rw[h.b,hf rows none (fun x hx=>(hr x hx).1) yP (fun y hy=>by cases hy)];rfl
theorem qnK(hp:rows.Perm (Vl 0 g.2.2 s)):qtO rows:=fun x hx=>by
 obtain⟨_,h1,h2,h3,h4,h5⟩:=cD h hM hp x hx;exact⟨by omega,by unfold maxLen;omega,by omega⟩
theorem rl(hs:Eh s)(hq:g.2.2.length<=40)(hp:rows.Perm (Vl 0 g.2.2 s)):aB rows:=by
 refine⟨?_,fun r hr=>by have:=(cD h hM hp r hr).2.2.2.1;omega⟩;rw[hp.length_eq,<-uM hM.len];have:=Px (rs:=g.2.2) hs g.2.2.length;omega
theorem pn(hp:rows.Perm (Vl 0 g.2.2 s)):∀r∈rows,0<=r.2.2:=fun r hr=>(cD h hM hp r hr).2.2.2.2.1
theorem qfW(hp:rows.Perm (Vl 0 g.2.2 s)):∀r∈rows,∀c∈r.2.1,c.toNat<g.2.1.length:=fun x hx=>by
 obtain⟨i,hi,hw,hm⟩:=(sD (by have:=h.few;omega) h.wellT hM (fun w _=>li g.2.2 k w)).1 (hp.mem_iff.1 hx);exact ((Hg (by have:=h.few;omega) k x.2.1).1 hw).2
theorem qdJ(hc:Nh g.2.2 g.1.length s=[])(hp:rows.Perm (Vl 0 g.2.2 s))(hs:rows.Pairwise fun a b=>¬ Mq b a):rows.Pairwise Mq :=
 pQ hp (gJ h.well hM hc) hs
end
theorem qgY{k:Nat}{s s':Jb}{bv:List Uk}(h:lw g k)(hM:xX g.2.2 g.1.length k s)(hM':xX g.2.2 g.1.length k s')(hp:rows.Perm (Vl 0 g.2.2 s))(hp':bv.Perm (Vl 0 g.2.2 s'))
  (hl:rows.Pairwise Mq) (mT:bv.Pairwise Mq):rows=bv:=by
 have Ml:∀x,x∈rows↔x∈bv:=fun x=>by
  rw[hp.mem_iff,hp'.mem_iff,sD (by have:=h.few;omega) h.wellT hM (fun w _=>li g.2.2 k w),sD (by have:=h.few;omega) h.wellT hM' (fun w _=>li g.2.2 k w)]
 have Te:∀{l:List Uk},l.Pairwise Mq->l.Nodup:=fun hl=>hl.imp fun{a b} Bg e=>by subst e;exact pT Bg Bg
 have qK:rows.Perm bv:=(List.perm_ext_iff_of_nodup (Te hl) (Te mT)).2 Ml;exact qK.eq_of_pairwise (fun a b _ _ h1 h2=>(pT h1 h2).elim) hl mT
theorem a_(h:Ag m M){terms:Int}(ht:∀k<m.length,∀e∈Mm m k,e.1<terms):∀k<M.length,∀e∈Mm M k,e.1<terms:=by
 intro k hk e he;obtain⟨i,hi,d,hd,e2⟩:=h.term k hk e he;rw[e2];exact ht i hi d hd
theorem wR(rows:List Uk):∃F,Df rows F/\F.length<=(Ak rows).length+1:=by
 have hd:∀a b,Decidable (Ce a b):=fun a b=>Classical.propDecidable _;refine⟨(Vu (Ak rows)).mergeSort (fun a b=>@decide (¬ Ce b a) (@instDecidableNot _ (hd b a))),?_,?_⟩
 .refine gN (List.mergeSort_perm _ _) ?_;refine (List.pairwise_mergeSort (le:=fun a b=>@decide (¬ Ce b a) (@instDecidableNot _ (hd b a))) ?_ ?_ _).imp ?_
  .intro a b c h1 h2;simp only[Yk]at h1 h2 |-;intro h3;rcases uA a b with h|h|h
   .exact h2 (iE h3 h)
   .subst h;exact h2 h3
   exact h1 h
  .intro a b;simp only[Yu,Yk];by_cases h:Ce b a
   .exact .inr (uB h)
   exact .inl h
  intro a b h;simpa only[Yk]using h
 rw[(List.mergeSort_perm _ _).length_eq];exact (Lb (Ak rows)).2.2
theorem qkD(rows:List Uk)(n:Nat)(h:∀r∈rows,r.2.1.length<=n):(Ak rows).length<=rows.length*(n+1):=by
 unfold Ak Bo;rw[Qk]
 induction rows with
 |nil=>simp
 |cons r l ih =>
  have:=ih fun x hx=>h x (Xj _ hx);have h1:=h r (Xi ..);rw[List.flatMap_cons,Qe,Qu,Nat.succ_mul];have:(Al r).length=r.2.1.length+1:=by simp[Al]
  omega
theorem Is(rows:List Uk):Df rows (Bt rows):=by
 obtain⟨F,hF,_⟩:=wR rows;rw[Ps hF];exact hF
theorem qmR(rows:List Uk)(n:Nat)(h:∀r∈rows,r.2.1.length<=n):(aJ rows).length<=rows.length*(n+1)+1:=by
 obtain⟨F,hF,hl⟩:=wR rows;unfold aJ;rw[Eb,Ps hF];have:=qkD rows n h;omega
theorem qoH(h:Uy m 9223372036854775807=true):(Dk m).length<=m.length:=by
 have hg:=Gp h;have hp:=Qy.2 hg.some;unfold Dk;rw[if_pos h];by_cases h0:Ke m 0=true
 .rw[if_pos h0];have hb:=oY hg (Ir m) (Pd m) ((Ff m 0).1 h0) m.length;have h2:(Uo m m.length).2.length=min m.length (Uo m m.length).1.length:=hb.len;omega
 rw[if_neg h0];exact hp
section
variable {rows:List Uk} (hr:∀r∈rows,0<=r.2.2)
include hr
theorem tK:Uy (aJ rows) 9223372036854775807=true:=ze (Is rows) hr
theorem Hl:Ag (aJ rows) (Ts rows):=D_ (tK hr)
theorem qhA(l:Wd):Md (Ts rows) 0 (byI l)=Ed rows l:=by
 rw[(Hl hr).tell,show aJ rows=Dh rows (Bt rows)from rfl,qfF (Is rows) hr]
theorem qgZ(hb:∀r∈rows,∀c∈r.2.1,c.toNat<n):∀k<(Ts rows).length,∀e∈Mm (Ts rows) k,e.1<(n:Int) :=
 a_ (Hl hr) (eH (Is rows) hb)
theorem qoN(n:Nat)(h:∀r∈rows,r.2.1.length<=n):(Ts rows).length<=rows.length*(n+1)+1 :=
 Yd (qoH (tK hr)) (qmR rows n h)
end
theorem dq(rows:List Uk)(n:Nat):(Gv rows n).length=n:=by simp[Gv]
theorem dr(rows:List Uk){k:Nat}(hk:k<n):(Gv rows n)[k]?=some (Ts (Ub (k:Int) rows)):=by
 unfold Gv;rw[Qv,List.getElem?_range hk];rfl
theorem vO(hr:∀r∈rows,0<=r.2.2)(left:Int):∀r∈Ub left rows,0<=r.2.2:=fun r h=>hr r (Qw.1 h).1
theorem qsD{r:List Uk}(h:r=[(0,[],0),(0,[0],1)]):(Ts r).length=2/\No (Ts r) 0=0/\No (Ts r) 1=1:=by
 have hr:∀x∈r,0<=x.2.2:=by
  subst h;intro x hx;simp only[List.mem_cons,List.not_mem_nil,or_false]at hx;rcases hx with rfl|rfl <;> decide
 have hb:∀x∈r,∀c∈x.2.1,c.toNat<1:=by
  subst h;intro x hx c hc;simp only[List.mem_cons,List.not_mem_nil,or_false]at hx;rcases hx with rfl|rfl
  .simp at hc
  simp only[List.mem_cons,List.not_mem_nil,or_false]at hc;subst hc;decide
 have hL:=Hl hr;have hT:=qgZ hr hb;have qpH:=qhA hr;have o0:Ed r []=0:=by subst h;decide
 have o1:Ed r [0]=1:=by subst h;decide
 have o2:∀l:Wd,Ed r (0::0::l)=-1:=by subst h;intro l;rw[nQ hr];simp
 have hg:=hL.good;have hp:=Qy.2 hg.some;generalize Ts r=M at*;have t0:No M 0=0:=by rw[<-nG,<-o0];exact qpH []
 have t1:Md M 0 [0]=1:=by rw[<-o1];exact qpH [0]
 have h0:∀k<M.length,∀e∈Mm M k,e.1=0:=fun k hk e he=>by
  have h1:=(hg.tos k hk e he).1;have h2:=hT k hk e he;omega
 obtain⟨j,hj⟩:∃j,Di M 0 0=some j:=by
  rw[Wb]at t1;cases h:Di M 0 0 with
  |none=>rw[h]at t1;cases t1
  |some j=>exact⟨j,rfl⟩
 have Mw:=Dq hj;have tj:No M j=1:=by
  have:=t1;rw[Wb,hj]at this;exact this
 have hj0:j≠0:=fun e=>by rw[e,t0]at tj;cases tj
 have tjj:∀i,Di M j 0=some i->∀l:List Int,(∀b∈l,b=0)->Md M i l=-1:=fun i hi l hl=>by
  obtain⟨w,rfl⟩:∃w:Wd,l=byI w:=⟨List.replicate l.length 0,by
   unfold byI
   rw[List.map_replicate]
   exact List.eq_replicate_iff.2 ⟨rfl,hl⟩⟩
  have h1:=qpH (0::0::w);rw[o2]at h1;have h2:byI (0::0::w)=(0:Int)::(0:Int)::byI w:=rfl;rw[h2,Wb,hj]at h1;simp only at h1;rw[Wb,hi]at h1;exact h1
 have hz:∀(l:List Int)(k:Nat),k<M.length->Md M k l≠-1->∀b∈l,b=0:=by
  intro l
  induction l with
  |nil=>intro k _ _ b hb;cases hb
  |cons c l ih =>
   intro k hk ht b hb;rw[Wb]at ht;cases hs:Di M k c with
   |none=>rw[hs]at ht;exact absurd rfl ht
   |some i =>
    rw[hs]at ht;have he:=(Wh hg hk c i).1 hs;rcases List.mem_cons.1 hb with rfl|hb
    .exact h0 k hk _ he
    exact ih i (Dq hs) ht b hb
 have hj1:j=1:=by
  have h1l:1<M.length:=by omega
  obtain⟨p,hp1,t,ht⟩:=hL.new 1 (by omega) h1l;have hp0:p=0:=by omega
  subst hp0;have h3:=h0 0 hp _ ht;simp only at h3;subst h3;have h4:=(Wh hg hp 0 1).2 ht;rw[hj]at h4;injection h4
 subst hj1;refine⟨?_,t0,tj⟩;rcases Nat.lt_or_ge 2 M.length with h2l|h2l
 .exfalso;obtain⟨p,hp1,t,ht⟩:=hL.new 2 (by omega) h2l;have h3:=h0 p (by omega) _ ht;simp only at h3;subst h3;have h4:=(Wh hg (by omega) 0 2).2 ht;have hp2:p=1:=by
   rcases Nat.lt_or_ge p 1 with h5|h5
   .have:p=0:=by omega
    subst this;rw[hj]at h4;injection h4 with h4;cases h4
   omega
  subst hp2;obtain⟨l,hl⟩:=hL.tells 2 (by omega) h2l;exact hl (tjj 2 h4 l (hz l 2 h2l hl))
 omega
theorem qaT{p:Nat->Bool}{x:Nat}(h:∀k<n,p k=true↔k=x):(List.range n).findIdx? p=if x<n then some x else none:=by
 by_cases hx:x<n
 .rw[if_pos hx,List.findIdx?_eq_some_iff_getElem];refine⟨by rw[List.length_range];exact hx,by rw[List.getElem_range];exact (h x hx).2 rfl,fun j hj=>?_⟩;rw[List.getElem_range];intro e;have:=(h j (by omega)).1 e;omega
 rw[if_neg hx,List.findIdx?_eq_none_iff];intro k hk;rw[Ya]at hk;cases e:p k with
 |false=>rfl
 |true =>
  have:=(h k hk).1 e;omega
theorem oM{M:Kj}(hu:∀i<M.length,Ke M i=true)(ha:∀i<M.length,∀k<M.length,De M i k=true↔k=i):∀(es:List (Int×Int))(i j:Nat)(l:List (Int×Int)),(∀e∈es,0<=e.2/\e.2<M.length)->i<=M.length->Hb i es=some j ->
  es.foldl (Es (Ke M) (De M)) (List.range i,l)=(List.range j,l++es)/\j<=M.length
 |[],i,j,l,_,hi,h=>by
  rw[Hb]at h;injection h with h;subst h;exact⟨by rw[List.append_nil];rfl,hi⟩
 |e::r,i,j,l,he,hi,h=>by
  obtain⟨e1,e2⟩:=he e (by simp);rw[Hb]at h;rw[List.foldl_cons];unfold Es;rw[if_pos (hu _ (by omega))];have hf:(List.range i).findIdx? (De M e.2.toNat)=if e.2.toNat<i then some e.2.toNat else none:=qaT fun k hk=>ha _ (by omega) k (by omega)
  simp only[hf];split at h
  .cases h
  rename_i h1;split at h
  .rename_i h2;rw[if_neg (by omega)];simp only[List.length_range];obtain⟨k1,k2⟩:=oM hu ha r (i+1) j (l++[e]) (fun x hx=>he x (by simp[hx])) (by omega) h;refine⟨?_,k2⟩;rw[show e.2.toNat=i from by omega,<-List.range_succ,show (e.1,(i:Int))=e from by rw[<-h2]];refine Eq.trans k1 ?_;rw[Xd];rfl
  rename_i h2;rw[if_pos (by omega)];obtain⟨k1,k2⟩:=oM hu ha r i j (l++[e]) (fun x hx=>he x (by simp[hx])) hi h;refine⟨?_,k2⟩;simp only;rw[show (e.1,((e.2.toNat:Nat):Int))=e from by rw[Int.toNat_of_nonneg e1]];refine Eq.trans k1 ?_;rw[Xd];rfl
theorem aK(h:n<M.length):M.take n++[(No M n,Mm M n)]=M.take (n+1):=by
 rw[List.take_add_one,Qa h,Cm h,Bi h];rfl
theorem qoI(h:Ag m M)(hv:Uy M 9223372036854775807=true):Dk M=M:=by
 unfold Dk;rw[if_pos hv];have hg:=h.good;have Dt:0<M.length:=Qy.2 hg.some;by_cases h0:Ke M 0=true
 .rw[if_pos h0];have hr:∀i,i<M.length->Pg M i:=by
   intro i
   induction i using Nat.strongRecOn with
   |_ i ih =>
    intro hi;rcases Nat.eq_zero_or_pos i with e|e
    .subst e;exact Ch M
    obtain⟨p,hp,t,ht⟩:=h.new i e hi;have:=Ci hg (ih p hp (by omega)) ht
    rwa [Yz]at this
  have hu:∀i<M.length,Ke M i=true:=fun i hi=>by
   rcases Nat.eq_zero_or_pos i with e|e
   .subst e;exact h0
   exact (Ff M i).2 ⟨hr i hi,h.tells i e hi⟩
  have ha:∀i<M.length,∀k<M.length,De M i k=true↔k=i:=fun i hi k hk=>by
   rw[jI];constructor
   .intro Aj;refine Classical.byContradiction fun hne=>?_;obtain⟨l,hl⟩:=h.apart i k hi hk (fun e=>hne e.symm);exact hl (Aj l)
   rintro rfl l;rfl
  have hb:∀n,n<=M.length->∃i,Hb 1 ((M.take n).flatMap fun s=>s.2)=some i/\i<=M.length/\Uo M n=(List.range i,M.take n):=by
   intro n
   induction n with
   |zero=>intro _;exact⟨1,rfl,Dt,rfl⟩
   |succ n ih =>
    intro hn;obtain⟨i,o1,o2,o3⟩:=ih (by omega);obtain⟨i',p1,p2⟩:=h.ord n (by omega);have:i'=i:=by rw[p1]at o1;exact Option.some.inj o1
    subst this;have hj:∃j,Hb 1 ((M.take (n+1)).flatMap fun s=>s.2)=some j:=by
     by_cases hl:n+1<M.length
     .obtain⟨j,q1,_⟩:=h.ord (n+1) hl;exact⟨j,q1⟩
     rw[Qd (by omega)];exact h.ordl
    obtain⟨j,hj⟩:=hj;have z_:Hb i' (Mm M n)=some j:=by
     rw[<-aK (by omega:n<M.length),List.flatMap_append,Ra,p1]at hj;simpa using hj
    obtain⟨f1,f2⟩:=oM hu ha (Mm M n) i' j [] (fun e he=>(hg.tos n (by omega) e he).2) o2 z_;refine⟨j,hj,f2,?_⟩;have e3:bE M (Ke M) (De M) n=(List.range i',M.take n):=o3;show bE M (Ke M) (De M) (n+1)=_;rw[bE,e3];simp only[List.getElem?_range p2,f1,List.nil_append];rw[aK (by omega)]
  obtain⟨i,_,_,e⟩:=hb M.length (Yb _);rw[e];exact List.take_length
 rw[if_neg h0];have hn:∀l,Md M 0 l=-1:=dh fun ht=>h0 ((Ff M 0).2 ⟨Ch M,ht⟩);have hz:=h.zero hn;have h1:M.length=1:=by
  refine Classical.byContradiction fun hne=>?_;obtain⟨p,hp,t,ht⟩:=h.new 1 (by omega) (by omega);have:p=0:=by omega
  subst this;rw[hz]at ht;cases ht
 obtain⟨s,rfl⟩:=List.length_eq_one_iff.1 h1;have ho:No [s] 0=-1:=hn [];obtain⟨a,b⟩:=s;have ho:a=-1:=ho;have hz:b=[]:=hz;rw[ho,hz]
theorem rx(h:Ag m M):∀i,i<M.length->Pg M i:=by
 intro i
 induction i using Nat.strongRecOn with
 |_ i ih =>
  intro hi;rcases Nat.eq_zero_or_pos i with e|e
  .subst e;exact Ch M
  obtain⟨p,hp,t,ht⟩:=h.new i e hi;have:=Ci h.good (ih p hp (by omega)) ht
  rwa [Yz]at this
theorem qhD(hm:m≠[])(h:Ag m M){k:Nat}(hk:k<M.length):No M k=-1\/∃j<m.length,No m j=No M k:=by
 obtain⟨l,hl⟩:=rx h k hk;have h1:Md M 0 l=No M k:=by
  unfold Md;rw[hl]
 rw[<-h1,h.tell];unfold Md;cases e:fI m 0 l with
 |none=>exact .inl rfl
 |some j=>exact .inr ⟨j,zp (Qy.2 hm) e,rfl⟩
theorem qgL(rows:List Ei)(w:Wd):Ed rows w=-1\/∃r∈rows,Ed rows w=r.2.2:=by
 unfold Ed;have:∀(l:List Ei)(o:Int),(∀r∈l,r∈rows)->(o=-1\/∃r∈rows,o=r.2.2)->(l.foldl (fun o r=>if r.2.1=w/\o<0 then r.2.2 else o) o=-1\/∃r∈rows,l.foldl (fun o r=>if r.2.1=w/\o<0 then r.2.2 else o) o=r.2.2):=by
  intro l
  induction l with
  |nil=>intro o _ h;exact h
  |cons r l ih =>
   intro o hl h;rw[List.foldl_cons];refine ih _ (fun x hx=>hl x (by simp[hx])) ?_;split
   .exact .inr ⟨r,hl r (by simp),rfl⟩
   exact h
 exact this rows (-1) (fun _ h=>h) (.inl rfl)
theorem tH{rows:List Ei}(hF:Df rows F)(h:Ag (Dh rows F) M){k:Nat}(hk:k<M.length):No M k=-1\/∃r∈rows,No M k=r.2.2:=by
 have h0:=(Qj.1 (dJ hF)).1;rcases qhD (by intro e;have:=Eb rows F;rw[e]at this;simp at this;omega) h hk with e|⟨j,hj,e⟩
 .exact .inl e
 rw[Eb]at hj;rw[<-e,(Rm (rows:=rows) (Qa hj)).1];exact qgL rows _
theorem nE{rows:List Ei}(hF:Df rows F)(h:Ag (Dh rows F) M)(hb:∀r∈rows,∀c∈r.2.1,c.toNat<n):Uy M (n:Int)=true:=by
 refine jB h.good fun k hk e he=>?_;obtain⟨i,hi,d,hd,e2⟩:=h.term k hk e he;rw[e2];exact eH hF hb i hi d hd
theorem tJ{rows:List Ei}(hF:Df rows F)(h:Ag (Dh rows F) M):Dk M=M :=
 qoI h (jB h.good fun k hk e he=>by
  obtain⟨i,hi,d,hd,e2⟩:=h.term k hk e he
  have:=eH (rows:=rows) hF (n:=256) (fun r _ c _=>c.toNat_lt) i hi d hd
  omega)
theorem cB(l:List Wd):Jv (Jv l)=Jv l:=(Aq (List.Perm.refl _) (pc l)).symm
theorem fv(l:List Wd):Uj (Uj l)=Uj l:=by
 cases l with
 |nil=>simp[Uj,Jv]
 |cons x r =>
  show [x]++Jv (Jv r)=[x]++Jv r;rw[cB]
theorem sg{l:List Wd}(hn:l.Nodup)(hi:i<l.length):l.idxOf (l.getD i [])=i:=by
 rw[Qb,Qa hi];exact List.Nodup.idxOf_getElem hn i hi
theorem bh(hn:ns.Nodup)(hm:ts.Nodup){s:Int}(h:Vc ns.length ts.length s):Gr ns ts ns ts s=s:=by
 unfold Gr Vc at*;split
 .rw[sg hm (by omega)];omega
 rw[sg hn (by omega)];omega
theorem zq(hn:ns.Nodup)(hm:ts.Nodup){r:Jj}(h1:Vc ns.length ts.length r.1)(h2:∀s∈r.2,Vc ns.length ts.length s):Ec ns ts ns ts r=r:=by
 unfold Ec;rw[bh hn hm h1,(List.map_congr_left fun s hs=>bh hn hm (h2 s hs)).trans (List.map_id' r.2)]
theorem qF(l:List Wd):(l.map Jp).map Wt=l:=by
 rw[List.map_map];exact (List.map_congr_left fun w _=>Fu w).trans (List.map_id l)
theorem jA(h:Su g):Jh (Jh g)=Jh g:=by
 have hc:=Ho h;have e1:(Jh g).1.map Wt=Uj (g.1.map Wt):=qF _;have e2:(Jh g).2.1.map Wt=Jv (g.2.1.map Wt):=qF _;have hn:((Jh g).1.map Wt).Nodup:=Fv (fun _ _=>eP) hc.nn;have hm:((Jh g).2.1.map Wt).Nodup:=Fv (fun _ _=>eP) hc.tn;have hN:((Jh g).1.map Wt).length=(Jh g).1.length:=Qk ..;have hM:((Jh g).2.1.map Wt).length=(Jh g).2.1.length:=Qk ..;have Uh:∀r∈(Jh g).2.2,Vc ((Jh g).1.map Wt).length ((Jh g).2.1.map Wt).length r.1/\∀s∈r.2,Vc ((Jh g).1.map Wt).length ((Jh g).2.1.map Wt).length s:=fun r hr=>by
  rw[hN,hM];obtain⟨f1,_,f3⟩:=hc.fit r hr;exact⟨⟨by omega,f1.2⟩,f3⟩
 have hs:∀r∈(Jh g).2.2,jN r:=fun r hr s hs=>by
  have:=((Uh r hr).2 s hs).1;rw[hM]at this;have:=hc.nm;omega
 have e3:oW ((Jh g).1.map Wt) ((Jh g).2.1.map Wt) (Jh g).2.2=(Jh g).2.2:=by
  have c1:Uj ((Jh g).1.map Wt)=(Jh g).1.map Wt:=by rw[e1,fv]
  have c2:Jv ((Jh g).2.1.map Wt)=(Jh g).2.1.map Wt:=by rw[e2,cB]
  unfold oW;rw[c1,c2,(List.map_congr_left fun r hr=>zq hn hm (Uh r hr).1 (Uh r hr).2).trans (List.map_id' _)];exact (At hs (List.Perm.refl _) (pd _)).symm
 show ((Uj ((Jh g).1.map Wt)).map Jp,(Jv ((Jh g).2.1.map Wt)).map Jp,oW ((Jh g).1.map Wt) ((Jh g).2.1.map Wt) (Jh g).2.2)=_;rw[e3,e1,e2,fv,cB];rfl
theorem qaP{f:σ->Int×List Int->σ}(I:σ->Prop)(μ:σ->Nat)(hI:∀s r,I s->I (f s r))(h1:∀s r,I s->μ s<=μ (f s r))(h2:∀s r,I s->μ (f s r)<=μ s->f s r=s) :
  ∀(l:Zz)(s:σ),I s->I (l.foldl f s)/\μ s<=μ (l.foldl f s)/\(μ (l.foldl f s)<=μ s->l.foldl f s=s/\∀r∈l,f s r=s):=by
 intro l
 induction l with
 |nil=>intro s hs;exact⟨hs,Yb _,fun _=>⟨rfl,by simp⟩⟩
 |cons r l ih =>
  intro s hs;obtain⟨a1,a2,a3⟩:=ih (f s r) (hI s r hs);refine⟨a1,Yd (h1 s r hs) a2,fun hle=>?_⟩;have hle:μ (l.foldl f (f s r))<=μ s:=hle;have e:=h2 s r hs (Yd a2 hle);have:=a3 (by rw[e]at hle |-;exact hle);rw[e]at this;refine⟨by show l.foldl f (f s r)=s;rw[e];exact this.1,fun x hx=>?_⟩;rcases List.mem_cons.1 hx with rfl|hx
  .exact e
  exact this.2 x hx
theorem aN{f:σ->Int×List Int->σ}(I:σ->Prop)(μ:σ->Nat)(n:Nat)(hI:∀s r,I s->I (f s r))(h1:∀s r,I s->μ s<=μ (f s r))(h2:∀s r,I s->μ (f s r)<=μ s->f s r=s)(h3:∀s,I s->μ s<=n){s:σ}(hs:I s) :
  ∀r∈rs,f (Wq f rs (n+1) s) r=Wq f rs (n+1) s:=by
 have qdN:∀(k:Nat)(s:σ),rs.foldl f s=s->Wq f rs k s=s:=by
  intro k
  induction k with
  |zero=>intro s _;rfl
  |succ k ih=>intro s e;show Wq f rs k (rs.foldl f s)=s;rw[e];exact ih s e
 have key:∀(k:Nat)(s:σ),I s->(∀r∈rs,f (Wq f rs k s) r=Wq f rs k s)\/(I (Wq f rs k s)/\μ s+k<=μ (Wq f rs k s)):=by
  intro k
  induction k with
  |zero=>intro s hs;exact .inr ⟨hs,Yb _⟩
  |succ k ih =>
   intro s hs;obtain⟨a1,a2,a3⟩:=qaP I μ hI h1 h2 rs s hs;by_cases hle:μ (rs.foldl f s)<=μ s
   .left;obtain⟨e1,e2⟩:=a3 hle;rw[qdN (k+1) s e1];exact e2
   rcases ih _ a1 with h|⟨h,h'⟩
   .exact .inl h
   refine .inr ⟨h,?_⟩;show μ s+(k+1)<=μ (Wq f rs k (rs.foldl f s));omega
 rcases key (n+1) s hs with h|⟨h,h'⟩
 .exact h
 have:=h3 _ h;omega
theorem count_set:∀(P:List Bool)(i:Nat),P.count true<=(P.set i true).count true/\((P.set i true).count true<=P.count true->P.set i true=P)
 |[],i=>⟨Yb _,fun _=>rfl⟩
 |b::P,0=>by
  cases b <;> simp
 |b::P,i+1=>by
  obtain⟨h1,h2⟩:=count_set P i;simp only[List.set_cons_succ,List.count_cons];exact⟨by omega,fun h=>by rw[h2 (by omega)]⟩
theorem ph(hi:i<P.length)(h:P.set i true=P):P[i]?=some true:=by
 rw[<-h,List.getElem?_set_self hi]
theorem gF(P:List Bool)(r:Int×List Int):P.count true<=(Wj P r).count true/\((Wj P r).count true<=P.count true->Wj P r=P):=by
 unfold Wj;split
 .exact count_set P _
 exact⟨Yb _,fun _=>rfl⟩
theorem zL(P:List Bool)(r:Int×List Int):(Wj P r).length=P.length:=by
 unfold Wj;split
 .exact Qm ..
 rfl
theorem zI(P:List Bool)(a s:Int):P.count true<=(Jt P a s).count true/\((Jt P a s).count true<=P.count true->Jt P a s=P):=by
 unfold Jt;split
 .exact count_set P _
 exact⟨Yb _,fun _=>rfl⟩
theorem Rr(a:Int):∀(l:List Int)(P:List Bool),P.count true<=(l.foldl (fun R s=>Jt R a s) P).count true/\((l.foldl (fun R s=>Jt R a s) P).count true<=P.count true->l.foldl (fun R s=>Jt R a s) P=P/\∀s∈l,Jt P a s=P)
 |[],P=>⟨Yb _,fun _=>⟨rfl,by simp⟩⟩
 |s::l,P=>by
  obtain⟨h1,h2⟩:=Rr a l (Jt P a s);obtain⟨h3,h4⟩:=zI P a s;refine⟨Yd h3 h1,fun hle=>?_⟩;have hle:(l.foldl (fun R s=>Jt R a s) (Jt P a s)).count true<=P.count true:=hle;have e:=h4 (by omega);have:=h2 (by rw[e]at hle |-;exact hle);rw[e]at this;refine⟨by show l.foldl (fun R s=>Jt R a s) (Jt P a s)=P;rw[e];exact this.1,fun x hx=>?_⟩;rcases List.mem_cons.1 hx with rfl|hx
  .exact e
  exact this.2 x hx
theorem gE(P:List Bool)(r:Int×List Int):(Wr P r).length=P.length:=by
 unfold Wr;have:∀(l:List Int)(P:List Bool),(l.foldl (fun R s=>Jt R r.1 s) P).length=P.length:=by
  intro l
  induction l with
  |nil=>intro P;rfl
  |cons s l ih =>
   intro P;refine (ih (Jt P r.1 s)).trans ?_;unfold Jt;split
   .exact Qm ..
   rfl
 exact this r.2 P
inductive ProdP(rs:Zz):Int->Prop
 |mk {a:Int} {r:List Int}:(a,r)∈rs->(∀s∈r,0<=s->ProdP rs s)->ProdP rs a
inductive ReachP(rs:Zz):Int->Prop
 |start:ReachP rs 0
 |step {a s:Int} {r:List Int}:ReachP rs a->(a,r)∈rs->s∈r->0<=s->ReachP rs s
theorem eX:P.getD i false=true↔P[i]?=some true:=by
 rw[Qb];cases P[i]? with
 |none=>simp
 |some b=>simp
theorem cQ(hw:Sb rs n):(Ky rs n).all id=true↔∀a:Nat,a<n->ProdP rs a:=by
 have hl:(Ky rs n).length=n:=(Cj hw).len;constructor
 .intro h a ha;have hs:∀a:Nat,(Ky rs n)[a]?=some true->ProdP rs a:=by
   refine (Dr (f:=Wj) (rs:=rs) (fun P=>∀a:Nat,P[a]?=some true->ProdP rs a) (fun P r hr hP a ha=>?_) (n+1) (List.replicate n false) ?_)
   .unfold Wj at ha;split at ha
    .rename_i Wc;rcases Fr ha with rfl|ha
     .rw[Int.toNat_of_nonneg (hw r.1 r.2 hr).1];refine .mk (r:=r.2) hr fun s hs h0=>?_;have:=Xq.1 Wc s hs;simp only[Yu,Yk]at this;rcases this with h1|h1
      .omega
      have:=hP _ (eX.1 h1)
      rwa [Int.toNat_of_nonneg h0]at this
     exact hP a ha
    exact hP a ha
   intro a ha;rw[Xh]at ha;split at ha <;> cases ha
  exact hs a (sS h (by rw[hl];exact ha))
 intro h;have hc:∀r∈rs,Wj (Ky rs n) r=Ky rs n :=
  aN (fun P=>P.length=n) (fun P=>P.count true) n (fun P r hP=>(zL P r).trans hP) (fun P r _=>(gF P r).1) (fun P r _=>(gF P r).2) (fun P hP=>hP ▸ List.count_le_length) (by simp)
 have Wc:∀a:Int,ProdP rs a->(Ky rs n)[a.toNat]?=some true:=by
  intro a ha
  induction ha with
  |@mk a r hr _ ih =>
   have e:=hc _ hr;unfold Wj at e;rw[if_pos (Xq.2 fun s hs=>by
    simp only[Yu,Yk]
    rcases Int.lt_or_le s 0 with h0|h0
    .exact .inl h0
    exact .inr (eX.2 (ih s hs h0)))]at e
   obtain⟨w1,w2,_⟩:=hw a r hr;exact ph (by rw[hl];show a.toNat<n;omega) e
 refine Xq.2 fun b hb=>?_;obtain⟨i,hi,rfl⟩:=Qz hb;have:=Wc i (h i (by rw[<-hl];exact hi));rw[Yz,Qa hi]at this;exact Option.some.inj this
theorem pX(hn:0<n)(hw:Sb rs n):(Uu rs n).all id=true↔∀a:Nat,a<n->ReachP rs a:=by
 have hl:(Uu rs n).length=n :=
  Dr (f:=Wr) (rs:=rs) (fun P=>P.length=n) (fun P r _ hP=>(gE P r).trans hP) (n+1) ((List.replicate n false).set 0 true) (by simp)
 constructor
 .intro h a ha;have hs:∀a:Nat,(Uu rs n)[a]?=some true->ReachP rs a:=by
   refine (Dr (f:=Wr) (rs:=rs) (fun P=>∀a:Nat,P[a]?=some true->ReachP rs a) (fun P r hr hP=>?_) (n+1) ((List.replicate n false).set 0 true) ?_)
   .unfold Wr;have:∀(l:List Int)(P:List Bool),(∀s∈l,s∈r.2)->(∀a:Nat,P[a]?=some true->ReachP rs a)->∀a:Nat,(l.foldl (fun R s=>Jt R r.1 s) P)[a]?=some true->ReachP rs a:=by
     intro l
     induction l with
     |nil=>intro P _ hP;exact hP
     |cons s l ih =>
      intro P hl hP;refine ih (Jt P r.1 s) (fun s hs=>hl s (by simp[hs])) (fun a ha=>?_);unfold Jt at ha;split at ha
      .rename_i hc;simp only[Ym,Yk]at hc;rcases Fr ha with rfl|ha
       .rw[Int.toNat_of_nonneg hc.2];have:=hP _ (eX.1 hc.1);rw[Int.toNat_of_nonneg (hw r.1 r.2 hr).1]at this;exact .step this (r:=r.2) hr (hl s (by simp)) hc.2
       exact hP a ha
      exact hP a ha
    exact this r.2 P (fun _ h=>h) hP
   intro a ha;rcases Fr ha with rfl|ha
   .exact .start
   rw[Xh]at ha;split at ha <;> cases ha
  exact hs a (sS h (by rw[hl];exact ha))
 intro h;have hc:∀r∈rs,Wr (Uu rs n) r=Uu rs n :=
  aN (fun P=>P.length=n) (fun P=>P.count true) n (fun P r hP=>(gE P r).trans hP) (fun P r _=>(Rr r.1 r.2 P).1) (fun P r _ hle=>((Rr r.1 r.2 P).2 hle).1) (fun P hP=>hP ▸ List.count_le_length) (by simp)
 have h0:(Uu rs n)[0]?=some true :=
  Dr (f:=Wr) (rs:=rs) (fun P=>P[0]?=some true) (fun P r _ hP=>by
   unfold Wr
   have:∀(l:List Int)(P:List Bool),P[0]?=some true->(l.foldl (fun R s=>Jt R r.1 s) P)[0]?=some true:=by
    intro l
    induction l with
    |nil=>intro P hP;exact hP
    |cons s l ih =>
     intro P hP
     refine ih (Jt P r.1 s) ?_
     unfold Jt
     split
     .rw[Xw]
      split
      .rename_i e
       rw[e,if_pos]
       exact (Qj.1 hP).1
      exact hP
     exact hP
   exact this r.2 P hP) (n+1) ((List.replicate n false).set 0 true) (by
    rw[List.getElem?_set_self (by simp;exact hn)])
 have Wc:∀a:Int,ReachP rs a->(Uu rs n)[a.toNat]?=some true:=by
  intro a ha
  induction ha with
  |start=>exact h0
  |@step a s r _ hr hs sm ih =>
   have e:=((Rr a r (Uu rs n)).2 (by
    have:=hc _ hr
    unfold Wr at this
    rw[this]
    exact Yb _)).2 s hs
   unfold Jt at e;rw[if_pos (by simp only[Ym,Yk];exact⟨eX.2 ih,sm⟩)]at e;have:=(hw a r hr).2.2 s hs;exact ph (by rw[hl];omega) e
 refine Xq.2 fun b hb=>?_;obtain⟨i,hi,rfl⟩:=Qz hb;have:=Wc i (h i (by rw[<-hl];exact hi));rw[Yz,Qa hi]at this;exact Option.some.inj this
theorem qmN{t:Nat}:Oi rs t=true↔∃a r,(a,r)∈rs/\-1-(t:Int)∈r:=by
 unfold Oi;simp only[Xt,Yk];constructor
 .rintro⟨r,hr,s,hs,e⟩;exact⟨r.1,r.2,hr,by rw[<-e];exact hs⟩
 rintro⟨a,r,hr,hs⟩;exact⟨(a,r),hr,_,hs,rfl⟩
theorem Su.wellG(h:Su g):Sb g.2.2 g.1.length:=fun a r hr=>by
 obtain⟨⟨h1,h2⟩,_,h3⟩:=h.fit (a,r) hr;exact⟨h1,h2,fun s hs=>(h3 s hs).2⟩
structure Ren(rs Cg:Zz)(n m:Nat)(S:Int->Int):Prop where
 sign:∀s,S s<0↔s<0
 mem:∀a r,(a,r)∈rs->(S a,r.map S)∈Cg
 back:∀b r',(b,r')∈Cg->∃a r,(a,r)∈rs/\b=S a/\r'=r.map S
 inj:∀s t,Vc n m s->Vc n m t->S s=S t->s=t
 fit:∀a r,(a,r)∈rs->Vc n m a/\∀s∈r,Vc n m s
 onto:∀j:Nat,j<n->∃i<n,S ((i:Nat):Int)=(j:Int)
 ontoT:∀j:Nat,j<m->∃i<m,S (-1-((i:Nat):Int))=-1-(j:Int)
 into:∀j:Nat,j<n->∃i<n,S (j:Int)=((i:Nat):Int)
 intoT:∀j:Nat,j<m->∃i<m,S (-1-(j:Int))=-1-((i:Nat):Int)
 zero:S 0=0
section
variable {rs Cg:Zz} {n m:Nat} {S:Int->Int} (h:Ren rs Cg n m S)
include h
theorem Ren.prod{a:Int}(ha:ProdP rs a):ProdP Cg (S a):=by
 induction ha with
 |@mk a r hr _ ih =>
  refine .mk (h.mem a r hr) fun s hs h0=>?_;obtain⟨t,ht,rfl⟩:=Xa.1 hs;refine ih t ht ?_;have:=h.sign t;omega
theorem Ren.prod_back{b:Int}(hb:ProdP Cg b):∀a,Vc n m a->S a=b->ProdP rs a:=by
 induction hb with
 |@mk b r' hr _ ih =>
  intro a ha e;obtain⟨a',r,h1,h2,h3⟩:=h.back b r' hr;obtain⟨f1,f2⟩:=h.fit a' r h1;have:=h.inj a a' ha f1 (e.trans h2);subst this;refine .mk h1 fun s hs h0=>ih (S s) (by rw[h3];exact List.mem_map_of_mem hs) ?_ s (f2 s hs) rfl;have:=h.sign s;omega
theorem Ren.reach{a:Int}(ha:ReachP rs a):ReachP Cg (S a):=by
 induction ha with
 |start=>rw[h.zero];exact .start
 |@step a s r _ hr hs sm ih =>
  refine .step ih (h.mem a r hr) (List.mem_map_of_mem hs) ?_;have:=h.sign s;omega
theorem Ren.reach_back(hn:0<n){b:Int}(hb:ReachP Cg b):∀a,Vc n m a->S a=b->ReachP rs a:=by
 induction hb with
 |start =>
  intro a ha e;have:=h.inj a 0 ha ⟨by omega,by omega⟩ (e.trans h.zero.symm);subst this;exact .start
 |@step b s' r' _ hr hs sm ih =>
  intro a ha e;obtain⟨a',r,h1,h2,h3⟩:=h.back b r' hr;obtain⟨f1,f2⟩:=h.fit a' r h1;rw[h3]at hs;obtain⟨s,Gc,eR⟩:=Xa.1 hs;have:=h.inj s a (f2 s Gc) ha (eR.trans e.symm);subst this;refine .step (ih a' f1 h2.symm) h1 Gc ?_;have:=h.sign s;omega
theorem Ren.wellE(hn:0<n)(hw:Sb rs n)(eh:Sb Cg n):wellE n m Cg=wellE n m rs:=by
 have hsn:∀i:Nat,i<n->Vc n m (i:Int):=fun i hi=>⟨by omega,by omega⟩;have e1:(Ky Cg n).all id=(Ky rs n).all id:=by
  rw[Bool.eq_iff_iff,cQ hw,cQ eh];constructor
  .intro hp a ha;obtain⟨i,hi,e⟩:=h.into a ha;exact h.prod_back (hp i hi) a (hsn a ha) e
  intro hp a ha;obtain⟨i,hi,e⟩:=h.onto a ha;rw[<-e];exact h.prod (hp i hi)
 have e2:(Uu Cg n).all id=(Uu rs n).all id:=by
  rw[Bool.eq_iff_iff,pX hn hw,pX hn eh];constructor
  .intro hp a ha;obtain⟨i,hi,e⟩:=h.into a ha;exact h.reach_back hn (hp i hi) a (hsn a ha) e
  intro hp a ha;obtain⟨i,hi,e⟩:=h.onto a ha;rw[<-e];exact h.reach (hp i hi)
 have e3:(List.range m).all (Oi Cg)=(List.range m).all (Oi rs):=by
  rw[Bool.eq_iff_iff,Xq,Xq];simp only[Ya,qmN];constructor
  .intro hp t ht;obtain⟨i,hi,e⟩:=h.intoT t ht;obtain⟨b,r',h1,h2⟩:=hp i hi;obtain⟨a,r,h3,h4,h5⟩:=h.back b r' h1;rw[h5]at h2;obtain⟨s,h6,h7⟩:=Xa.1 h2;have:=h.inj s _ ((h.fit a r h3).2 s h6) ⟨by omega,by omega⟩ (h7.trans e.symm);subst this;exact⟨a,r,h3,h6⟩
  intro hp t ht;obtain⟨i,hi,e⟩:=h.ontoT t ht;obtain⟨a,r,h1,h2⟩:=hp i hi;exact⟨_,_,h.mem a r h1,e ▸ List.mem_map_of_mem h2⟩
 unfold Go.Proofs.YtmaojnmnbpomeaaGreatDoor.wellE;rw[e1,e2,e3]
end
theorem qjB(h:Su g):Ren g.2.2 (Jh g).2.2 g.1.length g.2.1.length (Gr (g.1.map Wt) (g.2.1.map Wt) (Uj (g.1.map Wt)) (Jv (g.2.1.map Wt))):=by
 have hp:=Us (g.1.map Wt);have hq:=Vq (g.2.1.map Wt);have hn:(g.1.map Wt).Nodup:=Fv (fun _ _=>eP) h.nn;have hm:(g.2.1.map Wt).Nodup:=Fv (fun _ _=>eP) h.tn;have hN:(g.1.map Wt).length=g.1.length:=Qk ..;have hM:(g.2.1.map Wt).length=g.2.1.length:=Qk ..;refine⟨bf _ _ _ _,fun a r hr=>(Gs _).mem_iff.2 (List.mem_map_of_mem (f:=Ec _ _ _ _) hr),fun b r' hr=>?_,fun s t hs ht e=>?_,fun a r hr=>?_,fun j hj=>?_,fun j hj=>?_,fun j hj=>?_,fun j hj=>?_,?_⟩
 .obtain⟨x,hx,e⟩:=vv hr;exact⟨x.1,x.2,hx,congrArg Prod.fst e,congrArg Prod.snd e⟩
 .rw[<-hN,<-hM]at hs ht;exact tV hp hq hn hm hs ht e
 .obtain⟨f1,_,f3⟩:=h.fit (a,r) hr;exact⟨⟨by have:=f1.1;simp only at this;omega,f1.2⟩,f3⟩
 .obtain⟨i,hi,e⟩:=wE hp hn (j:=j) (by rw[hN];exact hj);refine⟨i,by rw[<-hN];exact hi,?_⟩;unfold Gr;rw[if_neg (by omega),Yz,e]
 .obtain⟨i,hi,e⟩:=wE hq hm (j:=j) (by rw[hM];exact hj);refine⟨i,by rw[<-hM];exact hi,?_⟩;unfold Gr;rw[if_pos (by omega),show (-1-(-1-(i:Int))).toNat=i from by omega,e]
 .have:=Ou hp (i:=j) (by rw[hN];exact hj);refine⟨_,by rw[<-hN,<-hp.length_eq];exact this,?_⟩;unfold Gr;rw[if_neg (by omega),Yz]
 .have:=Ou hq (i:=j) (by rw[hM];exact hj);refine⟨_,by rw[<-hM,<-hq.length_eq];exact this,?_⟩;unfold Gr;rw[if_pos (by omega),show (-1-(-1-(j:Int))).toNat=j from by omega]
 unfold Gr;rw[if_neg (by omega)];have:=h.n1;cases e:g.1.map Wt with
 |nil=>rw[e]at hN;simp at hN;omega
 |cons x l =>
  show ((([x]++Jv l).idxOf x:Nat):Int)=0;simp
theorem pJ(h:Su g):wellE (Jh g).1.length (Jh g).2.1.length (Jh g).2.2=wellE g.1.length g.2.1.length g.2.2:=by
 obtain⟨l1,l2,_⟩:=Vz g;have hc:=(Ho h).wellG;rw[l1]at hc;rw[l1,l2];exact (qjB h).wellE h.n1 h.wellG hc
abbrev Nv:=Kd×Int×List Uk×List Kj
def Tq:Nv:=(([],[],[]),0,[],[])
theorem Bm(h:Kf g=0):Su g/\Kf (Jh g)=0:=by
 unfold Kf at h;split at h
 .rename_i hb;have hg:=(Fy g).1 hb;refine⟨hg,?_⟩;unfold Kf;rw[if_pos ((Fy _).2 (Ho hg)),pJ hg];exact h
 cases h
def qm(g:Kd)(left:Nat)(m:Kj):Bool:=m.all fun s=>!(decide ((g.2.2.length:Int)<=s.1)||decide (0<=s.1)&&decide (Tc g s.1≠(left:Int)))
structure zfH(v:Nv):Prop where
 k1:1<=v.2.1
 k4:v.2.1<=4
 chk:Kf v.1=0
 len:v.2.2.2.length=v.1.1.length
 mach:∀i m,v.2.2.2[i]?=some m->Uy m (v.1.2.1.length:Int)=true/\qm v.1 i m=true/\Dk m=m
 canon:Jh v.1=v.1
 rows:e_ v.1 v.2.1 v.2.2.1=true
def OfS(g:Kd)(k:Int)(s:Jb)(v:Nv)(c:List Wl)(e:Int):Prop :=
 (Nh g.2.2 g.1.length s≠[]/\v=Tq/\c=Nh g.2.2 g.1.length s/\e=20) \/
 (Nh g.2.2 g.1.length s=[]/\∃rows,rows.Perm (Vl 0 g.2.2 s)/\rows.Pairwise (fun a b=>¬ Mq b a)/\v=(g,k,rows,Gv rows g.1.length)/\c=[]/\e=0)
def xU(g:Kd)(k:Int)(v:Nv)(c:List Wl)(e:Int):Prop :=
 (¬ (1<=k/\k<=4)->v=Tq/\c=[]/\e=1) /\
 ((1<=k/\k<=4)->Kf g≠0->v=Tq/\c=[]/\e=Kf g) /\
 ((1<=k/\k<=4)->Kf g=0->∃s,Og k (Jh g) (some s)/\OfS (Jh g) k s v c e)
theorem sR(hk:1<=k/\k<=4)(hc:Kf g=0):¬ Ip k (Jh g):=by
 unfold Ip;rintro (h|h|h)
 .omega
 .omega
 exact h (Bm hc).2
theorem qdB{v v':Nv}{c':List Wl}{e':Int}(hm:g.2.1.length<=3)(h:xU g k v c e)(h':xU g k v' c' e'):v=v'/\c=c'/\e=e':=by
 obtain⟨a1,a2,a3⟩:=h;obtain⟨b1,b2,b3⟩:=h';by_cases hk:1<=k/\k<=4
 .by_cases hc:Kf g=0
  .obtain⟨s,ho,hs⟩:=a3 hk hc;obtain⟨s',yR,hs'⟩:=b3 hk hc;have e0:=Option.some.inj (ho.det yR);subst e0;rcases hs with ⟨n1,n2,n3,n4⟩|⟨n1,rows,p1,p2,n2,n3,n4⟩ <;> rcases hs' with ⟨m1,m2,m3,m4⟩|⟨m1,bv,q1,q2,m2,m3,m4⟩
   .exact⟨n2.trans m2.symm,n3.trans m3.symm,n4.trans m4.symm⟩
   .exact absurd m1 n1
   .exact absurd n1 m1
   obtain⟨kk,rfl,hL⟩:=sF (sR hk hc) (by rw[(Vz g).2.1];exact hm);obtain⟨s1,Gc,hM⟩:=hL.sets ho;have e1:=Option.some.inj Gc;subst e1;have er:=qgY hL hM hM p1 q1 (qdJ hL hM n1 p1 p2) (qdJ hL hM n1 q1 q2);subst er;exact⟨n2.trans m2.symm,n3.trans m3.symm,n4.trans m4.symm⟩
  obtain⟨n2,n3,n4⟩:=a2 hk hc;obtain⟨m2,m3,m4⟩:=b2 hk hc;exact⟨n2.trans m2.symm,n3.trans m3.symm,n4.trans m4.symm⟩
 obtain⟨n2,n3,n4⟩:=a1 hk;obtain⟨m2,m3,m4⟩:=b1 hk;exact⟨n2.trans m2.symm,n3.trans m3.symm,n4.trans m4.symm⟩
theorem de{v:Nv}(hm:g.2.1.length<=3)(h:xU g k v c 0):zfH v/\c=[]:=by
 obtain⟨a1,a2,a3⟩:=h;by_cases hk:1<=k/\k<=4
 .by_cases hc:Kf g=0
  .obtain⟨s,ho,hs⟩:=a3 hk hc;rcases hs with ⟨_,_,_,n4⟩|⟨n1,rows,p1,p2,n2,n3,_⟩
   .cases n4
   obtain⟨kk,rfl,hL⟩:=sF (sR hk hc) (by rw[(Vz g).2.1];exact hm);obtain⟨s1,Gc,hM⟩:=hL.sets ho;have e1:=Option.some.inj Gc;subst e1;obtain⟨hgood,ke⟩:=Bm hc;have zdZ:=pn hL hM p1;have zjP:=qfW hL hM p1;have hrg:=cD hL hM p1;refine⟨?_,n3⟩;rw[n2];refine⟨hk.1,hk.2,ke,dq _ _,fun i m hi=>?_,jA hgood,qwV hL hM n1 p1 p2⟩;have Uh:i<(Jh g).1.length:=by
    have:=(Qj.1 hi).1
    rwa [dq]at this
   change (Gv rows (Jh g).1.length)[i]?=some m at hi;rw[dr rows Uh]at hi;injection hi with hi;have hlo:=vO zdZ (i:Int);have hL2:Ag (Dh (Ub (i:Int) rows) (Bt (Ub (i:Int) rows))) m:=hi ▸ Hl hlo;have hF:=Is (Ub (i:Int) rows);refine⟨nE hF hL2 fun r hr=>zjP r (Qw.1 hr).1,?_,tJ hF hL2⟩;unfold qm;rw[Xq];intro st hst;obtain⟨j,hj,rfl⟩:=Qz hst;have ho2:=tH hF hL2 hj;rw[Cm hj]at ho2;simp only[Bool.not_eq_true',Yn,Yl,Bool.and_eq_false_iff,ne_eq,Decidable.not_not];rcases ho2 with e|⟨r,hr,e⟩
   .exact⟨by omega,.inl (by omega)⟩
   have Ml:=Qw.1 hr;have h1:=(hrg r Ml.1).1;unfold aR at h1;simp only[Bool.not_eq_true',Yn,Yl,ne_eq,Decidable.not_not]at h1;have hl:=of_decide_eq_true Ml.2;rw[e];exact⟨h1.1.1.2,.inr (h1.1.2.trans hl)⟩
  have:=(a2 hk hc).2.2;exact absurd this.symm hc
 have:=(a1 hk).2.2;cases this
theorem eO{v:Nv}(hg:Su g):xU (Jh g) k v c e↔xU g k v c e:=by
 have ke:Kf (Jh g)=Kf g:=by
  unfold Kf;rw[if_pos ((Fy _).2 (Ho hg)),if_pos ((Fy _).2 hg),pJ hg]
 unfold xU;rw[ke,jA hg]
theorem qgQ{v:Nv}(hm:g.2.1.length<=3)(h:xU g k v c 0):v.1=Jh g/\v.2.1=k/\xU v.1 v.2.1 v [] 0:=by
 have Vn:=(de hm h).2;subst Vn;obtain⟨a1,a2,a3⟩:=h;by_cases hk:1<=k/\k<=4
 .by_cases hc:Kf g=0
  .obtain⟨s,ho,hs⟩:=a3 hk hc;have hgood:=(Bm hc).1;rcases hs with ⟨_,_,_,n4⟩|⟨n1,rows,p1,p2,n2,n3,_⟩
   .cases n4
   have e1:v.1=Jh g:=by rw[n2]
   have e2:v.2.1=k:=by rw[n2]
   refine⟨e1,e2,?_⟩;rw[e1,e2,eO hgood];exact⟨fun h=>absurd hk h,fun _ h=>absurd hc h,fun _ _=>⟨s,ho,.inr ⟨n1,rows,p1,p2,n2,rfl,rfl⟩⟩⟩
  exact absurd (a2 hk hc).2.2.symm hc
 cases (a1 hk).2.2
theorem qaU(A B:Option Addr)(ca cb:Nat)(xs ys:List (Int×Int))(w:World)(ha:Je Rc w w.heap.size (.slice A xs.length ca) xs)(hb:Je Rc w w.heap.size (.slice B ys.length cb) ys) :
  Calls Tryz.prog 171 #[.slice A xs.length ca,.slice B ys.length cb] w fun e w'=>e=.returned (.bool (decide (xs=ys)))/\Below w.heap.size w w':=by
 have HA:=Lh ha;have HB:=Lh hb;have h1:=ha.n_le;have h2:=hb.n_le;by_cases hl:xs.length=ys.length
 .rw[<-hl]at HB h2 |-;obtain⟨n,hn⟩:=Xe xs.length;rw[<-hn]at HA HB h1 h2 |-;have HN:=Lh hn;have If:=Lh (hn.trans hl);clear ha hb hl hn;go_enter Tryz.func171,Tryz.ntmps171;go_wp2_with fail;go_loopg [13] n (fun left v13 wr=>∃i:Nat,i<=n/\n-i<=left/\v13=.int .i64 i/\Hid (xs.take i=ys.take i)/\Hid (Below w.heap.size w wr));exact⟨0,by omega,by omega,rfl,by simp[Hid],Xr _ _⟩;obtain⟨i,hi,Ef,rfl,HE,HBR⟩:=hrel;by_cases Oh:i<n
  .have Gj:i<xs.length:=by rw[<-HN.o];exact Oh
   have Rj:i<ys.length:=by rw[<-If.o];exact Oh
   obtain⟨b1,o1,cs1,rfl,-,hb1,Ev,Kr⟩:=(HA.o.below HBR.o).get Gj (by decide);obtain⟨b2,o2,cs2,rfl,-,Jd,Mv,Jr⟩:=(HB.o.below HBR.o).get Rj (by decide);obtain⟨rfl,Ik,Si,hz3,hz4⟩:=Nr Ev;obtain⟨rfl,sG,wF,sh,hy4⟩:=Nr Mv;have a0:=Kr 0 _ rfl;have a1:=Kr 1 _ rfl;have c0:=Jr 0 _ rfl;have c1:=Jr 1 _ rfl;clear Kr Jr Ev Mv;simp only[show Rc.size=2 from rfl,Yq,<-Yy]at a0 a1 c0 c1;have HT:=Lh (Qc Gj);have HT2:=Lh (Qc Rj);have Po:=Lh (Qa Gj);have dY:=Lh (Qa Rj);obtain⟨x,hx⟩:=Xe (xs[i]);obtain⟨y,hy⟩:=Xe (ys[i]);rw[<-hx]at a0 a1 HT Po Ik Si hz3 hz4;rw[<-hy]at c0 c1 HT2 dY sG wF sh hy4;clear hx hy Gj Rj;obtain⟨xa,xi⟩:=x;obtain⟨ya,yi⟩:=y;simp only at a0 a1 c0 c1;go_wp2_with fail;refine Text.wp_text [8] (by kernel_rfl) (by kernel_rfl) (fun Q' hQ'=>?_);go_wp2_with fail
   all_goals refine⟨by rfl,?_⟩
   case isTrue.isTrue =>
    rename_i g1 g2;subst g1 g2;go_wp2;go_roundg (gk-1);exact⟨i+1,by omega,by omega,by go_num,by show _=_;rw[HT.o,HT2.o,HE.o],HBR.o.drew⟩;omega
   all_goals
    have HNE:=Lh (show ¬ xs=ys by
     intro e
     have e2:=Po.o.symm.trans ((congrArg (fun l:List (Int×Int)=>l[i]?) e).trans dY.o)
     injection e2 with e2
     injection e2 with e2 e3
     contradiction)
    go_wp2;go_ret;exact⟨Kw (Zw (by rw[Yx HNE.o])),HBR.o.drew⟩
  have Uh:i=n:=by omega
  have HEQ:=Lh (show xs=ys by
   have h:=HE.o
   rwa [Uh,Qd (by rw[<-HN.o];exact Yb _),Qd (by rw[<-If.o];exact Yb _)]at h)
  go_wp2;go_ret;exact⟨Kw (Zw (by rw[Yw HEQ.o])),HBR.o⟩
 have HNE:=Lt (¬ xs=ys) (fun e=>hl (by rw[e]));have hlb:((xs.length:Int)==(ys.length:Int))=false:=by
  rw[Yp];omega
 have mT:¬ ((xs.length:Int)=(ys.length:Int)):=by omega
 generalize xs.length=n1 at*;generalize ys.length=n2 at*;clear ha hb;go_enter Tryz.func171,Tryz.ntmps171;go_wp2_with fail
 all_goals first
  |(exfalso;omega)
  |(go_ret;exact⟨Kw (Zw (by rw[Yx HNE.o])),Xr _ _⟩)
theorem qfU(o1 o2:Int)(v1 v2:Value)(l1 l2:List (Int×Int))(w:World)(h1:Je Rc w w.heap.size v1 l1)(h2:Je Rc w w.heap.size v2 l2) :
  Calls Tryz.prog 170 #[.agg #[.int .i64 o1,v1],.agg #[.int .i64 o2,v2]] w fun e w'=>e=.returned (.bool (decide (o1=o2)&&decide (l1=l2)))/\Below w.heap.size w w':=by
 obtain⟨A1,c1,rfl,-,-⟩:=h1.form;obtain⟨A2,c2,rfl,-,-⟩:=h2.form;have HBW:=Lt (Below w.heap.size w ((w.alloc (.cells #[.int .i64 o1,.slice A1 l1.length c1] 118)).alloc (.cells #[.int .i64 o2,.slice A2 l2.length c2] 118))) (((Xr _ _).alloc (Yb _) _).alloc (by rw[Xs];omega) _);have HE:=Lh (qaU A1 A2 c1 c2 l1 l2 _ (h1.fut HBW.o (Yb _) HBW.o.size) (h2.fut HBW.o (Yb _) HBW.o.size));clear h1 h2;generalize l1.length=n1 at*;generalize l2.length=n2 at*;by_cases ho:o1=o2
 .subst ho;go_enter Tryz.func170,Tryz.ntmps170;go_wp2_with fail;refine HE.o.mono ?_;rintro e w1 ⟨rfl,hb1⟩;have HB1:=Lh (HBW.o.trans (hb1.mono HBW.o.size));clear hb1;obtain⟨d,hd⟩:=Xe (decide (l1=l2));rw[<-hd];have HD:=Lh hd;clear hd;cases d
  all_goals
   go_wp2;go_ret;exact⟨Kw (Zw (by rw[<-HD.o];simp)),HB1.o⟩
 have hd:(o1==o2)=false:=by simpa using ho
 have HD:=Lh ho;clear ho;go_enter Tryz.func170,Tryz.ntmps170;go_wp2;go_ret;exact⟨Kw (Zw (by rw[Yx HD.o];rfl)),HBW.o⟩
theorem ko(v1 v2:Value)(m1 m2:qbU)(w:World)(h1:Je Ju w w.heap.size v1 m1)(h2:Je Ju w w.heap.size v2 m2) :
  Calls Tryz.prog 169 #[v1,v2,.func (.func 170) #[] #[]] w fun e w'=>e=.returned (.bool (decide (m1=m2)))/\Below w.heap.size w w':=by
 obtain⟨A1,c1,rfl,jZ,mY⟩:=h1.form;obtain⟨A2,c2,rfl,hb1,Jd⟩:=h2.form;unfold maxLen at mY Jd;have H1:=Lh h1;have H2:=Lh h2;clear h1 h2;by_cases hl:m1.length=m2.length
 .rw[<-hl]at H2 hb1 |-;obtain⟨n,hn⟩:=Xe m1.length;rw[<-hn]at H1 H2 jZ hb1 |-;have HN:=Lh hn;have If:=Lh (hn.trans hl);clear hl hn;go_enter Tryz.func169,Tryz.ntmps169;go_wp2_with fail;go_loopw [17] (fun v17 wr=>∃i:Nat,i<=n/\v17=.int .i64 i/\Hid (m1.take i=m2.take i)/\Hid (Below w.heap.size w wr)) (fun v17 _=>n-(intOf v17).toNat);exact⟨0,by omega,rfl,by simp[Hid],Xr _ _⟩;obtain⟨i,hi,rfl,HE,HBR⟩:=hrel;by_cases Oh:i<n
  .have Gj:i<m1.length:=by rw[<-HN.o];exact Oh
   have Rj:i<m2.length:=by rw[<-If.o];exact Oh
   obtain⟨b1,o1,cs1,rfl,-,qqO,Ev,Kr⟩:=(H1.o.below HBR.o).get Gj (by decide);obtain⟨b2,o2,cs2,rfl,-,zvV,Mv,Jr⟩:=(H2.o.below HBR.o).get Rj (by decide);obtain⟨u1,rfl,hu1,Ik,Si⟩:=Mr Ev;obtain⟨u2,rfl,sH,sG,wF⟩:=Mr Mv;obtain⟨B1,k1,rfl,-,-⟩:=hu1.form;obtain⟨B2,k2,rfl,-,-⟩:=sH.form;have a0:=Kr 0 _ rfl;have a1:=Kr 1 _ rfl;have d0:=Jr 0 _ rfl;have d1:=Jr 1 _ rfl;clear Kr Jr Ev Mv;simp only[show Ju.size=2 from rfl,Yq,<-Yy]at a0 a1 d0 d1;have kA:=Lh hu1;have fF:=Lh sH;have HT:=Lh (Qc Gj);have HT2:=Lh (Qc Rj);have Po:=Lh (Qa Gj);have dY:=Lh (Qa Rj);obtain⟨x,hx⟩:=Xe (m1[i]);obtain⟨y,hy⟩:=Xe (m2[i]);rw[<-hx]at a0 a1 HT Po kA;rw[<-hy]at d0 d1 HT2 dY fF;clear hx hy Gj Rj hu1 sH Ik Si sG wF;obtain⟨xa,xl⟩:=x;obtain⟨ya,yl⟩:=y;simp only at a0 a1 d0 d1 kA fF;have HS:=Lh (fun W (hW:Below w.heap.size wr W) (hs:w.heap.size<=W.heap.size)=>qfU xa ya (.slice B1 xl.length k1) (.slice B2 yl.length k2) xl yl W (kA.o.fut hW (Yb _) hs) (fF.o.fut hW (Yb _) hs));generalize xl.length=n1 at*;generalize yl.length=n2 at*;have HBX:=Lt (Below w.heap.size wr ((wr.alloc (.cells #[.int .i64 xa,.slice B1 n1 k1] 118)).alloc (.cells #[.int .i64 ya,.slice B2 n2 k2] 118))) (((Xr _ _).alloc HBR.o.size _).alloc (by rw[Xs];have:=HBR.o.size;omega) _);have hbr:=HBR.o.size;have d0':(wr.alloc (.cells #[.int .i64 xa,.slice B1 n1 k1] 118)).cell? ⟨b2,o2+i*2,none⟩=some (.int .i64 ya):=(World.cell?_of_block (w:=wr) (Zf wr _ b2 (by omega))).trans d0;have d1':(wr.alloc (.cells #[.int .i64 xa,.slice B1 n1 k1] 118)).cell? ⟨b2,o2+i*2+1,none⟩=some (.slice B2 n2 k2):=(World.cell?_of_block (w:=wr) (Zf wr _ b2 (by omega))).trans d1;go_wp2_with fail;refine (HS.o _ HBX.o (Yd HBR.o.size (by simp only[Xs];omega))).mono ?_;rintro e w1 ⟨rfl,hb1⟩;have HB1:=Lh (HBR.o.trans (HBX.o.trans (hb1.mono (by simp only[Xs];have:=HBR.o.size;omega))));clear hb1;obtain⟨d,hd⟩:=Xe ((decide (xa=ya)&&decide (xl=yl)));rw[<-hd];have HD:=Lh hd;clear hd;cases d
   .have HNE:=Lh (show ¬ m1=m2 by
     intro e
     have e2:=Po.o.symm.trans ((congrArg (fun l:qbU=>l[i]?) e).trans dY.o)
     injection e2 with e2
     injection e2 with e2 e3
     have:=HD.o
     rw[Yw e2,Yw e3]at this
     cases this)
    go_wp2;go_ret;exact⟨Kw (Zw (by rw[Yx HNE.o])),HB1.o⟩
   have HQ:=Lh (show xa=ya/\xl=yl by
    have h:=HD.o.symm
    rw[Ym,decide_eq_true_iff,decide_eq_true_iff]at h
    exact h)
   go_wp2;go_roundw;exact⟨i+1,by omega,by go_num,by show _=_;rw[HT.o,HT2.o,HE.o,HQ.o.1,HQ.o.2],HB1.o⟩;simp[intOf];omega
  have Uh:i=n:=by omega
  have HEQ:=Lh (show m1=m2 by
   have h:=HE.o
   rwa [Uh,Qd (by rw[<-HN.o];exact Yb _),Qd (by rw[<-If.o];exact Yb _)]at h)
  go_wp2;go_ret;exact⟨Kw (Zw (by rw[Yw HEQ.o])),HBR.o⟩
 have HNE:=Lt (¬ m1=m2) (fun e=>hl (by rw[e]));have mT:((m1.length:Int) != (m2.length:Int))=true:=by simpa using (show ¬ (m1.length:Int)=m2.length by omega)
 clear hl;go_enter Tryz.func169,Tryz.ntmps169;go_wp2;go_ret;exact⟨Kw (Zw (by rw[Yx HNE.o])),Xr _ _⟩
theorem kX(v1 v2:Value)(m1 m2:qbU)(w:World)(h1:Je Ju w w.heap.size v1 m1)(h2:Je Ju w w.heap.size v2 m2) :
  Calls Tryz.prog 107 #[v1,v2] w fun e w'=>e=.returned (.bool (decide (m1=m2)))/\Below w.heap.size w w':=by
 have HE:=Lh (ko v1 v2 m1 m2 w h1 h2);obtain⟨A1,c1,rfl,-,-⟩:=h1.form;obtain⟨A2,c2,rfl,-,-⟩:=h2.form;clear h1 h2;go_enter Tryz.func107,Tryz.ntmps107;go_wp2_with fail;refine HE.o.mono ?_;rintro e w1 ⟨rfl,hb1⟩;go_wp2;go_ret;exact⟨rfl,hb1⟩
theorem ul(v1 v2:Value)(m1 m2:List Kj)(w:World)(h1:Je (Tw Ju) w w.heap.size v1 m1)(h2:Je (Tw Ju) w w.heap.size v2 m2) :
  Calls Tryz.prog 122 #[v1,v2,.func (.func 107) #[] #[]] w fun e w'=>e=.returned (.bool (decide (m1=m2)))/\Below w.heap.size w w':=by
 obtain⟨A1,c1,rfl,jZ,mY⟩:=h1.form;obtain⟨A2,c2,rfl,hb1,Jd⟩:=h2.form;unfold maxLen at mY Jd;have H1:=Lh h1;have H2:=Lh h2;clear h1 h2;by_cases hl:m1.length=m2.length
 .rw[<-hl]at H2 hb1 |-;obtain⟨n,hn⟩:=Xe m1.length;rw[<-hn]at H1 H2 jZ hb1 |-;have HN:=Lh hn;have If:=Lh (hn.trans hl);clear hl hn;go_enter Tryz.func122,Tryz.ntmps122;go_wp2_with fail;go_loopw [17] (fun v17 wr=>∃i:Nat,i<=n/\v17=.int .i64 i/\Hid (m1.take i=m2.take i)/\Hid (Below w.heap.size w wr)) (fun v17 _=>n-(intOf v17).toNat);exact⟨0,by omega,rfl,by simp[Hid],Xr _ _⟩;obtain⟨i,hi,rfl,HE,HBR⟩:=hrel;by_cases Oh:i<n
  .have Gj:i<m1.length:=by rw[<-HN.o];exact Oh
   have Rj:i<m2.length:=by rw[<-If.o];exact Oh
   obtain⟨b1,o1,cs1,rfl,-,qqO,Ev,Kr⟩:=(H1.o.below HBR.o).get Gj (by decide);obtain⟨b2,o2,cs2,rfl,-,zvV,Mv,Jr⟩:=(H2.o.below HBR.o).get Rj (by decide);obtain⟨u1,rfl,hu1⟩:=Ev;obtain⟨u2,rfl,sH⟩:=Mv;have a0:=Kr 0 _ rfl;have d0:=Jr 0 _ rfl;clear Kr Jr;simp only[show (Tw Ju).size=1 from rfl,Yq,Ys]at a0 d0;have hs:=HBR.o.size;have HS:=Lh (kX u1 u2 m1[i] m2[i] wr (hu1.more hs) (sH.more hs));obtain⟨B1,k1,rfl,-,-⟩:=hu1.form;obtain⟨B2,k2,rfl,-,-⟩:=sH.form;have HT:=Lh (Qc Gj);have HT2:=Lh (Qc Rj);have Po:=Lh (Qa Gj);have dY:=Lh (Qa Rj);obtain⟨x,hx⟩:=Xe (m1[i]);obtain⟨y,hy⟩:=Xe (m2[i]);rw[<-hx]at a0 HT Po HS;rw[<-hy]at d0 HT2 dY HS;clear hx hy Gj Rj hu1 sH;generalize x.length=n1 at*;generalize y.length=n2 at*;go_wp2_with fail;refine HS.o.mono ?_;rintro e w1 ⟨rfl,hb1⟩;have HB1:=Lh (HBR.o.trans (hb1.mono hs));clear hb1;obtain⟨d,hd⟩:=Xe (decide (x=y));rw[<-hd];have HD:=Lh hd;clear hd;cases d
   .have HNE:=Lh (show ¬ m1=m2 by
     intro e
     have e2:=Po.o.symm.trans ((congrArg (fun l:List Kj=>l[i]?) e).trans dY.o)
     injection e2 with e2
     have:=HD.o
     rw[Yw e2]at this
     cases this)
    go_wp2;go_ret;exact⟨Kw (Zw (by rw[Yx HNE.o])),HB1.o⟩
   have HQ:=Lt (x=y) (of_decide_eq_true HD.o.symm);go_wp2;go_roundw;exact⟨i+1,by omega,by go_num,by show _=_;rw[HT.o,HT2.o,HE.o,HQ.o],HB1.o⟩;simp[intOf];omega
  have Uh:i=n:=by omega
  have HEQ:=Lh (show m1=m2 by
   have h:=HE.o
   rwa [Uh,Qd (by rw[<-HN.o];exact Yb _),Qd (by rw[<-If.o];exact Yb _)]at h)
  go_wp2;go_ret;exact⟨Kw (Zw (by rw[Yw HEQ.o])),HBR.o⟩
 have HNE:=Lt (¬ m1=m2) (fun e=>hl (by rw[e]));have mT:((m1.length:Int) != (m2.length:Int))=true:=by simpa using (show ¬ (m1.length:Int)=m2.length by omega)
 clear hl;go_enter Tryz.func122,Tryz.ntmps122;go_wp2;go_ret;exact⟨Kw (Zw (by rw[Yx HNE.o])),Xr _ _⟩
theorem zP(v1 v2:Value)(m1 m2:List Kj)(w:World)(h1:Je (Tw Ju) w w.heap.size v1 m1)(h2:Je (Tw Ju) w w.heap.size v2 m2) :
  Calls Tryz.prog 64 #[v1,v2] w fun e w'=>e=.returned (.bool (decide (m1=m2)))/\Below w.heap.size w w':=by
 have HE:=Lh (ul v1 v2 m1 m2 w h1 h2);obtain⟨A1,c1,rfl,-,-⟩:=h1.form;obtain⟨A2,c2,rfl,-,-⟩:=h2.form;clear h1 h2;go_enter Tryz.func64,Tryz.ntmps64;go_wp2_with fail;refine HE.o.mono ?_;rintro e w1 ⟨rfl,hb1⟩;go_wp2;go_ret;exact⟨rfl,hb1⟩
def Cp(k:Int):Bool:=decide (1<=k/\k<=4)
theorem nZ(k:Int)(w:World):Calls Tryz.prog 27 #[.int .i64 k] w fun e w'=>e=.returned (.bool (Cp k))/\w=w':=by
 have hc:k<1\/(1<=k/\k<=4)\/4<k:=by omega
 rcases hc with h|h|h
 all_goals
  go_enter Tryz.func27,Tryz.ntmps27;go_wp2
  all_goals first
   |(exfalso;omega)
   |(exfalso;simp at*;omega)
   |(go_ret;exact⟨Kw (Zw (by rw[Bool.eq_iff_iff];simp[Cp] <;> omega)),rfl⟩)
def rT(g:Kd)(left:Int)(s:Int×List (Int×Int)):Bool:=decide ((g.2.2.length:Int)<=s.1)||decide (0<=s.1)&&decide (Tc g s.1≠left)
theorem qnS(g:Kd)(left:Nat)(m:Kj):qm g left m=!m.any (rT g (left:Int)):=by
 unfold qm rT
 induction m with
 |nil=>rfl
 |cons s m ih =>
  rw[List.all_cons,List.any_cons,ih];generalize (m.any fun s=>decide ((g.2.2.length:Int)<=s.1)||decide (0<=s.1)&&decide (Tc g s.1≠(left:Int)))=x;generalize (decide ((g.2.2.length:Int)<=s.1)||decide (0<=s.1)&&decide (Tc g s.1≠(left:Int)))=y;cases x <;> cases y <;> rfl
theorem qnT(gb lb:Nat)(v1 v2 vn:Value)(A3:Option Addr)(q c3:Nat)(g:Kd)(left:Int)(s:Int×List (Int×Int))(w:World)(B:Nat)(hg:w.heap[gb]?=some (.cells #[v1,v2,.slice A3 q c3] 25 (0,0)))(hl:w.heap[lb]?=some (.cells #[.int .i64 left] 3 (0,0)))
  (hr:Je Vw w B (.slice A3 q c3) g.2.2) (hB:B<=w.heap.size) (hvn:∃A n c,vn=.slice A n c) :
  Calls Tryz.prog 106 #[.agg #[.int .i64 s.1,vn],.pointer (some ⟨gb,0,none⟩),.pointer (some ⟨lb,0,none⟩)] w fun e w'=>e=.returned (.bool (rT g left s))/\Below w.heap.size w w':=by
 obtain⟨A0,n0,c0,rfl⟩:=hvn;have hq:=hr.n_eq;have hqs:=hr.n_le;obtain⟨o,ho⟩:=Xe s.1;rw[<-ho];have Do:=Lh (show rT g left s=(decide ((q:Int)<=o)||decide (0<=o)&&decide (Tc g o≠left)) by unfold rT;rw[<-hq,<-ho]);have HBW:=Lt (Below w.heap.size w (w.alloc (.cells #[.int .i64 o,.slice A0 n0 c0] 118))) ((Xr _ _).alloc (Yb _) _);have HS:=Lh (Xn w (.cells #[.int .i64 o,.slice A0 n0 c0] 118));have HG:=Lh ((HBW.o.block gb (gl hg)).trans hg);have HL:=Lh ((HBW.o.block lb (gl hl)).trans hl);have HR:=Lh (hr.below (HBW.o.mono hB));obtain⟨K,hK⟩:=Xe w.heap.size;rw[<-hK]at HS;clear hg hl hr ho;by_cases h1:(q:Int)<=o
 .have d1:decide (o≥(q:Int))=true:=by simpa using h1
  have d1':decide ((q:Int)<=o)=true:=by simpa using h1
  have Jw:=Lh (show rT g left s=true by rw[Do.o,Yw h1];rfl);clear h1 hq;go_enter Tryz.func106,Tryz.ntmps106;go_wp2_with fail;rw[<-hK];clear hK;generalize w.alloc (.cells #[.int .i64 o,.slice A0 n0 c0] 118)=w1 at*;obtain⟨a0,a1,a2⟩:=Py HG.o;have s0:w1.cell? ⟨K,0,none⟩=some (.int .i64 o):=Xc HS.o rfl;refine Text.wt (by kernel_rfl) fun Q' hQ'=>?_;go_wp2;refine⟨by rfl,?_⟩;go_wp2;go_ret;exact⟨Kw (Zw Jw.o.symm),HBW.o.drew⟩
 have d1:decide ((q:Int)<=o)=false:=by simpa using h1
 by_cases h2:0<=o
 .obtain⟨k,hk⟩:∃k:Nat,o=(k:Int):=⟨o.toNat,by omega⟩;have hkq:k<g.2.2.length:=by omega
  have hkq2:k<q:=by omega
  have HLF:=Lh (show Tc g o=g.2.2[k].1 by unfold Tc;rw[hk];simp[hkq]);obtain⟨b,off,cs,hA3,_,_,Ja,Zn⟩:=HR.o.get hkq (by decide);subst hA3;obtain⟨u,rfl,hsu,Ik,Si⟩:=Kn Ja;have c0':=Zn 0 _ rfl;simp only[show Vw.size=2 from rfl,Yq]at c0';clear Zn Ja hsu;generalize g.2.2[k].1=lv at*;have Jw:=Lh (show rT g left s=decide (lv≠left) by rw[Do.o,d1,HLF.o,Yw h2];rfl);subst hk;have d2:decide ((0:Int)<=(k:Int))=true:=by simp
  have d1n:decide (q<=k)=false:=by simp;omega
  by_cases he:lv=left
  .have hx:(lv != left)=false:=by simp[he]
   have mK:=Lh (show rT g left s=false by rw[Jw.o,Yx (fun e=>e he)]);clear he;clear h1 h2 hq hkq;go_enter Tryz.func106,Tryz.ntmps106;go_wp2_with fail;rw[<-hK];clear hK;generalize w.alloc (.cells #[.int .i64 (k:Int),.slice A0 n0 c0] 118)=w1 at*;obtain⟨a0,a1,a2⟩:=Py HG.o;have s0:w1.cell? ⟨K,0,none⟩=some (.int .i64 (k:Int)):=Xc HS.o rfl;have l0:w1.cell? ⟨lb,0,none⟩=some (.int .i64 left):=Xc HL.o rfl;refine Text.wt (by kernel_rfl) fun Q' hQ'=>?_;go_wp2;refine⟨by rfl,?_⟩;go_wp2;go_ret;exact⟨Kw (Zw mK.o.symm),HBW.o.drew⟩
  have hx:(lv != left)=true:=by simp[he]
  have mK:=Lh (show rT g left s=true by rw[Jw.o,Yw he]);clear he;clear h1 h2 hq hkq;go_enter Tryz.func106,Tryz.ntmps106;go_wp2_with fail;rw[<-hK];clear hK;generalize w.alloc (.cells #[.int .i64 (k:Int),.slice A0 n0 c0] 118)=w1 at*;obtain⟨a0,a1,a2⟩:=Py HG.o;have s0:w1.cell? ⟨K,0,none⟩=some (.int .i64 (k:Int)):=Xc HS.o rfl;have l0:w1.cell? ⟨lb,0,none⟩=some (.int .i64 left):=Xc HL.o rfl;refine Text.wt (by kernel_rfl) fun Q' hQ'=>?_;go_wp2;refine⟨by rfl,?_⟩;go_wp2;go_ret;exact⟨Kw (Zw mK.o.symm),HBW.o.drew⟩
 have d2:decide ((0:Int)<=o)=false:=by simpa using h2
 have Jw:=Lh (show rT g left s=false by rw[Do.o,d1,d2];rfl);clear h1 h2 hq;go_enter Tryz.func106,Tryz.ntmps106;go_wp2_with fail;rw[<-hK];clear hK;generalize w.alloc (.cells #[.int .i64 o,.slice A0 n0 c0] 118)=w1 at*;obtain⟨a0,a1,a2⟩:=Py HG.o;have s0:w1.cell? ⟨K,0,none⟩=some (.int .i64 o):=Xc HS.o rfl;refine Text.wt (by kernel_rfl) fun Q' hQ'=>?_;go_wp2;refine⟨by rfl,?_⟩;go_wp2;go_ret;exact⟨Kw (Zw Jw.o.symm),HBW.o.drew⟩
theorem qwD(v1 v2 v3 v:Value)(g:Kd)(left:Nat)(m:Kj)(w:World)(B:Nat)(hr:Je Vw w B v3 g.2.2)(hB:B<=w.heap.size)(hm:Je Ju w w.heap.size v m) :
  Calls Tryz.prog 49 #[.agg #[v1,v2,v3],.int .i64 left,v] w fun e w'=>e=.returned (.bool (qm g left m))/\Below w.heap.size w w':=by
 obtain⟨A3,c3,rfl,_,_⟩:=hr.form;obtain⟨A,c,rfl,_,_⟩:=hm.form;have HOW:=Lh (qnS g left m);have HR:=Lh hr;have HM:=Lh hm;clear hr hm;generalize g.2.2.length=q at*;generalize m.length=n at*;have HB2:=Lt (Below w.heap.size w ((w.alloc (.cells #[v1,v2,.slice A3 q c3] 25)).alloc (.cells #[.int .i64 left] 3))) (((Xr _ _).alloc (Yb _) _).alloc (by rw[Xs];omega) _);have HG:=Lh (Go.heap_alloc2_old w (.cells #[v1,v2,.slice A3 q c3] 25) (.cells #[.int .i64 left] 3));have HL:=Lh (Go.heap_alloc2_new w (.cells #[v1,v2,.slice A3 q c3] 25) (.cells #[.int .i64 left] 3));go_enter Tryz.func49,Tryz.ntmps49;go_wp2_with fail;generalize (w.alloc (.cells #[v1,v2,.slice A3 q c3] 25)).alloc (.cells #[.int .i64 left] 3)=w2 at*;have HC:=Lh (qaX 106 #[.pointer (some ⟨w.heap.size,0,none⟩),.pointer (some ⟨w.heap.size+1,0,none⟩)] (rT g (left:Int)) (.slice A n c) m w2 (HM.o.fut HB2.o (Yb _) HB2.o.size) (fun _ _=>by kernel_rfl) (fun cs x w3 _ hb3 hrx=>by
  obtain⟨vx,rfl,Be,_,_⟩:=Mr hrx
  obtain⟨Ax,cx,rfl,_,_⟩:=Be.form
  exact qnT w.heap.size (w.heap.size+1) v1 v2 _ A3 q c3 g (left:Int) x w3 B ((hb3.block _ (gl HG.o)).trans HG.o) ((hb3.block _ (gl HL.o)).trans HL.o) (HR.o.below ((HB2.o.mono hB).trans (hb3.mono (Yd hB HB2.o.size)))) (Yd hB (Yd HB2.o.size hb3.size)) ⟨_,_,_,rfl⟩))
 refine HC.o.mono ?_;rintro e w3 ⟨rfl,hb3⟩;have HB3:=Lh (HB2.o.trans (hb3.mono HB2.o.size));generalize m.any (rT g (left:Int))=x at*;go_wp2;go_ret;exact⟨Kw (Zw HOW.o.symm),HB3.o⟩
theorem E_(v:Value)(m:Kj)(w:World)(hv:Je Ju w w.heap.size v m)(hl:m.length<=2199023255552)(he:∀k<m.length,(Mm m k).length<=2199023255552)(ht:fQ w) :
  Calls Tryz.prog 50 #[v] w fun e w'=>e=.returned (.bool (decide (m≠[])&&decide (Dk m=m)))/\Below w.heap.size w w':=by
 have HMK:=Lh (kY v m w hv hl he ht);have HV:=Lh hv;obtain⟨A,c,rfl,Nj,Uw⟩:=hv.form;unfold maxLen at Uw;by_cases hm:m=[]
 .subst hm;clear HMK hv hl he;go_enter Tryz.func50,Tryz.ntmps50;go_wp2;go_ret;exact⟨Kw (Zw (by simp)),Xr _ _⟩
 have Dt:0<m.length:=Qy.2 hm;have Jw:=Lh (show (decide (m≠[])&&decide (Dk m=m))=decide (m=Dk m) by
  rw[Yw (show m≠[]from hm),Bool.true_and,decide_eq_decide]
  exact eq_comm)
 have ii:=Lh (fun(W:World)(hb:Below w.heap.size w W)(v2:Value)(h2:Je Ju W W.heap.size v2 (Dk m))=>kX (.slice A m.length c) v2 m (Dk m) W (HV.o.fut hb (Yb _) hb.size) h2);clear hv hl he hm HV;generalize m.length=n at*;have d0:decide ((0:Int)<(n:Int))=true:=by simp;omega
 have d0n:decide (0<n)=true:=by simp;omega
 go_enter Tryz.func50,Tryz.ntmps50;go_wp2_with fail;refine HMK.o.mono ?_;rintro e w2 ⟨v2,rfl,eR,Jd⟩;have hS2:=eR w2 fun _ _ _=>rfl;obtain⟨A2,c2,rfl,_,_⟩:=hS2.form;have HC:=Lh (ii.o w2 Jd _ hS2);have HB2:=Lh Jd;clear eR hS2 Jd;generalize (Dk m).length=n2 at*;go_wp2_with fail;refine HC.o.mono ?_;rintro e w3 ⟨rfl,hb3⟩;have HB3:=Lh (HB2.o.trans (hb3.mono HB2.o.size));clear hb3;generalize decide (m=Dk m)=x at*;go_wp2;go_ret;exact⟨Kw (Zw Jw.o.symm),HB3.o⟩
theorem qoO:Dg Tryz.prog 29 64 1 24 (.slice none 0 0):=Gh (by kernel_rfl) (by kernel_rfl) rfl (by omega)
def zqZ(ms:List Kj)(w:World)(e:Ending)(w':World):Prop:=∃v,e=.returned v/\Je (Tw Ju) w' w'.heap.size v ms/\Below w.heap.size w w'
def qsP(ms:List Kj)(w:World)(e:Ending)(w':World):Prop:=∃v,e=.returned v/\(∀w'':World,(∀b,w.heap.size<=b->b<w'.heap.size->w''.heap[b]?=w'.heap[b]?)->Je (Tw Ju) w'' w''.heap.size v ms)/\Below w.heap.size w w'
theorem qrG(F:FuncId)(cap:Array Value)(n:Nat)(f:Nat->Kj)(w:World)(hn:n<=1099511627776)(hF:∀(args:Array Value)(w:World),(callFunc F args).run Tryz.prog w=.ok (.enter F args) w)
  (hc:∀left<n,∀W,Below w.heap.size w W->Calls Tryz.prog F (#[.int .i64 (left:Nat)]++cap) W (qsQ (f left) W)) :
  Calls Tryz.prog 43 #[.int .i64 n,.func (.func F) #[] cap] w (qsP ((List.range n).map f) w):=by
 have HC:=Lh hc;clear hc;go_enter Tryz.func43,Tryz.ntmps43;go_wp2_with fail;go_loopw [8,5] (fun v8 v5 wr=>∃(k:Nat)(vs:List Value),k<=n/\v8=.int .i64 k/\vs.length=k/\Hid (Pl wr w.heap.size v5 vs ((List.range k).map f))/\Hid (Below w.heap.size w wr)) (fun v8 _ _=>n-(intOf v8).toNat);exact⟨0,[],by omega,rfl,rfl,Pl.nil _ _,Xr _ _⟩;obtain⟨k,vs,hk,rfl,hvk,HE,HB⟩:=hrel;obtain⟨A5,c5,rfl,Ct,jW⟩:=Zp HE.o.row;unfold maxLen at jW;have HVK:=Lh hvk;clear hvk;by_cases Jl:k<n
 .go_wp2_with fail;refine (HC.o k Jl wr HB.o).mono ?_;rintro e w1 ⟨vm,rfl,hm,hb1⟩;obtain⟨Am,cm,rfl,lH,hm2⟩:=(hm w1 fun _ _ _=>rfl).form;have HM:=Lh hm;have HB1:=Lh hb1;have hvl:vs.length<=n:=by rw[HVK.o];omega
  have hbz:=HB1.o.size;have hbz2:=HB.o.size;have HE1:=Lh (HE.o.below hb1);clear hm hb1;go_wp2_with (refine Zv (some 16) rfl ?_);refine Stop.go (Zy (m:=1) (n:=vs.length) qoO rfl rfl rfl rfl (HE1.o.row.alloc _) (Rd.row (B:=w1.heap.size+1) (Xn w1 _) (by omega)) rfl (by simp[Value.oneCell']) ?h63 ?hby ?hbase ?_)
  case h63=>simp only[maxLen];omega
  case hby=>omega
  case hbase=>rw[Xs];omega
  intro v2 w2 zaQ bP zkG _;have HE2:=Lh (HE.o.snoc HB.o.size HB1.o HM.o (.cells #[.slice Am (f k).length cm] 64) zaQ bP zkG);have HB2:=Lh (Zr ((HB.o.trans (HB1.o.mono HB.o.size)).alloc (by omega) (.cells #[.slice Am (f k).length cm] 64)) bP (HE1.o.row.alloc _) (Yb _) (by rw[Xs];omega));clear zaQ bP zkG;go_wp2;go_roundw
  case rel =>
   refine⟨k+1,vs++[.slice Am (f k).length cm],by omega,by go_num,by rw[Qe,HVK.o];rfl,?_,HB2.o⟩;show Pl _ _ _ _ _;rw[List.range_succ,Qt];exact HE2.o
  case measure=>simp[intOf];omega
 have hkn:k=n:=by omega
 subst hkn;go_wp2;go_ret;exact⟨_,rfl,fun w'' hw=>HE.o.fresh w'' hw,HB.o⟩
theorem qgT{A1 A2 A3 Ar:Option Addr}{m q c1 c2 c3 nr cr:Nat}(rows:List Uk)(w:World)(hv:Je Bj w w.heap.size (.slice Ar nr cr) rows)(hf:aB rows)(hn:n<=1099511627776)(ht:fQ w) :
  Calls Tryz.prog 15 #[Rw A1 A2 A3 n m q c1 c2 c3,.slice Ar nr cr] w (qsP (Gv rows n) w):=by
 have HV:=Lh hv;have HF:=Lh hf;have HT:=Lh ht;have hb3:=Xn (w.alloc (.cells #[.slice A1 n c1,.slice A2 m c2,.slice A3 q c3] 25)) (.cells #[.slice Ar nr cr] 28);rw[Xs]at hb3;have HB3:=Lh hb3;have HBW:=Lt (Below w.heap.size w ((w.alloc (.cells #[.slice A1 n c1,.slice A2 m c2,.slice A3 q c3] 25)).alloc (.cells #[.slice Ar nr cr] 28))) (((Xr _ _).alloc (Yb _) _).alloc (by rw[Xs];omega) _);clear hv hf ht hb3;unfold Rw;go_enter Tryz.func15,Tryz.ntmps15;go_wp2_with fail;generalize (w.alloc (.cells #[.slice A1 n c1,.slice A2 m c2,.slice A3 q c3] 25)).alloc (.cells #[.slice Ar nr cr] 28)=wq at*;have fP:w.heap.size+1<wq.heap.size:=(gl HB3.o);refine (qrG 44 #[.pointer (some ⟨w.heap.size+1,0,none⟩)] n (fun left=>Ts (Ub ((left:Nat):Int) rows)) wq hn (fun _ _=>by kernel_rfl) (fun left _ W hb=>?_)).mono ?_
 .have hW:=HBW.o.trans (hb.mono HBW.o.size);exact qwS (.slice Ar nr cr) rows (w.heap.size+1) left W (HV.o.fut hW (Yb _) hW.size) HF.o (Vv (t:=28) ((hb.block _ fP).trans HB3.o)) (HT.o.below hW)
 rintro e w1 ⟨v,rfl,hs,hb1⟩;have HS:=Lh hs;have HB1:=Lh (HBW.o.trans (hb1.mono HBW.o.size));clear hs hb1;go_wp2;go_ret;exact⟨_,rfl,fun w'' hw=>HS.o w'' fun b h1 h2=>hw b (by have:=HBW.o.size;omega) h2,HB1.o⟩
abbrev Pq(v1 v2 v3 vr vm:Value)(k:Int):Value:=.agg #[v1,v2,v3,.int .i64 k,vr,vm]
structure Lz(w:World)(B:Nat)(v1 v2 v3 vr vm:Value)(v:Nv):Prop where
 gram:jR w B v1 v2 v3 v.1
 rows:Je Bj w B vr v.2.2.1
 machs:Je (Tw Ju) w B vm v.2.2.2
section
variable {w w':World} {B B' N:Nat} {v1 v2 v3 vr vm:Value} {v:Nv}
theorem Lz.fut(h:Lz w B v1 v2 v3 vr vm v)(hb:Below N w w')(h1:B<=N)(h2:B<=B'):Lz w' B' v1 v2 v3 vr vm v:=⟨h.gram.fut hb h1 h2,h.rows.fut hb h1 h2,h.machs.fut hb h1 h2⟩
theorem Lz.zero:Lz w B (.slice none 0 0) (.slice none 0 0) (.slice none 0 0) (.slice none 0 0) (.slice none 0 0) Tq:=⟨jR.zero,Je.nil_,Je.nil_⟩
theorem Lz.form(h:Lz w B v1 v2 v3 vr vm v):∃A1 A2 A3 A4 A5 c1 c2 c3 c4 c5,v1=.slice A1 v.1.1.length c1/\v2=.slice A2 v.1.2.1.length c2/\v3=.slice A3 v.1.2.2.length c3/\vr=.slice A4 v.2.2.1.length c4/\vm=.slice A5 v.2.2.2.length c5:=by
 obtain⟨A1,A2,A3,c1,c2,c3,rfl,rfl,rfl⟩:=h.gram.form;obtain⟨A4,c4,rfl,_⟩:=h.rows.form;obtain⟨A5,c5,rfl,_⟩:=h.machs.form;exact⟨_,_,_,_,_,_,_,_,_,_,rfl,rfl,rfl,rfl,rfl⟩
end
def Lc:gX Wl where
 size:=4
 rep:=fun _ _ cs x=>cs=clc x/\x.2.1.length<=maxLen
 len:=fun h=>by rw[h.1];rfl
 keep:=fun h _=>h
 more:=fun h _=>h
 one:=fun h=>by rw[h.1];intro u hu;simp only[clc,List.mem_cons,List.not_mem_nil,or_false]at hu;rcases hu with rfl|rfl|rfl|rfl <;> rfl
theorem Sw{g:Nat}{a b c d e f:Value}{cur:Array Value}(hg:w.heap[g]?=some (.cells cur t (0,0)))(hc:cur.size=6)(h1:a.oneCell'=true)(h2:b.oneCell'=true)(h3:c.oneCell'=true)(h4:d.oneCell'=true)(h5:e.oneCell'=true)(h6:f.oneCell'=true) :
  (Instr.storeAt 31 (.pointer (some ⟨g,0,none⟩)) (.agg #[a,b,c,d,e,f])).run Tryz.prog w=.ok () (w.setRow g [a,b,c,d,e,f].toArray):=by
 rw[Bu (vs:=[a,b,c,d,e,f]) rfl (by kernel_rfl) hg (by simp;omega) (by intro u hu;simp only[List.mem_cons,List.not_mem_nil,or_false]at hu;rcases hu with rfl|rfl|rfl|rfl|rfl|rfl <;> assumption)];congr 2;simp[List.drop_eq_nil_of_le (show cur.toList.length<=6 by simp;omega)]
theorem sE{fn:Func}{p u x:Tmp}{r y:Value}{Q:Ending->World->Prop}(h:fn.results=#[.cell p 31,.tmp u,.tmp x]){a:Act}{g:Nat}{c0 c1 c2 c3 c4 c5:Value}{fr:Nat×Nat}(hd:a.defers=[])
  (hp:a.tmps.getD p undef=.pointer (some ⟨g,0,none⟩)) (hu:a.tmps.getD u undef=r) (hx:a.tmps.getD x undef=y) (hg:w.heap[g]?=some (.cells #[c0,c1,c2,c3,c4,c5] t fr)) (hq:Q (.returned (.tuple #[.agg #[c0,c1,c2,c3,c4,c5],r,y])) w):bodyPost Tryz.prog fn Q .ret a w:=by
 refine Zh (v:=.tuple #[.agg #[c0,c1,c2,c3,c4,c5],r,y]) ?_ hd hq;rw[Nl h,hp,hu,hx];simp[asAddr,Result.andThen,run_loadVar_row w g t 31 #[c0,c1,c2,c3,c4,c5] fr _ hg Tryz.underlying31 rfl (by kernel_rfl)]
def aH(g:Kd):Prop:=g.1.length<=12/\g.2.1.length<=3/\g.2.2.length<=40
def xV(g:Kd)(k:Int)(w:World)(e:Ending)(w':World):Prop :=
 ∃(v1 v2 v3 vr vm vc:Value)(v:Nv)(cl:List Wl)(er:Int),xU g k v cl er/\e=.returned (.tuple #[Pq v1 v2 v3 vr vm v.2.1,vc,.int .i64 er]) /\
  (∀w'':World,(∀b,w.heap.size<=b->b<w'.heap.size->w''.heap[b]?=w'.heap[b]?)->Lz w'' w''.heap.size v1 v2 v3 vr vm v/\Je Lc w'' w''.heap.size vc cl)/\Below w.heap.size w w'
theorem xV.bad{er:Int}(h:xU g k Tq [] er)(hb:Below w.heap.size w w'):xV g k w (.returned (.tuple #[Pq (.slice none 0 0) (.slice none 0 0) (.slice none 0 0) (.slice none 0 0) (.slice none 0 0) 0,.slice none 0 0,.int .i64 er])) w' :=
 ⟨_,_,_,_,_,_,Tq,[],er,h,rfl,fun _ _=>⟨Lz.zero,Je.nil_⟩,hb⟩
theorem qrN{cl:List Wl}(h:w.ownsRow base 85 4 v cl.length (Ht cl))(hs:∀c∈cl,c.2.1.length<=maxLen):Je Lc w w.heap.size v cl:=by
 obtain⟨A,c,rfl,h1,h2⟩:=Zp h;refine⟨A,c,cl.map clc,rfl,h1,h2,by rw[Qk],Rd.of_own h,fun i cs x hc hx=>?_⟩;rw[Qv,hx]at hc;injection hc with hc;subst hc;exact⟨rfl,hs x (Qp hx)⟩
theorem pm(h:w.ownsRow base 81 3 v rows.length (Wv rows))(hf:qtO rows):Je Bj w w.heap.size v rows:=qcR hf h
end Go.Proofs.YtmaojnmnbpomeaaGreatDoor
