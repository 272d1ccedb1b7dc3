/- A part. -/
import Derived.Test.YtmaojnmnbpomeaaGreatDoorVO16
set_option maxRecDepth 100000
set_option maxHeartbeats 64000000
namespace Go.Proofs.YtmaojnmnbpomeaaGreatDoor
open Go.RowKit
theorem sv{α:Type}{p:α->Bool}{l:List α}{i:Nat}(h:i<l.length):(l.take (i+1)).any p=((l.take i).any p||p l[i]):=by
 rw[Qc h,List.any_append];simp
theorem kp{A1 A2 A3:Option Addr}{n m q c1 c2 c3:Nat}{g:Jw}(w:World)(h:Wz w w.heap.size A1 A2 A3 n m q c1 c2 c3 g) :
  Calls Tryz.prog 32 #[Nr A1 A2 A3 n m q c1 c2 c3] w fun e w'=>e=.returned (.bool (Vu g))/\Below w.heap.size w w':=by
 have Wu:=(Xr w.heap.size w).alloc (Xz _) (.cells #[.slice A1 n c1,.slice A2 m c2,.slice A3 q c3] 25);have HV:=Lh ((h.fut (B':=w.heap.size) Wu (Xz _) (Xz _)));have HK:=Lh (Xn w (.cells #[.slice A1 n c1,.slice A2 m c2,.slice A3 q c3] 25));have HZ:=Lh (Xs w (.cells #[.slice A1 n c1,.slice A2 m c2,.slice A3 q c3] 25));have HBX:=Lh Wu;have HL:=Lh h.ln;have qE:=h.small;obtain⟨ns,ts,rs⟩:=g;have zdN:=Lh (qgY ns ts rs);have Nj:=Lt (∀(w2:World),w2.heap[w.heap.size]? = some (.cells #[.slice A1 n c1,.slice A2 m c2,.slice A3 q c3] 25 (0,0))->w2.cell? ⟨w.heap.size,0,none⟩=some (.slice A1 n c1)/\w2.cell? ⟨w.heap.size,1,none⟩=some (.slice A2 m c2)/\w2.cell? ⟨w.heap.size,2,none⟩=some (.slice A3 q c3)) (fun w2 hk=>⟨Xc hk rfl,Xc hk rfl,Xc hk rfl⟩);clear h Wu;obtain⟨G,hG⟩:=Xe (Vu (ns,ts,rs));rw[<-hG] at zdN |-;clear hG;have Mv:=Lh (show ¬ (ns.length≠0/\ns.length+ts.length<=256/\rs.length<=4096/\(∀ j,bV ns rs j)/\(∀ j,gS ts j)/\(∀(j:Nat)(h:j<rs.length),Dq ns.length ts.length rs[j]=true)/\rs.Nodup)->G=false from fun hn=>by
  rw[<-Bool.not_eq_true]
  exact fun h=>hn (zdN.o.1 h))
 have eN:n<1\/(1<=n/\256<n+m)\/(1<=n/\n+m<=256/\4096<q)\/(1<=n/\n+m<=256/\q<=4096):=by omega
 rcases eN with hc | ⟨hc1,hc2⟩ | ⟨hc1,hc2,hc3⟩ | ⟨hc1,hc2,hc3⟩
 ·have d1:decide ((n:Int)<1)=true:=by simp;omega
  have HF:=Lh (Mv.o fun h=>by have:=h.1;have:=HL.o.1;simp only at *;omega);clear hc;go_enter Tryz.func32,Tryz.ntmps32;go_wp2_with fail;go_ret;exact⟨Kd (Zm HF.o.symm),HBX.o⟩
 ·have d1:decide ((n:Int)<1)=false:=by simp;omega
  have d2:decide ((256:Int)<(n:Int)+(m:Int))=true:=by simp;omega
  have HF:=Lh (Mv.o fun h=>by have:=h.2.1;have:=HL.o.1;have:=HL.o.2.1;simp only at *;omega);clear hc1 hc2;go_enter Tryz.func32,Tryz.ntmps32;go_wp2_with fail;go_ret;exact⟨Kd (Zm HF.o.symm),HBX.o⟩
 ·have d1:decide ((n:Int)<1)=false:=by simp;omega
  have d2:decide ((256:Int)<(n:Int)+(m:Int))=false:=by simp;omega
  have d3:decide ((4096:Int)<(q:Int))=true:=by simp;omega
  have HF:=Lh (Mv.o fun h=>by have:=h.2.2.1;have:=HL.o.2.2;simp only at *;omega);clear hc1 hc2 hc3;go_enter Tryz.func32,Tryz.ntmps32;go_wp2_with fail;go_ret;exact⟨Kd (Zm HF.o.symm),HBX.o⟩
 ·have d1:decide ((n:Int)<1)=false:=by simp;omega
  have d2:decide ((256:Int)<(n:Int)+(m:Int))=false:=by simp;omega
  have d3:decide ((4096:Int)<(q:Int))=false:=by simp;omega
  have qO:=Lt (ns.length≠0/\ns.length+ts.length<=256/\rs.length<=4096) (by have:=HL.o.1;have:=HL.o.2.1;have:=HL.o.2.2;simp only at *;omega);clear hc1 hc2 hc3;go_enter Tryz.func32,Tryz.ntmps32;go_wp2_with fail;generalize w.alloc (.cells #[.slice A1 n c1,.slice A2 m c2,.slice A3 q c3] 25)=w1 at *;have HW1:=Lt (Below (w.heap.size+1) w1 w1) (Xr _ _);go_loopg [3] n (fun left v3 wr=>∃ i:Nat,i<=n/\n - i<=left/\v3=.int .i64 i/\Hid (Below (w.heap.size+1) w1 wr)/\Hid (∀ j,j<i->bV ns rs j));exact⟨0,by omega,by omega,rfl,HW1.o,fun j hj=>by omega⟩;clear HW1;obtain⟨i,hi,Vt,rfl,HB,HPN⟩:=hrel;obtain⟨gas,Ue⟩:=Xe gk;rw[<-Ue] at Vt;have HGK:=Lh Ue;clear Ue;generalize wr=wo at *;have dL:=Lh ((HB.o.block w.heap.size (by omega)).trans HK.o);obtain⟨a0,a1,a2⟩:=Nj.o wo dL.o;have hbs:w.heap.size+1<=wo.heap.size:=by have:=HB.o.size;have:=HZ.o;omega
  by_cases Sb:i<n
  ·have Vq:i<ns.length:=by have:=HL.o.1;omega
   obtain⟨b1,o1,cs,oM,-,hb1,Zt,Zj⟩:=(HV.o.names.below (HB.o.mono (Yg _))).get (k:=i) Vq (by decide);obtain⟨rfl,Ta⟩:=Zt;have x0:=Zj 0 _ rfl;simp only[show Mc.size=1 from rfl,Yq,Yo] at x0;subst oM;have HSL:=Lh (HV.o.names.fut (B':=wo.heap.size) (HB.o.mono (Yg _)) (Xz _) (by omega));have HNM:=Lh (fun w'=>yn ns[i] w' Ta);have HFD:=Lh (fun w' (hb:Below wo.heap.size wo w')=>gI _ ns ns[i] w' (HSL.o.next hb hb.size));have uh:=Lt (bV ns rs i->_) (fun h=>h Vq);obtain⟨fi,kN⟩:=Xe (idxOf (fun x=>decide (x=ns[i])) ns);obtain⟨bn,hbn⟩:=Xe (Mf ns[i].data.toList);have qqS:=Lh (show bV ns rs i->bn=true/\fi=(i:Int) from fun h=>by
    have:=h Vq
    rw[<-hbn,<-kN] at this
    exact⟨this.1,this.2.1⟩)
   have zdH:=Lh (show bn=true->fi=(i:Int)->(∃ r∈rs,r.1=(i:Int))->bV ns rs i from fun h1 h2 h3 h=>by
    rw[<-hbn,<-kN]
    exact⟨h1,h2,h3⟩)
   have zvZ:=Lt (bV ns rs i->∃ r∈rs,r.1=(i:Int)) (fun h=>(h Vq).2.2);rw[<-hbn] at HNM;rw[<-kN] at HFD;obtain⟨s,hs⟩:=Xe (ns[i]);rw[<-hs] at x0 HNM HFD;clear hs kN hbn Zj Vq Ta uh;cases bn with
   |false =>
    have HF:=Lh (Mv.o fun h=>by have:=(qqS.o (h.2.2.2.1 i)).1;cases this);go_wp2_with fail;refine Text.wp_grow [5,15] [1,4,9,11,14] [] (by kernel_rfl) (by kernel_rfl) ?_;refine Text.wpS_seg 5 _ _ _ _ (by decide) (fun Q' hQ'=>?_);simp only[Xta,Xtz];go_wp2_with fail
    try simp only[Yp,Xw,List.drop_zero]
    refine Text.wpS_one (fun Q' hQ'=>?_);go_wp2_with fail;refine (HNM.o _).mono ?_;rintro e w5 ⟨rfl,rfl⟩;go_wp2_with fail;refine⟨Xr _ _,?_⟩;refine Text.wpS_seg 9 _ _ _ _ (by decide) (fun Q' hQ'=>?_);simp only[Xta,Xtz];go_wp2_with fail
    try simp only[Xda,Xdz]
    refine Text.wpS_one (fun Q' hQ'=>?_);go_wp2_with fail;refine⟨Xr _ _,?_⟩;refine Text.wpS_seg 3 _ _ _ _ (by decide) (fun Q' hQ'=>?_);simp only[Xta,Xtz];go_wp2_with fail;refine⟨by rfl,?_,?_⟩
    ·exact⟨fun _=>⟨_,_,rfl,a0⟩,fun _=>⟨_,_,rfl,x0⟩,Text.no_want rfl,Text.no_want rfl,Text.no_want rfl,trivial⟩
    go_wp2_with fail;go_ret;exact⟨Kd (Zm HF.o.symm),HBX.o.trans (HB.o.drew.mono (Yg _))⟩
   |true =>
    by_cases kN:fi=(i:Int)
    ·have hq:(fi != (i:Int))=false:=by simp[kN]
     go_wp2_with fail;refine Text.wp_grow [5,15] [1,4,9,11,14] [] (by kernel_rfl) (by kernel_rfl) ?_;refine Text.wpS_seg 5 _ _ _ _ (by decide) (fun Q' hQ'=>?_);simp only[Xta,Xtz];go_wp2_with fail
     try simp only[Yp,Xw,List.drop_zero]
     refine Text.wpS_one (fun Q' hQ'=>?_);go_wp2_with fail;refine (HNM.o _).mono ?_;rintro e w5 ⟨rfl,rfl⟩;go_wp2_with fail;refine⟨Xr _ _,?_⟩;refine Text.wpS_seg 9 _ _ _ _ (by decide) (fun Q' hQ'=>?_);simp only[Xta,Xtz];go_wp2_with fail
     try simp only[Xda,Xdz]
     refine Text.wpS_one (fun Q' hQ'=>?_);go_wp2_with fail;refine (HFD.o _ Vy).mono ?_;rintro e w5 ⟨rfl,rfl⟩;go_wp2_with fail;refine⟨Xr _ _,?_⟩;refine Text.wpS_seg 3 _ _ _ _ (by decide) (fun Q' hQ'=>?_);simp only[Xta,Xtz];go_wp2_with fail;refine⟨by rfl,?_,?_⟩
     ·exact⟨fun _=>⟨_,_,rfl,a0⟩,fun _=>⟨_,_,rfl,x0⟩,fun _=>⟨_,_,rfl,a0⟩,fun _=>⟨_,_,rfl,a0⟩,fun _=>⟨_,_,rfl,x0⟩,trivial⟩
     have HB6:=Lh (HB.o.drew);have HKW:=Lt (wo.drew.heap[w.heap.size]? = _) (dL.o);clear a0 a1 a2 x0 hq;go_wp2_with fail;generalize wo.drew=wp at *;go_loopg [4,5] q (fun fg v4 v5 wt=>∃ j:Nat,j<=q/\q - j<=fg/\v5=.int .i64 j/\v4=.bool ((rs.take j).any fun r=>decide (r.1=(i:Int)))/\wt=wp);exact⟨0,by omega,by omega,rfl,rfl,rfl⟩;obtain⟨j,hj,pv,rfl,rfl,rfl⟩:=hrel;obtain⟨a0,a1,a2⟩:=Nj.o wr HKW.o;by_cases be:j<q
     ·have Uh:j<rs.length:=by have:=HL.o.2.2;omega
      obtain⟨b2,o2,cs2,oL,-,-,Us,Je⟩:=(HV.o.rules.below (HB6.o.mono (Yg _))).get (k:=j) Uh (by decide);obtain⟨v2,rfl,-,-,-⟩:=Jv Us;have y0:=Je 0 _ rfl;simp only[show Kx.size=2 from rfl,Yo] at y0;subst oL;have HAT:=Lh (sv (p:=fun r:Int×List Int=>decide (r.1=(i:Int))) Uh);obtain⟨lf,hlf⟩:=Xe (rs[j].1);rw[<-hlf] at y0 HAT;obtain⟨bb,kO⟩:=Xe ((rs.take j).any fun r=>decide (r.1=(i:Int)));rw[<-kO] at HAT |-;clear hlf kO Je Us Uh;by_cases bC:lf=(i:Int)
      ·have hq:(lf==(i:Int))=true:=by simp[bC]
       have HX:=Lh (show ((rs.take (j+1)).any fun r=>decide (r.1=(i:Int)))=true by rw[HAT.o];simp[bC]);clear bC;go_wp2_with fail;go_roundg (gk - 1);exact⟨j+1,by omega,by omega,by go_num,by rw[HX.o],rfl⟩;omega
      ·have hq:(lf==(i:Int))=false:=by simp[bC]
       have HX:=Lh (show ((rs.take (j+1)).any fun r=>decide (r.1=(i:Int)))=bb by rw[HAT.o];simp[bC]);clear bC;go_wp2_with fail;go_roundg (gk - 1);exact⟨j+1,by omega,by omega,by go_num,by rw[HX.o],rfl⟩;omega
     ·have Hb:=Lh (show ((rs.take j).any fun r=>decide (r.1=(i:Int)))=rs.any fun r=>decide (r.1=(i:Int)) by
       rw[Qd (by have:=HL.o.2.2;omega)])
      rw[Hb.o];obtain⟨ba,hba⟩:=Xe (rs.any fun r=>decide (r.1=(i:Int)));rw[<-hba];have HBA:=Lh hba;clear hba;cases ba with
      |false =>
       have HF:=Lh (Mv.o fun h=>by
        obtain⟨r,hr,he⟩:=zvZ.o (h.2.2.2.1 i)
        have:=List.any_eq_false.1 HBA.o.symm r hr
        simp[he] at this)
       go_wp2_with fail;go_ret;exact⟨Kd (Zm HF.o.symm),HBX.o.trans (HB6.o.mono (Yg _))⟩
      |true =>
       have HNX:=Lh (zdH.o (by trivial) kN (by
        obtain⟨r,hr,he⟩:=Xq.1 HBA.o.symm
        exact⟨r,hr,by simpa using he⟩))
       clear kN;go_wp2_with fail;go_roundg (gas - 1);exact⟨i+1,by omega,by omega,by go_num,HB6.o,fun j hj=>by by_cases e:j=i;(subst e;exact HNX.o);exact HPN.o j (by omega)⟩;have:=HGK.o;omega
    ·have hq:(fi != (i:Int))=true:=by simp[kN]
     have HF:=Lh (Mv.o fun h=>kN (qqS.o (h.2.2.2.1 i)).2);clear kN;go_wp2_with fail;refine Text.wp_grow [5,15] [1,4,9,11,14] [] (by kernel_rfl) (by kernel_rfl) ?_;refine Text.wpS_seg 5 _ _ _ _ (by decide) (fun Q' hQ'=>?_);simp only[Xta,Xtz];go_wp2_with fail
     try simp only[Yp,Xw,List.drop_zero]
     refine Text.wpS_one (fun Q' hQ'=>?_);go_wp2_with fail;refine (HNM.o _).mono ?_;rintro e w5 ⟨rfl,rfl⟩;go_wp2_with fail;refine⟨Xr _ _,?_⟩;refine Text.wpS_seg 9 _ _ _ _ (by decide) (fun Q' hQ'=>?_);simp only[Xta,Xtz];go_wp2_with fail
     try simp only[Xda,Xdz]
     refine Text.wpS_one (fun Q' hQ'=>?_);go_wp2_with fail;refine (HFD.o _ Vy).mono ?_;rintro e w5 ⟨rfl,rfl⟩;go_wp2_with fail;refine⟨Xr _ _,?_⟩;refine Text.wpS_seg 3 _ _ _ _ (by decide) (fun Q' hQ'=>?_);simp only[Xta,Xtz];go_wp2_with fail;refine⟨by rfl,?_,?_⟩
     ·exact⟨fun _=>⟨_,_,rfl,a0⟩,fun _=>⟨_,_,rfl,x0⟩,fun _=>⟨_,_,rfl,a0⟩,fun _=>⟨_,_,rfl,a0⟩,fun _=>⟨_,_,rfl,x0⟩,trivial⟩
     go_wp2_with fail;go_ret;exact⟨Kd (Zm HF.o.symm),HBX.o.trans (HB.o.drew.mono (Yg _))⟩
  ·have zmG:=Lh (show ∀ j,bV ns rs j from fun j=>by
    by_cases h:j<i
    ·exact HPN.o j h
    ·intro h2
     have:=HL.o.1
     try simp only at this
     omega)
   have HW1:=Lh HB.o;clear HPN HB hbs Vt HGK;go_wp2_with fail;generalize wo=wq at *;go_loopg [6] m (fun left v6 wr=>∃ i:Nat,i<=m/\m - i<=left/\v6=.int .i64 i/\Hid (Below (w.heap.size+1) w1 wr)/\Hid (∀ j,j<i->gS ts j));exact⟨0,by omega,by omega,rfl,HW1.o,fun j hj=>by omega⟩;clear HW1;obtain⟨i,hi,Vt,rfl,HB,HPT⟩:=hrel;obtain⟨gas,Ue⟩:=Xe gk;rw[<-Ue] at Vt;have HGK:=Lh Ue;clear Ue;generalize wr=wo at *;have dL:=Lh ((HB.o.block w.heap.size (by omega)).trans HK.o);obtain⟨a0,a1,a2⟩:=Nj.o wo dL.o;have hbs:w.heap.size+1<=wo.heap.size:=by have:=HB.o.size;have:=HZ.o;omega
   by_cases Sb:i<m
   ·have Vq:i<ts.length:=by have:=HL.o.2.1;omega
    obtain⟨b1,o1,cs,oM,-,hb1,Zt,Zj⟩:=(HV.o.terms.below (HB.o.mono (Yg _))).get (k:=i) Vq (by decide);obtain⟨rfl,Ta⟩:=Zt;have x0:=Zj 0 _ rfl;simp only[show Mc.size=1 from rfl,Yq,Yo] at x0;subst oM;have HSL:=Lh (HV.o.terms.fut (B':=wo.heap.size) (HB.o.mono (Yg _)) (Xz _) (by omega));have HNM:=Lh (fun w'=>vg ts[i] w' Ta);have HFD:=Lh (fun w' (hb:Below wo.heap.size wo w')=>gI _ ts ts[i] w' (HSL.o.next hb hb.size));have uh:=Lt (gS ts i->_) (fun h=>h Vq);obtain⟨fi,kN⟩:=Xe (idxOf (fun x=>decide (x=ts[i])) ts);obtain⟨bn,hbn⟩:=Xe (Nf ts[i].data.toList);have qqS:=Lh (show gS ts i->bn=true/\fi=(i:Int) from fun h=>by
     have:=h Vq
     rw[<-hbn,<-kN] at this
     exact⟨this.1,this.2⟩)
    have zdH:=Lh (show bn=true->fi=(i:Int)->gS ts i from fun h1 h2 h=>by
     rw[<-hbn,<-kN]
     exact⟨h1,h2⟩)
    rw[<-hbn] at HNM;rw[<-kN] at HFD;obtain⟨s,hs⟩:=Xe (ts[i]);rw[<-hs] at x0 HNM HFD;clear hs kN hbn Zj Vq Ta uh;cases bn with
    |false =>
     have HF:=Lh (Mv.o fun h=>by have:=(qqS.o (h.2.2.2.2.1 i)).1;cases this);go_wp2_with fail;refine Text.wp_grow [5,15] [1,4,9,11,14] [] (by kernel_rfl) (by kernel_rfl) ?_;refine Text.wpS_seg 5 _ _ _ _ (by decide) (fun Q' hQ'=>?_);simp only[Xta,Xtz];go_wp2_with fail
     try simp only[Yp,Xw,List.drop_zero]
     refine Text.wpS_one (fun Q' hQ'=>?_);go_wp2_with fail;refine (HNM.o _).mono ?_;rintro e w5 ⟨rfl,rfl⟩;go_wp2_with fail;refine⟨Xr _ _,?_⟩;refine Text.wpS_seg 9 _ _ _ _ (by decide) (fun Q' hQ'=>?_);simp only[Xta,Xtz];go_wp2_with fail
     try simp only[Xda,Xdz]
     refine Text.wpS_one (fun Q' hQ'=>?_);go_wp2_with fail;refine⟨Xr _ _,?_⟩;refine Text.wpS_seg 3 _ _ _ _ (by decide) (fun Q' hQ'=>?_);simp only[Xta,Xtz];go_wp2_with fail;refine⟨by rfl,?_,?_⟩
     ·exact⟨fun _=>⟨_,_,rfl,a1⟩,fun _=>⟨_,_,rfl,x0⟩,Text.no_want rfl,Text.no_want rfl,Text.no_want rfl,trivial⟩
     go_wp2_with fail;go_ret;exact⟨Kd (Zm HF.o.symm),HBX.o.trans (HB.o.drew.mono (Yg _))⟩
    |true =>
     by_cases kN:fi=(i:Int)
     ·have hq:(fi != (i:Int))=false:=by simp[kN]
      go_wp2_with fail;refine Text.wp_grow [5,15] [1,4,9,11,14] [] (by kernel_rfl) (by kernel_rfl) ?_;refine Text.wpS_seg 5 _ _ _ _ (by decide) (fun Q' hQ'=>?_);simp only[Xta,Xtz];go_wp2_with fail
      try simp only[Yp,Xw,List.drop_zero]
      refine Text.wpS_one (fun Q' hQ'=>?_);go_wp2_with fail;refine (HNM.o _).mono ?_;rintro e w5 ⟨rfl,rfl⟩;go_wp2_with fail;refine⟨Xr _ _,?_⟩;refine Text.wpS_seg 9 _ _ _ _ (by decide) (fun Q' hQ'=>?_);simp only[Xta,Xtz];go_wp2_with fail
      try simp only[Xda,Xdz]
      refine Text.wpS_one (fun Q' hQ'=>?_);go_wp2_with fail;refine (HFD.o _ Vy).mono ?_;rintro e w5 ⟨rfl,rfl⟩;go_wp2_with fail;refine⟨Xr _ _,?_⟩;refine Text.wpS_seg 3 _ _ _ _ (by decide) (fun Q' hQ'=>?_);simp only[Xta,Xtz];go_wp2_with fail;refine⟨by rfl,?_,?_⟩
      ·exact⟨fun _=>⟨_,_,rfl,a1⟩,fun _=>⟨_,_,rfl,x0⟩,fun _=>⟨_,_,rfl,a1⟩,fun _=>⟨_,_,rfl,a1⟩,fun _=>⟨_,_,rfl,x0⟩,trivial⟩
      have HNX:=Lh (zdH.o (by trivial) kN);clear kN;go_wp2_with fail;go_roundg (gas - 1);exact⟨i+1,by omega,by omega,by go_num,HB.o.drew,fun j hj=>by by_cases e:j=i;(subst e;exact HNX.o);exact HPT.o j (by omega)⟩;have:=HGK.o;omega
     ·have hq:(fi != (i:Int))=true:=by simp[kN]
      have HF:=Lh (Mv.o fun h=>kN (qqS.o (h.2.2.2.2.1 i)).2);clear kN;go_wp2_with fail;refine Text.wp_grow [5,15] [1,4,9,11,14] [] (by kernel_rfl) (by kernel_rfl) ?_;refine Text.wpS_seg 5 _ _ _ _ (by decide) (fun Q' hQ'=>?_);simp only[Xta,Xtz];go_wp2_with fail
      try simp only[Yp,Xw,List.drop_zero]
      refine Text.wpS_one (fun Q' hQ'=>?_);go_wp2_with fail;refine (HNM.o _).mono ?_;rintro e w5 ⟨rfl,rfl⟩;go_wp2_with fail;refine⟨Xr _ _,?_⟩;refine Text.wpS_seg 9 _ _ _ _ (by decide) (fun Q' hQ'=>?_);simp only[Xta,Xtz];go_wp2_with fail
      try simp only[Xda,Xdz]
      refine Text.wpS_one (fun Q' hQ'=>?_);go_wp2_with fail;refine (HFD.o _ Vy).mono ?_;rintro e w5 ⟨rfl,rfl⟩;go_wp2_with fail;refine⟨Xr _ _,?_⟩;refine Text.wpS_seg 3 _ _ _ _ (by decide) (fun Q' hQ'=>?_);simp only[Xta,Xtz];go_wp2_with fail;refine⟨by rfl,?_,?_⟩
      ·exact⟨fun _=>⟨_,_,rfl,a1⟩,fun _=>⟨_,_,rfl,x0⟩,fun _=>⟨_,_,rfl,a1⟩,fun _=>⟨_,_,rfl,a1⟩,fun _=>⟨_,_,rfl,x0⟩,trivial⟩
      go_wp2_with fail;go_ret;exact⟨Kd (Zm HF.o.symm),HBX.o.trans (HB.o.drew.mono (Yg _))⟩
   ·have zmF:=Lh (show ∀ j,gS ts j from fun j=>by
     by_cases h:j<i
     ·exact HPT.o j h
     ·intro h2
      have:=HL.o.2.1
      try simp only at this
      omega)
    have HW1:=Lh HB.o;clear HPT HB dL hbs;clear Vt HGK;go_wp2_with fail;generalize wo=wz at *;go_loopg [7] q (fun left v7 wr=>∃ i:Nat,i<=q/\q - i<=left/\v7=.int .i64 i/\Hid (Below (w.heap.size+1) w1 wr)/\Hid (∀(j:Nat)(h:j<rs.length),j<i->Dq ns.length ts.length rs[j]=true));exact⟨0,by omega,by omega,rfl,HW1.o,fun j h hj=>by omega⟩;clear HW1;obtain⟨i,hi,Vt,rfl,HB,HPF⟩:=hrel;obtain⟨gas,Ue⟩:=Xe gk;rw[<-Ue] at Vt;have HGK:=Lh Ue;clear Ue;generalize wr=wo at *;have dL:=Lh ((HB.o.block w.heap.size (by omega)).trans HK.o);obtain⟨a0,a1,a2⟩:=Nj.o wo dL.o;have hbs:w.heap.size+1<=wo.heap.size:=by have:=HB.o.size;have:=HZ.o;omega
    by_cases Sb:i<q
    ·have Vq:i<rs.length:=by have:=HL.o.2.2;omega
     obtain⟨b1,o1,cs,oM,-,hb1,Zt,Zj⟩:=(HV.o.rules.below (HB.o.mono (Yg _))).get (k:=i) Vq (by decide);obtain⟨v1,rfl,Hw,-,-⟩:=Jv Zt;have x0:=Zj 0 _ rfl;have x1:=Zj 1 _ rfl;simp only[show Kx.size=2 from rfl,Yo,<-Yv] at x0 x1;subst oM;have yP:=Lh (show Dq ns.length ts.length rs[i]=(decide (0<=rs[i].1/\rs[i].1<(n:Int))&&decide (rs[i].2.length<=64)&&!rs[i].2.any (Ec n m)) by
      have e1:=HL.o.1
      have e2:=HL.o.2.1
      try simp only at e1 e2
      rw[<-e1,<-e2]
      rfl)
     have uh:=Lt ((∀(j:Nat)(h:j<rs.length),Dq ns.length ts.length rs[j]=true)->Dq ns.length ts.length rs[i]=true) (fun h=>h i Vq);have qaE:=Lh (show Dq ns.length ts.length rs[i]=true->∀(j:Nat)(h:j<rs.length),j<i+1->Dq ns.length ts.length rs[j]=true from fun h j hj Td=>by
      by_cases e:j=i
      ·subst e;exact h
      ·exact HPF.o j hj (by omega))
     obtain⟨fb,hfb⟩:=Xe (Dq ns.length ts.length rs[i]);rw[<-hfb] at yP uh qaE;obtain⟨r,hr⟩:=Xe (rs[i]);rw[<-hr] at x0 Hw yP;obtain⟨lf,r2⟩:=r;simp only at x0 Hw yP;obtain⟨A5,c5,rfl,h51,h52⟩:=Hw.form;obtain⟨ql,xV⟩:=Xe r2.length;rw[<-xV] at x1 Hw h51 yP;have HQL:=Lh xV;have Tt:=Lh Hw;unfold maxLen at h52;clear hfb hr xV Zj Zt Hw Vq HPF;go_upto_region 25 with fail;have hb5:=(Xr wo.heap.size wo).alloc (Xz _) (.cells #[.int .i64 lf,.slice A5 ql c5] 63);have HB5:=Lt (Below (w.heap.size+1) w1 _) (HB.o.trans (hb5.mono hbs));have HZ5:=Lh (Xs wo (.cells #[.int .i64 lf,.slice A5 ql c5] 63));have ul:=Lh (Xn wo (.cells #[.int .i64 lf,.slice A5 ql c5] 63));have HX5:=Lt (Jb Vh (wo.alloc (.cells #[.int .i64 lf,.slice A5 ql c5] 63)) wo.heap.size (.slice A5 ql c5) r2) (Tt.o.fut hb5 (by omega) (by omega));have kh:=Lh ((hb5.block w.heap.size (by omega)).trans dL.o);generalize wo.alloc (.cells #[.int .i64 lf,.slice A5 ql c5] 63)=w5 at *;have y0:w5.cell? ⟨wo.heap.size,0,none⟩=some (.int .i64 lf):=Xc ul.o rfl;have y1:w5.cell? ⟨wo.heap.size,1,none⟩=some (.slice A5 ql c5):=Xc ul.o rfl;clear a0 a1 a2 x0 x1 hb5;obtain⟨a0,a1,a2⟩:=Nj.o w5 kh.o;have hcc:lf<0\/(0<=lf/\(n:Int)<=lf)\/(0<=lf/\lf<(n:Int)/\64<ql)\/(0<=lf/\lf<(n:Int)/\ql<=64):=by omega
     rcases hcc with h | ⟨h,h'⟩ | ⟨h,h',h''⟩ | ⟨h,h',h''⟩
     ·have e0:decide (lf<0)=true:=by simp;omega
      have HF:=Lh (Mv.o fun hh=>by
       have:=yP.o.symm.trans (uh.o hh.2.2.2.2.2.1)
       rw[Yu (by omega)] at this
       cases this)
      clear h;go_wp2_with fail;go_ret;exact⟨Kd (Zm HF.o.symm),HBX.o.trans (HB5.o.mono (Yg _))⟩
     ·have e0:decide (lf<0)=false:=by simp;omega
      have e1:decide ((n:Int)<=lf)=true:=by simp;omega
      have HF:=Lh (Mv.o fun hh=>by
       have:=yP.o.symm.trans (uh.o hh.2.2.2.2.2.1)
       rw[Yu (by omega)] at this
       cases this)
      clear h h';go_wp2_with fail;go_ret;exact⟨Kd (Zm HF.o.symm),HBX.o.trans (HB5.o.mono (Yg _))⟩
     ·have e0:decide (lf<0)=false:=by simp;omega
      have e1:decide ((n:Int)<=lf)=false:=by simp;omega
      have e2:decide ((64:Int)<(ql:Int))=true:=by simp;omega
      have HF:=Lh (Mv.o fun hh=>by
       have:=yP.o.symm.trans (uh.o hh.2.2.2.2.2.1)
       rw[Yu (show ¬ ql<=64 by omega),Bool.and_false] at this
       cases this)
      clear h h' h'';go_wp2_with fail;go_ret;exact⟨Kd (Zm HF.o.symm),HBX.o.trans (HB5.o.mono (Yg _))⟩
     ·have e0:decide (lf<0)=false:=by simp;omega
      have e1:decide ((n:Int)<=lf)=false:=by simp;omega
      have e2:decide ((64:Int)<(ql:Int))=false:=by simp;omega
      have HFJ:=Lh (show fb=!r2.any (Ec n m) by
       rw[yP.o,Yt (show 0<=lf/\lf<(n:Int) by omega),Yt (show ql<=64 by omega)]
       rfl)
      clear h h';go_wp2_with fail;clear a0 a1 a2 y0 y1;go_loopg [9] ql (fun fg v9 wt=>∃ j:Nat,j<=ql/\ql - j<=fg/\v9=.int .i64 j/\Hid (Below w5.heap.size w5 wt)/\Hid ((r2.take j).any (Ec n m)=false));exact⟨0,by omega,by omega,rfl,Xr _ _,rfl⟩;obtain⟨j,hj,pv,rfl,HBT,HNO⟩:=hrel;have qS:=Lh ((HBT.o.block w.heap.size (by have:=HZ5.o;omega)).trans kh.o);have HRT:=Lh ((HBT.o.block wo.heap.size (by have:=HZ5.o;omega)).trans ul.o);obtain⟨a0,a1,a2⟩:=Nj.o wr qS.o;have y1:wr.cell? ⟨wo.heap.size,1,none⟩=some (.slice A5 ql c5):=Xc HRT.o rfl;have HBALL:=Lh (HB5.o.trans (HBT.o.mono (by have:=HZ5.o;omega)));by_cases be:j<ql
      ·have Uh:j<r2.length:=by rw[<-HQL.o];exact be
       obtain⟨b3,o3,cs3,he3,-,-,qbO,mD⟩:=(HX5.o.below (HBT.o.mono (by have:=HZ5.o;omega))).get (k:=j) Uh (by decide);obtain⟨rfl,Sr,Fn⟩:=qbO;have z0:=mD 0 _ rfl;simp only[show Vh.size=1 from rfl,Yq,Yo] at z0;subst he3;have HAT:=Lh (sv (p:=Ec n m) Uh);have zdX:=Lt (Ec n m r2[j]=true->r2.any (Ec n m)=true) (fun h=>Xq.2 ⟨_,Qg Uh,h⟩);obtain⟨s,hs⟩:=Xe (r2[j]);rw[<-hs] at z0 Sr Fn HAT zdX;clear hs mD Uh;by_cases Ea:(n:Int)<=s
       ·have f1:decide ((n:Int)<=s)=true:=by simpa using Ea
        have HF:=Lh (Mv.o fun hh=>by
         have:=HFJ.o.symm.trans (uh.o hh.2.2.2.2.2.1)
         rw[zdX.o (by unfold Ec;rw[f1];rfl)] at this
         cases this)
        clear Ea;go_wp2_with fail;refine Text.wt (by kernel_rfl) fun Q' hQ'=>?_;go_wp2_with fail;refine⟨by rfl,?_⟩;go_wp2_with fail;go_ret;exact⟨Kd (Zm HF.o.symm),HBX.o.trans (HBALL.o.drew.mono (Yg _))⟩
       ·have f1:decide ((n:Int)<=s)=false:=by simpa using Ea
        by_cases Le:s < -(m:Int)
        ·have f2:decide (s < -(m:Int))=true:=by simpa using Le
         have HF:=Lh (Mv.o fun hh=>by
          have:=HFJ.o.symm.trans (uh.o hh.2.2.2.2.2.1)
          rw[zdX.o (by unfold Ec;rw[f2,Bool.or_true])] at this
          cases this)
         clear Ea Le;go_wp2_with fail;refine Text.wt (by kernel_rfl) fun Q' hQ'=>?_;go_wp2_with fail;refine⟨by rfl,?_⟩;go_wp2_with fail;go_ret;exact⟨Kd (Zm HF.o.symm),HBX.o.trans (HBALL.o.drew.mono (Yg _))⟩
        ·have f2:decide (s < -(m:Int))=false:=by simpa using Le
         have HX:=Lh (show (r2.take (j+1)).any (Ec n m)=false by
          rw[HAT.o,HNO.o]
          unfold Ec
          rw[f1,f2]
          rfl)
         clear Ea Le;go_wp2_with fail;refine Text.wt (by kernel_rfl) fun Q' hQ'=>?_;go_wp2_with fail;refine⟨by rfl,?_⟩;go_wp2_with fail;go_roundg (gk - 1);exact⟨j+1,by omega,by omega,by go_num,HBT.o.drew,HX.o⟩;omega
      ·have HNX:=Lh (qaE.o (by
        rw[HFJ.o]
        have:=HNO.o
        rw[Qd (by rw[<-HQL.o];omega)] at this
        rw[this]
        rfl))
       go_wp2_with fail;go_roundg (gas - 1);exact⟨i+1,by omega,by omega,by go_num,HBALL.o,HNX.o⟩;have:=HGK.o;omega
    ·have zmH:=Lh (show ∀(j:Nat)(h:j<rs.length),Dq ns.length ts.length rs[j]=true from fun j h=>HPF.o j h (by
      have:=HL.o.2.2
      try simp only at this
      omega))
     have HRO:=Lh (HV.o.rules.fut (B':=wo.heap.size) (HB.o.mono (Yg _)) (Xz _) (by omega));clear Vt HGK;go_wp2_with fail;refine (ku A3 q c3 rs wo HRO.o).mono ?_;rintro e w9 ⟨rfl,bh⟩;have un:=Lh (HBX.o.trans ((HB.o.trans (bh.mono hbs)).mono (Yg _)));clear bh;have HG:=Lh (show (!decide (¬ rs.Nodup))=G by
      rw[Bool.eq_iff_iff,zdN.o]
      simp only[Bool.not_eq_true',Yj,Classical.not_not]
      exact⟨fun h=>⟨qO.o.1,qO.o.2.1,qO.o.2.2,zmG.o,zmF.o,zmH.o,h⟩,fun h=>h.2.2.2.2.2.2⟩)
     obtain⟨bd,hbd⟩:=Xe (decide (¬ rs.Nodup));rw[<-hbd] at HG |-;clear hbd;go_wp2_with fail;go_ret;exact⟨Kd (Zm HG.o),un.o⟩
def qgR(t:Nat)(r:Int×List Int):Bool:=r.2.any fun s=>decide (s=-1 - (t:Int))
theorem cz{α:Type}{p:α->Bool}{l:List α}{i:Nat}(h:i<l.length):(l.take (i+1)).any p=((l.take i).any p||p l[i]):=by
 rw[Qc h,List.any_append];simp
theorem oV{α:Type}{p:α->Bool}{l:List α}{i:Nat}(h:i<l.length)(hp:p l[i]=true):l.any p=true:=Xq.2 ⟨l[i],Qg h,hp⟩
theorem va{A1 A2 A3:Option Addr}{n m q c1 c2 c3:Nat}{g:Jw}(gr t:Nat)(R:List Bool)(w:World)(h:Wz w w.heap.size A1 A2 A3 n m q c1 c2 c3 g)(hv:Vu g=true)(hR:w.heap[gr]? = some (.cells (Km R).toArray 4 (0,0)))(hRl:R.length=n)(hRa:R.all id=true)(ht:t<=1048576) :
  Calls Tryz.prog 35 #[Nr A1 A2 A3 n m q c1 c2 c3,.slice (some ⟨gr,0,none⟩) n n,.int .i64 t] w fun e w'=>e=.returned (.bool (Fh g.2.2 t))/\Below w.heap.size w w':=by
 have Wu:=(Xr w.heap.size w).alloc (Xz _) (.cells #[.slice A1 n c1,.slice A2 m c2,.slice A3 q c3] 25);have HV:=Lh ((h.fut (B':=w.heap.size+1) Wu (Xz _) (by omega)).rules);have HK:=Lh (Xn w (.cells #[.slice A1 n c1,.slice A2 m c2,.slice A3 q c3] 25));have HBX:=Lh Wu;have Nj:=Lt (∀(w2:World),w2.heap[w.heap.size]? = some (.cells #[.slice A1 n c1,.slice A2 m c2,.slice A3 q c3] 25 (0,0))->w2.cell? ⟨w.heap.size,0,none⟩=some (.slice A1 n c1)/\w2.cell? ⟨w.heap.size,2,none⟩=some (.slice A3 q c3)) (fun w2 hk=>⟨Xc hk rfl,Xc hk rfl⟩);have HR:=Lh ((Wu.block gr (gl hR)).trans hR);have HRL:=Lh hRl;have HRA:=Lh hRa;have tu:n<=256:=by have:=(Ka hv).nm;have:=h.ln.1;omega
 have tt:q<=4096:=by have:=(Ka hv).q;have:=h.ln.2.2;omega
 have Az:=Lh (show ∀ r∈g.2.2,0<=r.1/\r.1<n/\r.2.length<=64 from fun r hr=>by
  obtain⟨f1,f2,f3,f4⟩:=(Ka hv).fit r hr
  have:=h.ln.1
  exact⟨f1,by omega,f3⟩)
 have HQ:=Lh h.ln.2.2;have Co:gr<w.heap.size:=(gl hR);obtain⟨ns,ts,rs⟩:=g;simp only at HV Az HQ |-;clear h hv Wu hR hRl hRa;go_enter Tryz.func35,Tryz.ntmps35;go_wp2_with fail;generalize w.alloc (.cells #[.slice A1 n c1,.slice A2 m c2,.slice A3 q c3] 25)=w1 at *;obtain⟨a0,a2⟩:=Nj.o w1 HK.o;go_loopg [7] q (fun left v7 wr=>∃(j:Nat),j<=q/\q - j<=left/\v7=.int .i64 j/\Hid ((rs.take j).any (qgR t)=false)/\wr=w1);exact⟨0,by omega,by omega,rfl,by simp[Hid],rfl⟩;obtain⟨j,hj,Vt,rfl,HN,rfl⟩:=hrel;obtain⟨gas,Ue⟩:=Xe gk;rw[<-Ue] at Vt;have HGK:=Lh Ue;clear Ue;generalize wr=wo at *;by_cases be:j<q
 ·have Uh:j<rs.length:=by rw[<-HQ.o];exact be
  obtain⟨b,off,cs,rfl,-,cX,Zt,Zj⟩:=HV.o.get (k:=j) Uh (by decide);obtain⟨v,rfl,Uv,Sr,Fn⟩:=Jv Zt;obtain⟨A5,c5,rfl,Tc,fY⟩:=Uv.form;have Vi:=Zj 0 _ rfl;have hc1:=Zj 1 _ rfl;simp only[show Kx.size=2 from rfl,Yo,<-Yv] at Vi hc1;have HTK:=Lh (cz (p:=qgR t) Uh);have HAY:=Lt (qgR t rs[j]=true->Fh rs t=true) (fun h=>oV (p:=qgR t) Uh h);obtain⟨f1,f2,f3⟩:=Az.o rs[j] (Qg Uh);obtain⟨r,hr⟩:=Xe (rs[j]);rw[<-hr] at Vi hc1 Uv Tc f1 f2 f3 HTK HAY;obtain⟨a,right⟩:=r;simp only at Vi hc1 Uv Tc f1 f2 f3;obtain⟨at_,rfl⟩:∃ at_:Nat,a=(at_:Int):=⟨a.toNat,by omega⟩;have zbJ:at_<R.length:=by rw[HRL.o];omega
  have cR:=Wl HR.o zbJ;have hRt:R[at_]=true:=Xp.1 HRA.o _ (Qg zbJ);rw[hRt] at cR;have zbH:at_<n:=by omega
  obtain⟨p,hp⟩:=Xe right.length;rw[<-hp] at hc1 Uv Tc f3;have HP:=Lh hp;have yL:=Lh Uv;have HHT:=Lh (show qgR t ((at_:Int),right)=right.any fun s=>decide (s=-1 - (t:Int)) from rfl);clear Zj Zt hr hp Uv Uh Sr Fn hRt zbJ;go_wp2_with fail;go_loopg [8] p (fun lf3 v8 wt=>∃(k:Nat),k<=p/\p - k<=lf3/\v8=.int .i64 k/\Hid ((right.take k).any (fun s=>decide (s=-1 - (t:Int)))=false)/\wt=wo);exact⟨0,by omega,by omega,rfl,by simp[Hid],rfl⟩;obtain⟨k,hk,quP,rfl,HM,rfl⟩:=hrel;by_cases hkp:k<p
  ·have Dl:k<right.length:=by rw[<-HP.o];exact hkp
   obtain⟨b4,o4,cs4,rfl,-,-,oG,Ti⟩:=yL.o.get (k:=k) Dl (by decide);obtain⟨rfl,Ta,Hn⟩:=oG;have tx:=Ti 0 _ rfl;simp only[show Vh.size=1 from rfl,Yq,Yo] at tx;have HT3:=Lh (cz (p:=fun s=>decide (s=-1 - (t:Int))) Dl);have HA3:=Lh (oV (p:=fun s=>decide (s=-1 - (t:Int))) Dl);obtain⟨s,hs⟩:=Xe (right[k]);rw[<-hs] at tx HT3 HA3 Ta Hn;clear Ti hs Dl;by_cases hst:s=-1 - (t:Int)
   ·have hd:(s==-1 - (t:Int))=true:=by simpa using hst
    have HE:=Lt (Fh rs t=true) (HAY.o (by rw[HHT.o];exact HA3.o (by simpa using hst)));clear hst;go_wp2_with fail;go_ret;exact⟨Kd (Zm HE.o.symm),HBX.o⟩
   ·have hd:(s==-1 - (t:Int))=false:=by simpa using hst
    have HE:=Lh (show (right.take (k+1)).any (fun s=>decide (s=-1 - (t:Int)))=false by rw[HT3.o,HM.o];simpa using hst);clear hst;go_wp2_with fail;go_roundg (gk - 1);exact⟨k+1,by omega,by omega,by go_num,HE.o,rfl⟩;omega
  ·have HE:=Lh (show (rs.take (j+1)).any (qgR t)=false by
    rw[HTK.o,HN.o,HHT.o]
    have:=HM.o
    rwa [Qd (by rw[<-HP.o];omega)] at this)
   go_wp2_with fail;go_roundg (gas - 1);exact⟨j+1,by omega,by omega,by go_num,HE.o,rfl⟩;have:=HGK.o;omega
 ·have HE:=Lh (show Fh rs t=false by
   have:=HN.o
   rwa [Qd (by rw[<-HQ.o];omega)] at this)
  go_wp2_with fail;go_ret;exact⟨Kd (Zm HE.o.symm),HBX.o⟩
def Fp(g:Jw):Int:=if Vu g then wellE g.1.length g.2.1.length g.2.2 else 1
theorem mo(rs:Zq)(n:Nat):(Vk rs n).length=n:=by
 unfold Vk;rw[Fa (fun P r=>?_),Qm,Qr];unfold Kc;have:∀(l:List Int)(R:List Bool),(l.foldl (fun R s=>Zv R r.1 s) R).length=R.length:=by
  intro l
  induction l with
  |nil=>intro R;rfl
  |cons s l ih=>intro R;rw[List.foldl_cons,ih,iS]
 exact this _ _
theorem vG{P:List Bool}{i:Nat}(h:i<P.length)(hp:P[i]=false):P.all id=false:=by
 rw[List.all_eq_false];exact⟨P[i],Qg h,by simp[hp]⟩
theorem rv{A1 A2 A3:Option Addr}{n m q c1 c2 c3:Nat}{g:Jw}(w:World)(h:Wz w w.heap.size A1 A2 A3 n m q c1 c2 c3 g) :
  Calls Tryz.prog 11 #[Nr A1 A2 A3 n m q c1 c2 c3] w fun e w'=>e=.returned (.int .i64 (Fp g))/\Below w.heap.size w w':=by
 have Wu:=(Xr w.heap.size w).alloc (Xz _) (.cells #[.slice A1 n c1,.slice A2 m c2,.slice A3 q c3] 25);have HV:=Lh ((h.fut (B':=w.heap.size+1) Wu (Xz _) (by omega)));have HK:=Lh (Xn w (.cells #[.slice A1 n c1,.slice A2 m c2,.slice A3 q c3] 25));have HZ:=Lh (Xs w (.cells #[.slice A1 n c1,.slice A2 m c2,.slice A3 q c3] 25));have HBX:=Lh Wu;have Nj:=Lt (∀(w2:World),w2.heap[w.heap.size]? = some (.cells #[.slice A1 n c1,.slice A2 m c2,.slice A3 q c3] 25 (0,0))->w2.cell? ⟨w.heap.size,0,none⟩=some (.slice A1 n c1)/\w2.cell? ⟨w.heap.size,1,none⟩=some (.slice A2 m c2)/\w2.cell? ⟨w.heap.size,2,none⟩=some (.slice A3 q c3)) (fun w2 hk=>⟨Xc hk rfl,Xc hk rfl,Xc hk rfl⟩);have HL:=Lh h.ln;have qE:=h.small;have HGR:=Lt (∀ w':World,Below (w.heap.size+1) (w.alloc (.cells #[.slice A1 n c1,.slice A2 m c2,.slice A3 q c3] 25)) w'->w.heap.size+1<=w'.heap.size->Wz w' w'.heap.size A1 A2 A3 n m q c1 c2 c3 g) (fun w' hb hs=>HV.o.fut hb (Xz _) hs);clear h Wu;go_enter Tryz.func11,Tryz.ntmps11;go_wp2_with fail;generalize w.alloc (.cells #[.slice A1 n c1,.slice A2 m c2,.slice A3 q c3] 25)=w1 at *;refine (kp w1 (HGR.o w1 (Xr _ _) (by rw[HZ.o];exact Xz _))).mono ?_;rintro e w2 ⟨rfl,Zy⟩;have HB2:=Lh (Zy.mono (Yh HZ.o.symm));have HS2:=Lh (show w.heap.size+1<=w2.heap.size by have:=Zy.size;have:=HZ.o;omega);have HK2:=Lh ((HB2.o.block w.heap.size (by omega)).trans HK.o);obtain⟨a0,a1,a2⟩:=Nj.o w2 HK2.o;clear Zy;cases hg:Vu g with
 |false =>
  have HE:=Lh (show Fp g=1 by unfold Fp;rw[if_neg (by rw[hg];simp)]);clear hg;go_wp2_with fail;go_ret;exact⟨by rw[HE.o];rfl,HBX.o.trans (HB2.o.mono (Yg _))⟩
 |true =>
  have HG:=Lh hg;have HE0:=Lh (show Fp g=wellE n m g.2.2 by unfold Fp;rw[if_pos hg,HL.o.1,HL.o.2.1]);have hm2:m<=256:=by have:=(Ka hg).nm;have:=HL.o;omega
  have dc:=Lh (show (Jz g.2.2 n).length=n by unfold Jz;rw[Fa Ov,Qr]);have HRL:=Lh (mo g.2.2 n);clear hg;go_wp2_with fail;refine (lC w2 (HGR.o w2 HB2.o HS2.o) HG.o).mono ?_;rintro e w3 ⟨gp,rfl,hgp,zsI,hb3⟩;have HB3:=Lh (HB2.o.trans (hb3.mono HS2.o));have HS3:=Lh (Ya HS2.o hb3.size);have HP:=Lh hgp;have HE1:=Lt (wellE n m g.2.2=if (Jz g.2.2 n).all id then (if (Vk g.2.2 n).all id&&(List.range m).all (Fh g.2.2) then 0 else 17) else 18) (rfl)
  obtain⟨P,hP⟩:=Xe (Jz g.2.2 n);rw[<-hP] at HP HE1 dc |-;rw[dc.o];clear a0 a1 a2 hgp zsI hb3 hP;go_wp2_with fail;go_loopg [4] n (fun left v4 wr=>∃ i:Nat,i<=n/\n - i<=left/\v4=.int .i64 i/\Hid ((P.take i).all id=true)/\wr=w3);exact⟨0,by omega,by omega,rfl,by simp[Hid],rfl⟩;obtain⟨i,hi,Vt,rfl,HA,rfl⟩:=hrel;by_cases Sb:i<n
  ·have Vq:i<P.length:=by rw[dc.o];exact Sb
   have cP:=Wl HP.o Vq;have HT:=Lh (mU (p:=id) Vq);have HF:=Lh (vG Vq);obtain⟨b,hb⟩:=Xe (P[i]);rw[<-hb] at cP HT HF;clear hb Vq;cases b with
   |true =>
    have HA2:=Lh (show (P.take (i+1)).all id=true by rw[HT.o,HA.o];rfl);go_wp2_with fail;go_roundg (gk - 1);exact⟨i+1,by omega,by omega,by go_num,HA2.o,rfl⟩;omega
   |false =>
    have HE:=Lh (show Fp g=18 by rw[HE0.o,HE1.o,HF.o rfl];rfl);go_wp2_with fail;go_ret;exact⟨by rw[HE.o];rfl,HBX.o.trans (HB3.o.mono (Yg _))⟩
  ·have de:=Lh (show Fp g=if (Vk g.2.2 n).all id&&(List.range m).all (Fh g.2.2) then 0 else 17 by
    have:=HA.o
    rw[Qd (by rw[dc.o];omega)] at this
    rw[HE0.o,HE1.o,this]
    rfl)
   obtain⟨w3,ka⟩:=Xe wr;rw[<-ka] at HB3 HS3 |-;have iD:=Lh ((HB3.o.block w.heap.size (by omega)).trans HK.o);obtain⟨a0,a1,a2⟩:=Nj.o w3 iD.o;clear ka HP HE0 HE1;go_wp2_with fail;refine (xI w3 (HGR.o w3 HB3.o HS3.o) HG.o).mono ?_;rintro e w4 ⟨gr,rfl,Co,ziA,hb4⟩;have HB4:=Lh (HB3.o.trans (hb4.mono HS3.o));have HS4:=Lh (Ya HS3.o hb4.size);have HR:=Lh Co;obtain⟨R,hR⟩:=Xe (Vk g.2.2 n);rw[<-hR] at HR de HRL |-;rw[HRL.o];clear a0 a1 a2 Co ziA hb4 hR;go_wp2_with fail;go_loopg [6] n (fun left v6 wr=>∃ i:Nat,i<=n/\n - i<=left/\v6=.int .i64 i/\Hid ((R.take i).all id=true)/\wr=w4);exact⟨0,by omega,by omega,rfl,by simp[Hid],rfl⟩;obtain⟨i,hi,Vt,rfl,HA,rfl⟩:=hrel;by_cases Sb:i<n
   ·have Vq:i<R.length:=by rw[HRL.o];exact Sb
    have cP:=Wl HR.o Vq;have HT:=Lh (mU (p:=id) Vq);have HF:=Lh (vG Vq);obtain⟨b,hb⟩:=Xe (R[i]);rw[<-hb] at cP HT HF;clear hb Vq;cases b with
    |true =>
     have HA2:=Lh (show (R.take (i+1)).all id=true by rw[HT.o,HA.o];rfl);go_wp2_with fail;go_roundg (gk - 1);exact⟨i+1,by omega,by omega,by go_num,HA2.o,rfl⟩;omega
    |false =>
     have HE:=Lh (show Fp g=17 by rw[de.o,HF.o rfl];rfl);go_wp2_with fail;go_ret;exact⟨by rw[HE.o];rfl,HBX.o.trans (HB4.o.mono (Yg _))⟩
   ·have HRA:=Lh (show R.all id=true by
     have:=HA.o
     rwa [Qd (by rw[HRL.o];omega)] at this)
    have HE3:=Lh (show Fp g=if (List.range m).all (Fh g.2.2) then 0 else 17 by
     rw[de.o,HRA.o]
     rfl)
    obtain⟨w4,hw4⟩:=Xe wr;rw[<-hw4] at HB4 HS4 HR |-;clear hw4 HA de;go_wp2_with fail;go_loopg [7] m (fun left v7 wr=>∃ i:Nat,i<=m/\m - i<=left/\v7=.int .i64 i/\Hid (∀ j,j<i->Fh g.2.2 j=true)/\Hid (Below w4.heap.size w4 wr));exact⟨0,by omega,by omega,rfl,fun j hj=>by omega,Xr _ _⟩;obtain⟨i,hi,Vt,rfl,HA,HBW⟩:=hrel;have HB5:=Lh (HB4.o.trans (HBW.o.mono HS4.o));have pV:=Lh (Ya HS4.o HBW.o.size);have ul:=Lh ((HB5.o.block w.heap.size (by omega)).trans HK.o);obtain⟨a0,a1,a2⟩:=Nj.o wr ul.o;have HR5:=Lh ((HBW.o.block gr (gl HR.o)).trans HR.o);by_cases Sb:i<m
    ·go_wp2_with fail;refine (va gr i R wr (HGR.o wr HB5.o pV.o) HG.o HR5.o HRL.o HRA.o (by omega)).mono ?_;rintro e w6 ⟨rfl,hb6⟩;have HB6:=Lh (HBW.o.trans (hb6.mono HBW.o.size));obtain⟨b,hb⟩:=Xe (Fh g.2.2 i);rw[<-hb];have HBB:=Lh hb;clear hb hb6 a0 a1 a2;cases b with
     |true =>
      go_wp2_with fail;go_roundg (gk - 1);exact⟨i+1,by omega,by omega,by go_num,fun j hj=>by rcases Nat.lt_or_ge j i with h | h;(exact HA.o j h);(rw[show j=i by omega];exact HBB.o.symm),HB6.o⟩;omega
     |false =>
      have HE:=Lh (show Fp g=17 by
       rw[HE3.o,if_neg]
       intro h
       have:=Xp.1 h i (Xy.2 Sb)
       rw[<-HBB.o] at this
       cases this)
      go_wp2_with fail;go_ret;exact⟨by rw[HE.o];rfl,HBX.o.trans ((HB4.o.trans (HB6.o.mono HS4.o)).mono (Yg _))⟩
    ·have HE:=Lh (show Fp g=0 by
      rw[HE3.o,if_pos]
      exact Xp.2 fun j hj=>HA.o j (by have:=Xy.1 hj;omega))
     go_wp2_with fail;go_ret;exact⟨by rw[HE.o];rfl,HBX.o.trans (HB5.o.mono (Yg _))⟩
theorem sK(s:Int)(w:World)(h1:-1000<=s)(h2:s<=1000000):Calls Tryz.prog 88 #[.int .i64 s] w fun e w'=>e=.returned (.int .i64 (Ej s))/\w=w':=by
 by_cases hs:s<0
 ·have d0:decide (s<0)=true:=by simpa using hs
  have HR:=Lh (show Ej s=-1 - s by unfold Ej;rw[if_pos hs]);clear hs;go_enter Tryz.func88,Tryz.ntmps88;go_wp2_with fail;go_ret;exact⟨Kd (Fs HR.o.symm),rfl⟩
 ·have d0:decide (s<0)=false:=by simpa using hs
  have HR:=Lh (show Ej s=1000+s by unfold Ej;rw[if_neg hs]);clear hs;go_enter Tryz.func88,Tryz.ntmps88;go_wp2_with fail;go_ret;exact⟨Kd (Fs HR.o.symm),rfl⟩
theorem xD{a b:Jj}(h:a.1≠b.1):decide (Kr a b)=decide (a.1<b.1):=by
 apply decide_eq_decide.2;unfold Kr;constructor
 ·rintro (h1 | ⟨h1,_⟩)
  ·exact h1
  ·exact absurd h1 h
 ·exact fun h1=>.inl h1
theorem xE{a b:Jj}(h:a.1=b.1){p:Prop}[Decidable p](hp:Kv a.2 b.2↔p):decide (Kr a b)=decide p:=by
 apply decide_eq_decide.2;unfold Kr;rw[<-hp];constructor
 ·rintro (h1 | ⟨_,h1⟩)
  ·omega
  ·exact h1
 ·exact fun h1=>.inr ⟨h,h1⟩
def jc(x:List Int):Prop:=∀ s∈x,(-1000:Int)<=s/\s<=1000000
def kD(a b:Jj)(w:World)(e:Ending)(w':World):Prop:=e=.returned (.bool (decide (Kr a b)))/\Below w.heap.size w w'
theorem ze(v1 v2:Value)(l1 l2:Int)(x y:List Int)(w:World)(h1:Jb Vh w w.heap.size v1 x)(h2:Jb Vh w w.heap.size v2 y)(hx:jc x)(hy:jc y) :
  Calls Tryz.prog 38 #[.agg #[.int .i64 l1,v1],.agg #[.int .i64 l2,v2]] w (kD (l1,x) (l2,y) w):=by
 obtain⟨A1,c1,rfl,kP,oN⟩:=h1.form;obtain⟨A2,c2,rfl,hb1,Zy⟩:=h2.form;unfold maxLen at oN Zy;have hB:Below w.heap.size w ((w.alloc (.cells #[.int .i64 l1,.slice A1 x.length c1] 63)).alloc (.cells #[.int .i64 l2,.slice A2 y.length c2] 63)):=((Xr _ _).alloc (Xz _) _).alloc (by rw[Xs];omega) _;have HG1:=Lh (Go.heap_alloc2_old w (.cells #[.int .i64 l1,.slice A1 x.length c1] 63) (.cells #[.int .i64 l2,.slice A2 y.length c2] 63));have HG2:=Lh (Go.heap_alloc2_new w (.cells #[.int .i64 l1,.slice A1 x.length c1] 63) (.cells #[.int .i64 l2,.slice A2 y.length c2] 63));have HB:=Lh hB;have H1:=Lh (h1.below hB);have H2:=Lh (h2.below hB);clear h1 h2 hB;have HX:=Lh hx;have HY:=Lh hy;clear hx hy;unfold kD;obtain⟨n,hn⟩:=Xe x.length;obtain⟨m,hm⟩:=Xe y.length;rw[<-hn] at H1 HG1 HG2 HB H2 kP |-;rw[<-hm] at H2 HG1 HG2 HB H1 hb1 |-;have HN:=Lh hn;have HM:=Lh hm;clear hn hm;by_cases hl:l1=l2
 ·have d0:(l1 != l2)=false:=by simp[hl]
  have HEQ:=Lh (fun (p:Prop) [Decidable p](hp:Kv x y↔p)=>xE (a:=(l1,x)) (b:=(l2,y)) hl hp);clear hl;go_enter Tryz.func38,Tryz.ntmps38;go_wp2_with fail;generalize (w.alloc (.cells #[.int .i64 l1,.slice A1 n c1] 63)).alloc (.cells #[.int .i64 l2,.slice A2 m c2] 63)=w1 at *;have HRL:=Lt (Kv x y↔Kv (x.drop 0) (y.drop 0)) (Iff.rfl);have HB0:=Lh (Xr w1.heap.size w1);have qO:=Lt (w.heap.size+1<w1.heap.size) ((gl HG2.o));go_loopw [5] (fun v5 wr=>∃ k:Nat,k<=n/\k<=m/\v5=.int .i64 k/\Hid (Kv x y↔Kv (x.drop k) (y.drop k))/\Hid (Below w1.heap.size w1 wr)) (fun v5 _=>n - (intOf v5).toNat);exact⟨0,by omega,by omega,rfl,HRL.o,HB0.o⟩;clear HRL HB0;obtain⟨k,jH,oJ,rfl,HRL,HBW⟩:=hrel;have HBT:=Lh (HB.o.trans (HBW.o.mono (by have:=qO.o;omega)));have c11:wr.cell? ⟨w.heap.size,1,none⟩=some (.slice A1 n c1):=by rw[Za _ _ _ _ _ _ ((HBW.o.block _ (by have:=qO.o;omega)).trans HG1.o)];rfl
  have c21:wr.cell? ⟨w.heap.size+1,1,none⟩=some (.slice A2 m c2):=Xc ((HBW.o.block _ qO.o).trans HG2.o) rfl;have H1R:=Lh (H1.o.below (HBW.o.mono (by have:=qO.o;omega)));have H2R:=Lh (H2.o.below (HBW.o.mono (by have:=qO.o;omega)));by_cases hkn:k<n
  ·by_cases hkm:k<m
   ·have hkx:k<x.length:=by rw[<-HN.o];exact hkn
    have hky:k<y.length:=by rw[<-HM.o];exact hkm
    obtain⟨b1,o1,cs1,rfl,_,_,Eg,Kn⟩:=H1R.o.get hkx (by decide);obtain⟨rfl,Ta,Hn⟩:=Eg;have hc1:=Kn 0 _ rfl;clear Kn;obtain⟨b2,o2,cs2,rfl,_,_,Us,Je⟩:=H2R.o.get hky (by decide);obtain⟨rfl,qC,tP⟩:=Us;have hc2:=Je 0 _ rfl;clear Je;simp only[show Vh.size=1 from rfl,Yq,Yo] at hc1 hc2;have qP:=Lh (HX.o x[k] (Qg hkx));have HSY:=Lh (HY.o y[k] (Qg hky));have HST:=Lh (fun h:x[k]=y[k]=>HRL.o.trans (ee hkx hky h));have HDF:=Lh (fun h:x[k]≠y[k]=>HRL.o.trans (eh hkx hky qP.o.1 HSY.o.1 h));generalize x[k]=a at *;generalize y[k]=b at *;by_cases Aj:a=b
    ·have dab:(a != b)=false:=by simp[Aj]
     have HNX:=Lh (HST.o Aj);clear HST HDF Aj;have HBD:=Lh (HBW.o.drew);go_wp2_with fail;refine Text.wt (by kernel_rfl) fun Q' hQ'=>?_;go_wp2_with fail;refine⟨by rfl,?_⟩;go_wp2_with fail;go_roundw;exact⟨k+1,by omega,by omega,by go_num,HNX.o,HBD.o⟩;simp[intOf];omega
    ·have dab:(a != b)=true:=by simp[Aj]
     have HNX:=Lh (HEQ.o _ (HDF.o Aj));clear HST HDF Aj HEQ;have HBD:=Lt (Below w.heap.size w wr.drew) (HBT.o.drew);go_wp2_with fail;refine Text.wt (by kernel_rfl) fun Q' hQ'=>?_;go_wp2_with fail;refine⟨by rfl,?_⟩;go_wp2_with fail;have yQ:=Lt (wr.drew.drew.cell? ⟨w.heap.size,1,none⟩=some (.slice (some ⟨b1,o1,none⟩) n c1)) (c11);have nA:=Lt (wr.drew.drew.cell? ⟨w.heap.size+1,1,none⟩=some (.slice (some ⟨b2,o2,none⟩) m c2)) (c21);have HC3:=Lt (wr.drew.drew.cell? ⟨b1,o1+k,none⟩=some (.int .i64 a)) (hc1);have HC4:=Lt (wr.drew.drew.cell? ⟨b2,o2+k,none⟩=some (.int .i64 b)) (hc2);have HBE:=Lt (Below w.heap.size w wr.drew.drew) (HBT.o.drew.drew);clear c11 c21 hc1 hc2 HBD HBT;refine Text.wp_grow [5,11] [1,4,7,10] [] (by kernel_rfl) (by kernel_rfl) ?_;generalize wr.drew.drew=wd at *;have c11:=yQ.o;have c21:=nA.o;have hc1:=HC3.o;have hc2:=HC4.o;refine Text.wpS_seg 5 _ _ _ _ (by decide) (fun Q' hQ'=>?_);simp only[Xta,Xtz];go_wp2_with fail
     try simp only[Xda,Xdz]
     refine Text.wpS_one (fun Q1 hQ1=>?_);go_wp2_with fail;refine (sK a wd qP.o.1 qP.o.2).mono ?_;rintro e w3 ⟨rfl,rfl⟩;go_wp2_with fail;refine⟨Xr _ _,?_⟩;refine Text.wpS_seg 5 _ _ _ _ (by decide) (fun Q' hQ'=>?_);simp only[Xta,Xtz];go_wp2_with fail
     try simp only[Xda,Xdz]
     refine Text.wpS_one (fun Q1 hQ1=>?_);go_wp2_with fail;refine (sK b wd HSY.o.1 HSY.o.2).mono ?_;rintro e w3 ⟨rfl,rfl⟩;go_wp2_with fail;refine⟨Xr _ _,?_⟩;refine Text.wpS_seg 2 _ _ _ _ (by decide) (fun Q' hQ'=>?_);simp only[Xta,Xtz];go_wp2_with fail
     try simp only[Xda,Xdz]
     refine⟨by rfl,⟨fun _=>⟨_,_,rfl,yQ.o⟩,fun _=>⟨_,_,rfl,HC3.o⟩,fun _=>⟨_,_,rfl,nA.o⟩,fun _=>⟨_,_,rfl,HC4.o⟩,trivial⟩,?_⟩;go_wp2_with fail;go_ret;exact⟨Kd (Zm HNX.o.symm),HBE.o⟩
   ·obtain rfl:k=m:=by omega
    have HNX:=Lh (HEQ.o _ (HRL.o.trans (nP (x:=x) (y:=y) (k:=k) (by rw[<-HM.o];omega) (by rw[<-HN.o];omega) (by rw[<-HM.o];exact Xz _))));have HNY:=Lt (decide (Kr (l1,x) (l2,y))=decide (n<k)) (by rw[HNX.o,<-HN.o,<-HM.o]);clear HEQ HNX;go_wp2_with fail;go_ret;exact⟨Kd (Zm HNY.o.symm),HBT.o⟩
  ·obtain rfl:k=n:=by omega
   have HNX:=Lh (HEQ.o _ (HRL.o.trans (nP (x:=x) (y:=y) (k:=k) (by rw[<-HN.o];omega) (by rw[<-HN.o];exact Xz _) (by rw[<-HM.o];omega))));have HNY:=Lt (decide (Kr (l1,x) (l2,y))=decide (k<m)) (by rw[HNX.o,<-HN.o,<-HM.o]);clear HEQ HNX;go_wp2_with fail;go_ret;exact⟨Kd (Zm HNY.o.symm),HBT.o⟩
 ·have d0:(l1 != l2)=true:=by simp[hl]
  have HO:=Lh (xD (a:=(l1,x)) (b:=(l2,y)) hl);simp only at HO;clear hl;go_enter Tryz.func38,Tryz.ntmps38;go_wp2_with fail;go_ret;exact⟨Kd (Zm HO.o.symm),HB.o⟩
structure bW(l:List Wd)(stay i:Nat)(out:List Wd):Prop where
 perm:out.Perm (l.take i)
 head:out.take stay=l.take (min stay i)
 le:(out.drop stay).Pairwise (·<=·)
theorem bW.zero(l:List Wd)(stay:Nat):bW l stay 0 []:=⟨by simp,by simp,by simp⟩
theorem bW.len{l out:List Wd}{stay i:Nat}(h:bW l stay i out)(hi:i<=l.length):out.length=i:=by
 rw[h.perm.length_eq,Qq];omega
def qcJ(out:List Wd)(stay:Nat)(x:Wd)(at_:Nat):Prop:=at_<=out.length/\(out.length<=stay->at_=out.length)/\(stay<=out.length->stay<=at_)/\(∀(j:Nat)(h:j<out.length),at_<=j->x<out[j])
theorem bW.succ{l out:List Wd}{stay i k:Nat}(h:bW l stay i out)(hi:i<l.length)(hk:qcJ out stay l[i] k)(hd:k<=stay\/∃ h:k - 1<out.length,¬ l[i]<out[k - 1]):bW l stay (i+1) (out.take k++l[i]::out.drop k):=by
 have hl:=h.len (Yf hi);obtain⟨k1,k2,k3,k4⟩:=hk;refine⟨?_,?_,?_⟩
 ·rw[Qc hi];exact (pi out l[i] k).trans (h.perm.append_right [l[i]])
 ·by_cases hs:stay<=i
  ·have:=k3 (by omega);rw[List.take_append_of_le_length (by rw[Qq];omega),List.take_take,Nat.min_eq_left this,h.head,Nat.min_eq_left hs,Nat.min_eq_left (by omega)]
  ·have X_:k=i:=by rw[k2 (by omega),hl]
   subst X_;rw[Qd (l:=out) (by omega),Xl (by omega),Qd (by simp;omega),Nat.min_eq_right (by omega),Qc hi];have:=h.head;rw[Qd (by omega),Nat.min_eq_right (by omega)] at this;rw[this]
 ·by_cases hs:stay<=i
  ·have hsk:=k3 (by omega);have e:(out.take k++l[i]::out.drop k).drop stay=(out.drop stay).take (k - stay)++l[i]::(out.drop stay).drop (k - stay):=by
    rw[List.drop_append_of_le_length (by rw[Qq];omega),List.drop_take,List.drop_drop,show stay+(k - stay)=k by omega]
   rw[e];refine jD h.le (fun y hy=>?_) (fun y hy=>?_)
   ·by_cases h0:k=stay
    ·subst h0;simp at hy
    ·rcases hd with hd | ⟨iB,hd⟩
     ·omega
     ·have hq:k - 1 - stay<(out.drop stay).length:=by rw[Xj];omega
      have hle:(out.drop stay)[k - 1 - stay]<=l[i]:=by
       rw[List.getElem_drop];have e2:out[stay+(k - 1 - stay)]'(by omega)=out[k - 1]:=by congr 1;omega
       rw[e2];exact List.not_lt.1 hd
      refine tK (le:=fun a b:Wd=>a<=b) (fun a b c=>List.le_trans) hq h.le hle y ?_
      rwa [show k - 1 - stay+1=k - stay by omega]
   ·rw[List.drop_drop,show stay+(k - stay)=k by omega] at hy;obtain⟨j,hj,rfl⟩:=Qz hy;rw[Xj] at hj;rw[List.getElem_drop];exact List.le_of_lt (k4 (k+j) (by omega) (by omega))
  ·rw[Xl]
   ·exact .nil
   ·simp only[Qe,Qq,Qu,Xj];omega
theorem bW.done{l out:List Wd}{stay:Nat}(h:bW l stay l.length out):out=l.take stay++Jp (l.drop stay):=by
 have h1:=h.head;have hp:=h.perm;rw[List.take_length] at hp;rw[<-Xm stay out];have e:out.take stay=l.take stay:=by
  rw[h1];by_cases hs:stay<=l.length
  ·rw[Nat.min_eq_left hs]
  ·rw[Nat.min_eq_right (by omega),List.take_length,Qd (by omega)]
 rw[e];congr 1;refine Tx ?_ h.le;rw[<-Xm stay out,<-Xm stay l,e] at hp;have:=(List.perm_append_left_iff _).1 hp;simpa using this
structure pS(l:List Jj)(i:Nat)(out:List Jj):Prop where
 perm:out.Perm (l.take i)
 le:out.Pairwise fun a b=>¬ Kr b a
theorem pS.zero(l:List Jj):pS l 0 []:=⟨by simp,by simp⟩
theorem pS.len{l out:List Jj}{i:Nat}(h:pS l i out)(hi:i<=l.length):out.length=i:=by
 rw[h.perm.length_eq,Qq];omega
theorem ec{a b:Jj}(h:Kr a b):¬ Kr b a:=fun k=>Ip a (Aa h k)
theorem pS.succ{l out:List Jj}{i k:Nat}(h:pS l i out)(hi:i<l.length)(hk:k<=out.length)(h4:∀(j:Nat)(h:j<out.length),k<=j->Kr l[i] out[j])(hd:k=0\/∃ h:k - 1<out.length,¬ Kr l[i] out[k - 1]):pS l (i+1) (out.take k++l[i]::out.drop k):=by
 refine⟨?_,jD h.le (fun y hy=>?_) (fun y hy=>?_)⟩
 ·rw[Qc hi];exact (pi out l[i] k).trans (h.perm.append_right [l[i]])
 ·rcases hd with rfl | ⟨iB,hd⟩
  ·simp at hy
  ·by_cases h0:k=0
   ·subst h0;simp at hy
   ·refine tK Oq iB h.le hd y ?_
    rwa [show k - 1+1=k by omega]
 ·obtain⟨j,hj,rfl⟩:=Qz hy;rw[Xj] at hj;rw[List.getElem_drop];exact ec (h4 (k+j) (by omega) (by omega))
theorem pS.done{l out:List Jj}(ho:∀ r∈l,gV r)(h:pS l l.length out):out=iL l:=by
 have hp:=h.perm;rw[List.take_length] at hp;exact Ty ho hp h.le
theorem qfC(x y:List UInt8)(i:Nat)(h1:i<x.length)(h2:i<y.length) :
  Op.bytesLess (x.drop i) (y.drop i)=(decide (x[i].toNat<y[i].toNat)||(x[i]==y[i]&&Op.bytesLess (x.drop (i+1)) (y.drop (i+1)))):=by
 rw[Ql h1,Ql h2,Op.bytesLess];rfl
theorem Pr{B:Nat}{w w':World}(h:Below B w w')(n:Nat):Below B w (w'.drewN n):=⟨h.os,h.tape,h.output,h.size,h.block⟩
theorem zf(x y:List UInt8)(w:World)(hx:x.length<=maxLen)(hy:y.length<=maxLen) :
  Calls Tryz.prog 87 #[.string ⟨x.toArray⟩,.string ⟨y.toArray⟩] w fun e w'=>e=.returned (.bool (Op.bytesLess x y))/\Below w.heap.size w w':=by
 unfold maxLen at hx hy;obtain⟨X,hX⟩:∃ X:ByteArray,X=⟨x.toArray⟩:=⟨_,rfl⟩;obtain⟨Y,hY⟩:∃ Y:ByteArray,Y=⟨y.toArray⟩:=⟨_,rfl⟩;have hXs:X.size=x.length:=by rw[hX];rfl
 have hYs:Y.size=y.length:=by rw[hY];rfl
 rw[<-hX,<-hY];have HXX:=Lh hX;have HYY:=Lh hY;clear hX hY;go_enter Tryz.func87,Tryz.ntmps87;go_wp2_with fail;go_loopw [5] (fun v5 wr=>∃(i:Nat),i<=x.length/\i<=y.length/\v5=.int .i64 i/\Hid (Op.bytesLess (x.drop i) (y.drop i)=Op.bytesLess x y)/\Hid (Below w.heap.size w wr)) (fun v5 _=>x.length - (intOf v5).toNat);exact⟨0,by omega,by omega,rfl,rfl,(Xr _ _)⟩;obtain⟨i,hi,hj,rfl,HB,HW⟩:=hrel;by_cases h1:i<x.length
 ·by_cases h2:i<y.length
  ·have hXi:∀(h:i<X.size),X[i]=x[i]:=fun h=>by
    have:=HXX.o;subst this;rfl
   have hYi:∀(h:i<Y.size),Y[i]=y[i]:=fun h=>by
    have:=HYY.o;subst this;rfl
   have HXI:=Lh hXi;have HYI:=Lh hYi;clear hXi hYi;have HS:=Lh (qfC x y i h1 h2);go_wp2_with fail;go_quiet (fail);go_wp2_with (go_quiet (fail))
   ·rename_i _ hne;go_ret;refine⟨Kd (Zm ?_),Pr (Pr HW.o _) _⟩;rw[<-HB.o,HS.o];rw[HXI.o,HYI.o] at hne |-;have:(x[i]==y[i])=false:=by
     rw[Yn];intro h;rw[h] at hne;simp at hne
    rw[this];simp
   ·rename_i hne;rw[HXI.o,HYI.o] at hne;have he:x[i]=y[i]:=UInt8.toNat_inj.1 (Int.ofNat_inj.1 (bne_eq_false_iff_eq.1 hne));refine⟨⟨i+1,by omega,by omega,by simp,?_,Pr HW.o _⟩,?_⟩
    ·show Op.bytesLess _ _=_;rw[<-HB.o,HS.o,he];simp
    ·simp[intOf];omega
  ·have HS:=Lh (show Op.bytesLess (x.drop i) (y.drop i)=decide (x.length<y.length) by
    have:=HXX
    rw[List.drop_eq_nil_of_le (show y.length<=i by omega),Ql h1]
    simp[Op.bytesLess];omega)
   go_wp2_with fail;go_ret;exact⟨Kd (Zm (by rw[<-HB.o,HS.o])),HW.o⟩
 ·have HS:=Lh (show Op.bytesLess (x.drop i) (y.drop i)=decide (x.length<y.length) by
   rw[List.drop_eq_nil_of_le (show x.length<=i by omega)]
   by_cases h2:i<y.length
   ·rw[Ql h2]
    simp[Op.bytesLess];omega
   ·rw[List.drop_eq_nil_of_le (show y.length<=i by omega)]
    simp[Op.bytesLess];omega)
  go_wp2_with fail;go_ret;exact⟨Kd (Zm (by rw[<-HB.o,HS.o])),HW.o⟩
theorem Pq:∀ a b:Wd,Op.bytesLess a b=true↔a<b
 |[],[]=>by simp[Op.bytesLess]
 |[],b::lb=>by simp[Op.bytesLess]
 |a::la,[]=>by simp[Op.bytesLess]
 |a::la,b::lb=>by
  rw[List.cons_lt_cons_iff,Op.bytesLess];simp only[Ys,Yk,Yi,beq_iff_eq,Pq la lb,UInt8.lt_iff_toNat_lt]
theorem cJ:Ev Tryz.prog 22 9 1 16 (.string ⟨#[]⟩):=Sv (by kernel_rfl) (by kernel_rfl) rfl (by omega)
theorem qX(a b:List Wd):Zp (a++b)=Zp a++Zp b:=Qt ..
theorem nF(l:List Wd)(k:Nat):Zp (l.take k)=(Zp l).take k:=List.map_take ..
theorem nG(l:List Wd)(k:Nat):Zp (l.drop k)=(Zp l).drop k:=List.map_drop ..
def gU(l:List Wd)(stay:Nat)(w:World)(e:Ending)(w':World):Prop:=∃ v,e=.returned v/\w'.ownsRow w.heap.size 9 1 v l.length (Zp (l.take stay++Jp (l.drop stay)))/\Below w.heap.size w w'
structure Hd(l out:List Wd)(stay i a:Nat):Prop where
 le:a<=i
 st:stay<=i->stay<=a
 no:i<=stay->a=i
 gt:∀(j:Nat)(h:j<out.length)(h2:i<l.length),a<=j->l[i]<out[j]
theorem Hd.place{l out:List Wd}{stay i a:Nat}(h:Hd l out stay i a)(hl:out.length=i)(hi:i<l.length):qcJ out stay l[i] a :=
 ⟨by rw[hl];exact h.le,fun hs=>by rw[hl] at hs |-;exact h.no hs,fun hs=>h.st (by rw[hl] at hs;exact hs),fun j hj ha=>h.gt j hj hi ha⟩
theorem Hd.next{l out:List Wd}{stay i a:Nat}(h:Hd l out stay i a)(hl:out.length=i)(hi:i<l.length)(hs:stay<a)(ho:a - 1<out.length)(Jo:l[i]<out[a - 1]):Hd l out stay i (a - 1) :=
 ⟨by have:=h.le;omega,fun _=>by omega,fun h2=>by have:=h.no h2;omega,fun j hj h2 ha=>by
  by_cases e:j=a - 1
  ·subst e;exact Jo
  ·exact h.gt j hj h2 (by omega)⟩
theorem iK(v:Value)(l:List Wd)(stay:Nat)(w:World)(h:Jb eW w w.heap.size v l)(hn:l.length<=1048576)(hst:stay<=1) :
  Calls Tryz.prog 36 #[v,.int .i64 stay] w (gU l stay w):=by
 obtain⟨A1,c1,rfl,kP,oN⟩:=h.form;unfold maxLen at oN;have H:=Lh h;have HF:=Lh h.fits;clear h;obtain⟨n,xY⟩:=Xe l.length;rw[<-xY] at H kP hn;have HN:=Lh xY;unfold gU;rw[<-xY];clear xY;obtain⟨S,hS⟩:=Xe w.heap.size;rw[<-hS] at H |-;have HS:=Lh hS;clear hS;go_enter Tryz.func36,Tryz.ntmps36;go_wp2_with fail;have HI0:=Lh (bW.zero l stay);have HB0:=Lt (Below S w w) (Xr _ _);have HO0:=Lt (w.ownsRow S 9 1 (.slice none 0 0) ([]:List Wd).length (Zp [])) (Yx _ _ _ _);have HZ0:=Lh (show S<=w.heap.size by rw[HS.o];exact Xz _);go_loopw [5,6] (fun v5 v6 wr=>∃(i:Nat)(out:List Wd),i<=n/\v6=.int .i64 i/\Hid (bW l stay i out)/\Hid (wr.ownsRow S 9 1 v5 out.length (Zp out))/\Hid (Below S w wr)/\Hid (S<=wr.heap.size)) (fun _ v6 _=>n - (intOf v6).toNat);exact⟨0,[],by omega,rfl,HI0.o,HO0.o,HB0.o,HZ0.o⟩;clear HI0 HB0 HO0 HZ0;obtain⟨i,out,hi,rfl,HI,HO,HB,HZ⟩:=hrel;by_cases Jo:i<n
 ·have Vq:i<l.length:=by rw[<-HN.o];exact Jo
  have hol:out.length=i:=HI.o.len (Yf Vq);have HOL:=Lh hol;obtain⟨A5,c5,hv5,zsW,zsV⟩:=Zk HO.o;rw[hol] at hv5 zsW HO;subst hv5;unfold maxLen at zsV;clear hol;obtain⟨b,off,rfl,_,hb,hcw⟩:=(H.o.below HB.o).wd Vq;have HFX:=Lh (HF.o l[i] (Qg Vq));have HDN:=Lt (Hd l out stay i i) (⟨Xz _,fun h=>h,fun _=>rfl,fun j hj _ ha=>by have:=HOL.o;omega⟩);have HSU:=Lh (fun(a:Nat)(hd:Hd l out stay i a)(hx:a<=stay\/∃ h:a - 1<out.length,¬ l[i]<out[a - 1])=>HI.o.succ Vq (hd.place HOL.o Vq) hx);have HNX:=Lh (fun(a:Nat)(hd:Hd l out stay i a)(hs:stay<a)(ho:a - 1<out.length)(Jo:l[i]<out[a - 1])=>hd.next HOL.o Vq hs ho Jo);obtain⟨x,hx⟩:=Xe (l[i]);rw[<-hx] at hcw HFX HSU HNX;clear hx;go_wp2_with fail;have yM:=Lt (Rd wr wr.heap.size A5 (Zp out)) (Rd.of_own HO.o);generalize wr=wo at *;have HBI:=Lh (Xr wo.heap.size wo);go_loopw [7] (fun v7 wr=>∃ a:Nat,v7=.int .i64 a/\Hid (Hd l out stay i a)/\a<=i/\Hid (Below wo.heap.size wo wr)) (fun v7 _=>(intOf v7).toNat);exact⟨i,rfl,HDN.o,Xz _,HBI.o⟩;clear HDN HBI;obtain⟨a,rfl,HDN,hai,HBI⟩:=hrel;have ziK:wr.cell? ⟨b,off+i,none⟩=some (wv x):=by rw[HBI.o.cell (p:=⟨b,off+i,none⟩) (by show b<_;have:=HZ.o;omega)];exact hcw
  by_cases hsa:stay<a
  focus
   have Tq:a - 1<out.length:=by have:=HOL.o;omega
   obtain⟨b2,o2,rfl,_,hc2⟩:=(yM.o.below HBI.o).at_ (k:=a - 1) (by rw[Fr];exact Tq);have qnZ:wr.cell? ⟨b2,o2+(a - 1),none⟩=some (wv out[a - 1]):=by rw[hc2];simp[Zp]
   clear hc2;have zdE:=Lh (fun h:x<out[a - 1]=>HNX.o a HDN.o hsa Tq h);have zcS:=Lh (fun h:¬ x<out[a - 1]=>HSU.o a HDN.o (.inr ⟨Tq,h⟩));have HFY:=Lt (out[a - 1].length<=maxLen) (HF.o _ (List.mem_of_mem_take ((HI.o.perm.mem_iff).1 (Qg Tq))));generalize out[a - 1]=y at *;have d0:decide ((stay:Int)<(a:Int))=true:=by simp;omega
   have e1:(a:Int) - 1=((a - 1:Nat):Int):=by omega
   have hak:a - 1<i:=by omega
   have jm:=Lh (zf x y wr.drew HFX.o HFY.o);have HBD:=Lt (Below wo.heap.size wo wr.drew) (HBI.o.drew);by_cases hxy:x<y
   focus
    have HNX3:=Lh (zdE.o hxy);rw[(Pq x y).2 hxy] at jm;clear zdE zcS hxy;go_wp2_with fail;refine Text.wt (by kernel_rfl) fun Q' hQ'=>?_;go_wp2_with fail;refine jm.o.mono ?_;rintro e w3 ⟨rfl,hb3⟩;have HB3:=Lh (HBD.o.trans (hb3.mono HBD.o.size));clear hb3;go_wp2_with fail;refine⟨by rfl,?_⟩;go_wp2_with fail;go_roundw;exact⟨a - 1,by go_num,HNX3.o,by omega,HB3.o⟩;simp[intOf];omega
   have HSU3:=Lh (zcS.o hxy);have cX:Op.bytesLess x y=false:=by
    cases cX:Op.bytesLess x y with
    |false=>rfl
    |true=>exact absurd ((Pq x y).1 cX) hxy
   rw[cX] at jm;clear zdE zcS hxy cX;go_wp2_with fail;refine Text.wt (by kernel_rfl) fun Q' hQ'=>?_;go_wp2_with fail;refine jm.o.mono ?_;rintro e w3 ⟨rfl,hb3⟩;have HB3:=Lh (HBD.o.trans (hb3.mono HBD.o.size));clear hb3;go_wp2_with fail;refine⟨by rfl,?_⟩;obtain⟨A5,hA5⟩:=Xe ((some ⟨b2,o2,none⟩:Option Addr));rw[<-hA5] at HO yM |-;clear hA5 qnZ HBD jm d0 e1 hak Tq HDN ziK HBI HFY
  rotate_left
  focus
   have HSU3:=Lh (HSU.o a HDN.o (.inl (by omega)));have d0:decide ((stay:Int)<(a:Int))=false:=by simp;omega
   have HB3:=Lt (Below wo.heap.size wo wr.drew) (HBI.o.drew);go_wp2_with fail;refine Text.wt (by kernel_rfl) fun Q' hQ'=>?_;go_wp2_with fail;refine⟨by rfl,?_⟩;clear d0 HDN ziK HBI;generalize wr.drew=w3 at *
  rotate_left
  all_goals
   have HR3:=Lh (yM.o.below HB3.o);have La:=Lh HB3.o.size;have hcx:w3.cell? ⟨b,off+i,none⟩=some (wv x):=by rw[HB3.o.cell (p:=⟨b,off+i,none⟩) (by show b<_;have:=HZ.o;omega)];exact hcw
   have hac:a<=c5:=by omega
   have HB4:=Lh ((Xr w3.heap.size w3).alloc (Xz _) (.cells #[] 9));have HO4:=Lt ((w3.alloc (.cells #[] 9)).ownsRow w3.heap.size 9 1 (.slice (some ⟨w3.heap.size,0,none⟩) 0 0) 0 []) (⟨rfl,.inr ⟨w3.heap.size,0,#[],rfl,Xz _,Xn w3 _,Xz _,by simp[maxLen],rfl,rfl⟩⟩);have HR4:=Lh (HR3.o.below (HB4.o.mono La.o));have HT4:=Lt (((Zp out).take a).length=a*1) (by rw[Qq,Fr];have:=HOL.o;omega);go_wp2_with (at_builtin;refine Ja (m:=a) cJ rfl rfl rfl rfl HO4.o (HR4.o.take_ a) HT4.o (fun u hu=>fD _ u (List.mem_of_mem_take hu)) ?h63 ?hby ?hbase ?_)
   case h63=>simp only[maxLen];omega
   case hby=>omega
   case hbase=>exact HB4.o.size
   intro v8 w5 Rt fZ _ _;have HB5:=Lh (Zr HB4.o fZ HO4.o (Xz _) HB4.o.size);obtain⟨A8,c8,lY,_,_⟩:=Zk Rt;subst lY;have HO5:=Lh Rt;clear Rt fZ HO4 HR4;generalize w3.alloc (.cells #[] 9)=w4 at *;have zsP:w5.cell? ⟨b,off+i,none⟩=some (wv x):=by rw[HB5.o.cell (p:=⟨b,off+i,none⟩) (by show b<_;have:=HZ.o;have:=La.o;omega)];exact hcx
   have HB6:=Lh ((Xr w5.heap.size w5).alloc (Xz _) (.cells #[wv x] 9));have Ek:=Lh (Xn w5 (.cells #[wv x] 9));have HZ5:=Lh HB5.o.size;have HO6:=Lh (Jk HO5.o HB6.o);clear hcx;go_wp2_with (at_builtin;refine Ja (m:=1) cJ rfl rfl rfl rfl HO6.o (Rd.row (B:=w5.heap.size+1) Ek.o (Yd _)) rfl (by intro u hu;simp at hu;subst hu;rfl) ?h63 ?hby ?hbase ?_)
   case h63=>simp only[maxLen];omega
   case hby=>omega
   case hbase=>have:=HZ5.o;have:=HB6.o.size;omega
   intro v9 w7 Ss jI _ _;have HB7:=Lh (Zr (HB5.o.trans (HB6.o.mono HZ5.o)) jI HO6.o (Xz _) (by have:=HZ5.o;have:=HB6.o.size;omega));obtain⟨A9,c9,hv9,_,_⟩:=Zk Ss;subst hv9;have HO7:=Lh Ss;clear Ss jI HO6 zsP;generalize w5.alloc (.cells #[wv x] 9)=w6 at *;have HR7:=Lh ((HR3.o.below (HB7.o.mono La.o)).drop_ a (cap:=c5) (by rw[Fr];have:=HOL.o;omega));have HT7:=Lt (((Zp out).drop a).length=(i - a)*1) (by rw[Xj,Fr];have:=HOL.o;omega);have HZ7:=Lh HB7.o.size;by_cases qvA:c5=a
   ·skip
    have ztC:i - a=0:=by omega
    have hce:c5 - a=0:=by omega
    have HD0:=Lt ((Zp out).drop a=[]) (List.drop_eq_nil_of_le (by rw[Fr];have:=HOL.o;omega));rw[HD0.o] at HT7;subst qvA;go_wp2_with (at_builtin;go_loud (refine Ja (m:=0) (B:=0) (news:=[]) cJ rfl rfl rfl rfl HO7.o Rd.nil_ rfl (by simp) (by simp only[maxLen];omega) (by omega) HZ7.o ?_));intro v10 w8 Mm wM _ _;have HB8:=Lh (Zr HB7.o wM HO7.o (Xz _) HZ7.o);have HNO:=Lt (w8.ownsRow S 9 1 v10 (out.take c5++x::out.drop c5).length (Zp (out.take c5++x::out.drop c5))) (by
     have e:Zp (out.take c5++x::out.drop c5)=(Zp out).take c5++wv x::(Zp out).drop c5:=by
      rw[qX,nF]
      congr 1
      show wv x::Zp (out.drop c5)=_
      rw[nG]
     have el:(out.take c5++x::out.drop c5).length=i+1:=by
      rw[Qe,Qu,Qq,Xj]
      have:=HOL.o
      omega
     rw[e,el]
     rw[HD0.o,show i+1=c5+1 by omega]
     exact Nc Mm (Ya HZ.o La.o))
    have HNB:=Lt (Below S w w8) (HB.o.trans ((HB3.o.trans (HB8.o.mono La.o)).mono HZ.o));have HNZ:=Lt (S<=w8.heap.size) (Ya HZ.o (Ya La.o HB8.o.size));clear Mm wM;go_wp2_with fail;go_roundw;exact⟨i+1,_,by omega,by go_num,HSU3.o,HNO.o,HNB.o,HNZ.o⟩;simp[intOf];omega
   ·skip
    have HRb:=Lt (Rd w7 wo.heap.size (A5.map (·.add a)) ((Zp out).drop a)) (by have:=HR7.o;rwa [if_neg qvA] at this);go_wp2_with (at_builtin;go_loud (refine Ja (m:=i - a) cJ rfl rfl rfl rfl HO7.o HRb.o HT7.o (fun u hu=>fD _ u (List.mem_of_mem_drop hu)) (by simp only[maxLen];omega) (by omega) HZ7.o ?_));intro v10 w8 Mm wM _ _;have HB8:=Lh (Zr HB7.o wM HO7.o (Xz _) HZ7.o);have HNO:=Lt (w8.ownsRow S 9 1 v10 (out.take a++x::out.drop a).length (Zp (out.take a++x::out.drop a))) (by
     have e:Zp (out.take a++x::out.drop a)=(Zp out).take a++wv x::(Zp out).drop a:=by
      rw[qX,nF]
      congr 1
      show wv x::Zp (out.drop a)=_
      rw[nG]
     have el:(out.take a++x::out.drop a).length=i+1:=by
      rw[Qe,Qu,Qq,Xj]
      have:=HOL.o
      omega
     rw[e,el]
     rw[show a+1+(i - a)=i+1 by omega] at Mm
     exact Nc Mm (Ya HZ.o La.o))
    have HNB:=Lt (Below S w w8) (HB.o.trans ((HB3.o.trans (HB8.o.mono La.o)).mono HZ.o));have HNZ:=Lt (S<=w8.heap.size) (Ya HZ.o (Ya La.o HB8.o.size));clear Mm wM;go_wp2_with fail;go_roundw;exact⟨i+1,_,by omega,by go_num,HSU3.o,HNO.o,HNB.o,HNZ.o⟩;simp[intOf];omega
 ·obtain rfl:i=n:=by omega
  have Kl:=Lt (wr.ownsRow S 9 1 u5 i (Zp (l.take stay++Jp (l.drop stay)))) (by
   have h1:=HI.o
   rw[HN.o] at h1
   have h2:=HO.o
   rw[h1.len (Xz _),h1.done] at h2
   rw[HN.o]
   exact h2)
  go_wp2_with fail;go_ret;exact⟨_,rfl,Kl.o,HB.o⟩
end Go.Proofs.YtmaojnmnbpomeaaGreatDoor
