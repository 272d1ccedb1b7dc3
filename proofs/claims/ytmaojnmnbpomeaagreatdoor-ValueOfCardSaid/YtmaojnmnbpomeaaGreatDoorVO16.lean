/- A part. -/
import Derived.Test.YtmaojnmnbpomeaaGreatDoorVO15
set_option maxRecDepth 100000
set_option maxHeartbeats 64000000
namespace Go.Proofs.YtmaojnmnbpomeaaGreatDoor
open Go.RowKit
theorem Ai(c:Int)(w:World):Calls Tryz.prog 141 #[.int .u8 c] w fun e w'=>e=.returned (.bool (Ug c))/\w=w':=by
 have hc:c<65\/(65<=c/\c<=90)\/(90<c/\c<97)\/(97<=c/\c<=122)\/122<c:=by omega
 rcases hc with h | h | h | h | h
 all_goals
  go_enter Tryz.func141,Tryz.ntmps141;go_wp2
  all_goals first
   |(exfalso;omega)
   |(exfalso;simp at *;omega)
   |(go_ret;exact⟨Kd (Zm (by rw[Bool.eq_iff_iff];simp[Ug] <;> omega)),rfl⟩)
theorem tD(c:Int)(w:World):Calls Tryz.prog 142 #[.int .u8 c] w fun e w'=>e=.returned (.bool (Mb c))/\w=w':=by
 rcases Ym (Ug c) with hl | hl
 ·have HL:=Lh hl;go_enter Tryz.func142,Tryz.ntmps142;go_wp2_with (go_call Ai c _ as e w1 ⟨rfl,rfl⟩);go_ret;exact⟨Kd (Zm (by unfold Mb;rw[HL.o];rfl)),rfl⟩
 ·have HL:=Lh hl;have hc:c<48\/(48<=c/\c<=57)\/(57<c/\c<95)\/(95<=c/\c<=95)\/95<c:=by omega
  rcases hc with h | h | h | h | h
  all_goals
   go_enter Tryz.func142,Tryz.ntmps142;go_wp2_with (go_call Ai c _ as e w1 ⟨rfl,rfl⟩)
   all_goals first
    |(exfalso;omega)
    |(exfalso;simp at *;omega)
    |(go_ret;exact⟨Kd (Zm (by rw[Bool.eq_iff_iff];simp[Mb,HL.o] <;> omega)),rfl⟩)
theorem sw{p:UInt8->Bool}{l:List UInt8}{i:Nat}(h:i<l.length):(l.take (i+1)).all p=((l.take i).all p&&p l[i]):=by
 rw[Qc h,List.all_append];simp
theorem qcF{p:UInt8->Bool}{l:List UInt8}{i:Nat}(h:i<l.length)(hp:p l[i]=false):l.all p=false:=by
 rw[List.all_eq_false];exact⟨l[i],Qg h,by simp[hp]⟩
theorem yn(s:ByteArray)(w:World)(hs:s.size<=maxLen):Calls Tryz.prog 85 #[.string s] w fun e w'=>e=.returned (.bool (Mf s.data.toList))/\w=w':=by
 unfold maxLen at hs;have yB:=dH s;have hlen:s.data.toList.length=s.size:=by simp
 have Of:Hid (Mf s.data.toList=(decide (1<=s.size/\s.size<=32)&&Ug ((s.data.toList.headD 0).toNat:Int)&&s.data.toList.all fun b=>Mb (b.toNat:Int))):=by
  show _=_;unfold Mf;rw[hlen]
 have hc:s.size<1\/32<s.size\/(1<=s.size/\s.size<=32):=by omega
 rcases hc with h1 | h1 | h1
 ·have HF:=Lh (show Mf s.data.toList=false by rw[Of.o,Yu (by omega)];rfl);go_enter Tryz.func85,Tryz.ntmps85;go_wp2_with fail;go_ret;exact⟨Kd (Zm HF.o.symm),rfl⟩
 ·have HF:=Lh (show Mf s.data.toList=false by rw[Of.o,Yu (by omega)];rfl);have h0:¬ s.size<1:=by omega
  go_enter Tryz.func85,Tryz.ntmps85;go_wp2_with fail;go_ret;exact⟨Kd (Zm HF.o.symm),rfl⟩
 ·have Dh:0<s.size:=by omega
  have HH:=Lh (sr s h1.1);have HD:=Lh (show Mf s.data.toList=(Ug (Sl s 0)&&s.data.toList.all fun b=>Mb (b.toNat:Int)) by rw[Of.o,Yt h1,<-HH.o];rfl);have h0:decide ((s.size:Int)<1)=false:=by simpa using (show ¬ (s.size:Int)<1 by omega)
  have h2:decide ((32:Int)<(s.size:Int))=false:=by simpa using (show ¬ (32:Int)<s.size by omega)
  cases hb:Ug (Sl s 0) with
  |false =>
   have HF:=Lh (show Mf s.data.toList=false by rw[HD.o,hb];rfl);have HB:=Lh hb;clear hb;go_enter Tryz.func85,Tryz.ntmps85;go_wp2_with fail;go_call Ai (Sl s 0) _ as e w1 ⟨rfl,rfl⟩;rw[HB.o];go_wp2_with fail;go_ret;exact⟨Kd (Zm HF.o.symm),rfl⟩
  |true =>
   have HF:=Lh (show Mf s.data.toList=s.data.toList.all fun b=>Mb (b.toNat:Int) by rw[HD.o,hb];rfl);have HB:=Lh hb;clear hb;go_enter Tryz.func85,Tryz.ntmps85;go_wp2_with fail;go_call Ai (Sl s 0) _ as e w1 ⟨rfl,rfl⟩;rw[HB.o];go_wp2_with fail;go_loopg [3] s.size (fun left v3 wr=>∃ i:Nat,i<=s.size/\s.size - i<=left/\v3=.int .i64 i/\wr=w/\Hid ((s.data.toList.take i).all (fun b=>Mb (b.toNat:Int))=true));exact⟨0,by omega,by omega,rfl,rfl,rfl⟩;obtain⟨i,hi,Vt,rfl,rfl,HO⟩:=hrel;by_cases Sb:i<s.size
   ·have Vq:i<s.data.toList.length:=by rw[hlen];exact Sb
    have HT:=Lh (sw (p:=fun b=>Mb (b.toNat:Int)) Vq);have Mv:=Lh (qcF (p:=fun b=>Mb (b.toNat:Int)) Vq);have HBL:=Lh (Lw s i Vq);rw[<-HBL.o] at HT Mv;cases hm:Mb (Sl s i) with
    |false =>
     have HM:=Lh hm;have HX:=Lh (HF.o.trans (Mv.o hm));clear hm;go_wp2_with fail;go_call tD (Sl s i) _ as e w1 ⟨rfl,rfl⟩;rw[HM.o];go_wp2_with fail;go_ret;exact⟨Kd (Zm HX.o.symm),rfl⟩
    |true =>
     have HM:=Lh hm;clear hm;go_wp2_with fail;go_call tD (Sl s i) _ as e w1 ⟨rfl,rfl⟩;rw[HM.o];go_wp2_with fail;go_roundg (gk - 1);exact⟨i+1,by omega,by omega,by go_num,rfl,by show _=_;rw[HT.o,HO.o,HM.o];rfl⟩;omega
   ·have HX:=Lh (show Mf s.data.toList=true by
     have:=HO.o
     rw[Qd (by omega)] at this
     exact HF.o.trans this)
    go_wp2_with fail;go_ret;exact⟨Kd (Zm HX.o.symm),rfl⟩
theorem vg(s:ByteArray)(w:World)(hs:s.size<=maxLen):Calls Tryz.prog 86 #[.string s] w fun e w'=>e=.returned (.bool (Nf s.data.toList))/\w=w':=by
 unfold maxLen at hs;have yB:=dH s;have hlen:s.data.toList.length=s.size:=by simp
 have Of:Hid (Nf s.data.toList=(decide (1<=s.size/\s.size<=32)&&s.data.toList.all fun b=>Jl (b.toNat:Int))):=by
  show _=_;unfold Nf;rw[hlen]
 have hc:s.size<1\/32<s.size\/(1<=s.size/\s.size<=32):=by omega
 rcases hc with h1 | h1 | h1
 ·have HF:=Lh (show Nf s.data.toList=false by rw[Of.o,Yu (by omega)];rfl);go_enter Tryz.func86,Tryz.ntmps86;go_wp2_with fail;go_ret;exact⟨Kd (Zm HF.o.symm),rfl⟩
 ·have HF:=Lh (show Nf s.data.toList=false by rw[Of.o,Yu (by omega)];rfl);have h0:¬ s.size<1:=by omega
  go_enter Tryz.func86,Tryz.ntmps86;go_wp2_with fail;go_ret;exact⟨Kd (Zm HF.o.symm),rfl⟩
 ·have HF:=Lh (show Nf s.data.toList=s.data.toList.all fun b=>Jl (b.toNat:Int) by rw[Of.o,Yt h1];rfl);have h0:decide ((s.size:Int)<1)=false:=by simpa using (show ¬ (s.size:Int)<1 by omega)
  have h2:decide ((32:Int)<(s.size:Int))=false:=by simpa using (show ¬ (32:Int)<s.size by omega)
  go_enter Tryz.func86,Tryz.ntmps86;go_wp2_with fail;go_loopg [3] s.size (fun left v3 wr=>∃ i:Nat,i<=s.size/\s.size - i<=left/\v3=.int .i64 i/\wr=w/\Hid ((s.data.toList.take i).all (fun b=>Jl (b.toNat:Int))=true));exact⟨0,by omega,by omega,rfl,rfl,rfl⟩;obtain⟨i,hi,Vt,rfl,rfl,HO⟩:=hrel;by_cases Sb:i<s.size
  ·have Vq:i<s.data.toList.length:=by rw[hlen];exact Sb
   have HT:=Lh (sw (p:=fun b=>Jl (b.toNat:Int)) Vq);have Mv:=Lh (qcF (p:=fun b=>Jl (b.toNat:Int)) Vq);have HBL:=Lh (Lw s i Vq);rw[<-HBL.o] at HT Mv;obtain⟨x,hx⟩:=Xe (Sl s i);rw[<-hx] at HT Mv;have Wu:Sl s i=x:=hx.symm;have hcc:x<32\/(32<=x/\x<39)\/(39<=x/\x<=39)\/(39<x/\x<92)\/(92<=x/\x<=92)\/(92<x/\x<=126)\/126<x:=by omega
   clear hx;rcases hcc with h | h | h | h | h | h | h
   ·have aw:Jl x=false:=by
     unfold Jl;simp;omega
    have e1:(x==39)=false:=by rw[Yn];omega
    have e2:(x==92)=false:=by rw[Yn];omega
    have e3:decide (x<32)=true:=by simp;omega
    have e4:decide (126<x)=false:=by simp;omega
    have HX:=Lh (HF.o.trans (Mv.o aw));clear aw h;go_wp2_with fail;go_ret;exact⟨Kd (Zm HX.o.symm),rfl⟩
   ·have aw:Jl x=true:=by
     unfold Jl;simp;omega
    have e1:(x==39)=false:=by rw[Yn];omega
    have e2:(x==92)=false:=by rw[Yn];omega
    have e3:decide (x<32)=false:=by simp;omega
    have e4:decide (126<x)=false:=by simp;omega
    have HM:=Lh aw;clear aw h;go_wp2_with fail;go_roundg (gk - 1);exact⟨i+1,by omega,by omega,by go_num,rfl,by show _=_;rw[HT.o,HO.o,HM.o];rfl⟩;omega
   ·have aw:Jl x=false:=by
     unfold Jl;simp;omega
    have e1:(x==39)=true:=by rw[beq_iff_eq];omega
    have e2:(x==92)=false:=by rw[Yn];omega
    have e3:decide (x<32)=false:=by simp;omega
    have e4:decide (126<x)=false:=by simp;omega
    have HX:=Lh (HF.o.trans (Mv.o aw));clear aw h;go_wp2_with fail;go_ret;exact⟨Kd (Zm HX.o.symm),rfl⟩
   ·have aw:Jl x=true:=by
     unfold Jl;simp;omega
    have e1:(x==39)=false:=by rw[Yn];omega
    have e2:(x==92)=false:=by rw[Yn];omega
    have e3:decide (x<32)=false:=by simp;omega
    have e4:decide (126<x)=false:=by simp;omega
    have HM:=Lh aw;clear aw h;go_wp2_with fail;go_roundg (gk - 1);exact⟨i+1,by omega,by omega,by go_num,rfl,by show _=_;rw[HT.o,HO.o,HM.o];rfl⟩;omega
   ·have aw:Jl x=false:=by
     unfold Jl;simp;omega
    have e1:(x==39)=false:=by rw[Yn];omega
    have e2:(x==92)=true:=by rw[beq_iff_eq];omega
    have e3:decide (x<32)=false:=by simp;omega
    have e4:decide (126<x)=false:=by simp;omega
    have HX:=Lh (HF.o.trans (Mv.o aw));clear aw h;go_wp2_with fail;go_ret;exact⟨Kd (Zm HX.o.symm),rfl⟩
   ·have aw:Jl x=true:=by
     unfold Jl;simp;omega
    have e1:(x==39)=false:=by rw[Yn];omega
    have e2:(x==92)=false:=by rw[Yn];omega
    have e3:decide (x<32)=false:=by simp;omega
    have e4:decide (126<x)=false:=by simp;omega
    have HM:=Lh aw;clear aw h;go_wp2_with fail;go_roundg (gk - 1);exact⟨i+1,by omega,by omega,by go_num,rfl,by show _=_;rw[HT.o,HO.o,HM.o];rfl⟩;omega
   ·have aw:Jl x=false:=by
     unfold Jl;simp;omega
    have e1:(x==39)=false:=by rw[Yn];omega
    have e2:(x==92)=false:=by rw[Yn];omega
    have e3:decide (x<32)=false:=by simp;omega
    have e4:decide (126<x)=true:=by simp;omega
    have HX:=Lh (HF.o.trans (Mv.o aw));clear aw h;go_wp2_with fail;go_ret;exact⟨Kd (Zm HX.o.symm),rfl⟩
  ·have HX:=Lh (show Nf s.data.toList=true by
    have:=HO.o
    rw[Qd (by omega)] at this
    exact HF.o.trans this)
   go_wp2_with fail;go_ret;exact⟨Kd (Zm HX.o.symm),rfl⟩
theorem gI(v:Value)(ns:List ByteArray)(s:ByteArray)(w:World)(hv:Jb Mc w w.heap.size v ns) :
  Calls Tryz.prog 37 #[v,.string s] w fun e w'=>e=.returned (.int .i64 (idxOf (fun x=>decide (x=s)) ns))/\w=w':=by
 obtain⟨A,c,rfl,hc1,hc2⟩:=hv.form;unfold maxLen at hc2;have HV:=Lh hv;obtain⟨n,hn⟩:=Xe ns.length;rw[<-hn] at HV hc1 |-;have HN:=Lh hn;clear hv hn;go_enter Tryz.func37,Tryz.ntmps37;go_wp2_with fail;go_loopg [5] n (fun left v5 wr=>∃ i:Nat,i<=n/\n - i<=left/\v5=.int .i64 i/\wr=w/\Hid (∀(j:Nat)(h:j<ns.length),j<i->(fun x=>decide (x=s)) ns[j]=false));exact⟨0,by omega,by omega,rfl,rfl,fun j h hj=>by omega⟩;obtain⟨i,hi,Vt,rfl,rfl,HNO⟩:=hrel;by_cases Sb:i<n
 ·have Vq:i<ns.length:=by rw[<-HN.o];exact Sb
  obtain⟨b,o,cs,rfl,-,-,Zt,Zj⟩:=HV.o.get Vq (by decide);obtain⟨rfl,Ta⟩:=Zt;have Vi:=Zj 0 _ rfl;simp only[show Mc.size=1 from rfl,Yq,Yo] at Vi;have zdP:=Lh (Bf (p:=fun x=>decide (x=s)) Vq HNO.o);by_cases he:ns[i]=s
  ·have hb:(ns[i].toList==s.toList)=true:=by rw[he];exact beq_self_eq_true _
   have HX:=Lh (zdP.o (by simpa using he));clear Zj he;go_wp2_with fail;go_ret;exact⟨Kd (Fs HX.o.symm),rfl⟩
  ·have hb:(ns[i].toList==s.toList)=false:=by rw[<-beq_toListBytes,Gh,Yj];exact fun e=>he e.symm
   have HE:=Lh he;clear Zj he;go_wp2_with fail;go_roundg (gk - 1);exact⟨i+1,by omega,by omega,by go_num,rfl,fun j h hj=>by by_cases e:j=i;(subst e;simpa using HE.o);exact HNO.o j h (by omega)⟩;omega
 ·have HX:=Lh (Pi (p:=fun x=>decide (x=s)) (xs:=ns) fun j h=>HNO.o j h (by have:=HN.o;omega));go_wp2_with fail;go_ret;exact⟨Kd (Fs HX.o.symm),rfl⟩
theorem rU(a b:Value)(xs ys:List Int)(w:World)(ha:Jb Vh w w.heap.size a xs)(hb:Jb Vh w w.heap.size b ys) :
  Calls Tryz.prog 57 #[a,b] w fun e w'=>e=.returned (.bool (decide (xs=ys)))/\Below w.heap.size w w':=by
 obtain⟨A,c,rfl,hc1,hc2⟩:=ha.form;obtain⟨B,d,rfl,iB,jJ⟩:=hb.form;unfold maxLen at hc2 jJ;by_cases hl:xs.length=ys.length
 ·have hne:((xs.length:Int) != (ys.length:Int))=false:=by simp;omega
  go_enter Tryz.func57,Tryz.ntmps57;go_wp2;go_loopw [5] (fun v8 wr=>∃ k:Nat,k<=xs.length/\v8=.int .i64 k/\Hid (∀(j:Nat)(h:j<xs.length)(h2:j<ys.length),j<k->xs[j]=ys[j])/\Below w.heap.size w wr) (fun v8 _=>xs.length - (intOf v8).toNat);exact⟨0,by omega,rfl,fun j h h2 hj=>by omega,Xr _ _⟩;obtain⟨k,hk,rfl,hno,hbr⟩:=hrel;by_cases Jo:k<xs.length
  ·have zz:k<ys.length:=by omega
   obtain⟨ab,ao,cs,rfl,_,Aj,Zt,Zj⟩:=(ha.below hbr).get Jo (by decide);obtain⟨rfl,Ta,Hn⟩:=Zt;have Vi:=Zj 0 _ rfl;obtain⟨bb,bo,cs,rfl,_,kO,Zt,Je⟩:=(hb.below hbr).get zz (by decide);obtain⟨rfl,qC,tP⟩:=Zt;have hd0:=Je 0 _ rfl;clear Zj Je;simp only[show Vh.size=1 from rfl,Yq,Yo] at Vi hd0;by_cases heq:xs[k]=ys[k]
   ·have hq:(xs[k] != ys[k])=false:=by simp[heq]
    have HQ:=Lh heq;clear heq;go_wp2_with fail;refine Text.wt (by kernel_rfl) fun Q' hQ'=>?_;go_wp2;refine⟨by rfl,?_⟩;go_wp2;go_roundw;exact⟨k+1,by omega,by go_num,fun j h h2 hj=>by by_cases e:j=k;(subst e;exact HQ.o);exact hno.o j h h2 (by omega),hbr.drew⟩;simp[intOf];omega
   ·have hq:(xs[k] != ys[k])=true:=by simp[heq]
    have HQ:=Lh heq;clear heq;go_wp2_with fail;refine Text.wt (by kernel_rfl) fun Q' hQ'=>?_;go_wp2;refine⟨by rfl,?_⟩;go_wp2;go_ret;exact⟨Kd (Zm (by rw[eq_comm,Yj];intro h;subst h;exact HQ.o rfl)),hbr.drew⟩
  ·have HEQ:=Lt (xs=ys) (List.ext_getElem hl fun j h h2=>hno.o j h h2 (by omega));go_wp2;go_ret;exact⟨Kd (Zm (by rw[eq_comm,Yi];exact HEQ.o)),hbr⟩
 ·have hne:((xs.length:Int) != (ys.length:Int))=true:=by simp;omega
  go_enter Tryz.func57,Tryz.ntmps57;go_wp2;go_ret;exact⟨Kd (Zm (by rw[eq_comm,Yj];intro h;subst h;exact hl rfl)),Xr _ _⟩
theorem tZ(v1 v2 v3 u1 u2 u3:Value)(g h:Jw)(w:World)(hg:kR w w.heap.size v1 v2 v3 g)(hh:kR w w.heap.size u1 u2 u3 h) :
  Calls Tryz.prog 21 #[.agg #[v1,v2,v3],.agg #[u1,u2,u3]] w fun e w'=>e=.returned (.bool (decide (g=h)))/\Below w.heap.size w w':=by
 obtain⟨A1,A2,A3,c1,c2,c3,rfl,rfl,rfl⟩:=hg.form;obtain⟨B1,B2,B3,d1,d2,d3,rfl,rfl,rfl⟩:=hh.form;obtain⟨S,hS⟩:=Xe w.heap.size;have HSE:=Lh hS;have HNE:=Lt ((g.1≠h.1\/g.2.1≠h.2.1\/g.2.2≠h.2.2)->decide (g=h)=false) (fun e=>Yu fun e2=>by subst e2;simp at e)
 have HEQ:=Lt (g.1=h.1->g.2.1=h.2.1->g.2.2=h.2.2->decide (g=h)=true) (fun a b c=>Yt (Prod.ext a (Prod.ext b c)));have jn:=Lh hg;have HHH:=Lh hh;have hn1:=hg.names.n_le;have tu:=hg.terms.n_le;have hn3:=hg.rules.n_le;have jF:=hh.names.n_le;have hm2:=hh.terms.n_le;have hm3:=hh.rules.n_le;obtain⟨n1,Ta⟩:∃ n,n=g.1.length:=⟨_,rfl⟩;obtain⟨n2,Hn⟩:∃ n,n=g.2.1.length:=⟨_,rfl⟩;obtain⟨n3,hx3⟩:∃ n,n=g.2.2.length:=⟨_,rfl⟩;obtain⟨m1,qC⟩:∃ n,n=h.1.length:=⟨_,rfl⟩;obtain⟨m2,tP⟩:∃ n,n=h.2.1.length:=⟨_,rfl⟩;obtain⟨m3,pl⟩:∃ n,n=h.2.2.length:=⟨_,rfl⟩;rw[<-Ta,<-Hn,<-hx3] at jn;rw[<-qC,<-tP,<-pl] at HHH;rw[<-Ta] at hn1;rw[<-Hn] at tu;rw[<-hx3] at hn3;rw[<-qC] at jF;rw[<-tP] at hm2;rw[<-pl] at hm3;rw[<-Ta,<-Hn,<-hx3,<-qC,<-tP,<-pl];have HL:=Lt (n1=g.1.length/\n2=g.2.1.length/\n3=g.2.2.length/\m1=h.1.length/\m2=h.2.1.length/\m3=h.2.2.length) (⟨Ta,Hn,hx3,qC,tP,pl⟩);clear hg hh Ta Hn hx3 qC tP pl;have HB1:=Lt (Below w.heap.size w ((w.alloc (.cells #[.slice A1 n1 c1,.slice A2 n2 c2,.slice A3 n3 c3] 25)).alloc (.cells #[.slice B1 m1 d1,.slice B2 m2 d2,.slice B3 m3 d3] 25))) (((Xr _ _).alloc (Xz _) _).alloc (by rw[Xs];omega) _);have HG1:=Lh (Go.heap_alloc2_old w (.cells #[.slice A1 n1 c1,.slice A2 n2 c2,.slice A3 n3 c3] 25) (.cells #[.slice B1 m1 d1,.slice B2 m2 d2,.slice B3 m3 d3] 25));have HH1:=Lh (Go.heap_alloc2_new w (.cells #[.slice A1 n1 c1,.slice A2 n2 c2,.slice A3 n3 c3] 25) (.cells #[.slice B1 m1 d1,.slice B2 m2 d2,.slice B3 m3 d3] 25));rw[<-hS] at HG1 HH1;by_cases e1:n1=m1
 ·by_cases e2:n2=m2
  ·by_cases e3:n3=m3
   ·subst e1 e2 e3;go_enter Tryz.func21,Tryz.ntmps21;go_wp2_with fail;rw[<-hS];clear hS;generalize (w.alloc (.cells #[.slice A1 n1 c1,.slice A2 n2 c2,.slice A3 n3 c3] 25)).alloc (.cells #[.slice B1 n1 d1,.slice B2 n2 d2,.slice B3 n3 d3] 25)=w1 at *;have HBL:=Lh (Xr w1.heap.size w1);have y_:=Lt (S<w1.heap.size/\S+1<w1.heap.size) (⟨(gl HG1.o),(gl HH1.o)⟩);go_loopg [5] n1 (fun left v5 wr=>∃ i:Nat,i<=n1/\n1 - i<=left/\v5=.int .i64 i/\Hid (g.1.take i=h.1.take i)/\Hid (Below w1.heap.size w1 wr));exact⟨0,by omega,by omega,rfl,by simp[Hid],HBL.o⟩;clear HBL;obtain⟨i,hi,Vt,rfl,HE,HBL⟩:=hrel;have HGR:=Lh ((HBL.o.block S y_.o.1).trans HG1.o);have HHR:=Lh ((HBL.o.block (S+1) y_.o.2).trans HH1.o);obtain⟨a0,a1,a2⟩:=Zs HGR.o;obtain⟨b0,b1,b2⟩:=Zs HHR.o;by_cases Sb:i<n1
    ·have HBW:=Lh (HB1.o.trans (HBL.o.mono HB1.o.size));have Ge:i<g.1.length:=by rw[<-HL.o.1];exact Sb
     have Gn:i<h.1.length:=by rw[<-HL.o.2.2.2.1];exact Sb
     obtain⟨ab,ao,cs,rfl,_,Aj,Zt,Zj⟩:=(jn.o.names.below HBW.o).get Ge (by decide);obtain⟨rfl,Sr⟩:=Zt;have x0:=Zj 0 _ rfl;obtain⟨bb,bo,cs,rfl,_,kO,Zt,Je⟩:=(HHH.o.names.below HBW.o).get Gn (by decide);obtain⟨rfl,Fn⟩:=Zt;have y0:=Je 0 _ rfl;clear Zj Je;simp only[show Mc.size=1 from rfl,Yq,Yo] at x0 y0;have HT:=Lh (Qc Ge);have HT2:=Lh (Qc Gn);have Oj:=Lh (Qa Ge);have bX:=Lh (Qa Gn);have HNO:=Lh (show g.1[i]≠h.1[i]->decide (g=h)=false from fun e=>HNE.o (.inl fun e1=>e (by
      have e2:=Oj.o.symm.trans ((congrArg (fun l:List ByteArray=>l[i]?) e1).trans bX.o)
      injection e2)))
     clear Oj bX;generalize g.1[i]=x at *;generalize h.1[i]=y at *;clear Ge Gn;by_cases heq:x=y
     ·have hq:(x.toList==y.toList)=true:=by rw[heq];exact beq_self_eq_true _
      have HQ:=Lh heq;clear heq;go_wp2_with fail;refine Text.wt (by kernel_rfl) fun Q' hQ'=>?_;go_wp2;refine⟨by rfl,?_⟩;go_wp2;go_roundg (gk - 1);exact⟨i+1,by omega,by omega,by go_num,by show _=_;rw[HT.o,HT2.o,HE.o,HQ.o],HBL.o.drew⟩;omega
     ·have hq:(x.toList==y.toList)=false:=by rw[<-beq_toListBytes,Gh,Yj];exact fun e=>heq e.symm
      have HR:=Lh (HNO.o heq);clear heq;go_wp2_with fail;refine Text.wt (by kernel_rfl) fun Q' hQ'=>?_;go_wp2;refine⟨by rfl,?_⟩;go_wp2;go_ret;exact⟨Kd (Zm HR.o.symm),by first | exact HBW.o.drew | (rw[HSE.o];exact HBW.o.drew)⟩
    ·have HF5:=Lh (show g.1=h.1 by
      have:=HE.o
      rwa [Qd (by rw[<-HL.o.1];omega),Qd (by rw[<-HL.o.2.2.2.1];omega)] at this)
     clear HE;generalize wr=wo5 at *;go_wp2_with fail;clear a0 a1 a2 b0 b1 b2;go_loopg [6] n2 (fun left v6 wr=>∃ i:Nat,i<=n2/\n2 - i<=left/\v6=.int .i64 i/\Hid (g.2.1.take i=h.2.1.take i)/\Hid (Below w1.heap.size w1 wr));exact⟨0,by omega,by omega,rfl,by simp[Hid],HBL.o⟩;clear HBL;obtain⟨i,hi,Vt,rfl,HE,HBL⟩:=hrel;have HGR:=Lh ((HBL.o.block S y_.o.1).trans HG1.o);have HHR:=Lh ((HBL.o.block (S+1) y_.o.2).trans HH1.o);obtain⟨a0,a1,a2⟩:=Zs HGR.o;obtain⟨b0,b1,b2⟩:=Zs HHR.o;by_cases Sb:i<n2
     ·have HBW:=Lh (HB1.o.trans (HBL.o.mono HB1.o.size));have Ge:i<g.2.1.length:=by rw[<-HL.o.2.1];exact Sb
      have Gn:i<h.2.1.length:=by rw[<-HL.o.2.2.2.2.1];exact Sb
      obtain⟨ab,ao,cs,rfl,_,Aj,Zt,Zj⟩:=(jn.o.terms.below HBW.o).get Ge (by decide);obtain⟨rfl,Sr⟩:=Zt;have x0:=Zj 0 _ rfl;obtain⟨bb,bo,cs,rfl,_,kO,Zt,Je⟩:=(HHH.o.terms.below HBW.o).get Gn (by decide);obtain⟨rfl,Fn⟩:=Zt;have y0:=Je 0 _ rfl;clear Zj Je;simp only[show Mc.size=1 from rfl,Yq,Yo] at x0 y0;have HT:=Lh (Qc Ge);have HT2:=Lh (Qc Gn);have Oj:=Lh (Qa Ge);have bX:=Lh (Qa Gn);have HNO:=Lh (show g.2.1[i]≠h.2.1[i]->decide (g=h)=false from fun e=>HNE.o (.inr <| .inl fun e1=>e (by
       have e2:=Oj.o.symm.trans ((congrArg (fun l:List ByteArray=>l[i]?) e1).trans bX.o)
       injection e2)))
      clear Oj bX;generalize g.2.1[i]=x at *;generalize h.2.1[i]=y at *;clear Ge Gn;by_cases heq:x=y
      ·have hq:(x.toList==y.toList)=true:=by rw[heq];exact beq_self_eq_true _
       have HQ:=Lh heq;clear heq;go_wp2_with fail;refine Text.wt (by kernel_rfl) fun Q' hQ'=>?_;go_wp2;refine⟨by rfl,?_⟩;go_wp2;go_roundg (gk - 1);exact⟨i+1,by omega,by omega,by go_num,by show _=_;rw[HT.o,HT2.o,HE.o,HQ.o],HBL.o.drew⟩;omega
      ·have hq:(x.toList==y.toList)=false:=by rw[<-beq_toListBytes,Gh,Yj];exact fun e=>heq e.symm
       have HR:=Lh (HNO.o heq);clear heq;go_wp2_with fail;refine Text.wt (by kernel_rfl) fun Q' hQ'=>?_;go_wp2;refine⟨by rfl,?_⟩;go_wp2;go_ret;exact⟨Kd (Zm HR.o.symm),by first | exact HBW.o.drew | (rw[HSE.o];exact HBW.o.drew)⟩
     ·have HF6:=Lh (show g.2.1=h.2.1 by
       have:=HE.o
       rwa [Qd (by rw[<-HL.o.2.1];omega),Qd (by rw[<-HL.o.2.2.2.2.1];omega)] at this)
      clear HE;generalize wr=wo6 at *;go_wp2_with fail;clear a0 a1 a2 b0 b1 b2;go_loopg [7] n3 (fun left v7 wr=>∃ i:Nat,i<=n3/\n3 - i<=left/\v7=.int .i64 i/\Hid (g.2.2.take i=h.2.2.take i)/\Hid (Below w1.heap.size w1 wr));exact⟨0,by omega,by omega,rfl,by simp[Hid],HBL.o⟩;clear HBL;obtain⟨i,hi,Vt,rfl,HE,HBL⟩:=hrel;have HGR:=Lh ((HBL.o.block S y_.o.1).trans HG1.o);have HHR:=Lh ((HBL.o.block (S+1) y_.o.2).trans HH1.o);obtain⟨a0,a1,a2⟩:=Zs HGR.o;obtain⟨b0,b1,b2⟩:=Zs HHR.o;by_cases Sb:i<n3
      ·have HBW:=Lh (HB1.o.trans (HBL.o.mono HB1.o.size));have Ge:i<g.2.2.length:=by rw[<-HL.o.2.2.1];exact Sb
       have Gn:i<h.2.2.length:=by rw[<-HL.o.2.2.2.2.2];exact Sb
       obtain⟨ab,ao,cs1,rfl,_,Aj,Eg,Kn⟩:=(jn.o.rules.below HBW.o).get Ge (by decide);obtain⟨v1,rfl,Hw,Sr,Fn⟩:=Jv Eg;have x0:=Kn 0 _ rfl;have x1:=Kn 1 _ rfl;obtain⟨bb,bo,cs2,rfl,_,kO,Us,Je⟩:=(HHH.o.rules.below HBW.o).get Gn (by decide);obtain⟨v2,rfl,oF,hz3,hz4⟩:=Jv Us;have y0:=Je 0 _ rfl;have y1:=Je 1 _ rfl;simp only[show Kx.size=2 from rfl,Yo,<-Yv] at x0 x1 y0 y1;obtain⟨A4,c4,rfl,ud,h42⟩:=Hw.form;obtain⟨A5,c5,rfl,h51,h52⟩:=oF.form;have hbs:=HBW.o.size;have Ij:=Lh (fun w2 (hb:Below wr.heap.size wr w2)=>rU _ _ _ _ w2 (Hw.fut hb hbs (Ya hbs hb.size)) (oF.fut hb hbs (Ya hbs hb.size)));have HT:=Lh (Qc Ge);have HT2:=Lh (Qc Gn);have Oj:=Lh (Qa Ge);have bX:=Lh (Qa Gn);have HNO:=Lh (show g.2.2[i]≠h.2.2[i]->decide (g=h)=false from fun e=>HNE.o (.inr (.inr fun e1=>e (by
        have e2:=Oj.o.symm.trans ((congrArg (fun l:List Jj=>l[i]?) e1).trans bX.o)
        injection e2))))
       clear Oj bX Kn Je Eg Us Hw oF Sr Fn hz3 hz4 ud h42 h51 h52;generalize g.2.2[i]=x at *;generalize h.2.2[i]=y at *;clear Ge Gn;obtain⟨l1,r1⟩:=x;obtain⟨l2,r2⟩:=y;simp only at x0 x1 y0 y1 Ij;by_cases bC:l1=l2
       ·have hq:(l1==l2)=true:=by simp[bC]
        have tt:(l1 != l2)=false:=by simp[bC]
        by_cases kL:r1=r2
        ·simp only[Yt kL] at Ij;have HQ:=Lh (show ((l1,r1):Jj)=(l2,r2) by rw[bC,kL]);clear kL bC;go_wp2_with fail;refine Text.wp_grow [26] [1,5,7,11,15,19,21,25] [] (by kernel_rfl) (by kernel_rfl) ?_;refine Text.wpS_seg 26 _ _ _ _ (by decide) (fun Q' hQ'=>?_);simp only[Xta,Xtz];go_wp2_with fail
         try simp only[Yp,Xw,List.drop_zero]
         refine Text.wpS_one (fun Q' hQ'=>?_);go_wp2_with fail;refine (Ij.o _ Vy).mono ?_;rintro e w5 ⟨rfl,hb5⟩;go_wp2_with fail;refine⟨hb5,?_⟩;refine Text.wpS_seg 2 _ _ _ _ (by decide) (fun Q' hQ'=>?_);simp only[Xta,Xtz];go_wp2_with fail;refine⟨by rfl,?_,?_⟩
         ·exact⟨fun _=>⟨_,_,rfl,a2⟩,fun _=>⟨_,_,rfl,x0⟩,fun _=>⟨_,_,rfl,b2⟩,fun _=>⟨_,_,rfl,y0⟩,fun _=>⟨_,_,rfl,a2⟩,fun _=>⟨_,_,rfl,x1⟩,fun _=>⟨_,_,rfl,b2⟩,fun _=>⟨_,_,rfl,y1⟩,trivial⟩
         have HB5:=Lh (HBL.o.trans ((Vy.trans hb5).mono HBL.o.size));clear hb5;go_wp2_with fail;go_roundg (gk - 1);exact⟨i+1,by omega,by omega,by go_num,by show _=_;rw[HT.o,HT2.o,HE.o,HQ.o],HB5.o⟩;omega
        ·simp only[Yu kL] at Ij;have HR:=Lh (HNO.o (by intro e;injection e with _ e;exact kL e));clear kL bC;go_wp2_with fail;refine Text.wp_grow [26] [1,5,7,11,15,19,21,25] [] (by kernel_rfl) (by kernel_rfl) ?_;refine Text.wpS_seg 26 _ _ _ _ (by decide) (fun Q' hQ'=>?_);simp only[Xta,Xtz];go_wp2_with fail
         try simp only[Yp,Xw,List.drop_zero]
         refine Text.wpS_one (fun Q' hQ'=>?_);go_wp2_with fail;refine (Ij.o _ Vy).mono ?_;rintro e w5 ⟨rfl,hb5⟩;go_wp2_with fail;refine⟨hb5,?_⟩;refine Text.wpS_seg 2 _ _ _ _ (by decide) (fun Q' hQ'=>?_);simp only[Xta,Xtz];go_wp2_with fail;refine⟨by rfl,?_,?_⟩
         ·exact⟨fun _=>⟨_,_,rfl,a2⟩,fun _=>⟨_,_,rfl,x0⟩,fun _=>⟨_,_,rfl,b2⟩,fun _=>⟨_,_,rfl,y0⟩,fun _=>⟨_,_,rfl,a2⟩,fun _=>⟨_,_,rfl,x1⟩,fun _=>⟨_,_,rfl,b2⟩,fun _=>⟨_,_,rfl,y1⟩,trivial⟩
         have HB5:=Lh (HBL.o.trans ((Vy.trans hb5).mono HBL.o.size));clear hb5;go_wp2_with fail;go_ret;exact⟨Kd (Zm HR.o.symm),by first | exact HB1.o.trans (HB5.o.mono HB1.o.size) | (rw[HSE.o];exact HB1.o.trans (HB5.o.mono HB1.o.size))⟩
       ·have hq:(l1 != l2)=true:=by simpa using bC
        have HR:=Lh (HNO.o (by intro e;injection e with e _;exact bC e));clear bC;go_wp2_with fail;refine Text.wp_grow [26] [1,5,7,11,15,19,21,25] [] (by kernel_rfl) (by kernel_rfl) ?_;refine Text.wpS_seg 26 _ _ _ _ (by decide) (fun Q' hQ'=>?_);simp only[Xta,Xtz];go_wp2_with fail
        try simp only[Yp,Xw,List.drop_zero]
        refine Text.wpS_one (fun Q' hQ'=>?_);go_wp2_with fail;refine⟨Xr _ _,?_⟩;refine Text.wpS_seg 2 _ _ _ _ (by decide) (fun Q' hQ'=>?_);simp only[Xta,Xtz];go_wp2_with fail;refine⟨by rfl,?_,?_⟩
        ·exact⟨fun _=>⟨_,_,rfl,a2⟩,fun _=>⟨_,_,rfl,x0⟩,fun _=>⟨_,_,rfl,b2⟩,fun _=>⟨_,_,rfl,y0⟩,Text.no_want rfl,Text.no_want rfl,Text.no_want rfl,Text.no_want rfl,trivial⟩
        go_wp2_with fail;go_ret;exact⟨Kd (Zm HR.o.symm),by first | exact HBW.o.drew | (rw[HSE.o];exact HBW.o.drew)⟩
      ·have HF7:=Lh (show g.2.2=h.2.2 by
        have:=HE.o
        rwa [Qd (by rw[<-HL.o.2.2.1];omega),Qd (by rw[<-HL.o.2.2.2.2.2];omega)] at this)
       have HR:=Lh (HEQ.o HF5.o HF6.o HF7.o);go_wp2_with fail;go_ret;exact⟨Kd (Zm HR.o.symm),by first | exact HB1.o.trans (HBL.o.mono HB1.o.size) | (rw[HSE.o];exact HB1.o.trans (HBL.o.mono HB1.o.size))⟩
   ·have hd:((n3:Int) != m3)=true:=by simpa using (show ¬ (n3:Int)=m3 by omega)
    have HR:=Lh (HNE.o (.inr (.inr fun e=>e3 (by rw[HL.o.2.2.1,HL.o.2.2.2.2.2,e]))));clear e3;subst e1 e2;go_enter Tryz.func21,Tryz.ntmps21;go_wp2_with fail;rw[<-hS];clear hS;generalize (w.alloc (.cells #[.slice A1 n1 c1,.slice A2 n2 c2,.slice A3 n3 c3] 25)).alloc (.cells #[.slice B1 n1 d1,.slice B2 n2 d2,.slice B3 m3 d3] 25)=w1 at *;go_ret;exact⟨Kd (Zm HR.o.symm),by first | exact HB1.o | (rw[HSE.o];exact HB1.o)⟩
  ·have hd:((n2:Int) != m2)=true:=by simpa using (show ¬ (n2:Int)=m2 by omega)
   have HR:=Lh (HNE.o (.inr (.inl fun e=>e2 (by rw[HL.o.2.1,HL.o.2.2.2.2.1,e]))));clear e2;subst e1;go_enter Tryz.func21,Tryz.ntmps21;go_wp2_with fail;rw[<-hS];clear hS;generalize (w.alloc (.cells #[.slice A1 n1 c1,.slice A2 n2 c2,.slice A3 n3 c3] 25)).alloc (.cells #[.slice B1 n1 d1,.slice B2 m2 d2,.slice B3 m3 d3] 25)=w1 at *;go_ret;exact⟨Kd (Zm HR.o.symm),by first | exact HB1.o | (rw[HSE.o];exact HB1.o)⟩
 ·have hd:((n1:Int) != m1)=true:=by simpa using (show ¬ (n1:Int)=m1 by omega)
  have HR:=Lh (HNE.o (.inl fun e=>e1 (by rw[HL.o.1,HL.o.2.2.2.1,e])));clear e1;go_enter Tryz.func21,Tryz.ntmps21;go_wp2_with fail;rw[<-hS];clear hS;generalize (w.alloc (.cells #[.slice A1 n1 c1,.slice A2 n2 c2,.slice A3 n3 c3] 25)).alloc (.cells #[.slice B1 m1 d1,.slice B2 m2 d2,.slice B3 m3 d3] 25)=w1 at *;go_ret;exact⟨Kd (Zm HR.o.symm),by first | exact HB1.o | (rw[HSE.o];exact HB1.o)⟩
theorem wV(v1 v2 v3 vr vm u1 u2 u3 ur um:Value)(v u:Nu)(w:World)(hv:Sx w w.heap.size v1 v2 v3 vr vm v)(hu:Sx w w.heap.size u1 u2 u3 ur um u) :
  Calls Tryz.prog 10 #[Hv v1 v2 v3 vr vm v.2.1,Hv u1 u2 u3 ur um u.2.1] w fun e w'=>e=.returned (.bool (decide (v=u)))/\Below w.heap.size w w':=by
 obtain⟨A1,A2,A3,A4,A5,c1,c2,c3,c4,c5,rfl,rfl,rfl,rfl,rfl⟩:=hv.form;obtain⟨B1,B2,B3,B4,B5,d1,d2,d3,d4,d5,rfl,rfl,rfl,rfl,rfl⟩:=hu.form;have HV:=Lh hv;have HU:=Lh hu;obtain⟨S,hS⟩:=Xe w.heap.size;have HG:=Lh (fun(W:World)(hb:Below w.heap.size w W)=>tZ _ _ _ _ _ _ v.1 u.1 W (HV.o.fut hb (Xz _) hb.size).gram (HU.o.fut hb (Xz _) hb.size).gram);have HR:=Lh (fun(W:World)(hb:Below w.heap.size w W)=>rT _ _ v.2.2.1 u.2.2.1 W (HV.o.fut hb (Xz _) hb.size).rows (HU.o.fut hb (Xz _) hb.size).rows);have HM:=Lh (fun(W:World)(hb:Below w.heap.size w W)=>pF _ _ v.2.2.2 u.2.2.2 W (HV.o.fut hb (Xz _) hb.size).machs (HU.o.fut hb (Xz _) hb.size).machs);have HNE:=Lh (fun h=>qjZ (v:=v) (u:=u) h);have HEQ:=Lh (fun a b c=>qkA (v:=v) (u:=u) a b c);clear hv hu HV HU;unfold Hv;generalize v.1.1.length=n1 at *;generalize v.1.2.1.length=n2 at *;generalize v.1.2.2.length=n3 at *;generalize v.2.2.1.length=n4 at *;generalize v.2.2.2.length=n5 at *;generalize u.1.1.length=m1 at *;generalize u.1.2.1.length=m2 at *;generalize u.1.2.2.length=m3 at *;generalize u.2.2.1.length=m4 at *;generalize u.2.2.2.length=m5 at *;obtain⟨k,hk⟩:=Xe v.2.1;obtain⟨j,hj⟩:=Xe u.2.1;rw[<-hk,<-hj];have HKJ:=Lt (k=v.2.1/\j=u.2.1) (⟨hk,hj⟩);clear hk hj;have HB1:=Lt (Below w.heap.size w ((w.alloc (.cells #[.slice A1 n1 c1,.slice A2 n2 c2,.slice A3 n3 c3,.int .i64 k,.slice A4 n4 c4,.slice A5 n5 c5] 31)).alloc (.cells #[.slice B1 m1 d1,.slice B2 m2 d2,.slice B3 m3 d3,.int .i64 j,.slice B4 m4 d4,.slice B5 m5 d5] 31))) (((Xr _ _).alloc (Xz _) _).alloc (by rw[Xs];omega) _);have Tt:=Lh (Go.heap_alloc2_old w (.cells #[.slice A1 n1 c1,.slice A2 n2 c2,.slice A3 n3 c3,.int .i64 k,.slice A4 n4 c4,.slice A5 n5 c5] 31) (.cells #[.slice B1 m1 d1,.slice B2 m2 d2,.slice B3 m3 d3,.int .i64 j,.slice B4 m4 d4,.slice B5 m5 d5] 31));have iC:=Lh (Go.heap_alloc2_new w (.cells #[.slice A1 n1 c1,.slice A2 n2 c2,.slice A3 n3 c3,.int .i64 k,.slice A4 n4 c4,.slice A5 n5 c5] 31) (.cells #[.slice B1 m1 d1,.slice B2 m2 d2,.slice B3 m3 d3,.int .i64 j,.slice B4 m4 d4,.slice B5 m5 d5] 31));rw[<-hS] at Tt iC;by_cases e0:k=j
 ·have g0:(k==j)=true:=by simp[e0]
  have HE0:=Lt (v.2.1=u.2.1) (HKJ.o.1.symm.trans (e0.trans HKJ.o.2));clear e0;by_cases e1:v.1=u.1
  ·simp only[Yt e1] at HG;have HE1:=Lh e1;clear e1;by_cases e2:v.2.2.1=u.2.2.1
   ·simp only[Yt e2] at HR;have Kl:=Lh (HEQ.o HE1.o HE0.o e2);clear e2;go_enter Tryz.func10,Tryz.ntmps10;go_wp2_with (refine Jc (some 5) rfl ?_);rw[<-hS];clear hS;refine Stop.go ?_;generalize (w.alloc (.cells #[.slice A1 n1 c1,.slice A2 n2 c2,.slice A3 n3 c3,.int .i64 k,.slice A4 n4 c4,.slice A5 n5 c5] 31)).alloc (.cells #[.slice B1 m1 d1,.slice B2 m2 d2,.slice B3 m3 d3,.int .i64 j,.slice B4 m4 d4,.slice B5 m5 d5] 31)=w1 at *;obtain⟨a0,a1,a2,a3,a4,a5⟩:=Zl Tt.o;obtain⟨b0,b1,b2,b3,b4,b5⟩:=Zl iC.o;go_wp2_with fail;refine (HG.o w1 HB1.o).mono ?_;rintro e w2 ⟨rfl,hb⟩;have HB2:=Lh (HB1.o.trans (hb.mono HB1.o.size));have aG:=Lh ((hb.block S (gl Tt.o)).trans Tt.o);have HU2:=Lh ((hb.block (S+1) (gl iC.o)).trans iC.o);clear hb a0 a1 a2 a3 a4 a5 b0 b1 b2 b3 b4 b5;obtain⟨a0,a1,a2,a3,a4,a5⟩:=Zl aG.o;obtain⟨b0,b1,b2,b3,b4,b5⟩:=Zl HU2.o;go_wp2_with fail;refine (HR.o w2 HB2.o).mono ?_;rintro e w3 ⟨rfl,hb⟩;have HB3:=Lh (HB2.o.trans (hb.mono HB2.o.size));have vV:=Lh ((hb.block S (gl aG.o)).trans aG.o);have HU3:=Lh ((hb.block (S+1) (gl HU2.o)).trans HU2.o);clear hb a0 a1 a2 a3 a4 a5 b0 b1 b2 b3 b4 b5;obtain⟨a0,a1,a2,a3,a4,a5⟩:=Zl vV.o;obtain⟨b0,b1,b2,b3,b4,b5⟩:=Zl HU3.o;go_wp2_with fail;refine (HM.o w3 HB3.o).mono ?_;rintro e w4 ⟨rfl,hb⟩;have HB4:=Lh (HB3.o.trans (hb.mono HB3.o.size));go_wp2_with fail;go_ret;exact⟨Kd (Zm Kl.o.symm),HB4.o⟩
   ·simp only[Yu e2] at HR;have Kl:=Lh (HNE.o (.inr (.inr e2)));clear e2;go_enter Tryz.func10,Tryz.ntmps10;go_wp2_with (refine Jc (some 5) rfl ?_);rw[<-hS];clear hS;refine Stop.go ?_;generalize (w.alloc (.cells #[.slice A1 n1 c1,.slice A2 n2 c2,.slice A3 n3 c3,.int .i64 k,.slice A4 n4 c4,.slice A5 n5 c5] 31)).alloc (.cells #[.slice B1 m1 d1,.slice B2 m2 d2,.slice B3 m3 d3,.int .i64 j,.slice B4 m4 d4,.slice B5 m5 d5] 31)=w1 at *;obtain⟨a0,a1,a2,a3,a4,a5⟩:=Zl Tt.o;obtain⟨b0,b1,b2,b3,b4,b5⟩:=Zl iC.o;go_wp2_with fail;refine (HG.o w1 HB1.o).mono ?_;rintro e w2 ⟨rfl,hb⟩;have HB2:=Lh (HB1.o.trans (hb.mono HB1.o.size));have aG:=Lh ((hb.block S (gl Tt.o)).trans Tt.o);have HU2:=Lh ((hb.block (S+1) (gl iC.o)).trans iC.o);clear hb a0 a1 a2 a3 a4 a5 b0 b1 b2 b3 b4 b5;obtain⟨a0,a1,a2,a3,a4,a5⟩:=Zl aG.o;obtain⟨b0,b1,b2,b3,b4,b5⟩:=Zl HU2.o;go_wp2_with fail;refine (HR.o w2 HB2.o).mono ?_;rintro e w3 ⟨rfl,hb⟩;have HB3:=Lh (HB2.o.trans (hb.mono HB2.o.size));have vV:=Lh ((hb.block S (gl aG.o)).trans aG.o);have HU3:=Lh ((hb.block (S+1) (gl HU2.o)).trans HU2.o);clear hb a0 a1 a2 a3 a4 a5 b0 b1 b2 b3 b4 b5;obtain⟨a0,a1,a2,a3,a4,a5⟩:=Zl vV.o;obtain⟨b0,b1,b2,b3,b4,b5⟩:=Zl HU3.o;go_wp2_with fail;go_ret;exact⟨Kd (Zm Kl.o.symm),HB3.o⟩
  ·simp only[Yu e1] at HG;have Kl:=Lh (HNE.o (.inl e1));clear e1;go_enter Tryz.func10,Tryz.ntmps10;go_wp2_with (refine Jc (some 5) rfl ?_);rw[<-hS];clear hS;refine Stop.go ?_;generalize (w.alloc (.cells #[.slice A1 n1 c1,.slice A2 n2 c2,.slice A3 n3 c3,.int .i64 k,.slice A4 n4 c4,.slice A5 n5 c5] 31)).alloc (.cells #[.slice B1 m1 d1,.slice B2 m2 d2,.slice B3 m3 d3,.int .i64 j,.slice B4 m4 d4,.slice B5 m5 d5] 31)=w1 at *;obtain⟨a0,a1,a2,a3,a4,a5⟩:=Zl Tt.o;obtain⟨b0,b1,b2,b3,b4,b5⟩:=Zl iC.o;go_wp2_with fail;refine (HG.o w1 HB1.o).mono ?_;rintro e w2 ⟨rfl,hb⟩;have HB2:=Lh (HB1.o.trans (hb.mono HB1.o.size));have aG:=Lh ((hb.block S (gl Tt.o)).trans Tt.o);have HU2:=Lh ((hb.block (S+1) (gl iC.o)).trans iC.o);clear hb a0 a1 a2 a3 a4 a5 b0 b1 b2 b3 b4 b5;obtain⟨a0,a1,a2,a3,a4,a5⟩:=Zl aG.o;obtain⟨b0,b1,b2,b3,b4,b5⟩:=Zl HU2.o;go_wp2_with fail;go_ret;exact⟨Kd (Zm Kl.o.symm),HB2.o⟩
 ·have g0:(k==j)=false:=by simp[e0]
  have Kl:=Lh (HNE.o (.inr (.inl (fun e=>e0 (HKJ.o.1.trans (e.trans HKJ.o.2.symm))))));clear e0;go_enter Tryz.func10,Tryz.ntmps10;go_wp2_with (refine Jc (some 5) rfl ?_);rw[<-hS];clear hS;refine Stop.go ?_;generalize (w.alloc (.cells #[.slice A1 n1 c1,.slice A2 n2 c2,.slice A3 n3 c3,.int .i64 k,.slice A4 n4 c4,.slice A5 n5 c5] 31)).alloc (.cells #[.slice B1 m1 d1,.slice B2 m2 d2,.slice B3 m3 d3,.int .i64 j,.slice B4 m4 d4,.slice B5 m5 d5] 31)=w1 at *;obtain⟨a0,a1,a2,a3,a4,a5⟩:=Zl Tt.o;obtain⟨b0,b1,b2,b3,b4,b5⟩:=Zl iC.o;go_wp2_with fail;go_ret;exact⟨Kd (Zm Kl.o.symm),HB1.o⟩
def qxC(ns ts:List ByteArray)(rs:List (Int×List Int))(w:World)(e:Ending)(w':World):Prop:=∃ z:Int,e=.returned (.int .i64 z)/\(z=0\/(z=1/\ns.length<=12/\ts.length<=12/\rs.length<=40))/\Below w.heap.size w w'
theorem qhJ(v1 v2 v3:Value)(ns ts:List ByteArray)(rs:List (Int×List Int))(w:World)(h1:Jb Mc w w.heap.size v1 ns)(h2:Jb Mc w w.heap.size v2 ts)(h3:Jb Kx w w.heap.size v3 rs) :
  Calls Tryz.prog 7 #[.agg #[v1,v2,v3]] w (qxC ns ts rs w):=by
 obtain⟨A1,c1,rfl,hc1,gC⟩:=h1.form;obtain⟨A2,c2,rfl,hc2,qnZ⟩:=h2.form;obtain⟨A3,c3,rfl,hc3,zbE⟩:=h3.form;unfold maxLen at gC qnZ zbE;by_cases hgood:ns.length<=12/\ts.length<=12/\rs.length<=40
 case neg =>
  have eN:12<ns.length\/(ns.length<=12/\12<ts.length)\/(ns.length<=12/\ts.length<=12/\40<rs.length):=by omega
  rcases eN with h | ⟨h0,h⟩ | ⟨h0,h0',h⟩
  all_goals
   go_enter Tryz.func7,Tryz.ntmps7;go_wp2_with fail
   all_goals first
    |(exfalso;omega)
    |(go_ret;exact⟨0,rfl,.inl rfl,by go_grown⟩)
 obtain⟨g1,g2,g3⟩:=hgood;go_enter Tryz.func7,Tryz.ntmps7;go_wp2_with fail
 all_goals first
  |(exfalso;omega)
  |skip
 have HW:=Lt (Below w.heap.size w (w.alloc (Obj.cells #[Value.slice A1 ns.length c1,Value.slice A2 ts.length c2,Value.slice A3 rs.length c3] 25))) ((Xr _ _).alloc (Xz _) _);have HS:Hid ((w.alloc (Obj.cells #[Value.slice A1 ns.length c1,Value.slice A2 ts.length c2,Value.slice A3 rs.length c3] 25)).heap.size=w.heap.size+1):=by show _=_;simp
 have k0:(w.alloc (Obj.cells #[Value.slice A1 ns.length c1,Value.slice A2 ts.length c2,Value.slice A3 rs.length c3] 25)).cell? ⟨w.heap.size,0,none⟩=some (Value.slice A1 ns.length c1):=by simp
 have k1:(w.alloc (Obj.cells #[Value.slice A1 ns.length c1,Value.slice A2 ts.length c2,Value.slice A3 rs.length c3] 25)).cell? ⟨w.heap.size,1,none⟩=some (Value.slice A2 ts.length c2):=by simp
 have k2:(w.alloc (Obj.cells #[Value.slice A1 ns.length c1,Value.slice A2 ts.length c2,Value.slice A3 rs.length c3] 25)).cell? ⟨w.heap.size,2,none⟩=some (Value.slice A3 rs.length c3):=by simp
 generalize w.alloc (Obj.cells #[Value.slice A1 ns.length c1,Value.slice A2 ts.length c2,Value.slice A3 rs.length c3] 25)=W at HW HS k0 k1 k2 |-;have h1W:=h1.below HW.o;have h2W:=h2.below HW.o;have h3W:=h3.below HW.o;clear h1 h2 h3;go_loop [3] (fun v=>∃ k:Nat,k<=rs.length/\v=.int .i64 k) (fun v=>rs.length - (intOf v).toNat);exact⟨0,by omega,rfl⟩;obtain⟨k,hk,rfl⟩:=hrel;by_cases Jo:k<rs.length
 ·obtain⟨ab,ao,cs,rfl,_,Aj,Zt,Zj⟩:=h3W.get Jo (by decide);obtain⟨u,rfl,hu,Sr,Fn⟩:=Jv Zt;obtain⟨A4,e4,rfl,hq1,tt⟩:=hu.form;unfold maxLen at tt;have gC:=Zj 1 _ rfl;clear Zj;simp only[show Kx.size=2 from rfl,<-Yv] at gC;go_wp2_with fail
  ·go_ret;exact⟨0,rfl,.inl rfl,HW.o⟩
  ·go_round;exact⟨k+1,by omega,by go_num⟩;simp[intOf];omega
 go_wp2_with fail;go_loop [4] (fun v=>∃ j:Nat,j<=ns.length/\v=.int .i64 j) (fun v=>ns.length - (intOf v).toNat);exact⟨0,by omega,rfl⟩;obtain⟨j,hj,rfl⟩:=hrel;by_cases hlj:j<ns.length
 ·obtain⟨ab,ao,cs,rfl,_,Aj,Zt,Zj⟩:=h1W.get hlj (by decide);obtain⟨rfl,Ta⟩:=Zt;unfold maxLen at Ta;have Vi:=Zj 0 _ rfl;clear Zj;simp only[show Mc.size=1 from rfl,Yq,Yo] at Vi;go_wp2_with fail
  ·go_ret;exact⟨0,rfl,.inl rfl,HW.o⟩
  ·go_round;exact⟨j+1,by omega,by go_num⟩;simp[intOf];omega
 go_wp2_with fail;go_loop [5] (fun v=>∃ i:Nat,i<=ts.length/\v=.int .i64 i) (fun v=>ts.length - (intOf v).toNat);exact⟨0,by omega,rfl⟩;obtain⟨i,hi,rfl⟩:=hrel;by_cases hli:i<ts.length
 ·obtain⟨ab,ao,cs,rfl,_,Aj,Zt,Zj⟩:=h2W.get hli (by decide);obtain⟨rfl,Ta⟩:=Zt;unfold maxLen at Ta;have Vi:=Zj 0 _ rfl;clear Zj;simp only[show Mc.size=1 from rfl,Yq,Yo] at Vi;go_wp2_with fail
  ·go_ret;exact⟨0,rfl,.inl rfl,HW.o⟩
  ·go_round;exact⟨i+1,by omega,by go_num⟩;simp[intOf];omega
 go_wp2_with fail;go_ret;exact⟨1,rfl,.inr ⟨rfl,g1,g2,g3⟩,HW.o⟩
def sz(w:World)(P:List Bool)(e:Ending)(w':World):Prop:=∃ g,e=.returned (.slice (some ⟨g,0,none⟩) P.length P.length)/\w'.heap[g]? = some (.cells (Km P).toArray 4 (0,0))/\w.heap.size<=g/\Below w.heap.size w w'
def Df(P:List Bool)(s:Int):Bool:=decide (s<0)||P.getD s.toNat false
theorem ey{P:List Bool}{r:Int×List Int}(h:r.2.all (Df P)=true):Jm P r=P.set r.1.toNat true:=by
 unfold Jm;exact if_pos h
theorem nk{P:List Bool}{r:Int×List Int}(h:r.2.all (Df P)=false):Jm P r=P:=by
 unfold Jm;exact if_neg (by rw[show (r.2.all fun s=>decide (s<0)||P.getD s.toNat false)=r.2.all (Df P) from rfl,h];simp)
theorem mU{α:Type}{p:α->Bool}{l:List α}{i:Nat}(h:i<l.length):(l.take (i+1)).all p=((l.take i).all p&&p l[i]):=by
 rw[Qc h,List.all_append];simp
theorem lC{A1 A2 A3:Option Addr}{n m q c1 c2 c3:Nat}{g:Jw}(w:World)(h:Wz w w.heap.size A1 A2 A3 n m q c1 c2 c3 g)(hv:Vu g=true) :
  Calls Tryz.prog 33 #[Nr A1 A2 A3 n m q c1 c2 c3] w (sz w (Jz g.2.2 n)):=by
 have Wu:=(Xr w.heap.size w).alloc (Xz _) (.cells #[.slice A1 n c1,.slice A2 m c2,.slice A3 q c3] 25);have HV:=Lh ((h.fut (B':=w.heap.size+1) Wu (Xz _) (by omega)).rules);have HK:=Lh (Xn w (.cells #[.slice A1 n c1,.slice A2 m c2,.slice A3 q c3] 25));have HBX:=Lh Wu;have Nj:=Lt (∀(w2:World),w2.heap[w.heap.size]? = some (.cells #[.slice A1 n c1,.slice A2 m c2,.slice A3 q c3] 25 (0,0))->w2.cell? ⟨w.heap.size,0,none⟩=some (.slice A1 n c1)/\w2.cell? ⟨w.heap.size,2,none⟩=some (.slice A3 q c3)) (fun w2 hk=>⟨Xc hk rfl,Xc hk rfl⟩);have hn1:1<=n:=by have:=(Ka hv).n1;have:=h.ln.1;omega
 have tu:n<=256:=by have:=(Ka hv).nm;have:=h.ln.1;omega
 have tt:q<=4096:=by have:=(Ka hv).q;have:=h.ln.2.2;omega
 have Az:=Lh (show ∀ r∈g.2.2,0<=r.1/\r.1<n/\r.2.length<=64/\∀ s∈r.2,s<(n:Int) from fun r hr=>by
  obtain⟨f1,f2,f3,f4⟩:=(Ka hv).fit r hr
  have:=h.ln.1
  exact⟨f1,by omega,f3,fun s hs=>by have:=(f4 s hs).1;omega⟩)
 have HQ:=Lh h.ln.2.2;obtain⟨ns,ts,rs⟩:=g;simp only at HV Az HQ |-;clear h hv Wu;obtain⟨Sz,dO⟩:=Xe (Jz rs n);rw[<-dO];have HTOT:=Lt (Sz=Kq Jm rs (n+1) (List.replicate n false)) (dO);clear dO;have bA:=mP n (by omega) (w.alloc (.cells #[.slice A1 n c1,.slice A2 m c2,.slice A3 q c3] 25));rw[Xs] at bA;have HK2:=Lh (Xn (w.alloc (.cells #[.slice A1 n c1,.slice A2 m c2,.slice A3 q c3] 25)) (.cells (List.replicate n (Value.bool false)).toArray 4));rw[Xs] at HK2;have HB2:=Lh ((Xr (w.heap.size+1) (w.alloc (.cells #[.slice A1 n c1,.slice A2 m c2,.slice A3 q c3] 25))).alloc (Yh (Xs _ _).symm) (.cells (List.replicate n (Value.bool false)).toArray 4));have HZ2:=Lh (Xs (w.alloc (.cells #[.slice A1 n c1,.slice A2 m c2,.slice A3 q c3] 25)) (.cells (List.replicate n (Value.bool false)).toArray 4));obtain⟨w2,xS⟩:=Xe ((w.alloc (.cells #[.slice A1 n c1,.slice A2 m c2,.slice A3 q c3] 25)).alloc (.cells (List.replicate n (Value.bool false)).toArray 4));rw[<-xS] at bA HK2 HB2 HZ2;clear xS;go_enter Tryz.func33,Tryz.ntmps33;go_wp2_with fail;generalize w.alloc (.cells #[.slice A1 n c1,.slice A2 m c2,.slice A3 q c3] 25)=w1 at *;have HR2:=Lh (show w2.heap[w.heap.size+1]? = some (.cells (Km (List.replicate n false)).toArray 4 (0,0)) by rw[HK2.o];simp[Km]);clear bA HK2;go_loopg [4] (n+1) (fun left v4 wr=>∃(i:Nat)(S:List Bool),i<=n+1/\n+1 - i<=left/\v4=.int .i64 i/\Hid (Sz=Kq Jm rs (n+1 - i) S)/\Hid (S.length=n)/\Hid (wr.heap[w.heap.size+1]? = some (.cells (Km S).toArray 4 (0,0)))/\Hid (Below (w.heap.size+1) w1 wr));exact⟨0,List.replicate n false,by omega,by omega,rfl,HTOT.o,Qr,HR2.o,HB2.o⟩;clear HR2 HB2;obtain⟨i,S,hi,Vt,rfl,HT,HSL,HR,HB⟩:=hrel;obtain⟨gas,Ue⟩:=Xe gk;rw[<-Ue] at Vt;have HGK:=Lh Ue;clear Ue;generalize wr=wo at *;obtain⟨a0,a2⟩:=Nj.o wo ((HB.o.block w.heap.size (by omega)).trans HK.o);by_cases Jo:i<n+1
 ·have HT2:=Lh (show Sz=Kq Jm rs (n - i) (rs.foldl Jm S) by rw[HT.o,show n+1 - i=(n - i)+1 by omega];rfl);have hdi:decide ((i:Int)<=(n:Int))=true:=by rw[Yi];omega
  have hdn:decide (i<=n)=true:=by rw[Yi];omega
  clear HT;go_wp2_with fail;go_loopg [5] q (fun lf2 v5 wt=>∃(j:Nat)(T:List Bool),j<=q/\q - j<=lf2/\v5=.int .i64 j/\Hid (rs.foldl Jm S=(rs.drop j).foldl Jm T)/\Hid (T.length=n)/\Hid (wt.heap[w.heap.size+1]? = some (.cells (Km T).toArray 4 (0,0)))/\Hid (Below (w.heap.size+1) w1 wt));exact⟨0,S,by omega,by omega,rfl,rfl,HSL.o,HR.o,HB.o⟩;clear HR HB HSL a0 a2;obtain⟨j,T,hj,zaU,rfl,HF,HTL,HR,HB⟩:=hrel;obtain⟨qgZ,bD⟩:=Xe gk;rw[<-bD] at zaU;have HGK2:=Lh bD;clear bD;generalize wr=wp at *;obtain⟨a0,a2⟩:=Nj.o wp ((HB.o.block w.heap.size (by omega)).trans HK.o);by_cases be:j<q
  ·have Uh:j<rs.length:=by rw[<-HQ.o];exact be
   obtain⟨b,off,cs,rfl,-,cX,Zt,Zj⟩:=(HV.o.below HB.o).get (k:=j) Uh (by decide);obtain⟨v,rfl,Uv,Sr,Fn⟩:=Jv Zt;obtain⟨A5,c5,rfl,Tc,fY⟩:=Uv.form;have Vi:=Zj 0 _ rfl;have hc1:=Zj 1 _ rfl;simp only[show Kx.size=2 from rfl,Yo,<-Yv] at Vi hc1;have HF2:=Lh (show rs.foldl Jm S=(rs.drop (j+1)).foldl Jm (Jm T rs[j]) by rw[HF.o,gH Uh]);obtain⟨f1,f2,f3,f4⟩:=Az.o rs[j] (Qg Uh);obtain⟨r,hr⟩:=Xe (rs[j]);rw[<-hr] at Vi hc1 HF2 Uv Tc f1 f2 f3 f4;obtain⟨a,right⟩:=r;simp only at Vi hc1 Uv Tc f1 f2 f3 f4;obtain⟨at_,rfl⟩:∃ at_:Nat,a=(at_:Int):=⟨a.toNat,by omega⟩;obtain⟨p,hp⟩:=Xe right.length;rw[<-hp] at hc1 Uv Tc f3;have HP:=Lh hp;have yL:=Lh Uv;have HF4:=Lh f4;clear Zj Zt hr hp Uv Uh HF Sr Fn f4;go_wp2_with fail;go_loopg [7,6] p (fun lf3 v7 v6 wt=>∃(k:Nat),k<=p/\p - k<=lf3/\v7=.int .i64 k/\v6=.bool ((right.take k).all (Df T))/\wt=wp);exact⟨0,by omega,by omega,rfl,by simp,rfl⟩;obtain⟨k,hk,quP,rfl,rfl,rfl⟩:=hrel;by_cases hkp:k<p
   ·have Dl:k<right.length:=by rw[<-HP.o];exact hkp
    obtain⟨b4,o4,cs4,rfl,-,-,oG,Ti⟩:=yL.o.get (k:=k) Dl (by decide);obtain⟨rfl,Ta,Hn⟩:=oG;have tx:=Ti 0 _ rfl;simp only[show Vh.size=1 from rfl,Yq,Yo] at tx;have HT3:=Lh (mU (p:=Df T) Dl);have hsn:=HF4.o _ (Qg Dl);obtain⟨s,hs⟩:=Xe (right[k]);rw[<-hs] at tx HT3 hsn Ta Hn;obtain⟨bb,kO⟩:=Xe ((right.take k).all (Df T));rw[<-kO] at HT3 |-;clear Ti hs Dl kO;by_cases wI:s<0
    ·have hd:decide (0<=s)=false:=by simpa using wI
     have HE:=Lh (show (right.take (k+1)).all (Df T)=bb by rw[HT3.o];unfold Df;simp[wI]);go_wp2_with fail;go_roundg (gk - 1);exact⟨k+1,by omega,by omega,by go_num,by rw[HE.o],rfl⟩;omega
    ·have hd:decide (0<=s)=true:=by simp;omega
     obtain⟨t,rfl⟩:∃ t:Nat,s=(t:Int):=⟨s.toNat,by omega⟩;have htT:t<T.length:=by rw[HTL.o];omega
     have cT:=Wl HR.o htT;have kG:=Lh (show T.getD t false=T[t] by rw[Qb,Qa htT];rfl);obtain⟨bt,yB⟩:=Xe (T[t]);rw[<-yB] at cT kG;have htn:t<n:=by omega
     clear yB htT;cases bt with
     |true =>
      have HE:=Lh (show (right.take (k+1)).all (Df T)=bb by rw[HT3.o];unfold Df;rw[Yw,kG.o];simp);go_wp2_with fail;go_roundg (gk - 1);exact⟨k+1,by omega,by omega,by go_num,by rw[HE.o],rfl⟩;omega
     |false =>
      have HE:=Lh (show (right.take (k+1)).all (Df T)=false by rw[HT3.o];unfold Df;rw[Yw,kG.o];simp);go_wp2_with fail;go_roundg (gk - 1);exact⟨k+1,by omega,by omega,by go_num,by rw[HE.o],rfl⟩;omega
   ·have Hb:=Lh (show (right.take k).all (Df T)=right.all (Df T) by rw[Qd (by rw[<-HP.o];omega)]);rw[Hb.o];obtain⟨bb,kO⟩:=Xe (right.all (Df T));rw[<-kO];have HBB:=Lh kO;clear kO;cases bb with
    |true =>
     have ziY:at_<T.length:=by rw[HTL.o];omega
     have cT:=Wl HR.o ziY;have fT:wr.frozen? ⟨w.heap.size+1,at_,none⟩=false:=by simp[World.frozen?,HR.o]
     obtain⟨bt,yB⟩:=Xe (T[at_]);rw[<-yB] at cT;have HR3:=Lh (Rc HR.o (k:=at_) true);have HB3:=Lh (Below.setCell (p:=⟨w.heap.size+1,at_,none⟩) HB.o (Xz _) (.bool true));have HF3:=Lh (show rs.foldl Jm S=(rs.drop (j+1)).foldl Jm (T.set at_ true) by rw[HF2.o,ey (r:=((at_:Int),right)) HBB.o.symm,Yw]);have zbH:at_<n:=by omega
     clear yB ziY;go_wp2_with fail;go_roundg (qgZ - 1);exact⟨j+1,T.set at_ true,by omega,by omega,by go_num,HF3.o,by show _=_;rw[Qm];exact HTL.o,HR3.o,HB3.o⟩;have:=HGK2.o;omega
    |false =>
     have HF3:=Lh (show rs.foldl Jm S=(rs.drop (j+1)).foldl Jm T by rw[HF2.o,nk (r:=((at_:Int),right)) HBB.o.symm]);go_wp2_with fail;go_roundg (qgZ - 1);exact⟨j+1,T,by omega,by omega,by go_num,HF3.o,HTL.o,HR.o,HB.o⟩;have:=HGK2.o;omega
  ·have HT3:=Lh (show Sz=Kq Jm rs (n+1 - (i+1)) T by
    rw[HT2.o,HF.o,List.drop_eq_nil_of_le (by rw[<-HQ.o];omega),show n+1 - (i+1)=n - i by omega];rfl)
   go_wp2_with fail;go_roundg (gas - 1);exact⟨i+1,T,by omega,by omega,by go_num,HT3.o,HTL.o,HR.o,HB.o⟩;have:=HGK.o;omega
 ·have HE:=Lh (show Sz=S by rw[HT.o,show n+1 - i=0 by omega];rfl);have hdi:decide ((i:Int)<=(n:Int))=false:=by simp;omega
  go_wp2_with fail;go_ret;refine⟨w.heap.size+1,?_,?_,Yg _,HBX.o.trans (HB.o.mono (Yg _))⟩
  ·rw[HE.o,HSL.o];rfl
  ·rw[HE.o];exact HR.o
theorem xI{A1 A2 A3:Option Addr}{n m q c1 c2 c3:Nat}{g:Jw}(w:World)(h:Wz w w.heap.size A1 A2 A3 n m q c1 c2 c3 g)(hv:Vu g=true) :
  Calls Tryz.prog 34 #[Nr A1 A2 A3 n m q c1 c2 c3] w (sz w (Vk g.2.2 n)):=by
 have Wu:=(Xr w.heap.size w).alloc (Xz _) (.cells #[.slice A1 n c1,.slice A2 m c2,.slice A3 q c3] 25);have HV:=Lh ((h.fut (B':=w.heap.size+1) Wu (Xz _) (by omega)).rules);have HK:=Lh (Xn w (.cells #[.slice A1 n c1,.slice A2 m c2,.slice A3 q c3] 25));have HBX:=Lh Wu;have Nj:=Lt (∀(w2:World),w2.heap[w.heap.size]? = some (.cells #[.slice A1 n c1,.slice A2 m c2,.slice A3 q c3] 25 (0,0))->w2.cell? ⟨w.heap.size,0,none⟩=some (.slice A1 n c1)/\w2.cell? ⟨w.heap.size,2,none⟩=some (.slice A3 q c3)) (fun w2 hk=>⟨Xc hk rfl,Xc hk rfl⟩);have hn1:1<=n:=by have:=(Ka hv).n1;have:=h.ln.1;omega
 have tu:n<=256:=by have:=(Ka hv).nm;have:=h.ln.1;omega
 have tt:q<=4096:=by have:=(Ka hv).q;have:=h.ln.2.2;omega
 have Az:=Lh (show ∀ r∈g.2.2,0<=r.1/\r.1<n/\r.2.length<=64/\∀ s∈r.2,s<(n:Int) from fun r hr=>by
  obtain⟨f1,f2,f3,f4⟩:=(Ka hv).fit r hr
  have:=h.ln.1
  exact⟨f1,by omega,f3,fun s hs=>by have:=(f4 s hs).1;omega⟩)
 have HQ:=Lh h.ln.2.2;obtain⟨ns,ts,rs⟩:=g;simp only at HV Az HQ |-;clear h hv Wu;obtain⟨Sz,dO⟩:=Xe (Vk rs n);rw[<-dO];have HTOT:=Lt (Sz=Kq Kc rs (n+1) ((List.replicate n false).set 0 true)) (dO);clear dO;have bA:=mP n (by omega) (w.alloc (.cells #[.slice A1 n c1,.slice A2 m c2,.slice A3 q c3] 25));rw[Xs] at bA;have HK2:=Lh (Xn (w.alloc (.cells #[.slice A1 n c1,.slice A2 m c2,.slice A3 q c3] 25)) (.cells (List.replicate n (Value.bool false)).toArray 4));rw[Xs] at HK2;have HB2:=Lh ((Xr (w.heap.size+1) (w.alloc (.cells #[.slice A1 n c1,.slice A2 m c2,.slice A3 q c3] 25))).alloc (Yh (Xs _ _).symm) (.cells (List.replicate n (Value.bool false)).toArray 4));have HZ2:=Lh (Xs (w.alloc (.cells #[.slice A1 n c1,.slice A2 m c2,.slice A3 q c3] 25)) (.cells (List.replicate n (Value.bool false)).toArray 4));obtain⟨w2,xS⟩:=Xe ((w.alloc (.cells #[.slice A1 n c1,.slice A2 m c2,.slice A3 q c3] 25)).alloc (.cells (List.replicate n (Value.bool false)).toArray 4));rw[<-xS] at bA HK2 HB2 HZ2;clear xS;go_enter Tryz.func34,Tryz.ntmps34;have HR2:=Lh (show w2.heap[w.heap.size+1]? = some (.cells (Km (List.replicate n false)).toArray 4 (0,0)) by rw[HK2.o];simp[Km]);have c9:w2.cell? ⟨w.heap.size+1,0,none⟩=some (.bool false):=by
  rw[Wl HR2.o (by rw[Qr];exact hn1)];simp
 have f9:w2.frozen? ⟨w.heap.size+1,0,none⟩=false:=by simp[World.frozen?,HR2.o]
 have HR3:=Lh (Rc HR2.o (k:=0) true);have HB3:=Lh (Below.setCell (p:=⟨w.heap.size+1,0,none⟩) HB2.o (Xz _) (.bool true));clear HR2 HK2 HB2;go_wp2_with fail;generalize w.alloc (.cells #[.slice A1 n c1,.slice A2 m c2,.slice A3 q c3] 25)=w1 at *;clear bA c9 f9;go_loopg [4] (n+1) (fun left v4 wr=>∃(i:Nat)(S:List Bool),i<=n+1/\n+1 - i<=left/\v4=.int .i64 i/\Hid (Sz=Kq Kc rs (n+1 - i) S)/\Hid (S.length=n)/\Hid (wr.heap[w.heap.size+1]? = some (.cells (Km S).toArray 4 (0,0)))/\Hid (Below (w.heap.size+1) w1 wr));exact⟨0,(List.replicate n false).set 0 true,by omega,by omega,rfl,HTOT.o,by show _=_;rw[Qm,Qr],HR3.o,HB3.o⟩;clear HR3 HB3;obtain⟨i,S,hi,Vt,rfl,HT,HSL,HR,HB⟩:=hrel;obtain⟨gas,Ue⟩:=Xe gk;rw[<-Ue] at Vt;have HGK:=Lh Ue;clear Ue;generalize wr=wo at *;obtain⟨a0,a2⟩:=Nj.o wo ((HB.o.block w.heap.size (by omega)).trans HK.o);by_cases Jo:i<n+1
 ·have HT2:=Lh (show Sz=Kq Kc rs (n - i) (rs.foldl Kc S) by rw[HT.o,show n+1 - i=(n - i)+1 by omega];rfl);have hdi:decide ((i:Int)<=(n:Int))=true:=by rw[Yi];omega
  have hdn:decide (i<=n)=true:=by rw[Yi];omega
  clear HT;go_wp2_with fail;go_loopg [5] q (fun lf2 v5 wt=>∃(j:Nat)(T:List Bool),j<=q/\q - j<=lf2/\v5=.int .i64 j/\Hid (rs.foldl Kc S=(rs.drop j).foldl Kc T)/\Hid (T.length=n)/\Hid (wt.heap[w.heap.size+1]? = some (.cells (Km T).toArray 4 (0,0)))/\Hid (Below (w.heap.size+1) w1 wt));exact⟨0,S,by omega,by omega,rfl,rfl,HSL.o,HR.o,HB.o⟩;clear HR HB HSL a0 a2;obtain⟨j,T,hj,zaU,rfl,HF,HTL,HR,HB⟩:=hrel;obtain⟨qgZ,bD⟩:=Xe gk;rw[<-bD] at zaU;have HGK2:=Lh bD;clear bD;generalize wr=wp at *;obtain⟨a0,a2⟩:=Nj.o wp ((HB.o.block w.heap.size (by omega)).trans HK.o);by_cases be:j<q
  ·have Uh:j<rs.length:=by rw[<-HQ.o];exact be
   have HF2:=Lh (show rs.foldl Kc S=(rs.drop (j+1)).foldl Kc (rs[j].2.foldl (fun R s=>Zv R rs[j].1 s) T) by rw[HF.o,gH Uh];rfl);obtain⟨f1,f2,f3,f4⟩:=Az.o rs[j] (Qg Uh);have HRE:=Lh (show ∀ w':World,Below (w.heap.size+1) w1 w'->∃(b off:Nat)(A5:Option Addr)(c5:Nat),A3=some ⟨b,off,none⟩/\w'.cell? ⟨b,off+j*2,none⟩=some (.int .i64 rs[j].1)/\w'.cell? ⟨b,off+j*2+1,none⟩=some (.slice A5 rs[j].2.length c5)/\rs[j].2.length<=c5/\c5<=maxLen/\Jb Vh w' (w.heap.size+1) (.slice A5 rs[j].2.length c5) rs[j].2 from fun w' hb=>by
    obtain⟨b,off,cs,rfl,-,cX,Zt,Zj⟩:=(HV.o.below hb).get (k:=j) Uh (by decide)
    obtain⟨v,rfl,Uv,Sr,Fn⟩:=Jv Zt
    obtain⟨A5,c5,rfl,Tc,fY⟩:=Uv.form
    have Vi:=Zj 0 _ rfl
    have hc1:=Zj 1 _ rfl
    simp only[show Kx.size=2 from rfl,Yo,<-Yv] at Vi hc1
    exact⟨b,off,A5,c5,rfl,Vi,hc1,Tc,fY,Uv⟩)
   obtain⟨r,hr⟩:=Xe (rs[j]);rw[<-hr] at HF2 HRE f1 f2 f3 f4;obtain⟨a,right⟩:=r;simp only at HF2 HRE f1 f2 f3 f4;obtain⟨at_,rfl⟩:∃ at_:Nat,a=(at_:Int):=⟨a.toNat,by omega⟩;have zbH:at_<n:=by omega
   obtain⟨p,hp⟩:=Xe right.length;rw[<-hp] at HRE f3;have HP:=Lh hp;have HF4:=Lh f4;clear hr hp Uh HF f4 f1 f2;go_wp2_with fail;go_loopg [6] p (fun lf3 v6 wt=>∃(k:Nat)(U:List Bool),k<=p/\p - k<=lf3/\v6=.int .i64 k/\Hid (right.foldl (fun R s=>Zv R at_ s) T=(right.drop k).foldl (fun R s=>Zv R at_ s) U)/\Hid (U.length=n)/\Hid (wt.heap[w.heap.size+1]? = some (.cells (Km U).toArray 4 (0,0)))/\Hid (Below (w.heap.size+1) w1 wt));exact⟨0,T,by omega,by omega,rfl,rfl,HTL.o,HR.o,HB.o⟩;clear HR HB HTL a0 a2;obtain⟨k,U,hk,quP,rfl,HU,HUL,HR,HB⟩:=hrel;obtain⟨a0,a2⟩:=Nj.o wr ((HB.o.block w.heap.size (by omega)).trans HK.o);obtain⟨b,off,A5,c5,rfl,Vi,hc1,Tc,fY,Uv⟩:=HRE.o wr HB.o;by_cases hkp:k<p
   ·have Dl:k<right.length:=by rw[<-HP.o];exact hkp
    obtain⟨b4,o4,cs4,rfl,-,-,oG,Ti⟩:=Uv.get (k:=k) Dl (by decide);obtain⟨rfl,Ta,Hn⟩:=oG;have tx:=Ti 0 _ rfl;simp only[show Vh.size=1 from rfl,Yq,Yo] at tx;have HU2:=Lh (show right.foldl (fun R s=>Zv R at_ s) T=(right.drop (k+1)).foldl (fun R s=>Zv R at_ s) (Zv U at_ right[k]) by rw[HU.o,Ql Dl,List.foldl_cons]);have hsn:=HF4.o _ (Qg Dl);obtain⟨s,hs⟩:=Xe (right[k]);rw[<-hs] at tx HU2 hsn Ta Hn;have zbI:at_<U.length:=by rw[HUL.o];exact zbH
    have cK:=Wl HR.o zbI;have HKB:=Lh (show U.getD at_ false=U[at_] by rw[Qb,Qa zbI];rfl);obtain⟨bk,gD⟩:=Xe (U[at_]);rw[<-gD] at cK HKB;clear Ti hs Dl Uv gD zbI;by_cases wI:s<0
    ·have hd:decide (0<=s)=false:=by simpa using wI
     have HE:=Lh (show Zv U at_ s=U by unfold Zv;rw[if_neg (by simp;omega)]);rw[HE.o] at HU2;go_wp2_with fail;go_roundg (gk - 1);exact⟨k+1,U,by omega,by omega,by go_num,HU2.o,HUL.o,HR.o,HB.o⟩;omega
    ·have hd:decide (0<=s)=true:=by simp;omega
     obtain⟨t,rfl⟩:∃ t:Nat,s=(t:Int):=⟨s.toNat,by omega⟩;have htn:t<n:=by omega
     cases bk with
     |false =>
      have HE:=Lh (show Zv U at_ (t:Int)=U by unfold Zv;rw[Yw,HKB.o];simp);rw[HE.o] at HU2;go_wp2_with fail;go_roundg (gk - 1);exact⟨k+1,U,by omega,by omega,by go_num,HU2.o,HUL.o,HR.o,HB.o⟩;omega
     |true =>
      have HE:=Lh (show Zv U at_ (t:Int)=U.set t true by unfold Zv;rw[Yw,HKB.o];simp);rw[HE.o] at HU2;have htU:t<U.length:=by rw[HUL.o];exact htn
      have cT:=Wl HR.o htU;have fT:wr.frozen? ⟨w.heap.size+1,t,none⟩=false:=by simp[World.frozen?,HR.o]
      obtain⟨bt,yB⟩:=Xe (U[t]);rw[<-yB] at cT;have HR3:=Lh (Rc HR.o (k:=t) true);have HB3:=Lh (Below.setCell (p:=⟨w.heap.size+1,t,none⟩) HB.o (Xz _) (.bool true));clear yB htU;go_wp2_with fail;go_roundg (gk - 1);exact⟨k+1,U.set t true,by omega,by omega,by go_num,HU2.o,by show _=_;rw[Qm];exact HUL.o,HR3.o,HB3.o⟩;omega
   ·have HF3:=Lh (show rs.foldl Kc S=(rs.drop (j+1)).foldl Kc U by
     rw[HF2.o,HU.o,show right.drop k=[] from List.drop_eq_nil_of_le (by rw[<-HP.o];omega)];rfl)
    clear Uv;go_wp2_with fail;go_roundg (qgZ - 1);exact⟨j+1,U,by omega,by omega,by go_num,HF3.o,HUL.o,HR.o,HB.o⟩;have:=HGK2.o;omega
  ·have HT3:=Lh (show Sz=Kq Kc rs (n+1 - (i+1)) T by
    rw[HT2.o,HF.o,List.drop_eq_nil_of_le (by rw[<-HQ.o];omega),show n+1 - (i+1)=n - i by omega];rfl)
   go_wp2_with fail;go_roundg (gas - 1);exact⟨i+1,T,by omega,by omega,by go_num,HT3.o,HTL.o,HR.o,HB.o⟩;have:=HGK.o;omega
 ·have HE:=Lh (show Sz=S by rw[HT.o,show n+1 - i=0 by omega];rfl);have hdi:decide ((i:Int)<=(n:Int))=false:=by simp;omega
  go_wp2_with fail;go_ret;refine⟨w.heap.size+1,?_,?_,Yg _,HBX.o.trans (HB.o.mono (Yg _))⟩
  ·rw[HE.o,HSL.o];rfl
  ·rw[HE.o];exact HR.o
theorem ku(A:Option Addr)(n c:Nat)(rs:List (Int×List Int))(w:World)(hv:Jb Kx w w.heap.size (.slice A n c) rs) :
  Calls Tryz.prog 55 #[.slice A n c] w fun e w'=>e=.returned (.bool (decide (¬ rs.Nodup)))/\Below w.heap.size w w':=by
 have HV:=Lh hv;have hnc:=hv.n_le;have HN:=Lh hv.n_eq;clear hv;go_enter Tryz.func55,Tryz.ntmps55;go_wp2_with fail;go_loopg [3] n (fun left v3 wr=>∃ i:Nat,i<=n/\n - i<=left/\v3=.int .i64 i/\Hid ((rs.take i).Nodup)/\Hid (Below w.heap.size w wr));exact⟨0,by omega,by omega,rfl,by simp[Hid],Xr _ _⟩;obtain⟨i,hi,Vt,rfl,HND,HB⟩:=hrel;obtain⟨gas,Ue⟩:=Xe gk;rw[<-Ue] at Vt;have HGK:=Lh Ue;clear Ue;generalize wr=wo at *;by_cases Sb:i<n
 ·have Vq:i<rs.length:=by rw[<-HN.o];exact Sb
  go_wp2_with fail;go_loopg [4] i (fun fg v4 wt=>∃ j:Nat,j<=i/\i - j<=fg/\v4=.int .i64 j/\Hid (∀(l:Nat)(h:l<rs.length),l<j->rs[l]≠rs[i])/\Hid (Below w.heap.size w wt));exact⟨0,by omega,by omega,rfl,fun l h hl=>by omega,HB.o⟩;clear HB;obtain⟨j,hj,pv,rfl,HNO,HB⟩:=hrel;by_cases Td:j<i
  ·have Uh:j<rs.length:=by omega
   obtain⟨b1,o1,cs1,rfl,-,hb1,Eg,Kn⟩:=(HV.o.below HB.o).get Vq (by decide);obtain⟨v1,rfl,Hw,Sr,Fn⟩:=Jv Eg;have x0:=Kn 0 _ rfl;have x1:=Kn 1 _ rfl;simp only[show Kx.size=2 from rfl,Yo,<-Yv] at x0 x1;obtain⟨b2,o2,cs2,oL,-,Zy,Us,Je⟩:=(HV.o.below HB.o).get Uh (by decide);injection oL with oL;injection oL with e1 e2;subst e1 e2;obtain⟨v2,rfl,oF,hz3,hz4⟩:=Jv Us;have y0:=Je 0 _ rfl;have y1:=Je 1 _ rfl;simp only[show Kx.size=2 from rfl,Yo,<-Yv] at y0 y1;have Oj:=Lt (rs[j]=rs[i]↔rs[j].1=rs[i].1/\rs[j].2=rs[i].2) (Prod.ext_iff);obtain⟨A3,c3,rfl,h31,F_⟩:=Hw.form;obtain⟨A4,c4,rfl,ud,h42⟩:=oF.form;have hbs:=HB.o.size;have Ij:=Lh (fun w1 (hb:Below wr.heap.size wr w1)=>rU _ _ _ _ w1 (Hw.fut hb hbs (Ya hbs hb.size)) (oF.fut hb hbs (Ya hbs hb.size)));obtain⟨r,hr⟩:=Xe (rs[i]);obtain⟨s,hs⟩:=Xe (rs[j]);rw[<-hr] at x0 x1 Oj Ij;rw[<-hs] at y0 y1 Oj Ij;have HR:=Lh hr;have HS:=Lh hs;clear Hw oF Kn Je Eg Us hr hs Sr Fn hz3 hz4 h31 F_ ud h42;obtain⟨l1,r1⟩:=r;obtain⟨l2,r2⟩:=s;simp only at x0 x1 y0 y1;by_cases bC:l1=l2
   ·have hq:(l1==l2)=true:=by simp[bC]
    have HLL:=Lh bC;clear bC;go_wp2_with fail;refine Text.wp_grow [22] [4,9,16,21] [] (by kernel_rfl) (by kernel_rfl) ?_;refine Text.wpS_seg 22 _ _ _ _ (by decide) (fun Q' hQ'=>?_);simp only[Xta,Xtz];go_wp2_with fail
    try simp only[Yp,Xw,List.drop_zero]
    refine Text.wpS_one (fun Q' hQ'=>?_);go_wp2_with fail;refine (Ij.o _ Vy).mono ?_;rintro e w5 ⟨rfl,hb5⟩;go_wp2_with fail;refine⟨hb5,?_⟩;refine Text.wpS_seg 1 _ _ _ _ (by decide) (fun Q' hQ'=>?_);simp only[Xta,Xtz];go_wp2_with fail;refine⟨by rfl,?_,?_⟩
    ·exact⟨fun _=>⟨_,_,rfl,x0⟩,fun _=>⟨_,_,rfl,y0⟩,fun _=>⟨_,_,rfl,x1⟩,fun _=>⟨_,_,rfl,y1⟩,trivial⟩
    have HB5:=Lh (HB.o.trans ((Vy.trans hb5).mono hbs));clear hb5;by_cases kL:r1=r2
    ·have hd:decide (r1=r2)=true:=by simpa using kL
     have HX:=Lh (show ¬ rs.Nodup by
      intro Id
      rw[List.Nodup,List.pairwise_iff_getElem] at Id
      refine Id j i Uh Vq Td ?_
      rw[<-HR.o,<-HS.o,HLL.o,kL])
     go_wp2_with fail;go_ret;exact⟨Kd (Zm (by rw[eq_comm,Yi];exact HX.o)),HB5.o⟩
    ·have hd:decide (r1=r2)=false:=by simpa using kL
     have HX:=Lh (show rs[j]≠rs[i] by
      rw[<-HR.o,<-HS.o]
      intro e
      injection e with e1 e2
      exact kL e2.symm)
     go_wp2_with fail;go_roundg (gk - 1);exact⟨j+1,by omega,by omega,by go_num,fun l h hl=>by by_cases e:l=j;(subst e;exact HX.o);exact HNO.o l h (by omega),HB5.o⟩;omega
   ·have hq:(l1==l2)=false:=by simp[bC]
    have HX:=Lh (show rs[j]≠rs[i] by
     rw[<-HR.o,<-HS.o]
     intro e
     injection e with e1 e2
     exact bC e1.symm)
    clear bC;go_wp2_with fail;refine Text.wp_grow [22] [4,9,16,21] [] (by kernel_rfl) (by kernel_rfl) ?_;refine Text.wpS_seg 22 _ _ _ _ (by decide) (fun Q' hQ'=>?_);simp only[Xta,Xtz];go_wp2_with fail
    try simp only[Yp,Xw,List.drop_zero]
    refine Text.wpS_one (fun Q' hQ'=>?_);go_wp2_with fail;refine⟨Xr _ _,?_⟩;refine Text.wpS_seg 1 _ _ _ _ (by decide) (fun Q' hQ'=>?_);simp only[Xta,Xtz];go_wp2_with fail;refine⟨by rfl,?_,?_⟩
    ·exact⟨fun _=>⟨_,_,rfl,x0⟩,fun _=>⟨_,_,rfl,y0⟩,Text.no_want rfl,Text.no_want rfl,trivial⟩
    go_wp2_with fail;go_roundg (gk - 1);exact⟨j+1,by omega,by omega,by go_num,fun l h hl=>by by_cases e:l=j;(subst e;exact HX.o);exact HNO.o l h (by omega),HB.o.drew⟩;omega
  ·have HND2:=Lh (show (rs.take (i+1)).Nodup by
    refine (fS rs i Vq).2 ⟨HND.o,?_⟩
    rw[List.any_eq_false]
    intro x hx
    obtain⟨l,hl,rfl⟩:=Qz hx
    rw[List.getElem_take]
    rw[Qq] at hl
    simpa using HNO.o l (by omega) (by omega))
   go_wp2_with fail;go_roundg (gas - 1);exact⟨i+1,by omega,by omega,by go_num,HND2.o,HB.o⟩;have:=HGK.o;omega
 ·have HX:=Lh (show rs.Nodup by
   have:=HND.o
   rwa [Qd (by have:=HN.o;omega)] at this)
  go_wp2_with fail;go_ret;exact⟨Kd (Zm (by rw[eq_comm,Yj];exact fun h=>h HX.o)),HB.o⟩
end Go.Proofs.YtmaojnmnbpomeaaGreatDoor
