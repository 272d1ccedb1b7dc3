/- A part. -/
import Derived.Test.YtmaojnmnbpomeaaGreatDoorVN02
import Derived.Stop.BytesEq
import Derived.Laws.CopyOwn
import Derived.Sort.Grow
set_option maxRecDepth 100000
set_option maxHeartbeats 64000000
namespace Go.Proofs.YtmaojnmnbpomeaaGreatDoor
open Go.RowKit
variable{a:Act}{Q:Act->World->Prop}{cs cur:Array Value}{b:ByteArray}{fn:Func}{x y:List Int}{toks:List Kz}{vs:List Value}{ns ts:List Wd}{B c e g i j k m n off:Nat}{fr:Nat×Nat}{t:Nat×Wd×Nat}{p u:Tmp}{α:Type}{ty:TypeId}{Pr v:Value}{l r s:Wd}{w w':World}
theorem rf{ns:List ByteArray}{s:ByteArray}(h:(ns.any fun x=>decide (x=s))=false):s∉ns:=by
 intro hm;rw[<-Bool.not_eq_true,Xt]at h;exact h ⟨s,hm,by simp⟩
theorem lP(F:FuncId)(may:List UInt8->Bool)(v:Value)(ns:List ByteArray)(w:World)(hv:Je Mi w w.heap.size v ns)
  (hF:∀(args:Array Value)(w:World),(callFunc F args).run Tryz.prog w=.ok (.enter F args) w)
  (hp:∀(s:ByteArray)(w:World),s.size<=maxLen->Calls Tryz.prog F #[.string s] w fun e w'=>e=.returned (.bool (may s.data.toList))/\w=w') :
  Calls Tryz.prog 126 #[v,.func (.func F) #[] #[]] w fun e w'=>e=.returned (.bool (Dc may ns))/\Below w.heap.size w w':=by
 have su:=@run_makeMap Tryz.prog;have HP:=Lh hp;clear hp;obtain⟨A,c,rfl,Nj,Uw⟩:=hv.form;unfold maxLen at Uw;go_enter Tryz.func126,Tryz.ntmps126;go_wp2_with fail;go_loopw [11] (fun v11 wr=>∃k:Nat,k<=ns.length/\v11=.int .i64 k/\Hid ((∀s∈ns.take k,may s.data.toList=true)/\(ns.take k).Nodup)/\Mb Value.string wr w.heap.size (Ln (ns.take k))/\Below w.heap.size w wr) (fun v11 _=>ns.length-(intOf v11).toNat);exact⟨0,by omega,rfl,by simp[Hid],Mb.made w,by go_grown⟩;obtain⟨k,hk,rfl,hno,hmp,hbr⟩:=hrel;by_cases Jl:k<ns.length
 .obtain⟨ab,ao,cs,rfl,_,Bg,Ja,Zn⟩:=(hv.below hbr).get Jl (by decide);obtain⟨rfl,Lr⟩:=Ja;have Vn:=Zn 0 _ rfl;clear Zn;simp only[show Mi.size=1 from rfl,Ys,Yq]at Vn;have HX:=Lh Lr;have hsn:=Lh (iQ ns k Jl);have hon:=Lh (qs ns k Jl);have hlk:=hmp.lookup pN kC ns[k];rw[qbJ]at hlk;rcases Yo (may ns[k].data.toList)with hm|hm
  .have HM:=Lh hm;clear hm;rcases Yo ((ns.take k).any fun x=>decide (x=ns[k]))with oJ|oJ
   .rw[oJ,if_pos rfl]at hlk;have HA:=Lh oJ;clear oJ;simp only[Option.getD_some]at hlk;go_wp2_with fail;refine (HP.o ns[k] wr HX.o).mono ?_;rintro e w1 ⟨rfl,rfl⟩;rw[HM.o];go_wp2;go_ret;refine⟨Kw (Zw ?_),hbr⟩;rw[eq_comm,Dc,Bool.and_eq_false_iff];right;rw[Yl];intro Te;have h3:=hsn.o.1 (Te.sublist (List.take_sublist _ _));rw[HA.o]at h3;cases h3.2
   rw[oJ,if_neg (by decide)]at hlk;have HA:=Lh oJ;clear oJ;simp only[Option.getD_none]at hlk;go_wp2_with fail;refine (HP.o ns[k] wr HX.o).mono ?_;rintro e w1 ⟨rfl,rfl⟩;rw[HM.o];go_wp2_with (at_mapUpdate;refine Tj pN rfl rfl rfl rfl rfl hmp ?_;intro w2 qiK bP eR);have zuG:Mb Value.string w2 w.heap.size (Ln (ns.take (k+1))):=by rw[hon.o,<-ac _ _ _ (rf HA.o)];exact qiK
   go_wp2;go_roundw
   case rel =>
    refine⟨k+1,by omega,by go_num,⟨fun s hs=>?_,hsn.o.2 ⟨hno.o.2,HA.o⟩⟩,zuG,hbr.grown bP hbr.size (fun j hj=>by cases hj;exact Yb _)⟩;rw[Qc Jl,Qh,Qi]at hs;rcases hs with hs|rfl
    .exact hno.o.1 s hs
    exact HM.o
   case measure=>simp[intOf];omega
  have HM:=Lh hm;clear hm;go_wp2_with fail;refine (HP.o ns[k] wr HX.o).mono ?_;rintro e w1 ⟨rfl,rfl⟩;rw[HM.o];go_wp2;go_ret;refine⟨Kw (Zw ?_),hbr⟩;rw[eq_comm,Dc,Bool.and_eq_false_iff];left;rw[<-Bool.not_eq_true,Xq];intro h;have:=h _ (Qg Jl);rw[HM.o]at this;cases this
 go_wp2;go_ret;refine⟨Kw (Zw ?_),hbr⟩;have h:=hno.o;rw[Qd (by omega)]at h;rw[eq_comm,Dc,Ym,Xq,Yk];exact h
theorem Ji(s:Int)(w:World):Calls Tryz.prog 78 #[.int .i64 s] w fun e w'=>e=.returned (.bool (decide (s<0)))/\w=w':=by
 go_enter Tryz.func78,Tryz.ntmps78;go_wp2;go_ret;exact⟨rfl,rfl⟩
abbrev Kd:=List ByteArray×List ByteArray×List (Int×List Int)
def Ut(g:Kd):Bool:=decide (g.1.length≠0)&&decide (g.1.length+g.2.1.length<=256)&&decide (g.2.2.length<=4096)&&Dc Eu g.1&&Dc Fx g.2.1 &&
 g.2.2.all (Cv g.1.length g.2.1.length)&&(List.range g.1.length).all (fun i=>decide ((Lo g.2.2 i g.2.2.length).length≠0))&&decide g.2.2.Nodup
theorem Tp(v1 v2 v3:Value)(ns ts:List ByteArray)(rs:List (Int×List Int))(w:World)(Fb:ns.length+ts.length<=4611686018427387904)(h1:Je Mi w w.heap.size v1 ns)(h2:Je Mi w w.heap.size v2 ts)(h3:Je Vw w w.heap.size v3 rs) :
  Calls Tryz.prog 69 #[.agg #[v1,v2,v3]] w fun e w'=>e=.returned (.bool (Ut (ns,ts,rs)))/\Below w.heap.size w w':=by
 obtain⟨A1,c1,rfl,Nj,iX⟩:=h1.form;obtain⟨A2,c2,rfl,Uw,qqI⟩:=h2.form;obtain⟨A3,c3,rfl,hc3,zeN⟩:=h3.form;unfold maxLen at iX qqI zeN;have aV:ns.length=0\/(0<ns.length/\256<ns.length+ts.length)\/(0<ns.length/\ns.length+ts.length<=256/\4096<rs.length)\/(0<ns.length/\ns.length+ts.length<=256/\rs.length<=4096):=by omega
 by_cases hgood:0<ns.length/\ns.length+ts.length<=256/\rs.length<=4096
 case neg =>
  have HF:Hid (Ut (ns,ts,rs)=false):=by
   show _=_;rw[<-Bool.not_eq_true];intro h;simp only[Ut,Ym,Yk]at h;obtain⟨⟨⟨⟨⟨⟨⟨a1,a2⟩,a3⟩,_⟩,_⟩,_⟩,_⟩,_⟩:=h;exact hgood ⟨by omega,a2,a3⟩
  rcases aV with h|⟨h0,h⟩|⟨h0,h0',h⟩|h
  case inr.inr.inr=>exact absurd h hgood
  all_goals
   first
    |(have hz:((ns.length:Int)==0)=true:=by simp;exact Xx h)
    |(have hz:((ns.length:Int)==0)=false:=by simp;intro e;subst e;simp at h0)
   go_enter Tryz.func69,Tryz.ntmps69;go_wp2_with fail
   all_goals first
    |(exfalso;omega)
    |(go_ret;exact⟨Kw (Zw HF.o.symm),by go_grown⟩)
    |(exfalso;simp at*;omega)
 clear aV;obtain⟨g1,g2,g3⟩:=hgood;have hz:((ns.length:Int)==0)=false:=by simp;intro e;subst e;simp at g1
 have rZ:Hid (Ut (ns,ts,rs)=(Dc Eu ns&&Dc Fx ts&&rs.all (Cv ns.length ts.length)&&(List.range ns.length).all (fun i=>decide ((Lo rs i rs.length).length≠0))&&decide rs.Nodup)):=by
  show _=_;unfold Ut;simp only[show decide (ns.length+ts.length<=256)=true by simpa using g2,show decide (rs.length<=4096)=true by simpa using g3,show decide (ns.length≠0)=true from Yw (by omega),Bool.true_and]
 have sj:((ns.length:Int)+ts.length)<=256:=by omega
 have hrl:((rs.length:Int))<=4096:=by omega
 go_enter Tryz.func69,Tryz.ntmps69;go_wp2_with fail;have HW:Hid (Below w.heap.size w (w.alloc (Obj.cells #[Value.slice A1 ns.length c1,Value.slice A2 ts.length c2,Value.slice A3 rs.length c3] 25))):=(Xr _ _).alloc (Yb _) _;have HS:Hid ((w.alloc (Obj.cells #[Value.slice A1 ns.length c1,Value.slice A2 ts.length c2,Value.slice A3 rs.length c3] 25)).heap.size=w.heap.size+1):=by show _=_;simp
 have k0:(w.alloc (Obj.cells #[Value.slice A1 ns.length c1,Value.slice A2 ts.length c2,Value.slice A3 rs.length c3] 25)).cell? ⟨w.heap.size,0,none⟩=some (Value.slice A1 ns.length c1):=by simp
 have k1:(w.alloc (Obj.cells #[Value.slice A1 ns.length c1,Value.slice A2 ts.length c2,Value.slice A3 rs.length c3] 25)).cell? ⟨w.heap.size,1,none⟩=some (Value.slice A2 ts.length c2):=by simp
 have k2:(w.alloc (Obj.cells #[Value.slice A1 ns.length c1,Value.slice A2 ts.length c2,Value.slice A3 rs.length c3] 25)).cell? ⟨w.heap.size,2,none⟩=some (Value.slice A3 rs.length c3):=by simp
 generalize w.alloc (Obj.cells #[Value.slice A1 ns.length c1,Value.slice A2 ts.length c2,Value.slice A3 rs.length c3] 25)=W at HW HS k0 k1 k2 |-;have h1W:=h1.next HW.o (B':=W.heap.size) (by rw[HS.o];omega);refine (lP 127 Eu _ ns W h1W (fun _ _=>by kernel_rfl) (fun s w hs=>i_ s w hs)).mono ?_;rintro e w1 ⟨rfl,hb1⟩;have hws:=HS.o;have hW1:Below (w.heap.size+1) W w1:=hb1.mono (by omega);rcases Yo (Dc Eu ns)with mW|mW
 case inr =>
  have HD:=Lh mW;rw[mW];go_wp2;go_ret;exact⟨Kw (Zw (by rw[rZ.o,HD.o];rfl)),HW.o.trans (hb1.mono (by omega))⟩
 have HD1:=Lh mW;rw[mW];clear mW;have k1':=(hW1.cell (p:=⟨w.heap.size,1,none⟩) (Yf _)).trans k1;go_wp2_with fail;have Gc:=hb1.size;refine (lP 128 Fx _ ts w1 (h2.next (HW.o.trans (hb1.mono (by omega))) (by omega)) (fun _ _=>by kernel_rfl) (fun s w hs=>f_ s w hs)).mono ?_;rintro e w2 ⟨rfl,Jd⟩;have hW2:Below (w.heap.size+1) W w2:=hW1.trans (Jd.mono (by omega));rcases Yo (Dc Fx ts)with mV|mV
 case inr =>
  have HD:=Lh mV;rw[mV];go_wp2;go_ret;exact⟨Kw (Zw (by rw[rZ.o,HD.o];simp)),HW.o.trans (hW2.mono (by omega))⟩
 have HD2:=Lh mV;rw[mV];clear mV;have k2':=(hW2.cell (p:=⟨w.heap.size,2,none⟩) (Yf _)).trans k2;go_wp2_with fail;go_loopw [39] (fun v39 wr=>∃k:Nat,k<=rs.length/\v39=.int .i64 k/\Hid ((rs.take k).all (Cv ns.length ts.length)=true)/\Below (w.heap.size+1) W wr) (fun v39 _=>rs.length-(intOf v39).toNat);exact⟨0,by omega,rfl,by simp[Hid],hW2⟩;obtain⟨k,hk,rfl,hno,hbr⟩:=hrel;have kf:=HW.o.trans (hbr.mono (Yi _));have r0:=(hbr.cell (p:=⟨w.heap.size,0,none⟩) (Yf _)).trans k0;have r1:=(hbr.cell (p:=⟨w.heap.size,1,none⟩) (Yf _)).trans k1;have r2:=(hbr.cell (p:=⟨w.heap.size,2,none⟩) (Yf _)).trans k2;by_cases Jl:k<rs.length
 .obtain⟨ab,ao,cs,rfl,_,Bg,Ja,Zn⟩:=(h3.below kf).get Jl (by decide);obtain⟨u,rfl,hu,Ik,Si⟩:=Kn Ja;obtain⟨A4,e4,rfl,_,_⟩:=hu.form;have Vn:=Zn 0 _ rfl;have iX:=Zn 1 _ rfl;clear Zn;simp only[show Vw.size=2 from rfl,Yq,<-Yy]at Vn iX;have ztI:=hbr.size;have Il:w.heap.size<wr.heap.size:=by omega
  have HSN:=Lh (Qc Jl);rcases Yo (Cv ns.length ts.length (rs[k].1,rs[k].2))with hq|hq
  .have HQ:=Lh hq;clear hq;go_wp2_with fail;have hb3:Below wr.heap.size wr (wr.alloc (Obj.cells #[Value.int IntKind.i64 rs[k].fst,Value.slice A4 rs[k].snd.length e4] 63)):=(Xr _ _).alloc (Yb _) _;refine (ug A1 A2 _ _ ns.length ts.length c1 c2 rs[k].1 rs[k].2 _ (by omega) (hu.fut hb3 (by omega) (by simp;omega))).mono ?_;rintro e w3 ⟨rfl,hb4⟩;rw[HQ.o];go_wp2;go_roundw;exact⟨k+1,by omega,by go_num,by show _=_;rw[HSN.o,List.all_append,hno.o];simpa using HQ.o,hbr.trans ((hb3.mono (by omega:w.heap.size+1<=wr.heap.size)).trans (hb4.mono (by simp;omega)))⟩;simp[intOf];omega
  have HQ:=Lh hq;clear hq;go_wp2_with fail;have hb3:Below wr.heap.size wr (wr.alloc (Obj.cells #[Value.int IntKind.i64 rs[k].fst,Value.slice A4 rs[k].snd.length e4] 63)):=(Xr _ _).alloc (Yb _) _;refine (ug A1 A2 _ _ ns.length ts.length c1 c2 rs[k].1 rs[k].2 _ (by omega) (hu.fut hb3 (by omega) (by simp;omega))).mono ?_;rintro e w3 ⟨rfl,hb4⟩;rw[HQ.o];go_wp2;go_ret;refine⟨Kw (Zw ?_),kf.trans ((hb3.mono (by omega)).trans (hb4.mono (by simp;omega)))⟩;have hf:rs.all (Cv ns.length ts.length)=false:=by
   rw[<-Bool.not_eq_true,Xq];intro h;have h':=HQ.o;rw[h _ (Qg Jl)]at h';cases h'
  rw[rZ.o,hf];simp
 have Io:Hid (rs.all (Cv ns.length ts.length)=true):=by
  show _=_;have:=hno.o
  rwa [Qd (by omega)]at this
 have hkr:k=rs.length:=by omega
 subst hkr;go_wp2_with fail;go_loopw [51] (fun v51 wt=>∃k:Nat,k<=ns.length/\v51=.int .i64 k/\Hid (∀i:Nat,i<k->(Lo rs i rs.length).length≠0)/\Below (w.heap.size+1) W wt) (fun v51 _=>ns.length-(intOf v51).toNat);exact⟨0,by omega,rfl,fun i hi=>absurd hi (by omega),hbr⟩;clear kf r0 r1 r2 hbr hno;obtain⟨k,qM,rfl,hno,hbr⟩:=hrel;have kf:=HW.o.trans (hbr.mono (Yi _));have r0:=(hbr.cell (p:=⟨w.heap.size,0,none⟩) (Yf _)).trans k0;have r1:=(hbr.cell (p:=⟨w.heap.size,1,none⟩) (Yf _)).trans k1;have r2:=(hbr.cell (p:=⟨w.heap.size,2,none⟩) (Yf _)).trans k2;have ztI:=hbr.size;by_cases Jl:k<ns.length
 .by_cases hq:(Lo rs k rs.length).length=0
  .have hqb:(((Lo rs k rs.length).length:Int)==0)=true:=by simp only[hq];rfl
   have HQ:=Lh hq;clear hq;go_wp2_with fail;refine (kh A1 A2 _ ns.length ts.length c1 c2 k rs wr (h3.next kf (by omega)) (by omega)).mono ?_;rintro e w3 ⟨v,rfl,hown,hb4⟩;obtain⟨A5,c5,rfl,_,_⟩:=Zp hown;go_wp2;go_ret;refine⟨Kw (Zw ?_),kf.trans (hb4.mono (by omega))⟩;have hf:(List.range ns.length).all (fun i=>decide ((Lo rs i rs.length).length≠0))=false:=by
    rw[<-Bool.not_eq_true,Xq];intro h;exact absurd HQ.o (of_decide_eq_true (h k (Ya.2 Jl)))
   rw[rZ.o,hf];simp
  have hqb:(((Lo rs k rs.length).length:Int)==0)=false:=by rw[Yp];omega
  have HQ:=Lh hq;clear hq;go_wp2_with fail;refine (kh A1 A2 _ ns.length ts.length c1 c2 k rs wr (h3.next kf (by omega)) (by omega)).mono ?_;rintro e w3 ⟨v,rfl,hown,hb4⟩;obtain⟨A5,c5,rfl,_,_⟩:=Zp hown;go_wp2;go_roundw;exact⟨k+1,by omega,by go_num,fun i hi=>by by_cases e:i=k;(subst e;exact HQ.o);exact hno.o i (by omega),hbr.trans (hb4.mono (by omega))⟩;simp[intOf];omega
 have hf:Hid ((List.range ns.length).all (fun i=>decide ((Lo rs i rs.length).length≠0))=true):=by
  show _=_;rw[Xq];intro i hi;have:=Ya.1 hi;exact Yw (hno.o i (by omega))
 go_wp2_with fail;refine (ax _ rs wr (h3.next kf (by omega))).mono ?_;rintro e w3 ⟨rfl,hb4⟩;go_wp2;go_ret;refine⟨Kw (Zw ?_),kf.trans (hb4.mono (by omega))⟩;rw[rZ.o,HD1.o,HD2.o,Io.o,hf.o];simp
theorem qwP(rs:List (Int×List Int))(left:Int):(Lo rs left rs.length).length≠0↔∃r∈rs,r.1=left:=by
 unfold Lo;rw[Qk];constructor
 .intro h;obtain⟨i,hi⟩:=List.exists_mem_of_length_pos (Nat.pos_of_ne_zero h);rw[Qw,Ya,Yk]at hi;refine⟨rs[i]'hi.1,Qg hi.1,?_⟩;have:=hi.2
  rwa [Qb,Qa hi.1]at this
 rintro⟨r,hr,he⟩ h0;obtain⟨i,hi,rfl⟩:=Qz hr;have:=Xx h0;rw[List.filter_eq_nil_iff]at this;refine this i (Ya.2 hi) ?_;rw[Yk,Qb,Qa hi];exact he
def Jp(w:Wd):ByteArray:=⟨w.toArray⟩
def Wt(b:ByteArray):Wd:=b.data.toList
theorem Fu(w:Wd):Wt (Jp w)=w:=rfl
theorem Dp(b:ByteArray):Jp (Wt b)=b:=by cases b;rfl
theorem eP{a:ByteArray}(h:Wt a=Wt b):a=b:=by rw[<-Dp a,<-Dp b,h]
theorem Fv{β:Type}{f:α->β}(hf:∀a b,f a=f b->a=b){l:List α}(h:l.Nodup):(l.map f).Nodup :=
 List.pairwise_map.2 (h.imp fun{a b} Bg e=>Bg (hf a b e))
def Jh(g:Kd):Kd:=((Uj (g.1.map Wt)).map Jp,(Jv (g.2.1.map Wt)).map Jp,oW (g.1.map Wt) (g.2.1.map Wt) g.2.2)
theorem Pc(l:List Wd):(Uj l).length=l.length:=(Us l).length_eq
theorem Fq(l:List Wd):(Jv l).length=l.length:=(Vq l).length_eq
theorem qrR(ns ts:List Wd)(rs:List Jj):(oW ns ts rs).length=rs.length:=by unfold oW;rw[(Gs _).length_eq,Qk]
theorem Vz(g:Kd):(Jh g).1.length=g.1.length/\(Jh g).2.1.length=g.2.1.length/\(Jh g).2.2.length=g.2.2.length:=by
 unfold Jh;simp only[Qk,Pc,Fq,qrR,and_self]
theorem qjJ(n m:Nat)(r:Int×List Int):Cv n m r=true↔(0<=r.1/\r.1<n)/\r.2.length<=64/\∀s∈r.2,Vc n m s:=by
 unfold Cv;simp only[Ym,Yk,Bool.not_eq_true',List.any_eq_false,dQ,Yu,not_or,Vc,and_assoc];constructor
 .rintro⟨h1,h2,h3,h4⟩;exact⟨h1,h2,h3,fun s hs=>by have:=h4 s hs;omega⟩
 rintro⟨h1,h2,h3,h4⟩;exact⟨h1,h2,h3,fun s hs=>by have:=h4 s hs;omega⟩
structure Su(g:Kd):Prop where
 n1:1<=g.1.length
 nm:g.1.length+g.2.1.length<=256
 q:g.2.2.length<=4096
 names:∀s∈g.1,Eu (Wt s)=true
 terms:∀s∈g.2.1,Fx (Wt s)=true
 nn:g.1.Nodup
 tn:g.2.1.Nodup
 fit:∀r∈g.2.2,(0<=r.1/\r.1<g.1.length)/\r.2.length<=64/\∀s∈r.2,Vc g.1.length g.2.1.length s
 has:∀i<g.1.length,∃r∈g.2.2,r.1=(i:Int)
 rn:g.2.2.Nodup
theorem Fy(g:Kd):Ut g=true↔Su g:=by
 simp only[Ut,Dc,Ym,Yk,Xq,Ya,qwP,qjJ];constructor
 .rintro⟨⟨⟨⟨⟨⟨⟨h1,h2⟩,h3⟩,h4,h5⟩,h6,h7⟩,h8⟩,h9⟩,h10⟩;exact⟨by omega,h2,h3,h4,h6,h5,h7,h8,h9,h10⟩
 rintro⟨h1,h2,h3,h4,h6,h5,h7,h8,h9,h10⟩;exact⟨⟨⟨⟨⟨⟨⟨by omega,h2⟩,h3⟩,h4,h5⟩,h6,h7⟩,h8⟩,h9⟩,h10⟩
theorem qfV{zO ts':List Wd}(hp:zO.Perm ns)(hq:ts'.Perm ts)(hn:ns.Nodup)(hm:ts.Nodup){a b:Jj}(ha:Vc ns.length ts.length a.1/\∀s∈a.2,Vc ns.length ts.length s)(hb:Vc ns.length ts.length b.1/\∀s∈b.2,Vc ns.length ts.length s)
  (h:Ec ns ts zO ts' a=Ec ns ts zO ts' b):a=b:=by
 obtain⟨a1,a2⟩:=a;obtain⟨b1,b2⟩:=b;unfold Ec at h;injection h with h1 h2;simp only at ha hb h2;have e1:=tV hp hq hn hm ha.1 hb.1 h1;have hl:∀(x y:List Int),(∀s∈x,Vc ns.length ts.length s)->(∀s∈y,Vc ns.length ts.length s)->x.map (Gr ns ts zO ts')=y.map (Gr ns ts zO ts')->x=y:=by
  intro x
  induction x with
  |nil=>intro y _ _ e;cases y with|nil=>rfl|cons _ _=>simp at e
  |cons s x ih =>
   intro y hx hy e;cases y with
   |nil=>simp at e
   |cons t y =>
    rw[List.map_cons,List.map_cons]at e;injection e with e3 e4;rw[tV hp hq hn hm (hx s (by simp)) (hy t (by simp)) e3,ih y (fun s hs=>hx s (by simp[hs])) (fun s hs=>hy s (by simp[hs])) e4]
 rw[e1,hl a2 b2 ha.2 hb.2 h2]
theorem vv{rs:List Jj}{r:Jj}(h:r∈oW ns ts rs):∃x∈rs,r=Ec ns ts (Uj ns) (Jv ts) x:=by
 have:=(Gs _).mem_iff.1 h;obtain⟨x,hx,e⟩:=Xa.1 this;exact⟨x,hx,e.symm⟩
theorem Ho{g:Kd}(h:Su g):Su (Jh g):=by
 obtain⟨l1,l2,l3⟩:=Vz g;have hp:=Us (g.1.map Wt);have hq:=Vq (g.2.1.map Wt);have hn:(g.1.map Wt).Nodup:=Fv (fun _ _=>eP) h.nn;have hm:(g.2.1.map Wt).Nodup:=Fv (fun _ _=>eP) h.tn;have hN:(g.1.map Wt).length=g.1.length:=Qk ..;have hM:(g.2.1.map Wt).length=g.2.1.length:=Qk ..;have Uh:∀r∈g.2.2,Vc (g.1.map Wt).length (g.2.1.map Wt).length r.1/\∀s∈r.2,Vc (g.1.map Wt).length (g.2.1.map Wt).length s:=fun r hr=>by
  rw[hN,hM];obtain⟨f1,_,f3⟩:=h.fit r hr;exact⟨⟨by omega,f1.2⟩,f3⟩
 refine⟨by rw[l1];exact h.n1,by rw[l1,l2];exact h.nm,by rw[l3];exact h.q,?_,?_,Fv (fun a b e=>by rw[<-Fu a,<-Fu b,e]) (hp.nodup_iff.2 hn),Fv (fun a b e=>by rw[<-Fu a,<-Fu b,e]) (hq.nodup_iff.2 hm),?_,?_,?_⟩
 .intro s hs;obtain⟨x,hx,rfl⟩:=Xa.1 hs;obtain⟨y,hy,rfl⟩:=Xa.1 (hp.mem_iff.1 hx);exact h.names y hy
 .intro s hs;obtain⟨x,hx,rfl⟩:=Xa.1 hs;obtain⟨y,hy,rfl⟩:=Xa.1 (hq.mem_iff.1 hx);exact h.terms y hy
 .intro r hr;obtain⟨x,hx,rfl⟩:=vv hr;obtain⟨f1,f2,f3⟩:=h.fit x hx;obtain⟨i1,i2⟩:=Uh x hx;have j1:=Pu hp hq i1;have j2:=bf (g.1.map Wt) (g.2.1.map Wt) (Uj (g.1.map Wt)) (Jv (g.2.1.map Wt)) x.1;rw[l1,l2];rw[hN,hM]at j1;refine⟨⟨?_,j1.2⟩,by show (x.2.map _).length<=64;rw[Qk];exact f2,fun s hs=>?_⟩
  .show 0<=Gr _ _ _ _ x.1;omega
  obtain⟨t,ht,rfl⟩:=Xa.1 hs;have:=Pu hp hq (i2 t ht)
  rwa [hN,hM]at this
 .intro j hj;rw[l1]at hj;obtain⟨i,hi,e⟩:=wE hp hn (j:=j) (by rw[hN];exact hj);rw[hN]at hi;obtain⟨r,hr,hri⟩:=h.has i hi;refine⟨Ec _ _ _ _ r,(Gs _).mem_iff.2 (List.mem_map_of_mem hr),?_⟩;show Gr _ _ _ _ r.1=_;unfold Gr;rw[hri,if_neg (by omega),Yz,e]
 show (kL _).Nodup;rw[(Gs _).nodup_iff];refine List.pairwise_map.2 ((List.pairwise_iff_getElem.2 fun i j hi hj hij=>?_));intro e;have:=qfV hp hq hn hm (Uh _ (Qg hi)) (Uh _ (Qg hj)) e;exact absurd this (List.pairwise_iff_getElem.1 h.rn i j hi hj hij)
abbrev Wf:=Bool×ByteArray
abbrev Kh:=ByteArray×List (List Wf)
inductive PSt where
 |name (done:List Kh)
 |colon (done:List Kh) (nm:ByteArray)
 |item (done:List Kh) (nm:ByteArray) (alts:List (List Wf)) (alt:List Wf)
def Rn:PSt->Kz->Option PSt
 |.name done,t=>if t.1=1 then some (.colon done (Jp t.2.1))else none
 |.colon done nm,t=>if t.1=3 then some (.item done nm [] [])else none
 |.item done nm alts alt,t =>
  if t.1=1\/t.1=2 then some (.item done nm alts (alt++[(decide (t.1=2),Jp t.2.1)]))
  else if t.1=4 then some (.item done nm (alts++[alt]) [])
  else if t.1=5 then some (.name (done++[(nm,alts++[alt])]))
  else none
def nh(len:Nat):PSt->List Kz->List Kh×Nat×Nat
 |.name done,[]=>if done=[]then ([],len,14)else (done,0,0)
 |.colon _ _,[]=>([],len,14)
 |.item _ _ _ _,[]=>([],len,14)
 |st,t::r=>match Rn st t with
  |none=>([],t.2.2,14)
  |some st'=>nh len st' r
def iM(toks:List Kz)(len:Nat):List Kh×Nat×Nat:=nh len (.name []) toks
def Nc(s:Wd):List Kh×Nat×Nat:=if (Sk s).2.2≠0 then ([],(Sk s).2.1,(Sk s).2.2)else iM (Sk s).1 s.length
def Ok(ns ts:List Wd)(it:Wf):Option (Int×List Wd) :=
 if it.1=true then
  if Wt it.2∈ts then some (-1-(ts.idxOf (Wt it.2):Int),ts)else some (-1-(ts.length:Int),ts++[Wt it.2])
 else if Wt it.2∈ns then some ((ns.idxOf (Wt it.2):Int),ts)else none
def Fn(ns:List Wd):List Wd->List Int->List Wf->Option (List Int×List Wd)
 |ts,r,[]=>some (r,ts)
 |ts,r,it::l=>match Ok ns ts it with
  |none=>none
  |some (s,ts')=>Fn ns ts' (r++[s]) l
def Ic(ns:List Wd)(left:Int):List Wd->List Jj->List (List Wf)->Option (List Jj×List Wd)
 |ts,rs,[]=>some (rs,ts)
 |ts,rs,a::l=>match Fn ns ts [] a with
  |none=>none
  |some (r,ts')=>Ic ns left ts' (rs++[(left,r)]) l
def Vg(ns:List Wd):Nat->List Wd->List Jj->List Kh->Option (List Jj×List Wd)
 |_,ts,rs,[]=>some (rs,ts)
 |i,ts,rs,x::l=>match Ic ns (i:Int) ts rs x.2 with
  |none=>none
  |some (Cg,ts')=>Vg ns (i+1) ts' Cg l
def Rv(l:List Kh):Bool:=l.any (fun x=>x.2.any fun a=>decide (64<a.length))||decide (4096<(l.map fun x=>x.2.length).sum)||decide (256<l.length)
def Jn(l:List Kh):Kd×Nat :=
 if Rv l=true then (([],[],[]),19)
 else if ¬ (l.map fun x=>Wt x.1).Nodup then (([],[],[]),15)
 else match Vg (l.map fun x=>Wt x.1) 0 [] [] l with
  |none=>(([],[],[]),16)
  |some (rs,ts) =>
   if 256<l.length+ts.length then (([],[],[]),19)
   else if ¬ rs.Nodup then (([],[],[]),15)
   else ((l.map fun x=>x.1,ts.map Jp,rs),0)
theorem dI(len:Nat)(st:PSt)(t:Kz)(r:List Kz):nh len st (t::r)=match Rn st t with|none=>([],t.2.2,14)|some st'=>nh len st' r:=by
 cases st <;> rfl
def On:PSt->List Kz->Option PSt
 |st,[]=>some st
 |st,t::r=>(Rn st t).bind fun st'=>On st' r
theorem cC(st:PSt)(a b:List Kz):On st (a++b)=(On st a).bind fun st'=>On st' b:=by
 induction a generalizing st with
 |nil=>rfl
 |cons t r ih =>
  show (Rn st t).bind _=((Rn st t).bind _).bind _;cases Rn st t with
  |none=>rfl
  |some st'=>exact ih st'
theorem qdY(len:Nat){st st':PSt}{a:List Kz}(h:On st a=some st')(b:List Kz):nh len st (a++b)=nh len st' b:=by
 induction a generalizing st with
 |nil =>
  injection h with h;subst h;rfl
 |cons t r ih =>
  rw[List.cons_append,dI];have h2:(Rn st t).bind (fun st'=>On st' r)=some st':=h;cases hs:Rn st t with
  |none=>rw[hs]at h2;cases h2
  |some st2 =>
   rw[hs]at h2;exact ih h2
theorem eN{st st' ziW:PSt}{a:List Kz}{t:Kz}(h:On st a=some st')(k:Rn st' t=some ziW):On st (a++[t])=some ziW:=by
 rw[cC,h];show (Rn st' t).bind _=_;rw[k];rfl
theorem vF{len:Nat}{st:PSt}(hk:k<toks.length)(h:On (.name []) (toks.take k)=some st)(hb:Rn st toks[k]=none):iM toks len=([],toks[k].2.2,14):=by
 unfold iM
 conv=>lhs;rw[<-Xp k toks]
 rw[qdY len h,Ql hk,dI,hb]
theorem iL{len:Nat}{st:PSt}(h:On (.name []) toks=some st):iM toks len=nh len st []:=by
 have:=qdY len h [];rw[List.append_nil]at this;exact this
def kE:bH Wf:=qmP ziR fH
def yY(tI:TypeId):bH (List Wf):=uSl kE tI
def kD(tA tI:TypeId):bH Kh:=qmP fH (uSl (yY tI) tA)
theorem qt(l:List Value):(l.map fun v=>[v]).flatten=l:=by
 induction l with
 |nil=>rfl
 |cons v l ih=>rw[List.map_cons,List.flatten_cons,ih];rfl
theorem qnH(l:List α)(a b:α)(h:n=l.length):(l++[a]).set n b=l++[b]:=by
 subst h;rw[List.set_append_right _ _ (Yb _),Nat.sub_self];rfl
theorem br(l:List α)(c a b:α)(h:n=l.length+1):(l++[c,a]).set n b=l++[c,b]:=by
 subst h;rw[List.set_append_right _ _ (Yi _),show l.length+1-l.length=1 by omega];rfl
structure Ss(tL tA tI:TypeId)(w:World)(N:Nat)(vL:Value)(done:List Kh)(css:List (List Value)):Prop where
 lines:w.ownsRow N tL 2 vL done.length css.flatten
 dn:Vo (kD tA tI) w w.heap.size css done
 nB:N<=w.heap.size
structure Ij(tL tA tI:TypeId)(w:World)(N:Nat)(vL:Value)(done:List Kh)(nm:ByteArray)(css:List (List Value))(B:Nat):Prop where
 lines:w.ownsRow N tL 2 vL (done.length+1) (css.flatten++[.string nm,.slice none 0 0])
 dn:Vo (kD tA tI) w B css done
 nB:N<=B
 bB:B<=w.heap.size
 nms:nm.size<=maxLen
structure Sg(tL tA tI:TypeId)(w:World)(N:Nat)(vL:Value)(done:List Kh)(nm:ByteArray)(alts:List (List Wf))(alt:List Wf)(css:List (List Value))(vA:Value)(cA:List Value)(vI:Value)(cI:List (List Value))(B1 B2:Nat):Prop where
 lines:w.ownsRow N tL 2 vL (done.length+1) (css.flatten++[.string nm,vA])
 dn:Vo (kD tA tI) w B1 css done
 row:w.ownsRow B1 tA 1 vA (alts.length+1) (cA++[vI])
 al:Vo (yY tI) w B2 (cA.map fun v=>[v]) alts
 last:w.ownsRow B2 tI 2 vI alt.length cI.flatten
 it:Vo kE w B2 cI alt
 nB:N<=B1
 b12:B1<=B2
 b2:B2<=w.heap.size
 nms:nm.size<=maxLen
theorem tG(tA tI:TypeId):(kD tA tI).ts=[tA,tI]:=rfl
theorem kF(tI:TypeId):(yY tI).ts=[tI]:=rfl
theorem oc:kE.ts=[]:=rfl
theorem fA{tA tI:TypeId}{U:Nat}{css:List (List Value)}{done:List Kh}(h:Vo (kD tA tI) w U css done):css.flatten.length=2*done.length:=by
 have hl:∀cs∈css,cs.length=2:=fun cs tc=>by
  obtain⟨i,hi,rfl⟩:=Qz tc;exact (kD tA tI).E.len ((kD tA tI).elt (h.rep i _ _ (Qa hi) (Qa (by rw[<-h.len];exact hi))))
 rw[<-h.len];clear h
 induction css with
 |nil=>rfl
 |cons c css ih =>
  rw[List.flatten_cons,Qe,ih (fun cs tc=>hl cs (Xj _ tc)),hl c (Xi ..),Qu];omega
section
variable {tL tA tI:TypeId} {w w1:World} {N:Nat} {vL:Value} {done:List Kh} {nm:ByteArray} {alts:List (List Wf)} {alt:List Wf} {css:List (List Value)} {vA:Value} {cA:List Value} {vI:Value} {cI:List (List Value)} {B1 B2:Nat}
theorem Ss.below(h:Ss tL tA tI w N vL done css)(hb:Below w.heap.size w w1):Ss tL tA tI w1 N vL done css:=⟨Jc h.lines hb,(h.dn.below hb).more hb.size,Yd h.nB hb.size⟩
theorem Ij.below{B:Nat}(h:Ij tL tA tI w N vL done nm css B)(hb:Below w.heap.size w w1):Ij tL tA tI w1 N vL done nm css B:=⟨Jc h.lines hb,h.dn.below hb,h.nB,Yd h.bB hb.size,h.nms⟩
theorem Sg.below(h:Sg tL tA tI w N vL done nm alts alt css vA cA vI cI B1 B2)(hb:Below w.heap.size w w1):Sg tL tA tI w1 N vL done nm alts alt css vA cA vI cI B1 B2 :=
 ⟨Jc h.lines hb,h.dn.below hb,Jc h.row hb,h.al.below hb,Jc h.last hb,h.it.below hb,h.nB,h.b12,Yd h.b2 hb.size,h.nms⟩
theorem Ss.set(h:Ss tL tA tI w N vL done css){T:TypeId}(hg:w.heap[g]?=some (.cells cs T (0,0)))(hN:g<N)(hT:T∉[tA,tI])(v:Value):Ss tL tA tI (w.setCell ⟨g,k,none⟩ v) N vL done css :=
 ⟨Zl h.lines hN v,by rw[Zb];exact h.dn.keep (.of_setT hg hT v),by rw[Zb];exact h.nB⟩
theorem Ij.set(h:Ij tL tA tI w N vL done nm css B){T:TypeId}(hg:w.heap[g]?=some (.cells cs T (0,0)))(hN:g<N)(hT:T∉[tA,tI])(v:Value):Ij tL tA tI (w.setCell ⟨g,k,none⟩ v) N vL done nm css B :=
 ⟨Zl h.lines hN v,h.dn.keep (.of_setT hg hT v),h.nB,by rw[Zb];exact h.bB,h.nms⟩
theorem Sg.set(h:Sg tL tA tI w N vL done nm alts alt css vA cA vI cI B1 B2){T:TypeId}(hg:w.heap[g]?=some (.cells cs T (0,0)))(hN:g<N)(hT:T∉[tA,tI])(v:Value):Sg tL tA tI (w.setCell ⟨g,k,none⟩ v) N vL done nm alts alt css vA cA vI cI B1 B2 :=
 have hB:=h.nB;have hB2:=h.b12
 ⟨Zl h.lines hN v,h.dn.keep (.of_setT hg hT v),Zl h.row (show g<B1 by omega) v,h.al.keep (.of_setT hg (fun e=>hT (Xj _ e)) v),
  Zl h.last (show g<B2 by omega) v,h.it.keep (.of_setT hg (by rw[oc];simp) v),hB,hB2,by rw[Zb];exact h.b2,h.nms⟩
theorem Ss.name{vL':Value}(h:Ss tL tA tI w N vL done css)(hLA:tL≠tA)(hLI:tL≠tI)(hs:nm.size<=maxLen)(ho:w1.ownsRow N tL 2 vL' (done.length+1) (css.flatten++[.string nm,.slice none 0 0]))(hg:w.grownBy w1 vL.ownBlock):Ij tL tA tI w1 N vL' done nm css w1.heap.size :=
 ⟨ho,(h.dn.keep (.of_keepT (Jk.of_grown h.lines hg (by rw[tG];simp[hLA,hLI])))).more hg.size,Yd h.nB hg.size,Yb _,hs⟩
theorem Ij.colon(h:Ij tL tA tI w N (.slice (some ⟨g,0,none⟩) (done.length+1) c) done nm css B)(hLA:tL≠tA)(hLI:tL≠tI)(ho:w1.ownsRow B tA 1 Pr 1 [.slice none 0 0])(hg:w.grownBy w1 none)(hk:k=2*done.length+1) :
  Sg tL tA tI (w1.setCell ⟨g,k,none⟩ Pr) N (.slice (some ⟨g,0,none⟩) (done.length+1) c) done nm [] [] css Pr [] (.slice none 0 0) [] B w1.heap.size:=by
 have hb:Below w.heap.size w w1:=(Xr _ _).grown hg (Yb _) (fun k hk=>nomatch hk);have h1:=h.below hb;have hlen:=fA h.dn;obtain⟨g',c',e,Il,bP,_,_,⟨cur,rJ⟩,_⟩:=Vb h1.lines;injection e with e1 e2 e3;injection e1 with e1;injection e1 with e1;subst e1;refine⟨?_,h1.dn.keep (.of_setT rJ (by rw[tG];simp[hLA,hLI]) Pr),Ge ho h1.lines (Ne.symm hLA) Pr,Vo.nil _ _ _,Za _ _ _ _,Vo.nil _ _ _,h.nB,Yd h.bB hg.size,by rw[Zb];exact Yb _,h.nms⟩;have:=vG h1.lines k Pr;rw[br _ _ _ _ (by rw[hlen];exact hk)]at this;exact this
theorem Sg.item{vI':Value}{b:Bool}{s:ByteArray}(h:Sg tL tA tI w N vL done nm alts alt css (.slice (some ⟨g,0,none⟩) (alts.length+1) c) cA vI cI B1 B2)(hLA:tL≠tA)(hLI:tL≠tI)(hAI:tA≠tI)(hs:s.size<=maxLen)
  (ho:w1.ownsRow B2 tI 2 vI' (alt.length+1) (cI.flatten++[.bool b,.string s])) (hg:w.grownBy w1 vI.ownBlock) :
  Sg tL tA tI (w1.setCell ⟨g,alts.length,none⟩ vI') N vL done nm alts (alt++[(b,s)]) css (.slice (some ⟨g,0,none⟩) (alts.length+1) c) cA vI' (cI++[[.bool b,.string s]]) B1 B2:=by
 have Nu:=Vy h.row h.last hAI hg;obtain⟨g',c',e,Il,bP,_,_,⟨cur,rJ⟩,_⟩:=Vb Nu;injection e with e1 e2 e3;injection e1 with e1;injection e1 with e1;subst e1;have fP:alts.length=cA.length:=by
  have:=h.al.len;rw[Qk]at this;exact this.symm
 refine⟨Ge (Vy h.lines h.last hLI hg) Nu hLA vI',(h.dn.keep (.of_grown h.last hg h.b12)).keep (.of_set Il vI'),?_,(h.al.keep (.of_grown h.last hg (Yb _))).keep (.of_setT rJ (by rw[kF];simp[hAI]) vI'),?_,?_,h.nB,h.b12,by rw[Zb];exact Yd h.b2 hg.size,h.nms⟩
 .have:=vG Nu alts.length vI';rw[qnH _ _ _ fP]at this;exact this
 .have:=Ge (g:=g) (j:=alts.length) ho Nu (Ne.symm hAI) vI';rw[Qe,Qf,Qs];simpa using this
 exact Vo.snoc (h.it.keep (w':=w1.setCell ⟨g,alts.length,none⟩ vI') ⟨by rw[Zb];exact hg.size,fun _ _ _ _ ht=>nomatch ht⟩) ⟨[.bool b],[.string s],rfl,rfl,rfl,hs⟩
theorem Sg.bar(h:Sg tL tA tI w N (.slice (some ⟨g,0,none⟩) (done.length+1) c) done nm alts alt css vA cA vI cI B1 B2)(hLA:tL≠tA)(hLI:tL≠tI)(hAI:tA≠tI)
  (ho:w1.ownsRow B1 tA 1 Pr (alts.length+1+1) ((cA++[vI])++[.slice none 0 0])) (hg:w.grownBy w1 vA.ownBlock)  (hk:k=2*done.length+1) :
  Sg tL tA tI (w1.setCell ⟨g,k,none⟩ Pr) N (.slice (some ⟨g,0,none⟩) (done.length+1) c) done nm (alts++[alt]) [] css Pr (cA++[vI]) (.slice none 0 0) [] B1 w1.heap.size:=by
 have hlen:=fA h.dn;have qxI:=Vy h.lines h.row hLA hg;obtain⟨g',c',e,Il,bP,_,_,⟨cur,rJ⟩,_⟩:=Vb qxI;injection e with e1 e2 e3;injection e1 with e1;injection e1 with e1;subst e1;have zkT:=Vy h.last h.row (Ne.symm hAI) hg;have Fb:w.heap.size<=w1.heap.size:=hg.size;have zeD:(w1.setCell ⟨g,k,none⟩ Pr).ownsRow B2 tI 2 vI alt.length cI.flatten:=Ge zkT qxI (Ne.symm hLI) Pr;refine⟨?_,(h.dn.keep (.of_grown h.row hg (Yb _))).keep (.of_setT rJ (by rw[tG];simp[hLA,hLI]) Pr),?_,?_,Za _ _ _ _,Vo.nil _ _ _,h.nB,Yd (Yd h.b12 h.b2) Fb,by rw[Zb];exact Yb _,h.nms⟩
 .have:=vG qxI k Pr;rw[br _ _ _ _ (by rw[hlen];exact hk)]at this;exact this
 .have:=Ge (g:=g) (j:=k) ho qxI (Ne.symm hLA) Pr;rw[Qe,Qf];exact this
 rw[Qt];have h1:=((h.al.keep (.of_keepT (Jk.of_grown h.row hg (by rw[kF];simp[hAI])))).keep (.of_setT (k:=k) rJ (by rw[kF];simp[hLI]) Pr)).more (Yd h.b2 Fb);refine Vo.snoc (xs:=alts) (x:=alt) h1 ⟨vI,rfl,?_⟩;have h2:Vo kE (w1.setCell ⟨g,k,none⟩ Pr) (w1.setCell ⟨g,k,none⟩ Pr).heap.size cI alt:=⟨h.it.len,fun i cs x hc hx=>kE.more (kE.keep (h.it.rep i cs x hc hx) ⟨by rw[Zb];exact Fb,fun _ _ _ _ ht=>nomatch ht⟩) (by rw[Zb];exact Yd h.b2 Fb)⟩;have h3:=Ae.of_row (O:=kE) (t:=tI) zeD h2;rw[Zb]at h3;exact h3
theorem Sg.semi(h:Sg tL tA tI w N vL done nm alts alt css vA cA vI cI B1 B2):Ss tL tA tI w N vL (done++[(nm,alts++[alt])]) (css++[[.string nm,vA]]):=by
 have hB:=h.b12;have hB2:=h.b2;refine⟨?_,?_,Yd h.nB (by omega)⟩
 .rw[Qs,Qe];simpa using h.lines
 refine Vo.snoc (h.dn.more (by omega)) ⟨[.string nm],[vA],rfl,⟨rfl,h.nms⟩,vA,rfl,?_⟩;have hr:w.ownsRow B1 tA (yY tI).E.size vA (alts++[alt]).length ((cA++[vI]).map fun v=>[v]).flatten:=by
  rw[qt,Qe,Qf];exact h.row
 refine Ae.of_row hr ?_;rw[Qt];refine Vo.snoc (h.al.more hB2) ⟨vI,rfl,Ae.of_row h.last (h.it.more hB2)⟩
theorem Ss.sl(h:Ss tL tA tI w N vL done css):Je (kD tA tI).E w w.heap.size vL done:=(Ae.of_row (O:=kD tA tI) h.lines h.dn).sl
end
theorem kH(hi:i<s.length)(toks:List Kz):Gz s (i,toks)=if rS s[i]=true then some (i+1,toks)else if s[i]=35 then some (i+Ko Sq (s.drop i),toks)else match Fg (s.drop i)with
  |.ok t=>some (i+t.2.2,toks++[(t.1,t.2.1,i)])
  |.error _=>none:=by
 unfold Gz;rw[Ql hi];dsimp only;cases Fg (s[i]::s.drop (i+1)) <;> rfl
theorem tW(hi:i<s.length)(h:rS s[i]=true)(toks:List Kz):Gz s (i,toks)=some (i+1,toks):=by
 rw[kH hi,if_pos h]
theorem qrT:rS 35=false:=by decide
theorem bj(hi:i<s.length)(h:s[i]=35)(toks:List Kz):Gz s (i,toks)=some (i+Ko Sq (s.drop i),toks):=by
 rw[kH hi,if_neg (by rw[h,qrT];decide),if_pos h]
theorem ou(hi:i<s.length)(h:rS s[i]=false)(h2:s[i]≠35)(ht:Fg (s.drop i)=.ok t)(toks:List Kz):Gz s (i,toks)=some (i+t.2.2,toks++[(t.1,t.2.1,i)]):=by
 rw[kH hi,if_neg (by rw[h];decide),if_neg h2,ht]
theorem qmY(hi:i<s.length)(h:rS s[i]=false)(h2:s[i]≠35)(ht:Fg (s.drop i)=.error e)(toks:List Kz):Gz s (i,toks)=none/\un s (i,toks)=([],i,e):=by
 refine⟨by rw[kH hi,if_neg (by rw[h];decide),if_neg h2,ht],?_⟩;unfold un;rw[Ql hi]at ht |-;simp only[ht]
theorem qmZ(hi:s.length<=i)(toks:List Kz):Gz s (i,toks)=none/\un s (i,toks)=(toks,0,0):=by
 unfold Gz un;rw[Xm hi];exact⟨rfl,rfl⟩
theorem rv(hl:s.length<=65536)(h:ReachX s (0,[]) (i,toks))(hi:s.length<=i):Sk s=(toks,0,0):=by
 obtain⟨h1,h2⟩:=qmZ hi toks;rw[qdK (by omega) h h1,h2]
theorem ru(hl:s.length<=65536)(h:ReachX s (0,[]) (i,toks))(hi:i<s.length)(hb:rS s[i]=false)(hn:s[i]≠35)(ht:Fg (s.drop i)=.error e):Sk s=([],i,e):=by
 obtain⟨h1,h2⟩:=qmY hi hb hn ht toks;rw[qdK (by omega) h h1,h2]
inductive BlkX(t:Wd)(i:Nat):Nat->Prop
 |refl:BlkX t i i
 |blank {j:Nat} (hj:j<t.length):BlkX t i j->rS t[j]=true->BlkX t i (j+1)
 |note {j:Nat} (hj:j<t.length):BlkX t i j->t[j]=35->BlkX t i (j+Ko Sq (t.drop j))
theorem BlkX.reach(toks:List Kz)(h:BlkX (s.drop k) i j):ReachX s (k+i,toks) (k+j,toks):=by
 induction h with
 |refl=>exact .refl _
 |@blank j hj _ hb ih =>
  rw[Xl]at hj;rw[List.getElem_drop]at hb;exact ih.snoc (tW (by omega) hb toks)
 |@note j hj _ hb ih =>
  rw[Xl]at hj;rw[List.getElem_drop]at hb;refine ih.snoc ?_;rw[bj (by omega) hb toks,List.drop_drop,Yy]
def Of(t:Wd)(j:Nat):Prop:=∀(h:j<t.length),rS t[j]=false/\t[j]≠35
theorem Of.drop(h:Of (s.drop k) j):Of s (k+j):=fun Jl=>by
 have:=h (by rw[Xl];omega)
 rwa [List.getElem_drop]at this
theorem oh(h:Fg l=.ok t):t.2.2<=l.length:=by
 cases l with
 |nil=>cases h
 |cons c r =>
  change Cb c r=_ at h;unfold Cb at h;by_cases h1:c=58
  .rw[if_pos h1]at h;cases h;exact Nat.le_add_left 1 r.length
  rw[if_neg h1]at h;by_cases h2:c=124
  .rw[if_pos h2]at h;cases h;exact Nat.le_add_left 1 r.length
  rw[if_neg h2]at h;by_cases h3:c=59
  .rw[if_pos h3]at h;cases h;exact Nat.le_add_left 1 r.length
  rw[if_neg h3]at h;by_cases h4:Uv (c.toNat:Int)=true
  .rw[if_pos h4]at h;by_cases h5:32<Ko Ww (c::r)
   .rw[if_pos h5]at h;cases h
   rw[if_neg h5]at h;cases h;exact Tm Ww (c::r)
  rw[if_neg h4]at h;by_cases h5:c=39
  .rw[if_pos h5]at h;by_cases h6:0<Ko Jg r/\r[Ko Jg r]?=some 39
   .rw[if_pos h6]at h;by_cases h7:32<Ko Jg r
    .rw[if_pos h7]at h;cases h
    rw[if_neg h7]at h;cases h;have:=(Qj.1 h6.2).1;show Ko Jg r+2<=(c::r).length;rw[Qu];omega
   rw[if_neg h6]at h;cases h
  rw[if_neg h5]at h;cases h
theorem tM(r:Wd):Cb 58 r=.ok (3,[58],1):=rfl
theorem oe(r:Wd):Cb 124 r=.ok (4,[124],1):=rfl
theorem bc(r:Wd):Cb 59 r=.ok (5,[59],1):=rfl
theorem bd{c:UInt8}(h:Uv (c.toNat:Int)=true):Cb c r=if 32<Ko Ww (c::r)then .error 19 else .ok (1,(c::r).take (Ko Ww (c::r)),Ko Ww (c::r)):=by
 unfold Cb;rw[if_neg (by rintro rfl;revert h;decide),if_neg (by rintro rfl;revert h;decide),if_neg (by rintro rfl;revert h;decide),if_pos h]
theorem az(r:Wd):Cb 39 r=if 0<Ko Jg r/\r[Ko Jg r]?=some 39 then (if 32<Ko Jg r then .error 19 else .ok (2,r.take (Ko Jg r),Ko Jg r+2))else .error 13:=rfl
theorem og{c:UInt8}(h1:c≠58)(h2:c≠124)(h3:c≠59)(h4:Uv (c.toNat:Int)=false)(h5:c≠39):Cb c r=.error 13:=by
 unfold Cb;rw[if_neg h1,if_neg h2,if_neg h3,if_neg (by rw[h4];decide),if_neg h5]
theorem eJ(s:ByteArray)(k:Nat):(s.extract k s.size).data.toList=s.data.toList.drop k:=by
 rw[ByteArray.data_extract,Array.toList_extract,List.extract_eq_take_drop];exact Qd (by simp)
theorem qoE(c:Int)(w:World):Calls Tryz.prog 266 #[.int .u8 c] w fun e w'=>e=.returned (.bool (Sq c))/\w=w':=by
 go_enter Tryz.func266,Tryz.ntmps266;go_wp2;go_ret;exact⟨Kw (Zw (by rw[Bool.eq_iff_iff];simp[Sq])),rfl⟩
theorem dP(s:ByteArray)(hk:k<s.data.toList.length)(c:UInt8):s.data.toList[k]=c↔Nf s k=(c.toNat:Int):=by
 rw[Fm s k hk];constructor
 .intro h;rw[h]
 intro h;exact UInt8.toNat_inj.1 (by omega)
theorem kz(s:ByteArray)(hk:k<s.data.toList.length):rS s.data.toList[k]=true↔Nf s k=32\/Nf s k=9\/Nf s k=13\/Nf s k=10:=by
 unfold rS;simp only[Yu,Yk,dP s hk,or_assoc];exact Iff.rfl
theorem fx(s:ByteArray)(w:World)(hs:s.size<=maxLen) :
  Calls Tryz.prog 237 #[.string s] w fun e w'=>∃n:Nat,e=.returned (.int .i64 n)/\n<=s.size/\BlkX s.data.toList 0 n/\Of s.data.toList n/\w=w':=by
 have Be:=hs;unfold maxLen at hs;have hbt:=fD s;have Ns:=Lh (show s.data.toList.length=s.size by simp);go_enter Tryz.func237,Tryz.ntmps237;go_wp2_with fail;go_loop [3] (fun v3=>∃k:Nat,k<=s.size/\v3=.int .i64 k/\Hid (BlkX s.data.toList 0 k)) (fun v3=>s.size-(intOf v3).toNat);exact⟨0,by omega,rfl,.refl⟩;obtain⟨k,hk,rfl,hX⟩:=hrel;by_cases Jl:k<s.size
 .have Du:k<s.data.toList.length:=by rw[Ns.o];exact Jl
  have hc:Nf s k=35\/Nf s k=32\/Nf s k=9\/Nf s k=13\/Nf s k=10\/(Nf s k≠35/\Nf s k≠32/\Nf s k≠9/\Nf s k≠13/\Nf s k≠10):=by omega
  rcases hc with h|h|h|h|h|⟨h1,h2,h3,h4,h5⟩
  .have h35:s.data.toList[k]=35:=(dP s Du 35).2 h;have HR:=Lh (Tm Sq (s.data.toList.drop k));have HP:=Lh (show 1<=Ko Sq (s.data.toList.drop k) by rw[Ql Du,h35];exact Oo (by decide));have HX2:=Lh (BlkX.note Du hX.o h35);have HC:=Lh (kN 266 Sq (fun _ _=>by kernel_rfl) qoE (s.extract k s.size) w (by simp;unfold maxLen;omega));rw[eJ]at HC;obtain⟨R,hR⟩:=Xe (Ko Sq (s.data.toList.drop k));rw[<-hR]at HR HP HX2 HC;have hR2:R+k<=s.size:=by have:=HR.o;rw[Xl,Ns.o]at this;omega
   have hR1:1<=R:=HP.o;clear hR h35;go_wp2_with fail;refine HC.o.mono ?_;rintro e w1 ⟨rfl,rfl⟩;go_wp2;go_round;exact⟨k+R,by omega,by go_num,HX2.o⟩;simp[intOf];omega
  iterate 4
   .have HX2:=Lh (BlkX.blank Du hX.o ((kz s Du).2 (by omega)));go_wp2;go_round;exact⟨k+1,by omega,by go_num,HX2.o⟩;simp[intOf];omega
  have HEND:=Lh (show Of s.data.toList k from fun hh=>⟨by
   rw[<-Bool.not_eq_true,kz s hh]
   omega,fun e=>h1 ((dP s hh 35).1 e)⟩)
  go_wp2;go_ret;exact⟨k,rfl,hk,hX.o,HEND.o,rfl⟩
 have HEND:=Lt (Of s.data.toList k) (fun h=>absurd h (by rw[Ns.o];omega));go_wp2;go_ret;exact⟨k,rfl,hk,hX.o,HEND.o,rfl⟩
theorem Nl{x:Tmp}(h:fn.results=#[.cell p ty,.tmp u,.tmp x])(tmps:Array Value)(P:Program)(w:World) :
  (results fn tmps).run P w=((asAddr (tmps.getD p undef)).run P w).andThen fun a w₁=>((loadVar ty a).run P w₁).andThen fun v w₂=>.ok (.tuple #[v,tmps.getD u undef,tmps.getD x undef]) w₂:=by
 simp only[results,h];simp[Result.andThen]
theorem Fs{x:Tmp}{r y:Value}{Q:Ending->World->Prop}(h:fn.results=#[.cell p 220,.tmp u,.tmp x]){c0 c1 c2:Value}{t:TypeId}(hd:a.defers=[])
  (hp:a.tmps.getD p undef=.pointer (some ⟨g,0,none⟩)) (hu:a.tmps.getD u undef=r) (hx:a.tmps.getD x undef=y) (hg:w.heap[g]?=some (.cells #[c0,c1,c2] t fr)) (hq:Q (.returned (.tuple #[.agg #[c0,c1,c2],r,y])) w):bodyPost Tryz.prog fn Q .ret a w:=by
 refine Zh (v:=.tuple #[.agg #[c0,c1,c2],r,y]) ?_ hd hq;rw[Nl h,hp,hu,hx];simp[asAddr,Result.andThen,run_loadVar_row w g t 220 #[c0,c1,c2] fr _ hg Tryz.underlying220 rfl (by kernel_rfl)]
def vV(k:Nat)(b:ByteArray)(n:Nat):Value:=if 32<b.size then .tuple #[.agg #[.int .i64 0,.string ⟨#[]⟩,.int .i64 0],.int .i64 0,.int .i64 19]else .tuple #[.agg #[.int .i64 k,.string b,.int .i64 0],.int .i64 n,.int .i64 0]
theorem ro(k:Nat)(b:ByteArray)(n:Nat)(w:World)(hb:b.size<=maxLen) :
  Calls Tryz.prog 267 #[.agg #[.int .i64 k,.string b,.int .i64 0],.int .i64 n] w fun e w'=>e=.returned (vV k b n)/\Below w.heap.size w w':=by
 unfold maxLen at hb;by_cases h:32<b.size
 .have HV:=Lt (vV k b n=.tuple #[.agg #[.int .i64 0,.string ⟨#[]⟩,.int .i64 0],.int .i64 0,.int .i64 19]) (if_pos h);go_enter Tryz.func267,Tryz.ntmps267;go_wp2_with fail;refine Fs (g:=w.heap.size+1) rfl rfl rfl rfl rfl (by rw[show w.heap.size+1=(w.alloc (.cells #[.int .i64 k,.string b,.int .i64 0] 220)).heap.size from (Xs _ _).symm];exact Xn _ _) ?_;exact⟨(congrArg Ending.returned HV.o.symm),((Xr _ _).alloc (Yb _) _).alloc (by simp) _⟩
 have HV:=Lt (vV k b n=.tuple #[.agg #[.int .i64 k,.string b,.int .i64 0],.int .i64 n,.int .i64 0]) (if_neg h);go_enter Tryz.func267,Tryz.ntmps267;go_wp2_with fail;refine Fs (g:=w.heap.size+1) rfl rfl rfl rfl rfl (by rw[show w.heap.size+1=(w.alloc (.cells #[.int .i64 k,.string b,.int .i64 0] 220)).heap.size from (Xs _ _).symm];exact Xn _ _) ?_;exact⟨(congrArg Ending.returned HV.o.symm),((Xr _ _).alloc (Yb _) _).alloc (by simp) _⟩
def qxJ(h:List UInt8)(k:Int):List Value:=Rz h++[.int .i64 k]
abbrev hkv(h:List UInt8)(k:Int):Value:=.agg (qxJ h k).toArray
section
variable {P:Program} {w:World}
theorem qoP{d:TypeDesc}(hu:P.underlying ty=some d)(hd:(match d with|.struct _|.array _ _=>true|_=>false)=true){b:Nat}{cs:List Value}(hi:(P.info? ty).map (·.size)=some cs.length)
  (hc:∀j u,cs[j]?=some u->w.cell? ⟨b,off+j,none⟩=some u):(Instr.loadAt ty (.pointer (some ⟨b,off,none⟩))).run P w=.ok (.agg cs.toArray) w:=by
 have hl:(loadCells ⟨b,off,none⟩ cs.length).run P w=.ok cs.toArray w:=run_loadCells_list (P:=P) w ⟨b,off,none⟩ cs (fun j v hv=>by rw[Addr.add_lit];exact hc j v hv);cases hq:P.info? ty with
 |none=>simp[hq]at hi
 |some i =>
  have hs:i.size=cs.length:=by simpa[hq]using hi
  have iZ:(isAgg ty).run P w=.ok true w:=by
   unfold isAgg;rw[Zg,run_underlying hu w];cases d <;> simp_all
  simp[Instr.loadAt,Instr.sureAddr,loadVar,iZ,sizeOf,typeInfo,hq,hs,hl]
theorem Bu(hv:v.cells=vs.toArray)(hi:(P.info? ty).map (·.size)=some vs.length){t:TypeId}(hg:w.heap[g]?=some (.cells cur t (0,0)))
  (hl:off+vs.length<=cur.size) (h1:∀u∈vs,u.oneCell'=true):(Instr.storeAt ty (.pointer (some ⟨g,off,none⟩)) v).run P w=.ok () (w.setRow g (cur.toList.take off++vs++cur.toList.drop (off+vs.length)).toArray):=by
 have hs:=run_storeCells_at P g off t vs 0 cur w hg (by omega) h1;rw[Yq]at hs;cases hq:P.info? ty with
 |none=>simp[hq]at hi
 |some i =>
  have Fb:i.size=vs.length:=by simpa[hq]using hi
  simp[Instr.storeAt,Instr.sureAddr,storeVar,sizeOf,typeInfo,hq,Fb,hv,hs]
end
structure Stop(p:Prop):Prop where
 o:p
theorem Stop.go{p:Prop}(h:p):Stop p:=⟨h⟩
section
variable {P:Program} {ops:Array Oper} {Q:Exit->Act->World->Prop} {a:Act} {w:World} {rest:List Oper} {o:Oper}
theorem Zv(d:Option Tmp)(_hd:o.dst=d)(h:Stop (wpList P ops Q (o::rest) a w)):wpList P ops Q (o::rest) a w:=h.o
theorem Zo(hgd:o.guard=none)(ty:TypeId){x y:Operand}(ho:o.op=.store ty x y)(hx:a.eval x=.pointer (some ⟨g,off,none⟩))(hy:a.eval y=v)
  (fM:(Instr.storeAt ty (.pointer (some ⟨g,off,none⟩)) v).run P w=.ok () w') (h:wpList P ops Q rest (a.put o.dst undef) w'):wpList P ops Q (o::rest) a w:=by
 refine wpList_plain hgd fun K hK=>?_;unfold Oper.wp execOp;simp only[ho,hx,hy,Zg,fM,Result.andThen_ok,Sem.run_pure];exact hK _ _ h
end
section
variable {P:Program} {ops:Array Oper} {Q:Exit->Act->World->Prop} {a:Act} {w:World} {rest:List Oper} {o:Oper}
theorem vX{k:IntKind}{p:Addr}{z:Int}(hu:P.underlying ty=some (.int k))(hc:w.cell? p=some (.int k z)):(Instr.loadAt ty (.pointer (some p))).run P w=.ok (.int k z) w:=by
 have iZ:(isAgg ty).run P w=.ok false w:=by
  unfold isAgg;rw[Zg,run_underlying hu w];rfl
 simp[Instr.loadAt,Instr.sureAddr,loadVar,iZ,hc]
theorem Kc{x:Operand}{p:Value}(ho:o.op=.load ty x)(hx:a.eval x=p)(h:(Instr.loadAt ty p).run P w=.ok v w):(execOp a.eval o).run P w=.ok (.value v) w:=by
 unfold execOp;simp only[ho,hx,Zg,h,Result.andThen_ok,Sem.run_pure]
end
section
variable {P:Program} {ops:Array Oper} {w0:World} {G:List Nat}
theorem Mn(n:Nat){l:List Oper}(hG:(List.range' k n).all (fun i=>!G.contains i)=true)
  (h:∀Q':Exit->Act->World->Prop,(∀a w,Stop (Text.wpS P ops w0 G Q (k+n) (l.drop n) a w)->Q' .normal a w)->wpList P ops Q' (l.take n) a w):Stop (Text.wpS P ops w0 G Q k l a w) :=
 ⟨Text.wpS_seg n k l a w hG fun Q' hQ'=>h Q' fun a w hh=>hQ' a w hh.o⟩
theorem Na{o:Oper}{r:List Oper}
  (h:∀Q':Exit->Act->World->Prop,(∀a' w',Below w0.heap.size w0 w'/\Stop (Text.wpS P ops w0 G Q (k+1) r a' w')->Q' .normal a' w')->wpList P ops Q' [o] a w):Stop (Text.wpS P ops w0 G Q k (o::r) a w) :=
 ⟨Text.wpS_one fun Q' hQ'=>h Q' fun a w hh=>hQ' a w ⟨hh.1,hh.2.o⟩⟩
theorem eF(h:Q a w):Stop (Text.wpS P ops w0 G Q k [] a w):=⟨h⟩
theorem tC{id:Nat}{Q:Exit->Act->World->Prop}{l:List Oper}(G LD ex:List Nat)(hm:P.follows .mixedOrders=true)(hB:Text.growB P l.toArray G LD ex=true)
  (h:Stop (Text.wpS P l.toArray w.drew G (fun a' w'=>Text.chk l.toArray ex a'=true/\Text.oldAll P l.toArray w.drew a' LD/\Q .normal a' w') 0 l a w.drew)):(Code.region id l.toArray true).wp P Q a w :=
 Text.wp_grow G LD ex hm hB h.o
end
theorem qmT(h:b.data.toList=l):Jp l=b:=by subst h;exact Dp b
theorem vS(s:ByteArray)(i k:Nat):(s.extract i (i+k)).data.toList=(s.data.toList.drop i).take k:=by
 rw[ByteArray.data_extract,Array.toList_extract,List.extract_eq_take_drop,Nat.add_sub_cancel_left]
theorem qiS(s:ByteArray)(k:Nat):(s.extract 0 k).data.toList=s.data.toList.take k:=by
 have:=vS s 0 k
 rwa [Yr,List.drop_zero]at this
theorem eM(hv:v.cells=vs.toArray)(hl:vs.length=3){t:TypeId}(hg:w.heap[g]?=some (.cells cur t (0,0)))
  (hc:cur.size=3) (h1:∀u∈vs,u.oneCell'=true):(Instr.storeAt 220 (.pointer (some ⟨g,0,none⟩)) v).run Tryz.prog w=.ok () (w.setRow g vs.toArray):=by
 rw[Bu hv (by rw[hl];kernel_rfl) hg (by omega) h1];congr 2;simp[List.drop_eq_nil_of_le (show cur.toList.length<=vs.length by simp;omega)]
def wX(l:Wd):Value:=match Fg l with
 |.ok t=>.tuple #[.agg #[.int .i64 t.1,.string (Jp t.2.1),.int .i64 0],.int .i64 t.2.2,.int .i64 0]
 |.error e=>.tuple #[.agg #[.int .i64 0,.string ⟨#[]⟩,.int .i64 0],.int .i64 0,.int .i64 e]
theorem Bz(h:Fg l=.ok t)(hb:b.data.toList=t.2.1):wX l=.tuple #[.agg #[.int .i64 t.1,.string b,.int .i64 0],.int .i64 t.2.2,.int .i64 0]:=by
 unfold wX;rw[h,<-qmT hb]
theorem Gy(h:Fg l=.error e):wX l=.tuple #[.agg #[.int .i64 0,.string ⟨#[]⟩,.int .i64 0],.int .i64 0,.int .i64 e]:=by
 unfold wX;rw[h]
def yL(l:Wd)(w:World)(e:Ending)(w':World):Prop:=e=.returned (wX l)/\Below w.heap.size w w'
theorem jq(s:ByteArray)(w:World)(hs:s.size<=maxLen)(h0:0<s.size):Calls Tryz.prog 238 #[.string s] w (yL s.data.toList w):=by
 have Be:=hs;unfold maxLen at hs;have hbt:=fD s;have Ns:=Lh (show s.data.toList.length=s.size by simp);obtain⟨c,r,lJ⟩:∃c r,s.data.toList=c::r:=by
  cases hl:s.data.toList with
  |nil=>have:=Ns.o;rw[hl]at this;simp at this;omega
  |cons c r=>exact⟨c,r,rfl⟩
 have Vn:Nf s 0=(c.toNat:Int):=by rw[Fm s 0 (by rw[Ns.o];exact h0)];simp[lJ]
 have HT:=Lh (show Fg s.data.toList=Cb c r by rw[lJ];rfl);unfold yL;have HIT:=Lh (Xn w (.cells #[.int .i64 0,.string ⟨#[]⟩,.int .i64 0] 220));have aV:Nf s 0=58\/Nf s 0=124\/Nf s 0=59\/(Nf s 0≠58/\Nf s 0≠124/\Nf s 0≠59):=by omega
 rcases aV with h|h|h|⟨h1,h2,h3⟩
 .have HV:=Lh (Bz (b:=⟨#[58]⟩) (HT.o.trans (by rw[show c=58 from UInt8.toNat_inj.1 (by have:=Vn;rw[h]at this;exact Int.ofNat_inj.1 this.symm)];exact tM r)) rfl);clear HT lJ Vn;go_enter Tryz.func238,Tryz.ntmps238;go_wp2_with fail;refine Fs (g:=w.heap.size) rfl rfl rfl rfl rfl (Xn _ _) ?_;exact⟨congrArg Ending.returned HV.o.symm,(Xr _ _).alloc (Yb _) _⟩
 .have HV:=Lh (Bz (b:=⟨#[124]⟩) (HT.o.trans (by rw[show c=124 from UInt8.toNat_inj.1 (by have:=Vn;rw[h]at this;exact Int.ofNat_inj.1 this.symm)];exact oe r)) rfl);clear HT lJ Vn;go_enter Tryz.func238,Tryz.ntmps238;go_wp2_with fail;refine Fs (g:=w.heap.size) rfl rfl rfl rfl rfl (Xn _ _) ?_;exact⟨congrArg Ending.returned HV.o.symm,(Xr _ _).alloc (Yb _) _⟩
 .have HV:=Lh (Bz (b:=⟨#[59]⟩) (HT.o.trans (by rw[show c=59 from UInt8.toNat_inj.1 (by have:=Vn;rw[h]at this;exact Int.ofNat_inj.1 this.symm)];exact bc r)) rfl);clear HT lJ Vn;go_enter Tryz.func238,Tryz.ntmps238;go_wp2_with fail;refine Fs (g:=w.heap.size) rfl rfl rfl rfl rfl (Xn _ _) ?_;exact⟨congrArg Ending.returned HV.o.symm,(Xr _ _).alloc (Yb _) _⟩
 have hb1:(Nf s 0==58)=false:=by simpa using h1
 have Jd:(Nf s 0==124)=false:=by simpa using h2
 have hb3:(Nf s 0==59)=false:=by simpa using h3
 have n1:c≠58:=fun e=>h1 (by rw[Vn,e];rfl);have n2:c≠124:=fun e=>h2 (by rw[Vn,e];rfl);have n3:c≠59:=fun e=>h3 (by rw[Vn,e];rfl);clear h1 h2 h3;rcases Yo (Uv (Nf s 0))with hl|hl
 .have HTN:=Lh (HT.o.trans (bd (by rw[<-Vn];exact hl)));have HRL:=Lh (Tm Ww s.data.toList);have HRP:=Lh (show 1<=Ko Ww s.data.toList by rw[lJ];exact Oo (cX (by rw[<-Vn];exact hl)));have HRUN:=Lh (fun W:World=>kN 190 Ww (fun _ _=>by kernel_rfl) tv s W Be);have eA:=Lh (fun W:World=>Ta (Nf s 0) W);rw[<-lJ]at HTN;obtain⟨n,hn⟩:=Xe (Ko Ww s.data.toList);rw[<-hn]at HTN HRL HRP;simp only[<-hn]at HRUN;rw[hl]at eA;have hns:n<=s.size:=by rw[<-Ns.o];exact HRL.o
  have hn1:1<=n:=HRP.o;have HXS:=Lh (show (s.extract 0 n).size=n by simp;omega);have HXL:=Lh (qiS s n);have qtE:=Lh (fun W:World=>ro 1 (s.extract 0 n) n W (by rw[HXS.o];omega));clear HT lJ Vn hn n1 n2 n3 hl;go_enter Tryz.func238,Tryz.ntmps238;go_wp2_with fail;refine (eA.o _).mono ?_;rintro e w1 ⟨rfl,rfl⟩;go_wp2_with fail;refine (HRUN.o _).mono ?_;rintro e w1 ⟨rfl,rfl⟩;go_wp2_with fail;have Bf:Below w.heap.size w (w.alloc (.cells #[.int .i64 0,.string ⟨#[]⟩,.int .i64 0] 220)):=(Xr _ _).alloc (Yb _) _;have HB0:=Lh Bf;have HZ0:=Lh (Xs w (.cells #[.int .i64 0,.string ⟨#[]⟩,.int .i64 0] 220));clear Bf;generalize w.alloc (.cells #[.int .i64 0,.string ⟨#[]⟩,.int .i64 0] 220)=w1 at*;refine (qtE.o w1).mono ?_;rintro e w2 ⟨rfl,Jd⟩;have HI2:=Lh ((Jd.block w.heap.size (by rw[HZ0.o];omega)).trans HIT.o);have HB2:=Lh (HB0.o.trans (Jd.mono (by rw[HZ0.o];omega)));clear Jd;by_cases wN:32<n
  .have HV:=Lh (Gy (HTN.o.trans (if_pos wN)));have HLV:=Lt (vV 1 (s.extract 0 n) n=_) (if_pos (by rw[HXS.o];exact wN));rw[HLV.o];go_wp2_with (refine Zv none rfl ?_);refine Stop.go (Zo rfl 220 rfl rfl rfl (eM (vs:=[.int .i64 0,.string ⟨#[]⟩,.int .i64 0]) rfl rfl HI2.o rfl (by intro u hu;simp only[List.mem_cons,List.not_mem_nil,or_false]at hu;rcases hu with rfl|rfl|rfl <;> rfl)) ?_);have HR:=Lh (Zj _ _ _ _ _ _ HI2.o:(w2.setRow w.heap.size [.int .i64 0,.string ⟨#[]⟩,.int .i64 0].toArray).heap[w.heap.size]?=_);have HBR:=Lh (Zk HB2.o (Yb _) [.int .i64 0,.string ⟨#[]⟩,.int .i64 0].toArray);generalize w2.setRow w.heap.size [.int .i64 0,.string ⟨#[]⟩,.int .i64 0].toArray=w3 at*;(conv in Act.put _ _ _=>simp[Act.put]);go_wp2_with fail;refine Fs (g:=w.heap.size) rfl rfl rfl rfl rfl HR.o ?_;exact⟨congrArg Ending.returned HV.o.symm,HBR.o⟩
  have HV:=Lh (Bz (b:=s.extract 0 n) (HTN.o.trans (if_neg wN)) HXL.o);have HLV:=Lt (vV 1 (s.extract 0 n) n=_) (if_neg (by rw[HXS.o];exact wN));rw[HLV.o];go_wp2_with (refine Zv none rfl ?_);refine Stop.go (Zo rfl 220 rfl rfl rfl (eM (vs:=[.int .i64 1,.string (s.extract 0 n),.int .i64 0]) rfl rfl HI2.o rfl (by intro u hu;simp only[List.mem_cons,List.not_mem_nil,or_false]at hu;rcases hu with rfl|rfl|rfl <;> rfl)) ?_);have HR:=Lh (Zj _ _ _ _ _ _ HI2.o:(w2.setRow w.heap.size [.int .i64 1,.string (s.extract 0 n),.int .i64 0].toArray).heap[w.heap.size]?=_);have HBR:=Lh (Zk HB2.o (Yb _) [.int .i64 1,.string (s.extract 0 n),.int .i64 0].toArray);generalize w2.setRow w.heap.size [.int .i64 1,.string (s.extract 0 n),.int .i64 0].toArray=w3 at*;(conv in Act.put _ _ _=>simp[Act.put]);go_wp2_with fail;refine Fs (g:=w.heap.size) rfl rfl rfl rfl rfl HR.o ?_;exact⟨congrArg Ending.returned HV.o.symm,HBR.o⟩
 have eA:=Lh (fun W:World=>Ta (Nf s 0) W);rw[hl]at eA;have n4:Uv (c.toNat:Int)=false:=by rw[<-Vn];exact hl
 by_cases h4:Nf s 0=39
 .rw[h4]at eA;have n5:c=39:=UInt8.toNat_inj.1 (by have:=Vn;rw[h4]at this;exact Int.ofNat_inj.1 this.symm);have HTN:=Lh (HT.o.trans ((congrArg (fun c=>Cb c r) n5).trans (az r)));have np:=Lh (show s.data.toList.drop 1=r by simp[lJ]);have HRL:=Lh (Tm Jg r);have zgD:=Lh (show r.length+1=s.size by rw[<-Ns.o,lJ,Qu]);have HRUN:=Lh (fun W:World=>kN 191 Jg (fun _ _=>by kernel_rfl) tZ (s.extract 1 s.size) W (by simp;unfold maxLen;omega));simp only[eJ,np.o]at HRUN;obtain⟨n,hn⟩:=Xe (Ko Jg r);rw[<-hn]at HTN HRL;simp only[<-hn]at HRUN;have sr:n+1<=s.size:=by have:=HRL.o;have:=zgD.o;omega
  have qtH:=Lh (show ∀h:n+1<s.size,r[n]?=some 39↔Nf s (n+1)=39 from fun h=>by
   have h1:n+1<s.data.toList.length:=by rw[Ns.o];exact h
   have h2:=dP s h1 39
   rw[show (39:Int)=((39:UInt8).toNat:Int)from rfl,<-h2]
   have h3:n<r.length:=by have:=zgD.o;omega
   rw[Qa h3]
   simp[lJ])
  have qzE:=Lt (s.size<=n+1->r[n]?=none) (fun h=>Xg (by have:=zgD.o;omega));have HXL:=Lh (show (s.extract 1 (n+1)).data.toList=r.take n by rw[Nat.add_comm n 1,vS s 1 n,np.o]);clear HT lJ Vn hn n1 n2 n3 n4 n5 hl;by_cases hz:n=0
  .have HV:=Lh (Gy (HTN.o.trans (if_neg (fun h=>by omega))));subst hz;go_enter Tryz.func238,Tryz.ntmps238;go_wp2_with fail;refine (eA.o _).mono ?_;rintro e w1 ⟨rfl,rfl⟩;go_wp2_with fail;refine (HRUN.o _).mono ?_;rintro e w1 ⟨rfl,rfl⟩;go_wp2_with fail;refine Fs (g:=w.heap.size) rfl rfl rfl rfl rfl (Xn _ _) ?_;exact⟨congrArg Ending.returned HV.o.symm,(Xr _ _).alloc (Yb _) _⟩
  have hp:0<n:=by omega
  have g1:decide ((0:Int)<(n:Int))=true:=by simpa using hp
  by_cases Jl:n+1<s.size
  .have g2:decide ((n:Int)+1<(s.size:Int))=true:=by simp;omega
   by_cases h9:Nf s (n+1)=39
   .have HTN:=Lh (HTN.o.trans (if_pos ⟨hp,(qtH.o Jl).2 h9⟩));have HXS:=Lh (show (s.extract 1 (n+1)).size=n by simp;omega);have qtE:=Lh (fun W:World=>ro 2 (s.extract 1 (n+1)) (n+2) W (by rw[HXS.o];unfold maxLen;omega));clear hz;go_enter Tryz.func238,Tryz.ntmps238;go_wp2_with fail;refine (eA.o _).mono ?_;rintro e w1 ⟨rfl,rfl⟩;go_wp2_with fail;refine (HRUN.o _).mono ?_;rintro e w1 ⟨rfl,rfl⟩;go_wp2_with fail;have Bf:Below w.heap.size w (w.alloc (.cells #[.int .i64 0,.string ⟨#[]⟩,.int .i64 0] 220)):=(Xr _ _).alloc (Yb _) _;have HB0:=Lh Bf;have HZ0:=Lh (Xs w (.cells #[.int .i64 0,.string ⟨#[]⟩,.int .i64 0] 220));clear Bf;generalize w.alloc (.cells #[.int .i64 0,.string ⟨#[]⟩,.int .i64 0] 220)=w1 at*;refine (qtE.o w1).mono ?_;rintro e w2 ⟨rfl,Jd⟩;have HI2:=Lh ((Jd.block w.heap.size (by rw[HZ0.o];omega)).trans HIT.o);have HB2:=Lh (HB0.o.trans (Jd.mono (by rw[HZ0.o];omega)));clear Jd;by_cases wN:32<n
    .have HV:=Lh (Gy (HTN.o.trans (if_pos wN)));have HLV:=Lt (vV 2 (s.extract 1 (n+1)) (n+2)=_) (if_pos (by rw[HXS.o];exact wN));rw[HLV.o];go_wp2_with (refine Zv none rfl ?_);refine Stop.go (Zo rfl 220 rfl rfl rfl (eM (vs:=[.int .i64 0,.string ⟨#[]⟩,.int .i64 0]) rfl rfl HI2.o rfl (by intro u hu;simp only[List.mem_cons,List.not_mem_nil,or_false]at hu;rcases hu with rfl|rfl|rfl <;> rfl)) ?_);have HR:=Lh (Zj _ _ _ _ _ _ HI2.o:(w2.setRow w.heap.size [.int .i64 0,.string ⟨#[]⟩,.int .i64 0].toArray).heap[w.heap.size]?=_);have HBR:=Lh (Zk HB2.o (Yb _) [.int .i64 0,.string ⟨#[]⟩,.int .i64 0].toArray);generalize w2.setRow w.heap.size [.int .i64 0,.string ⟨#[]⟩,.int .i64 0].toArray=w3 at*;(conv in Act.put _ _ _=>simp[Act.put]);go_wp2_with fail;refine Fs (g:=w.heap.size) rfl rfl rfl rfl rfl HR.o ?_;exact⟨congrArg Ending.returned HV.o.symm,HBR.o⟩
    have HV:=Lh (Bz (b:=s.extract 1 (n+1)) (HTN.o.trans (if_neg wN)) HXL.o);have HLV:=Lt (vV 2 (s.extract 1 (n+1)) (n+2)=_) (if_neg (by rw[HXS.o];exact wN));rw[HLV.o];go_wp2_with (refine Zv none rfl ?_);refine Stop.go (Zo rfl 220 rfl rfl rfl (eM (vs:=[.int .i64 2,.string (s.extract 1 (n+1)),.int .i64 0]) rfl rfl HI2.o rfl (by intro u hu;simp only[List.mem_cons,List.not_mem_nil,or_false]at hu;rcases hu with rfl|rfl|rfl <;> rfl)) ?_);have HR:=Lh (Zj _ _ _ _ _ _ HI2.o:(w2.setRow w.heap.size [.int .i64 2,.string (s.extract 1 (n+1)),.int .i64 0].toArray).heap[w.heap.size]?=_);have HBR:=Lh (Zk HB2.o (Yb _) [.int .i64 2,.string (s.extract 1 (n+1)),.int .i64 0].toArray);generalize w2.setRow w.heap.size [.int .i64 2,.string (s.extract 1 (n+1)),.int .i64 0].toArray=w3 at*;(conv in Act.put _ _ _=>simp[Act.put]);go_wp2_with fail;refine Fs (g:=w.heap.size) rfl rfl rfl rfl rfl HR.o ?_;exact⟨congrArg Ending.returned HV.o.symm,HBR.o⟩
   have g3:(Nf s (n+1)==39)=false:=by simpa using h9
   have HV:=Lh (Gy (HTN.o.trans (if_neg (fun h=>h9 ((qtH.o Jl).1 h.2)))));clear hz h9;go_enter Tryz.func238,Tryz.ntmps238;go_wp2_with fail;refine (eA.o _).mono ?_;rintro e w1 ⟨rfl,rfl⟩;go_wp2_with fail;refine (HRUN.o _).mono ?_;rintro e w1 ⟨rfl,rfl⟩;go_wp2_with fail;refine Fs (g:=w.heap.size) rfl rfl rfl rfl rfl (Xn _ _) ?_;exact⟨congrArg Ending.returned HV.o.symm,(Xr _ _).alloc (Yb _) _⟩
  have g2:decide ((n:Int)+1<(s.size:Int))=false:=by simp;omega
  have HV:=Lh (Gy (HTN.o.trans (if_neg (fun h=>by have:=qzE.o (by omega);rw[this]at h;cases h.2))));clear hz;go_enter Tryz.func238,Tryz.ntmps238;go_wp2_with fail;refine (eA.o _).mono ?_;rintro e w1 ⟨rfl,rfl⟩;go_wp2_with fail;refine (HRUN.o _).mono ?_;rintro e w1 ⟨rfl,rfl⟩;go_wp2_with fail;refine Fs (g:=w.heap.size) rfl rfl rfl rfl rfl (Xn _ _) ?_;exact⟨congrArg Ending.returned HV.o.symm,(Xr _ _).alloc (Yb _) _⟩
 have HV:=Lh (Gy (HT.o.trans (og n1 n2 n3 n4 (fun e=>h4 (by rw[Vn,e];rfl)))));have h5:(Nf s 0==39)=false:=by simpa using h4
 clear HT lJ Vn n1 n2 n3 n4 hl h4;go_enter Tryz.func238,Tryz.ntmps238;go_wp2_with fail;refine (eA.o _).mono ?_;rintro e w1 ⟨rfl,rfl⟩;go_wp2_with fail;refine Fs (g:=w.heap.size) rfl rfl rfl rfl rfl (Xn _ _) ?_;exact⟨congrArg Ending.returned HV.o.symm,(Xr _ _).alloc (Yb _) _⟩
theorem wP(hb:Below w.heap.size w w')(hd:w.drawn<=w'.drawn):∃q os',w'=Go.Sort.grow (w.drewN q) os':=by
 refine⟨w'.drawn-w.drawn,w'.heap.extract w.heap.size w'.heap.size,?_⟩;refine nw ?_ hb.tape ?_ hb.os hb.output
 .show w'.heap=w.heap++w'.heap.extract w.heap.size w'.heap.size;apply Array.ext_getElem?;intro i;by_cases hi:i<w.heap.size
  .rw[Array.getElem?_append_left hi];exact hb.block i hi
  rw[Array.getElem?_append_right (by omega),Array.getElem?_extract];by_cases h2:i<w'.heap.size
  .rw[if_pos (by omega)];congr 1;omega
  rw[if_neg (by omega),Array.getElem?_eq_none (by omega)]
 show w'.drawn=w.drawn+(w'.drawn-w.drawn);omega
def nF(t:Kz):List Value:=[.int .i64 t.1,.string (Jp t.2.1),.int .i64 t.2.2]
def Eo(l:List Kz):List Value:=(l.map nF).flatten
theorem pM(l:List Kz)(t:Kz):Eo (l++[t])=Eo l++nF t:=by
 unfold Eo;rw[Qt,Qs];simp
theorem tP(l:List Kz):(Eo l).length=3*l.length:=by
 induction l with
 |nil=>rfl
 |cons t l ih =>
  show (nF t++Eo l).length=_;rw[Qe,ih,Qu];show 3+3*l.length=_;omega
def qW(l:Wd)(w:World)(e:Ending)(w':World):Prop:=∃v:Value,e=.returned (.tuple #[v,.int .i64 (Sk l).2.1,.int .i64 (Sk l).2.2])/\w'.ownsRow w.heap.size 220 3 v (Sk l).1.length (Eo (Sk l).1)/\Below w.heap.size w w'
theorem qvM:Dg Tryz.prog 213 220 3 32 (.agg #[.int .i64 0,.string ⟨#[]⟩,.int .i64 0]):=Gh (by kernel_rfl) (by kernel_rfl) rfl (by omega)
theorem tN(h:Fg l=.error e):e=13\/e=19:=by
 cases l with
 |nil=>injection h with h;exact .inl h.symm
 |cons c r =>
  change Cb c r=_ at h;unfold Cb at h
  repeat' split at h
  all_goals first
   |(injection h with h;omega)
   |cases h
theorem pz(h:BlkX s 0 n):ReachX s (0,[]) (n,[]):=by
 have:=BlkX.reach (s:=s) (k:=0) (i:=0) (j:=n) [] (by rw[List.drop_zero];exact h);simpa using this
theorem zx(h:ReachX s (0,[]) (i,toks))(hi:i<s.length)(hE:Of s i)(ht:Fg (s.drop i)=.ok t)(hj:j=i+t.2.2)(hm:BlkX (s.drop j) 0 m):ReachX s (0,[]) (j+m,toks++[(t.1,t.2.1,i)]):=by
 subst hj;have h1:=hE hi;exact (h.snoc (ou hi h1.1 h1.2 ht toks)).trans (BlkX.reach (k:=i+t.2.2) (i:=0) _ hm)
theorem qrF(h:Of (s.drop j) m):Of s (j+m):=h.drop
theorem qW.of(h:Sk l=(toks,i,e))(ho:w'.ownsRow w.heap.size 220 3 v toks.length (Eo toks))(hb:Below w.heap.size w w'):qW l w (.returned (.tuple #[v,.int .i64 i,.int .i64 e])) w':=by
 unfold qW;rw[h];exact⟨v,rfl,ho,hb⟩
theorem O_(s:ByteArray)(w:World)(hs:s.size<=maxLen):Calls Tryz.prog 172 #[.string s] w (qW s.data.toList w):=by
 have Be:=hs;unfold maxLen at hs;have Ns:=Lh (show s.data.toList.length=s.size by simp);by_cases qaJ:65536<s.size
 .have HL:=Lh (dy (s:=s.data.toList) (by rw[Ns.o];exact qaJ));have g0:decide ((65536:Int)<(s.size:Int))=true:=by simp;omega
  clear hs Be qaJ;go_enter Tryz.func172,Tryz.ntmps172;go_wp2_with fail;refine Zh (Zi rfl _ _ _) rfl ?_;exact qW.of HL.o (Za _ _ _ _) (Xr _ _)
 have Mo:s.size<=65536:=by omega
 have g0:decide ((65536:Int)<(s.size:Int))=false:=by simp;omega
 go_enter Tryz.func172,Tryz.ntmps172;go_wp2_with fail;refine (fx s w Be).mono ?_;rintro e w1 ⟨n0,rfl,hn0,hX,hE,rfl⟩;have HX:=Lh (pz hX);have HE:=Lh hE;clear hX hE;have HOWN:=Lh (Za w w.heap.size 220 3);have HB0:=Lh (Xr w.heap.size w);go_wp2_with fail;go_loopw [5,6] (fun v5 v6 wr=>∃(i:Nat)(toks:List Kz),i<=s.size/\toks.length<=i/\v6=.int .i64 i/\Hid (ReachX s.data.toList (0,[]) (i,toks))/\Hid (Of s.data.toList i)/\Hid (wr.ownsRow w.heap.size 220 3 v5 toks.length (Eo toks))/\Hid (Below w.heap.size w wr)) (fun _ v6 _=>s.size-(intOf v6).toNat);exact⟨n0,[],hn0,Yg _,rfl,HX.o,HE.o,HOWN.o,HB0.o⟩;clear HX HE HOWN HB0 hn0;obtain⟨i,toks,hi,hti,rfl,HX,HE,HOWN,HB⟩:=hrel;by_cases Jl:i<s.size
 .have Wp:i<s.data.toList.length:=by rw[Ns.o];exact Jl
  have HF:=Lh (jq (s.extract i s.size) wr (by simp;unfold maxLen;omega) (by simp;omega));rw[eJ]at HF;cases ht:Fg (s.data.toList.drop i)with
  |error en =>
   have HV:=Lh (Gy ht);have Jw:=Lh (ru (by rw[Ns.o];exact Mo) HX.o Wp (HE.o Wp).1 (HE.o Wp).2 ht);have hen:=tN ht;clear ht;go_wp2_with fail;refine HF.o.mono ?_;rintro e w2 ⟨rfl,Jd⟩;rw[HV.o];have HB2:=Lh ((HB.o.trans (Jd.mono HB.o.size)).alloc (by have:=HB.o.size;have:=Jd.size;omega) (.cells #[.int .i64 0,.string ⟨#[]⟩,.int .i64 0] 220));rcases hen with rfl|rfl
   all_goals
    go_wp2_with fail;refine Zh (Zi rfl _ _ _) rfl ?_;exact qW.of Jw.o (Za _ _ _ _) HB2.o
  |ok t =>
   obtain⟨k,txt,n⟩:=t;have HV:=Lh (Bz ht (b:=Jp txt) rfl);have hn1:1<=n:=eI ht;have t_:i+n<=s.size:=by have:=oh ht;rw[Xl,Ns.o]at this;simp only at this;omega
   have HT:=Lh ht;clear ht;go_wp2_with fail;refine HF.o.mono ?_;rintro e w2 ⟨rfl,Jd⟩;rw[HV.o];simp only;have HB2:=Lh (HB.o.trans (Jd.mono HB.o.size));have hb4:Below w2.heap.size w2 ((w2.alloc (.cells #[.int .i64 k,.string (Jp txt),.int .i64 i] 220)).alloc (.cells #[.int .i64 k,.string (Jp txt),.int .i64 i] 220)):=((Xr _ _).alloc (Yb _) _).alloc (by rw[Xs];omega) _;have nk:=Lh (Jc (Jc HOWN.o Jd) hb4);have HB4:=Lh (HB2.o.trans (hb4.mono HB2.o.size));have HN4:=Lh (Xn (w2.alloc (.cells #[.int .i64 k,.string (Jp txt),.int .i64 i] 220)) (.cells #[.int .i64 k,.string (Jp txt),.int .i64 i] 220));rw[Xs]at HN4;clear Jd hb4;go_wp2_with (at_builtin;refine Zy (m:=1) qvM rfl rfl rfl rfl nk.o (Rd.row (B:=w2.heap.size+2) HN4.o (by omega)) rfl (by simp[Value.oneCell']) ?h63 ?hby ?hbase ?_)
   case h63=>simp only[maxLen];omega
   case hby=>omega
   case hbase=>exact HB4.o.size
   intro v5' w7 Un Rk _ _;have HO7:=Lt (w7.ownsRow w.heap.size 220 3 v5' (toks.length+1) (Eo toks++nF (k,txt,i))) (Un);have HB7:=Lh (Zr HB4.o Rk nk.o (Yb _) HB4.o.size);clear Un Rk;obtain⟨j,hj⟩:=Xe (i+n);have HBL:=Lh (fx (s.extract j s.size) w7 (by simp;unfold maxLen;omega));rw[eJ]at HBL;have e1:(i:Int)+(n:Int)=(j:Int):=by omega
   have hjs:j<=s.size:=by omega
   have HJ:=Lh hj;clear hj;go_wp2_with fail;refine HBL.o.mono ?_;rintro e w8 ⟨m,rfl,hm,hX,hE,rfl⟩;have hms:j+m<=s.size:=by simp at hm;omega
   have HXN:=Lh (zx HX.o Wp HE.o HT.o HJ.o hX);have HEN:=Lh (qrF hE);have HON:=Lt (w7.ownsRow w.heap.size 220 3 v5' (toks++[(k,txt,i)]).length (Eo (toks++[(k,txt,i)]))) (by
    rw[pM,Qe,Qf]
    exact HO7.o)
   have hnj:i+n=j:=HJ.o.symm;clear hX hE hm;go_wp2;go_roundw;exact⟨j+m,toks++[(k,txt,i)],by omega,by rw[Qe,Qf];omega,by go_num,HXN.o,HEN.o,HON.o,HB7.o⟩;simp[intOf];omega
 have Jw:=Lh (rv (by rw[Ns.o];exact Mo) HX.o (by rw[Ns.o];omega));go_wp2_with fail;refine Zh (Zi rfl _ _ _) rfl ?_;exact qW.of Jw.o HOWN.o HB.o
theorem pu(y:List Int):Va [] y↔y≠[]:=by
 unfold Va;cases y <;> simp
theorem jh(x:List Int):¬ Va x []:=by
 unfold Va;simp
theorem jf{a:Int}:Va (a::x) (a::y)↔Va x y:=by
 unfold Va;rw[List.map_cons,List.map_cons,List.cons_lt_cons_iff];constructor
 .rintro (h|⟨_,h⟩)
  .exact absurd h (Int.lt_irrefl _)
  exact h
 exact fun h=>.inr ⟨rfl,h⟩
theorem ji{a b:Int}(ha:-1000<=a)(hb:-1000<=b)(h:a≠b):Va (a::x) (b::y)↔Fa a<Fa b:=by
 unfold Va;rw[List.map_cons,List.map_cons,List.cons_lt_cons_iff];constructor
 .rintro (h1|⟨h1,_⟩)
  .exact h1
  exact absurd (qc ha hb h1) h
 exact fun h1=>.inl h1
theorem je(h1:k<x.length)(h2:k<y.length)(he:x[k]=y[k]):Va (x.drop k) (y.drop k)↔Va (x.drop (k+1)) (y.drop (k+1)):=by
 rw[Ql h1,Ql h2,he];exact jf
theorem jg(h1:k<x.length)(h2:k<y.length)(ha:-1000<=x[k])(hb:-1000<=y[k])(hn:x[k]≠y[k]):Va (x.drop k) (y.drop k)↔Fa x[k]<Fa y[k]:=by
 rw[Ql h1,Ql h2];exact ji ha hb hn
theorem pV(h:¬ (k<x.length/\k<y.length))(h1:k<=x.length)(h2:k<=y.length):Va (x.drop k) (y.drop k)↔x.length<y.length:=by
 by_cases hx:k<x.length
 .have hy:y.drop k=[]:=Xm (by omega);rw[hy];constructor
  .exact fun h=>absurd h (jh _)
  intro h;omega
 have aS:x.drop k=[]:=Xm (by omega);rw[aS,pu];constructor
 .intro h3;rcases Nat.lt_or_ge k y.length with h4|h4
  .omega
  exact absurd (Xm h4) h3
 intro h3 h4;have:=congrArg List.length h4;rw[Xl,Xu]at this;omega
structure BoxC{α:Type}(O:pD α)(t Tb:TypeId)(w2:World)(b:Nat)(c0:Value)(l:List α)(v:Value)(wz:World):Prop where
 row:wz.heap[b]?=some (.cells #[c0,v] Tb (0,0))
 own:Mp O t wz (b+1) v l
 keep:Below b w2 wz
theorem Kq{T:TypeId}(h:w.heap[g]?=some (.cells cs T (0,0)))(v:Value):(w.setCell ⟨g,k,none⟩ v).heap[g]?=some (.cells (cs.setIfInBounds k v) T (0,0)):=by
 simp only[World.setCell,Xz,if_true,h,Option.map_some];rfl
theorem Vt{ts:List TypeId}{T:TypeId}(h:w.heap[g]?=some (.cells cs T (0,0)))(hT:T∉ts)(v:Value):Jk ts w (w.setCell ⟨g,k,none⟩ v):=by
 refine⟨by simp[World.setCell],fun j cur t ht hj=>?_⟩;rw[Zc _ _ _ _ ?_]
 .exact hj
 intro e;subst e;rw[h]at hj;injection hj with hj;injection hj with _ hj;exact hT (hj ▸ ht)
theorem ry:Dg Tryz.prog 228 277 2 24 (.agg #[.bool false,.string ⟨#[]⟩]):=Gh (by kernel_rfl) (by kernel_rfl) rfl (by omega)
theorem qsH:Dg Tryz.prog 225 228 1 24 (.slice none 0 0):=Gh (by kernel_rfl) (by kernel_rfl) rfl (by omega)
theorem qoR:Dg Tryz.prog 159 227 2 40 (.agg #[.string ⟨#[]⟩,.slice none 0 0]):=Gh (by kernel_rfl) (by kernel_rfl) rfl (by omega)
theorem Py{a b c:Value}{t:TypeId}(h:w.heap[g]?=some (.cells #[a,b,c] t fr)):w.cell? ⟨g,0,none⟩=some a/\w.cell? ⟨g,1,none⟩=some b/\w.cell? ⟨g,2,none⟩=some c:=by
 refine⟨?_,?_,?_⟩ <;> (rw[Zd _ _ _ _ _ _ h];rfl)
end Go.Proofs.YtmaojnmnbpomeaaGreatDoor
