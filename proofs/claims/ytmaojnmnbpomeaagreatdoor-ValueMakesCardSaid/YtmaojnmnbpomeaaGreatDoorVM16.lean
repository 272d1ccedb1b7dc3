/- A part. -/
import Derived.Test.YtmaojnmnbpomeaaGreatDoorVM15
set_option maxRecDepth 100000
set_option maxHeartbeats 64000000
namespace Go.Proofs.YtmaojnmnbpomeaaGreatDoor
open Go.RowKit
theorem In(v1 v2 v3 vr vm u1 u2 u3 ur um:Value)(v u:Ng)(w:World)(hv:Gh w w.heap.size v1 v2 v3 vr vm v)(hu:Gh w w.heap.size u1 u2 u3 ur um u) :
  Calls Tryz.prog 10 #[Im v1 v2 v3 vr vm v.2.1,Im u1 u2 u3 ur um u.2.1] w fun e w'=>e=.returned (.bool (decide (v=u)))/\Below w.heap.size w w':=by
 obtain⟨A1,A2,A3,A4,A5,c1,c2,c3,c4,c5,rfl,rfl,rfl,rfl,rfl⟩:=hv.form;obtain⟨B1,B2,B3,B4,B5,d1,d2,d3,d4,d5,rfl,rfl,rfl,rfl,rfl⟩:=hu.form;have HV:=Lh hv;have HU:=Lh hu;obtain⟨S,hS⟩:=Xe w.heap.size;have HG:=Lh (fun(W:World)(hb:Below w.heap.size w W)=>uH _ _ _ _ _ _ v.1 u.1 W (HV.o.fut hb (Ya _) hb.size).gram (HU.o.fut hb (Ya _) hb.size).gram);have HR:=Lh (fun(W:World)(hb:Below w.heap.size w W)=>sC _ _ v.2.2.1 u.2.2.1 W (HV.o.fut hb (Ya _) hb.size).rows (HU.o.fut hb (Ya _) hb.size).rows);have HM:=Lh (fun(W:World)(hb:Below w.heap.size w W)=>pE _ _ v.2.2.2 u.2.2.2 W (HV.o.fut hb (Ya _) hb.size).machs (HU.o.fut hb (Ya _) hb.size).machs);have HNE:=Lh (fun h=>qiP (v:=v) (u:=u) h);have HEQ:=Lh (fun a b c=>qiQ (v:=v) (u:=u) a b c);clear hv hu HV HU;unfold Im;generalize v.1.1.length=n1 at *;generalize v.1.2.1.length=n2 at *;generalize v.1.2.2.length=n3 at *;generalize v.2.2.1.length=n4 at *;generalize v.2.2.2.length=n5 at *;generalize u.1.1.length=m1 at *;generalize u.1.2.1.length=m2 at *;generalize u.1.2.2.length=m3 at *;generalize u.2.2.1.length=m4 at *;generalize u.2.2.2.length=m5 at *;obtain⟨k,hk⟩:=Xe v.2.1;obtain⟨j,hj⟩:=Xe u.2.1;rw[<-hk,<-hj];have HKJ:=Lt (k=v.2.1/\j=u.2.1) (⟨hk,hj⟩);clear hk hj;have HB1:=Lt (Below w.heap.size w ((w.alloc (.cells #[.slice A1 n1 c1,.slice A2 n2 c2,.slice A3 n3 c3,.int .i64 k,.slice A4 n4 c4,.slice A5 n5 c5] 31)).alloc (.cells #[.slice B1 m1 d1,.slice B2 m2 d2,.slice B3 m3 d3,.int .i64 j,.slice B4 m4 d4,.slice B5 m5 d5] 31))) (((Xr _ _).alloc (Ya _) _).alloc (by rw[Xs];omega) _);have Bf:=Lh (Go.heap_alloc2_old w (.cells #[.slice A1 n1 c1,.slice A2 n2 c2,.slice A3 n3 c3,.int .i64 k,.slice A4 n4 c4,.slice A5 n5 c5] 31) (.cells #[.slice B1 m1 d1,.slice B2 m2 d2,.slice B3 m3 d3,.int .i64 j,.slice B4 m4 d4,.slice B5 m5 d5] 31));have iJ:=Lh (Go.heap_alloc2_new w (.cells #[.slice A1 n1 c1,.slice A2 n2 c2,.slice A3 n3 c3,.int .i64 k,.slice A4 n4 c4,.slice A5 n5 c5] 31) (.cells #[.slice B1 m1 d1,.slice B2 m2 d2,.slice B3 m3 d3,.int .i64 j,.slice B4 m4 d4,.slice B5 m5 d5] 31));rw[<-hS] at Bf iJ;by_cases e0:k=j
 ·have g0:(k==j)=true:=by simp[e0]
  have HE0:=Lt (v.2.1=u.2.1) (HKJ.o.1.symm.trans (e0.trans HKJ.o.2));clear e0;by_cases e1:v.1=u.1
  ·simp only[Yv e1] at HG;have HE1:=Lh e1;clear e1;by_cases e2:v.2.2.1=u.2.2.1
   ·simp only[Yv e2] at HR;have Ju:=Lh (HEQ.o HE1.o HE0.o e2);clear e2;go_enter Tryz.func10,Tryz.ntmps10;go_wp2_with (refine Zs (some 5) rfl ?_);rw[<-hS];clear hS;refine Stop.go ?_;generalize (w.alloc (.cells #[.slice A1 n1 c1,.slice A2 n2 c2,.slice A3 n3 c3,.int .i64 k,.slice A4 n4 c4,.slice A5 n5 c5] 31)).alloc (.cells #[.slice B1 m1 d1,.slice B2 m2 d2,.slice B3 m3 d3,.int .i64 j,.slice B4 m4 d4,.slice B5 m5 d5] 31)=w1 at *;obtain⟨a0,a1,a2,a3,a4,a5⟩:=Zp Bf.o;obtain⟨b0,b1,b2,b3,b4,b5⟩:=Zp iJ.o;go_wp2_with fail;refine (HG.o w1 HB1.o).mono ?_;rintro e w2 ⟨rfl,hb⟩;have HB2:=Lh (HB1.o.trans (hb.mono HB1.o.size));have aK:=Lh ((hb.block S (gl Bf.o)).trans Bf.o);have dP:=Lh ((hb.block (S+1) (gl iJ.o)).trans iJ.o);clear hb a0 a1 a2 a3 a4 a5 b0 b1 b2 b3 b4 b5;obtain⟨a0,a1,a2,a3,a4,a5⟩:=Zp aK.o;obtain⟨b0,b1,b2,b3,b4,b5⟩:=Zp dP.o;go_wp2_with fail;refine (HR.o w2 HB2.o).mono ?_;rintro e w3 ⟨rfl,hb⟩;have HB3:=Lh (HB2.o.trans (hb.mono HB2.o.size));have wB:=Lh ((hb.block S (gl aK.o)).trans aK.o);have HU3:=Lh ((hb.block (S+1) (gl dP.o)).trans dP.o);clear hb a0 a1 a2 a3 a4 a5 b0 b1 b2 b3 b4 b5;obtain⟨a0,a1,a2,a3,a4,a5⟩:=Zp wB.o;obtain⟨b0,b1,b2,b3,b4,b5⟩:=Zp HU3.o;go_wp2_with fail;refine (HM.o w3 HB3.o).mono ?_;rintro e w4 ⟨rfl,hb⟩;have HB4:=Lh (HB3.o.trans (hb.mono HB3.o.size));go_wp2_with fail;go_ret;exact⟨Kx (Zv Ju.o.symm),HB4.o⟩
   ·simp only[Yw e2] at HR;have Ju:=Lh (HNE.o (.inr (.inr e2)));clear e2;go_enter Tryz.func10,Tryz.ntmps10;go_wp2_with (refine Zs (some 5) rfl ?_);rw[<-hS];clear hS;refine Stop.go ?_;generalize (w.alloc (.cells #[.slice A1 n1 c1,.slice A2 n2 c2,.slice A3 n3 c3,.int .i64 k,.slice A4 n4 c4,.slice A5 n5 c5] 31)).alloc (.cells #[.slice B1 m1 d1,.slice B2 m2 d2,.slice B3 m3 d3,.int .i64 j,.slice B4 m4 d4,.slice B5 m5 d5] 31)=w1 at *;obtain⟨a0,a1,a2,a3,a4,a5⟩:=Zp Bf.o;obtain⟨b0,b1,b2,b3,b4,b5⟩:=Zp iJ.o;go_wp2_with fail;refine (HG.o w1 HB1.o).mono ?_;rintro e w2 ⟨rfl,hb⟩;have HB2:=Lh (HB1.o.trans (hb.mono HB1.o.size));have aK:=Lh ((hb.block S (gl Bf.o)).trans Bf.o);have dP:=Lh ((hb.block (S+1) (gl iJ.o)).trans iJ.o);clear hb a0 a1 a2 a3 a4 a5 b0 b1 b2 b3 b4 b5;obtain⟨a0,a1,a2,a3,a4,a5⟩:=Zp aK.o;obtain⟨b0,b1,b2,b3,b4,b5⟩:=Zp dP.o;go_wp2_with fail;refine (HR.o w2 HB2.o).mono ?_;rintro e w3 ⟨rfl,hb⟩;have HB3:=Lh (HB2.o.trans (hb.mono HB2.o.size));have wB:=Lh ((hb.block S (gl aK.o)).trans aK.o);have HU3:=Lh ((hb.block (S+1) (gl dP.o)).trans dP.o);clear hb a0 a1 a2 a3 a4 a5 b0 b1 b2 b3 b4 b5;obtain⟨a0,a1,a2,a3,a4,a5⟩:=Zp wB.o;obtain⟨b0,b1,b2,b3,b4,b5⟩:=Zp HU3.o;go_wp2_with fail;go_ret;exact⟨Kx (Zv Ju.o.symm),HB3.o⟩
  ·simp only[Yw e1] at HG;have Ju:=Lh (HNE.o (.inl e1));clear e1;go_enter Tryz.func10,Tryz.ntmps10;go_wp2_with (refine Zs (some 5) rfl ?_);rw[<-hS];clear hS;refine Stop.go ?_;generalize (w.alloc (.cells #[.slice A1 n1 c1,.slice A2 n2 c2,.slice A3 n3 c3,.int .i64 k,.slice A4 n4 c4,.slice A5 n5 c5] 31)).alloc (.cells #[.slice B1 m1 d1,.slice B2 m2 d2,.slice B3 m3 d3,.int .i64 j,.slice B4 m4 d4,.slice B5 m5 d5] 31)=w1 at *;obtain⟨a0,a1,a2,a3,a4,a5⟩:=Zp Bf.o;obtain⟨b0,b1,b2,b3,b4,b5⟩:=Zp iJ.o;go_wp2_with fail;refine (HG.o w1 HB1.o).mono ?_;rintro e w2 ⟨rfl,hb⟩;have HB2:=Lh (HB1.o.trans (hb.mono HB1.o.size));have aK:=Lh ((hb.block S (gl Bf.o)).trans Bf.o);have dP:=Lh ((hb.block (S+1) (gl iJ.o)).trans iJ.o);clear hb a0 a1 a2 a3 a4 a5 b0 b1 b2 b3 b4 b5;obtain⟨a0,a1,a2,a3,a4,a5⟩:=Zp aK.o;obtain⟨b0,b1,b2,b3,b4,b5⟩:=Zp dP.o;go_wp2_with fail;go_ret;exact⟨Kx (Zv Ju.o.symm),HB2.o⟩
 ·have g0:(k==j)=false:=by simp[e0]
  have Ju:=Lh (HNE.o (.inr (.inl (fun e=>e0 (HKJ.o.1.trans (e.trans HKJ.o.2.symm))))));clear e0;go_enter Tryz.func10,Tryz.ntmps10;go_wp2_with (refine Zs (some 5) rfl ?_);rw[<-hS];clear hS;refine Stop.go ?_;generalize (w.alloc (.cells #[.slice A1 n1 c1,.slice A2 n2 c2,.slice A3 n3 c3,.int .i64 k,.slice A4 n4 c4,.slice A5 n5 c5] 31)).alloc (.cells #[.slice B1 m1 d1,.slice B2 m2 d2,.slice B3 m3 d3,.int .i64 j,.slice B4 m4 d4,.slice B5 m5 d5] 31)=w1 at *;obtain⟨a0,a1,a2,a3,a4,a5⟩:=Zp Bf.o;obtain⟨b0,b1,b2,b3,b4,b5⟩:=Zp iJ.o;go_wp2_with fail;go_ret;exact⟨Kx (Zv Ju.o.symm),HB1.o⟩
def qvA(ns ts:List ByteArray)(rs:List (Int×List Int))(w:World)(e:Ending)(w':World):Prop:=∃ z:Int,e=.returned (.int .i64 z)/\(z=0\/(z=1/\ns.length<=12/\ts.length<=12/\rs.length<=40))/\Below w.heap.size w w'
theorem qfW(v1 v2 v3:Value)(ns ts:List ByteArray)(rs:List (Int×List Int))(w:World)(h1:Je Nk w w.heap.size v1 ns)(h2:Je Nk w w.heap.size v2 ts)(h3:Je Vv w w.heap.size v3 rs) :
  Calls Tryz.prog 7 #[.agg #[v1,v2,v3]] w (qvA ns ts rs w):=by
 obtain⟨A1,c1,rfl,Nj,gN⟩:=h1.form;obtain⟨A2,c2,rfl,Uy,qzK⟩:=h2.form;obtain⟨A3,c3,rfl,zc,qzJ⟩:=h3.form;unfold maxLen at gN qzK qzJ;by_cases hgood:ns.length<=12/\ts.length<=12/\rs.length<=40
 case neg =>
  have Ht:12<ns.length\/(ns.length<=12/\12<ts.length)\/(ns.length<=12/\ts.length<=12/\40<rs.length):=by omega
  rcases Ht with h | ⟨h0,h⟩ | ⟨h0,h0',h⟩
  all_goals
   go_enter Tryz.func7,Tryz.ntmps7;go_wp2_with fail
   all_goals first
    |(exfalso;omega)
    |(go_ret;exact⟨0,rfl,.inl rfl,by go_grown⟩)
 obtain⟨g1,g2,g3⟩:=hgood;go_enter Tryz.func7,Tryz.ntmps7;go_wp2_with fail
 all_goals first
  |(exfalso;omega)
  |skip
 have HW:Hid (Below w.heap.size w (w.alloc (Obj.cells #[Value.slice A1 ns.length c1,Value.slice A2 ts.length c2,Value.slice A3 rs.length c3] 25))):=(Xr _ _).alloc (Ya _) _;have HS:Hid ((w.alloc (Obj.cells #[Value.slice A1 ns.length c1,Value.slice A2 ts.length c2,Value.slice A3 rs.length c3] 25)).heap.size=w.heap.size+1):=by show _=_;simp
 have k0:(w.alloc (Obj.cells #[Value.slice A1 ns.length c1,Value.slice A2 ts.length c2,Value.slice A3 rs.length c3] 25)).cell? ⟨w.heap.size,0,none⟩=some (Value.slice A1 ns.length c1):=by simp
 have k1:(w.alloc (Obj.cells #[Value.slice A1 ns.length c1,Value.slice A2 ts.length c2,Value.slice A3 rs.length c3] 25)).cell? ⟨w.heap.size,1,none⟩=some (Value.slice A2 ts.length c2):=by simp
 have k2:(w.alloc (Obj.cells #[Value.slice A1 ns.length c1,Value.slice A2 ts.length c2,Value.slice A3 rs.length c3] 25)).cell? ⟨w.heap.size,2,none⟩=some (Value.slice A3 rs.length c3):=by simp
 generalize w.alloc (Obj.cells #[Value.slice A1 ns.length c1,Value.slice A2 ts.length c2,Value.slice A3 rs.length c3] 25)=W at HW HS k0 k1 k2 |-;have h1W:=h1.below HW.o;have h2W:=h2.below HW.o;have h3W:=h3.below HW.o;clear h1 h2 h3;go_loop [3] (fun v=>∃ k:Nat,k<=rs.length/\v=.int .i64 k) (fun v=>rs.length - (intOf v).toNat);exact⟨0,by omega,rfl⟩;obtain⟨k,hk,rfl⟩:=hrel;by_cases Ji:k<rs.length
 ·obtain⟨ab,ao,cs,rfl,_,Lj,Zx,Zm⟩:=h3W.get Ji (by decide);obtain⟨u,rfl,hu,Ib,Sc⟩:=Kq Zx;obtain⟨A4,e4,rfl,hq1,hq2⟩:=hu.form;unfold maxLen at hq2;have gN:=Zm 1 _ rfl;clear Zm;simp only[show Vv.size=2 from rfl,<-Yx] at gN;go_wp2_with fail
  ·go_ret;exact⟨0,rfl,.inl rfl,HW.o⟩
  ·go_round;exact⟨k+1,by omega,by go_num⟩;simp[intOf];omega
 go_wp2_with fail;go_loop [4] (fun v=>∃ j:Nat,j<=ns.length/\v=.int .i64 j) (fun v=>ns.length - (intOf v).toNat);exact⟨0,by omega,rfl⟩;obtain⟨j,hj,rfl⟩:=hrel;by_cases hlj:j<ns.length
 ·obtain⟨ab,ao,cs,rfl,_,Lj,Zx,Zm⟩:=h1W.get hlj (by decide);obtain⟨rfl,Pr⟩:=Zx;unfold maxLen at Pr;have Vh:=Zm 0 _ rfl;clear Zm;simp only[show Nk.size=1 from rfl,Yr,Yp] at Vh;go_wp2_with fail
  ·go_ret;exact⟨0,rfl,.inl rfl,HW.o⟩
  ·go_round;exact⟨j+1,by omega,by go_num⟩;simp[intOf];omega
 go_wp2_with fail;go_loop [5] (fun v=>∃ i:Nat,i<=ts.length/\v=.int .i64 i) (fun v=>ts.length - (intOf v).toNat);exact⟨0,by omega,rfl⟩;obtain⟨i,hi,rfl⟩:=hrel;by_cases hli:i<ts.length
 ·obtain⟨ab,ao,cs,rfl,_,Lj,Zx,Zm⟩:=h2W.get hli (by decide);obtain⟨rfl,Pr⟩:=Zx;unfold maxLen at Pr;have Vh:=Zm 0 _ rfl;clear Zm;simp only[show Nk.size=1 from rfl,Yr,Yp] at Vh;go_wp2_with fail
  ·go_ret;exact⟨0,rfl,.inl rfl,HW.o⟩
  ·go_round;exact⟨i+1,by omega,by go_num⟩;simp[intOf];omega
 go_wp2_with fail;go_ret;exact⟨1,rfl,.inr ⟨rfl,g1,g2,g3⟩,HW.o⟩
def oX(t:Kr):Prop:=(t.1=1->Ee t.2.1=true)/\(t.1=2->Fi t.2.1=true)
theorem lN(may:Int->Bool):∀(l:Wd),∀ b∈l.take (Ki may l),may (b.toNat:Int)=true
 |[],b,h=>by simp at h
 |c::r,b,h=>by
  unfold Ki at h;by_cases hc:may (c.toNat:Int)=true
  ·rw[if_pos hc,List.take_succ_cons,List.mem_cons] at h;rcases h with rfl | h
   ·exact hc
   ·exact lN may r b h
  ·rw[if_neg hc] at h;simp at h
theorem qiX{l:Wd}{t:Nat×Wd×Nat}(h:Er l=.ok t)(i:Nat):oX (t.1,t.2.1,i):=by
 cases l with
 |nil=>cases h
 |cons c r =>
  change Bg c r=_ at h;unfold Bg at h;by_cases h1:c=58
  ·rw[if_pos h1] at h;cases h;exact⟨fun e=>absurd (show (3:Nat)=1 from e) (by decide),fun e=>absurd (show (3:Nat)=2 from e) (by decide)⟩
  ·rw[if_neg h1] at h;by_cases h2:c=124
   ·rw[if_pos h2] at h;cases h;exact⟨fun e=>absurd (show (4:Nat)=1 from e) (by decide),fun e=>absurd (show (4:Nat)=2 from e) (by decide)⟩
   ·rw[if_neg h2] at h;by_cases h3:c=59
    ·rw[if_pos h3] at h;cases h;exact⟨fun e=>absurd (show (5:Nat)=1 from e) (by decide),fun e=>absurd (show (5:Nat)=2 from e) (by decide)⟩
    ·rw[if_neg h3] at h;by_cases h4:Ul (c.toNat:Int)=true
     ·rw[if_pos h4] at h;by_cases h5:32<Ki Wl (c::r)
      ·rw[if_pos h5] at h;cases h
      ·rw[if_neg h5] at h;cases h;refine⟨fun _=>?_,fun e=>absurd (show (1:Nat)=2 from e) (by decide)⟩;have hp:1<=Ki Wl (c::r):=Lq (bD h4);have hl:=Sx Wl (c::r);have ht:=lN Wl (c::r);show Ee ((c::r).take (Ki Wl (c::r)))=true;generalize Ki Wl (c::r)=N at hp hl ht h5;unfold Ee;rw[Yl,Yl,Yj,Qq,Xp];refine⟨⟨by omega,?_⟩,ht⟩;cases N with
       |zero=>omega
       |succ N=>exact h4
     ·rw[if_neg h4] at h;by_cases h5:c=39
      ·rw[if_pos h5] at h;by_cases h6:0<Ki Jc r/\r[Ki Jc r]? = some 39
       ·rw[if_pos h6] at h;by_cases h7:32<Ki Jc r
        ·rw[if_pos h7] at h;cases h
        ·rw[if_neg h7] at h;cases h;refine⟨fun e=>absurd (show (2:Nat)=1 from e) (by decide),fun _=>?_⟩;have hl:=Sx Jc r;have ht:=lN Jc r;show Fi (r.take (Ki Jc r))=true;unfold Fi;rw[Yl,Yj,Qq,Xp];exact⟨by omega,ht⟩
       ·rw[if_neg h6] at h;cases h
      ·rw[if_neg h5] at h;cases h
theorem qjF{s:Wd}{a b:Nat×List Kr}(h:Gj s a=some b)(ha:∀ t∈a.2,oX t):∀ t∈b.2,oX t:=by
 unfold Gj at h;split at h
 ·cases h
 ·split at h
  ·injection h with h;subst h;exact ha
  ·split at h
   ·injection h with h;subst h;exact ha
   ·split at h
    ·rename_i t ht;injection h with h;subst h;intro x hx;rcases Qh.1 hx with hx | hx
     ·exact ha x hx
     ·rw[Qi.1 hx];exact qiX ht _
    ·cases h
theorem p_{s:Wd}:∀(f:Nat)(a:Nat×List Kr),(∀ t∈a.2,oX t)->∀ t∈(dj s f a).2,oX t
 |0,_,h=>h
 |f+1,a,h=>by
  unfold dj;split
  ·exact h
  ·rename_i b hb;exact p_ f b (qjF hb h)
theorem qsM(s:Wd):∀ t∈(Rv s).1,oX t:=by
 unfold Rv;split
 ·intro t ht;cases ht
 ·unfold pz;split
  ·exact p_ _ _ (fun t ht=>by cases ht)
  ·split <;> (intro t ht;cases ht)
def vZ(it:Vw):Prop:=it.1=true->Fi (Wp it.2)=true
def jd(l:List (List Vw)):Prop:=∀ a∈l,∀ it∈a,vZ it
def nG(x:Ke):Prop:=Ee (Wp x.1)=true/\x.2≠[]/\jd x.2
def qoP:PSt->Prop
 |.name done=>∀ x∈done,nG x
 |.colon done nm=>(∀ x∈done,nG x)/\Ee (Wp nm)=true
 |.item done nm alts alt=>(∀ x∈done,nG x)/\Ee (Wp nm)=true/\jd (alts++[alt])
theorem qjG{st st':PSt}{t:Kr}(h:Gx st t=some st')(hs:qoP st)(ht:oX t):qoP st':=by
 cases st with
 |name done =>
  change (if t.1=1 then some (PSt.colon done (Jp t.2.1)) else none)=some st' at h
  split at h
  ·rename_i e;injection h with h;subst h;exact⟨hs,ht.1 e⟩
  ·cases h
 |colon done nm =>
  change (if t.1=3 then some (PSt.item done nm [] []) else none)=some st' at h
  split at h
  ·injection h with h;subst h;exact⟨hs.1,hs.2,fun a ha it iI=>by
    rw[Qi.1 ha] at iI
    cases iI⟩
  ·cases h
 |item done nm alts alt =>
  obtain⟨h1,h2,h3⟩:=hs;have h4:∀ a∈alts,∀ it∈a,vZ it:=fun a ha=>h3 a (by simp[ha]);have h5:∀ it∈alt,vZ it:=h3 alt (by simp);change (if t.1=1\/t.1=2 then some (PSt.item done nm alts (alt++[(decide (t.1=2),Jp t.2.1)])) else if t.1=4 then some (PSt.item done nm (alts++[alt]) []) else if t.1=5 then some (PSt.name (done++[(nm,alts++[alt])])) else none)=some st' at h
  split at h
  ·injection h with h;subst h;refine⟨h1,h2,fun a ha it iI=>?_⟩;rcases Qh.1 ha with ha | ha
   ·exact h4 a ha it iI
   ·rw[Qi.1 ha] at iI;rcases Qh.1 iI with iI | iI
    ·exact h5 it iI
    ·rw[Qi.1 iI];intro e;exact ht.2 (of_decide_eq_true e)
  ·split at h
   ·injection h with h;subst h;refine⟨h1,h2,fun a ha it iI=>?_⟩;rcases Qh.1 ha with ha | ha
    ·exact h3 a ha it iI
    ·rw[Qi.1 ha] at iI;cases iI
   ·split at h
    ·injection h with h;subst h;intro x hx;rcases Qh.1 hx with hx | hx
     ·exact h1 x hx
     ·rw[Qi.1 hx];exact⟨h2,by simp,h3⟩
    ·cases h
theorem qmV(len:Nat):∀(toks:List Kr)(st:PSt),(∀ t∈toks,oX t)->qoP st->∀ x∈(jk len st toks).1,nG x
 |[],st,_,hs=>by
  cases st with
  |name done =>
   unfold jk;split
   ·intro x hx;cases hx
   ·exact hs
  |colon _ _=>intro x hx;cases hx
  |item _ _ _ _=>intro x hx;cases hx
 |t::r,st,ht,hs=>by
  rw[bM];split
  ·intro x hx;cases hx
  ·rename_i st' h;exact qmV len r st' (fun x hx=>ht x (by simp[hx])) (qjG h hs (ht t (by simp)))
theorem po(len:Nat):∀(toks:List Kr)(st:PSt),(jk len st toks).2.2=0->(jk len st toks).1≠[]
 |[],st,h=>by
  cases st with
  |name done =>
   unfold jk at h |-;split at h
   ·cases h
   ·rename_i e;rw[if_neg e];exact e
  |colon _ _=>cases h
  |item _ _ _ _=>cases h
 |t::r,st,h=>by
  rw[bM] at h |-;split at h
  ·cases h
  ·rename_i st' e;exact po len r st' h
theorem qtZ(s:Wd):∀ x∈(Ms s).1,nG x:=by
 unfold Ms;split
 ·intro x hx;cases hx
 ·exact qmV _ _ _ (qsM s) (fun x hx=>by cases hx)
theorem qgR{s:Wd}(h:(Ms s).2.2=0):(Ms s).1≠[]:=by
 unfold Ms at h |-;split at h
 ·rename_i e;exact absurd h e
 ·rename_i e;rw[if_neg e];exact po _ _ _ h
def rp(ts:List Wd):Prop:=ts.Nodup/\∀ t∈ts,Fi t=true
theorem Vp.mono{n m m':Nat}{s:Int}(h:Vp n m s)(hm:m<=m'):Vp n m' s:=⟨by have:=h.1;omega,h.2⟩
theorem qrI{ns ts ts':List Wd}{it:Vw}{s:Int}(h:Lm ns ts it=some (s,ts'))(hi:vZ it)(ht:rp ts):rp ts'/\ts.length<=ts'.length/\Vp ns.length ts'.length s:=by
 unfold Lm at h;split at h
 ·rename_i e;split at h
  ·rename_i hm;injection h with h;injection h with h1 h2;subst h1 h2;have:=List.idxOf_lt_length_iff.2 hm;exact⟨ht,Ya _,by unfold Vp;omega⟩
  ·rename_i hm;injection h with h;injection h with h1 h2;subst h1 h2;refine⟨⟨List.nodup_append.2 ⟨ht.1,by simp,?_⟩,fun t hx=>?_⟩,by simp,?_⟩
   ·intro a ha b hb e2;rw[Qi.1 hb] at e2;subst e2;exact hm ha
   ·rcases Qh.1 hx with hx | hx
    ·exact ht.2 t hx
    ·rw[Qi.1 hx];exact hi e
   ·unfold Vp;rw[Qe,Qf];omega
 ·split at h
  ·rename_i hm;injection h with h;injection h with h1 h2;subst h1 h2;have:=List.idxOf_lt_length_iff.2 hm;exact⟨ht,Ya _,by unfold Vp;omega⟩
  ·cases h
theorem qbE{ns:List Wd}:∀(l:List Vw)(ts:List Wd)(r:List Int)(ts':List Wd)(r':List Int),Ez ns ts r l=some (r',ts')->(∀ it∈l,vZ it)->rp ts->(∀ s∈r,Vp ns.length ts.length s) ->
  rp ts'/\ts.length<=ts'.length/\r'.length=r.length+l.length/\∀ s∈r',Vp ns.length ts'.length s
 |[],ts,r,ts',r',h,_,ht,hr=>by
  rw[Ez] at h;injection h with h;injection h with h1 h2;subst h1 h2;exact⟨ht,Ya _,rfl,hr⟩
 |it::l,ts,r,ts',r',h,hi,ht,hr=>by
  rw[Ez] at h;cases e:Lm ns ts it with
  |none=>rw[e] at h;cases h
  |some p =>
   obtain⟨s,ts1⟩:=p;rw[e] at h;obtain⟨a1,a2,a3⟩:=qrI e (hi it (by simp)) ht;obtain⟨b1,b2,b3,b4⟩:=qbE l ts1 (r++[s]) ts' r' h (fun x hx=>hi x (by simp[hx])) a1 (fun x hx=>by
    rcases Qh.1 hx with hx | hx
    ·exact (hr x hx).mono a2
    ·rw[Qi.1 hx];exact a3)
   exact⟨b1,by omega,by rw[b3,Qe,Qf,Qu];omega,b4⟩
def G_(n m:Nat)(rs:List Jo):Prop:=∀ r∈rs,(0<=r.1/\r.1<n)/\r.2.length<=64/\∀ s∈r.2,Vp n m s
theorem G_.mono{n m m':Nat}{rs:List Jo}(h:G_ n m rs)(hm:m<=m'):G_ n m' rs:=fun r hr=>by
 obtain⟨h1,h2,h3⟩:=h r hr;exact⟨h1,h2,fun s hs=>(h3 s hs).mono hm⟩
theorem rk{ns:List Wd}{left:Nat}(hl:left<ns.length):∀(l:List (List Vw))(ts:List Wd)(rs:List Jo)(ts':List Wd)(Bk:List Jo),Cf ns (left:Int) ts rs l=some (Bk,ts')->jd l->(∀ a∈l,a.length<=64)->rp ts->G_ ns.length ts.length rs ->
  rp ts'/\ts.length<=ts'.length/\Bk.length=rs.length+l.length/\G_ ns.length ts'.length Bk/\rs <+: Bk/\(l≠[]->∃ r∈Bk,r.1=(left:Int))
 |[],ts,rs,ts',Bk,h,_,_,ht,hr=>by
  rw[Cf] at h;injection h with h;injection h with h1 h2;subst h1 h2;exact⟨ht,Ya _,rfl,hr,List.prefix_refl _,fun e=>absurd rfl e⟩
 |a::l,ts,rs,ts',Bk,h,hi,zh,ht,hr=>by
  rw[Cf] at h;cases e:Ez ns ts [] a with
  |none=>rw[e] at h;cases h
  |some p =>
   obtain⟨r,ts1⟩:=p;rw[e] at h;obtain⟨a1,a2,a3,a4⟩:=qbE a ts [] ts1 r e (hi a (by simp)) ht (fun s hs=>by cases hs);obtain⟨b1,b2,b3,b4,b5,_⟩:=rk hl l ts1 (rs++[((left:Int),r)]) ts' Bk h (fun x hx=>hi x (by simp[hx])) (fun x hx=>zh x (by simp[hx])) a1 (fun x hx=>by
    rcases Qh.1 hx with hx | hx
    ·exact (hr.mono a2) x hx
    ·rw[Qi.1 hx]
     refine⟨⟨by simp only;omega,by simp only;omega⟩,?_,a4⟩
     have:=zh a (by simp)
     simp only[Xt] at a3 |-
     omega)
   refine⟨b1,by omega,by rw[b3,Qe,Qf,Qu];omega,b4,(List.prefix_append _ _).trans b5,fun _=>⟨((left:Int),r),b5.subset (by simp),rfl⟩⟩
theorem aa{ns:List Wd}:∀(l:List Ke)(i:Nat)(ts:List Wd)(rs:List Jo)(ts':List Wd)(Bk:List Jo),Kz ns i ts rs l=some (Bk,ts')->(∀ x∈l,jd x.2/\x.2≠[]/\∀ a∈x.2,a.length<=64)->i+l.length<=ns.length->rp ts->G_ ns.length ts.length rs ->
  rp ts'/\Bk.length=rs.length+(l.map fun x=>x.2.length).sum/\G_ ns.length ts'.length Bk/\rs <+: Bk/\∀ j,i<=j->j<i+l.length->∃ r∈Bk,r.1=(j:Int)
 |[],i,ts,rs,ts',Bk,h,_,_,ht,hr=>by
  rw[Kz] at h;injection h with h;injection h with h1 h2;subst h1 h2;exact⟨ht,rfl,hr,List.prefix_refl _,fun j h1 h2=>by simp at h2;omega⟩
 |x::l,i,ts,rs,ts',Bk,h,hx,hn,ht,hr=>by
  rw[Kz] at h;rw[Qu] at hn;cases e:Cf ns (i:Int) ts rs x.2 with
  |none=>rw[e] at h;cases h
  |some p =>
   obtain⟨rs1,ts1⟩:=p;rw[e] at h;obtain⟨c1,c2,c3⟩:=hx x (by simp);obtain⟨a1,a2,a3,a4,a5,a6⟩:=rk (by omega) x.2 ts rs ts1 rs1 e c1 c3 ht hr;obtain⟨b1,b3,b4,b5,b6⟩:=aa l (i+1) ts1 rs1 ts' Bk h (fun y hy=>hx y (by simp[hy])) (by omega) a1 a4;refine⟨b1,by rw[b3,a3,List.map_cons,List.sum_cons];omega,b4,a5.trans b5,fun j h1 h2=>?_⟩;rw[Qu] at h2;rcases Nat.eq_or_lt_of_le h1 with e2 | e2
   ·subst e2;obtain⟨r,Cm,hr2⟩:=a6 c2;exact⟨r,b5.subset Cm,hr2⟩
   ·exact b6 j e2 (by omega)
theorem dl{l:List Ke}{g:Kc}(h:Jn l=(g,0))(hl:l≠[])(hok:∀ x∈l,nG x):Ik g:=by
 unfold Jn at h;split at h
 ·cases h
 ·rename_i hg;split at h
  ·cases h
  ·rename_i So;split at h
   ·cases h
   ·rename_i rs ts hlr;split at h
    ·cases h
    ·rename_i xT;split at h
     ·cases h
     ·rename_i hrn;injection h with h _;subst h;unfold Rh at hg;simp only[Yt,not_or,Xq,Yj,not_exists,not_and] at hg;obtain⟨⟨g1,g2⟩,g3⟩:=hg;have Dg:=Qy.2 hl;obtain⟨b1,b3,b4,_,b6⟩:=aa l 0 [] [] ts rs hlr (fun x hx=>⟨(hok x hx).2.2,(hok x hx).2.1,fun a ha=>by have:=g1 x hx a ha;omega⟩) (by simp) ⟨List.nodup_nil,fun t ht=>by cases ht⟩ (fun r hr=>by cases hr);simp only[Qk] at b4;simp only[Xt,Yq] at b3;have So:=Decidable.of_not_not So;have hrn:=Decidable.of_not_not hrn;refine⟨by simp only[Qk];omega,by simp only[Qk];omega,by rw[b3];omega,fun s hs=>?_,fun s hs=>?_,?_,Fg (fun a b e=>by rw[<-Rc a,<-Rc b,e]) b1.1,by simp only[Qk];exact b4,fun i hi=>b6 i (Yf _) (by simp only[Qk] at hi;omega),hrn⟩
      ·obtain⟨x,hx,rfl⟩:=Xa.1 hs;exact (hok x hx).1
      ·obtain⟨x,hx,rfl⟩:=Xa.1 hs;exact b1.2 x hx
      ·have zoH:((l.map fun x=>x.1).map Wp).Pairwise (·≠·):=by
        rw[List.map_map];exact So
       exact (List.pairwise_map.1 zoH).imp fun h e=>h (congrArg Wp e)
theorem qbW{s:Wd}{g:Kc}(h1:(Ms s).2.2=0)(h2:Jn (Ms s).1=(g,0)):Ik g:=dl h2 (qgR h1) (qtZ s)
section
variable {s:Wd} {k e:Int} {v:Ng} {c:List Wf} {n at' sw bad:Nat} {l:List Ke} {g:Kc}
theorem dw(h:kL s k v c n e)(hk:¬ (1<=k/\k<=4)):v=Wa/\c=[]/\n=0/\e=1:=by
 rcases h with ⟨_,a⟩ | ⟨h,_⟩ | ⟨h,_⟩
 ·exact a
 ·exact absurd h hk
 ·exact absurd h hk
theorem zE(hF:Ms s=(l,at',sw))(hw:sw≠0):Nx s=(([],[],[]),at',sw):=by
 unfold Nx;rw[hF];exact if_pos hw
theorem lP(hF:Ms s=(l,at',0))(hR:Jn l=(g,bad)):Nx s=(Py g,0,bad):=by
 unfold Nx;rw[hF];simp only;rw[if_neg (by simp),hR]
theorem qdK(h:kL s k v c n e)(hF:Ms s=(l,at',sw))(hw:sw≠0)(hk:1<=k/\k<=4):v=Wa/\c=[]/\n=at'/\e=sw:=by
 have hr:=zE hF hw;rcases h with ⟨a,_⟩ | ⟨_,_,a1,a2,a3,a4⟩ | ⟨_,a,_⟩
 ·exact absurd hk a
 ·rw[hr] at a3 a4;exact⟨a1,a2,a3,a4⟩
 ·rw[hr] at a;exact absurd a hw
theorem qdL(h:kL s k v c n e)(hF:Ms s=(l,at',0))(hR:Jn l=(g,bad))(hb:bad≠0)(hk:1<=k/\k<=4):v=Wa/\c=[]/\n=0/\e=bad:=by
 have hr:=lP hF hR;rcases h with ⟨a,_⟩ | ⟨_,_,a1,a2,a3,a4⟩ | ⟨_,a,_⟩
 ·exact absurd hk a
 ·rw[hr] at a3 a4;exact⟨a1,a2,a3,a4⟩
 ·rw[hr] at a;exact absurd a hb
theorem rL(hF:Ms s=(l,at',0))(hR:Jn l=(g,0)):Ik g :=
 qbW (s:=s) (by rw[hF]) (by rw[hF];exact hR)
theorem yN(hF:Ms s=(l,at',0))(hR:Jn l=(g,0)):Py g=Jk g:=by
 unfold Py;rw[if_pos ((Fj g).2 (rL hF hR))]
theorem qkS(h:kL s k v c n e)(hF:Ms s=(l,at',0))(hR:Jn l=(g,0))(hk:1<=k/\k<=4):n=0/\vV g k v c e:=by
 have hr:=lP hF hR;rcases h with ⟨a,_⟩ | ⟨_,a,_⟩ | ⟨_,_,a1,a2⟩
 ·exact absurd hk a
 ·rw[hr] at a;exact absurd rfl a
 ·rw[hr,yN hF hR] at a2;exact⟨a1,(zN (rL hF hR)).1 a2⟩
theorem qfM(h:cE g):cE (Jk g):=by
 obtain⟨l1,l2,l3⟩:=Vz g;obtain⟨h1,h2,h3⟩:=h;exact⟨by rw[l1];exact h1,by rw[l2];exact h2,by rw[l3];exact h3⟩
theorem tM(hF:Ms s=(l,at',sw))(hR:Jn l=(g,bad))(hf:sw=0->bad=0->cE g):(Nx s).2.2=0->cE (Nx s).1:=by
 intro h0;by_cases hw:sw=0
 ·subst hw;rw[lP hF hR] at h0 |-;have h0:bad=0:=h0;subst h0;show cE (Py g);rw[yN hF hR];exact qfM (hf rfl rfl)
 ·rw[zE hF hw] at h0;exact absurd h0 hw
end
theorem fc(ns:List Wd)(s:ByteArray):idxOf (fun x=>decide (x=s)) (ns.map Jp)=if Wp s∈ns then ((ns.idxOf (Wp s):Nat):Int) else -1:=by
 by_cases h:Wp s∈ns
 ·rw[if_pos h];have hl:=List.idxOf_lt_length_iff.2 h;refine Lx (by rw[Qk];exact hl) (fun j hj Ji=>?_) ?_
  ·rw[List.getElem_map,Yk];intro e;have h2:=List.not_of_lt_findIdx (p:=(·==Wp s)) (xs:=ns) Ji;exact absurd (show (ns[j]==Wp s)=true from beq_iff_eq.2 ((Rc ns[j]).symm.trans (congrArg Wp e))) (by rw[h2];decide)
  ·rw[List.getElem_map,List.getElem_idxOf,Dd];simp
 ·rw[if_neg h];refine Bv fun j hj=>?_;rw[List.getElem_map,Yk];intro e;apply h;rw[<-e,Rc];exact Qg _
theorem qjA{ns ts:List Wd}(s:ByteArray):Lm ns ts (true,s)=if Wp s∈ts then some (-1 - (ts.idxOf (Wp s):Int),ts) else some (-1 - (ts.length:Int),ts++[Wp s]):=rfl
theorem qjB{ns ts:List Wd}(s:ByteArray):Lm ns ts (false,s)=if Wp s∈ns then some ((ns.idxOf (Wp s):Int),ts) else none:=rfl
structure d_(w:World)(S:Nat)(vN:Value)(ns:List Wd):Prop where
 res:w.heap[S]? = some (.cells #[.slice none 0 0,.slice none 0 0,.slice none 0 0] 25 (0,0))
 box:w.heap[S+1]? = some (.cells #[vN,.slice none 0 0,.slice none 0 0] 25 (0,0))
 names:w.ownsRow (S+2) 9 1 vN ns.length (ns.map wv)
structure kS(w:World)(S:Nat)(vN vT vR:Value)(B0 B1:Nat)(ns ts:List Wd)(rs:List Jo)(css:List (List Value)):Prop where
 res:w.heap[S]? = some (.cells #[.slice none 0 0,.slice none 0 0,.slice none 0 0] 25 (0,0))
 box:w.heap[S+1]? = some (.cells #[vN,vT,vR] 25 (0,0))
 names:Tn dQ 9 w B0 vN (ns.map Jp)
 terms:w.ownsRow B0 9 1 vT ts.length (ts.map wv)
 rules:w.ownsRow B0 63 2 vR rs.length css.flatten
 rrows:Vj Gv w B1 css rs
 lo:S+1<B0
 b0:B0<=w.heap.size
 b1:B1<=w.heap.size
theorem qqW(ns:List Wd):(ns.map fun t=>[wv t]).flatten=ns.map wv:=by
 induction ns with
 |nil=>rfl
 |cons s r ih=>rw[List.map_cons,List.flatten_cons,ih];rfl
theorem qqV{w:World}{U:Nat}{ns:List Wd}(hs:jl ns):Vj dQ w U (ns.map fun t=>[wv t]) (ns.map Jp):=by
 refine⟨by rw[Qk,Qk],fun i cs x hc hx=>?_⟩;rw[Qv] at hc hx;cases hi:ns[i]? with
 |none=>rw[hi] at hc;cases hc
 |some t =>
  rw[hi] at hc hx;injection hc with hc;injection hx with hx;subst hc hx;exact⟨rfl,hs t (Qp hi)⟩
theorem su{w:World}{base:Nat}{v:Value}{ns:List Wd}(ho:w.ownsRow base 9 1 v ns.length (ns.map wv))(hs:jl ns):Tn dQ 9 w w.heap.size v (ns.map Jp) :=
 Tn.of_row (O:=dQ) (css:=ns.map fun t=>[wv t]) (by rw[qqW,Qk];exact ho) (qqV hs)
section
variable {w w':World} {S:Nat} {vN sh vT aH vR lD:Value} {B0 B1:Nat} {ns ts:List Wd} {rs:List Jo} {css:List (List Value)}
theorem d_.lt(h:d_ w S vN ns):S+1<w.heap.size:=(gl h.box)
theorem d_.below(h:d_ w S vN ns)(hb:Below w.heap.size w w'):d_ w' S vN ns :=
 ⟨(hb.block S (Nat.lt_of_succ_lt h.lt)).trans h.res,(hb.block (S+1) h.lt).trans h.box,Zy h.names hb⟩
theorem d_.snoc{T:Wd}(h:d_ w S vN ns)(ho:w'.ownsRow (S+2) 9 1 sh (ns.length+1) (ns.map wv++[wv T]))(hg:w.grownBy w' vN.ownBlock):d_ (w'.setCell ⟨S+1,0,none⟩ sh) S sh (ns++[T]):=by
 have We:=Zq h.names hg h.box (by decide);have jN:=Zq h.names hg h.res (by decide);refine⟨Vd jN (Nat.succ_ne_self S) sh,Kj (k:=0) We sh,?_⟩;have:=Zk ho (a:=⟨S+1,0,none⟩) (Ye (S+1)) sh;rw[Qt,Qe,Qf];exact this
theorem d_.sl(h:d_ w S vN ns)(hs:jl ns):Je Nk w w.heap.size vN (ns.map Jp):=(su h.names hs).sl
theorem d_.done(h:d_ w S vN ns)(hs:jl ns):kS w S vN (.slice none 0 0) (.slice none 0 0) w.heap.size w.heap.size ns [] [] [] :=
 ⟨h.res,h.box,su h.names hs,Yz _ _ _ _,Yz _ _ _ _,Vj.nil _ _ _,h.lt,Ya _,Ya _⟩
theorem kS.lt(h:kS w S vN vT vR B0 B1 ns ts rs css):S+1<w.heap.size:=(gl h.box)
theorem kS.below(h:kS w S vN vT vR B0 B1 ns ts rs css)(hb:Below w.heap.size w w'):kS w' S vN vT vR B0 B1 ns ts rs css :=
 ⟨(hb.block S (Nat.lt_of_succ_lt h.lt)).trans h.res,(hb.block (S+1) h.lt).trans h.box,h.names.keep (.of_below hb),Zy h.terms hb,Zy h.rules hb,h.rrows.below hb,h.lo,Yb h.b0 hb.size,Yb h.b1 hb.size⟩
theorem kS.ints(h:kS w S vN vT vR B0 B1 ns ts rs css){base n:Nat}{v:Value}{xs:List Value}(ho:w.ownsRow base 3 1 v n xs)(hg:w.grownBy w' v.ownBlock)(hB:B1<=base):kS w' S vN vT vR B0 B1 ns ts rs css :=
 ⟨Zq ho hg h.res (by decide),Zq ho hg h.box (by decide),h.names.keep (.of_keepT (Jg.of_grown ho hg (by decide))),Vr h.terms ho (by decide) hg,Vr h.rules ho (by decide) hg,h.rrows.keep (.of_grown ho hg hB),h.lo,Yb h.b0 hg.size,Yb h.b1 hg.size⟩
theorem kS.rule(h:kS w S vN vT vR B0 B1 ns ts rs css){g k:Nat}{cs:Array Value}(hg:w.heap[g]? = some (.cells cs 63 (0,0)))(hv:vR.ownBlock≠some g)(v:Value):kS (w.setCell ⟨g,k,none⟩ v) S vN vT vR B0 B1 ns ts rs css:=by
 have hk:∀ us:List TypeId,63∉us->Jg us w (w.setCell ⟨g,k,none⟩ v):=fun us hu=>Vm hg hu v;exact⟨(hk [25] (by decide)).2 S _ _ (by simp) h.res,(hk [25] (by decide)).2 (S+1) _ _ (by simp) h.box,h.names.keep (.of_keepT (hk _ (by decide))),Vi h.terms (hk [9] (by decide)) (by simp),ownsRow_setCell_other h.rules hv v,h.rrows.keep (.of_keepT (hk _ (by decide))),h.lo,by rw[Za];exact h.b0,by rw[Za];exact h.b1⟩
theorem kS.term{T:Wd}(h:kS w S vN vT vR B0 B1 ns ts rs css)(ho:w'.ownsRow B0 9 1 aH (ts.length+1) (ts.map wv++[wv T]))(hg:w.grownBy w' vT.ownBlock):kS (w'.setCell ⟨S+1,1,none⟩ aH) S vN aH vR B0 B1 ns (ts++[T]) rs css:=by
 have We:=Zq h.terms hg h.box (by decide);have jN:=Zq h.terms hg h.res (by decide);have hk:∀ us:List TypeId,25∉us->Jg us w' (w'.setCell ⟨S+1,1,none⟩ aH):=fun us hu=>Vm We hu aH;refine⟨Vd jN (Nat.succ_ne_self S) aH,Kj (k:=1) We aH,(h.names.keep (.of_grown h.terms hg (Ya _))).keep (.of_keepT (hk _ (by decide))),?_,Vi (Vr h.rules h.terms (by decide) hg) (hk [63] (by decide)) (by simp),(h.rrows.keep (.of_keepT (Jg.of_grown h.terms hg (by decide)))).keep (.of_keepT (hk _ (by decide))),h.lo,by rw[Za];exact Yb h.b0 hg.size,by rw[Za];exact Yb h.b1 hg.size⟩;have:=Vi ho (hk [9] (by decide)) (by simp);rw[Qt,Qe,Qf];exact this
theorem kS.snoc(h:kS w S vN vT vR B0 B1 ns ts rs css){cs:List Value}{x:Jo}(hx:Gv.rep w w.heap.size cs x)(ho:w'.ownsRow B0 63 2 lD (rs.length+1) (css.flatten++cs))(hg:w.grownBy w' vR.ownBlock) :
  kS (w'.setCell ⟨S+1,2,none⟩ lD) S vN vT lD B0 (w'.setCell ⟨S+1,2,none⟩ lD).heap.size ns ts (rs++[x]) (css++[cs]):=by
 have We:=Zq h.rules hg h.box (by decide);have jN:=Zq h.rules hg h.res (by decide);have hk:∀ us:List TypeId,25∉us->Jg us w' (w'.setCell ⟨S+1,2,none⟩ lD):=fun us hu=>Vm We hu lD;have iH:∀ us:List TypeId,63∉us->Jg us w w':=fun us hu=>Jg.of_grown h.rules hg hu;have hkU:Eh Gv.ts (w'.setCell ⟨S+1,2,none⟩ lD).heap.size w (w'.setCell ⟨S+1,2,none⟩ lD):=(Eh.of_keepT (iH _ (by decide))).trans (.of_keepT (hk _ (by decide)));have Ek:w.heap.size<=(w'.setCell ⟨S+1,2,none⟩ lD).heap.size:=by rw[Za];exact hg.size
 refine⟨Vd jN (Nat.succ_ne_self S) lD,Kj (k:=2) We lD,(h.names.keep (.of_keepT (iH _ (by decide)))).keep (.of_keepT (hk _ (by decide))),Vi (Vr h.terms h.rules (by decide) hg) (hk [9] (by decide)) (by simp),?_,?_,h.lo,Yb h.b0 Ek,Ya _⟩
 ·have:=Vi ho (hk [63] (by decide)) (by simp);rw[Qs,Qe,Qf];simpa using this
 ·exact Vj.snoc ((h.rrows.more (Yb h.b1 Ek)).keep hkU) (Gv.keep (Gv.more hx Ek) hkU)
theorem kS.slN(h:kS w S vN vT vR B0 B1 ns ts rs css):Je Nk w w.heap.size vN (ns.map Jp):=(h.names.more h.b0).sl
theorem kS.uT(h:kS w S vN vT vR B0 B1 ns ts rs css)(hs:jl ts):Tn dQ 9 w w.heap.size vT (ts.map Jp):=su h.terms hs
theorem kS.uR(h:kS w S vN vT vR B0 B1 ns ts rs css):Tn Gv 63 w w.heap.size vR rs:=Tn.of_row (O:=Gv) h.rules (h.rrows.more h.b1)
end
abbrev pS(toks:List Kr)(a b:Nat):List Kr:=(toks.drop a).take (b - a)
theorem bi(toks:List Kr)(a:Nat):pS toks a a=[]:=by unfold pS;rw[Nat.sub_self];rfl
theorem mV{toks:List Kr}{a b:Nat}(Lj:a<=b)(hb:b<toks.length):pS toks a (b+1)=pS toks a b++[toks[b]]:=by
 unfold pS;have h1:b - a<(toks.drop a).length:=by rw[Xj];omega
 rw[show b+1 - a=b - a+1 by omega,Qc h1,List.getElem_drop];congr 3;congr 1;omega
theorem kb{toks:List Kr}{a b:Nat}(Lj:a<=b):toks.take b=toks.take a++pS toks a b:=by
 obtain⟨d,rfl⟩:∃ d,b=a+d:=⟨b - a,by omega⟩;unfold pS;rw[Nat.add_sub_cancel_left,List.take_add]
structure qbI(toks:List Kr)(a:Nat)(l:Ke)(b:Nat):Prop where
 lt:a<b
 le:b<=toks.length
 run:∀ done,Lp (.name done) (pS toks a b)=some (.name (done++[l]))
structure cB(toks:List Kr)(a b:Nat):Prop where
 ab:a<=b
 le:b<=toks.length
 run:∀ done,∃ st,Lp (.name done) (pS toks a b)=some st/\(∀ h:b<toks.length,Gx st toks[b]=none)/\(b=toks.length->∀ len,jk len st []=([],len,14))
def Rq(toks:List Kr)(a b:Nat)(nm:ByteArray)(alts:List (List Vw))(alt:List Vw):Prop :=
 a<b/\b<=toks.length/\∀ done,Lp (.name done) (pS toks a b)=some (.item done nm alts alt)
theorem cB.first{toks:List Kr}{a:Nat}(ha:a<toks.length)(h:toks[a].1≠1):cB toks a a :=
 ⟨Ya _,Yg ha,fun done=>⟨.name done,by rw[bi];rfl,fun _=>if_neg h,fun e=>by omega⟩⟩
theorem kw{toks:List Kr}{a:Nat}(ha:a<toks.length)(h:toks[a].1=1)(done:List Ke):Lp (.name done) (pS toks a (a+1))=some (.colon done (Jp toks[a].2.1)):=by
 rw[mV (Ya _) ha,bi];exact cZ (st':=.name done) rfl (if_pos h)
theorem cB.second{toks:List Kr}{a:Nat}(ha:a<toks.length)(h:toks[a].1=1)(h2:∀ hb:a+1<toks.length,toks[a+1].1≠3):cB toks a (a+1) :=
 ⟨Yh _,ha,fun done=>⟨_,kw ha h done,fun hb=>if_neg (h2 hb),fun _ _=>rfl⟩⟩
theorem Rq.start{toks:List Kr}{a:Nat}(ha:a<toks.length)(h:toks[a].1=1)(hb:a+1<toks.length)(h2:toks[a+1].1=3):Rq toks a (a+2) (Jp toks[a].2.1) [] [] :=
 ⟨by omega,by omega,fun done=>by
  rw[show a+2=a+1+1 from rfl,mV (Yh _) hb]
  exact cZ (kw ha h done) (if_pos h2)⟩
section
variable {toks:List Kr} {a b:Nat} {nm:ByteArray} {alts:List (List Vw)} {alt:List Vw}
theorem Rq.snoc(h:Rq toks a b nm alts alt)(hb:b<toks.length){st:List Ke->PSt}(hs:∀ done,Gx (.item done nm alts alt) toks[b]=some (st done))(done:List Ke):Lp (.name done) (pS toks a (b+1))=some (st done):=by
 rw[mV (Yg h.1) hb];exact cZ (h.2.2 done) (hs done)
theorem Rq.item(h:Rq toks a b nm alts alt)(hb:b<toks.length)(hk:toks[b].1=1\/toks[b].1=2):Rq toks a (b+1) nm alts (alt++[(decide (toks[b].1=2),Jp toks[b].2.1)]) :=
 ⟨by have:=h.1;omega,hb,h.snoc hb fun _=>if_pos hk⟩
theorem Rq.bar(h:Rq toks a b nm alts alt)(hb:b<toks.length)(hk:toks[b].1=4):Rq toks a (b+1) nm (alts++[alt]) [] :=
 ⟨by have:=h.1;omega,hb,h.snoc hb fun _=>by
  show (if _ then _ else if _ then _ else _)=_
  rw[if_neg (by rw[hk];decide),if_pos hk]⟩
theorem Rq.semi(h:Rq toks a b nm alts alt)(hb:b<toks.length)(hk:toks[b].1=5):qbI toks a (nm,alts++[alt]) (b+1) :=
 ⟨by have:=h.1;omega,hb,fun done=>h.snoc (st:=fun done=>.name (done++[(nm,alts++[alt])])) hb (fun _=>by
  show (if _ then _ else if _ then _ else if _ then _ else _)=_
  rw[if_neg (by rw[hk];decide),if_neg (by rw[hk];decide),if_pos hk]) done⟩
theorem Rq.bad(h:Rq toks a b nm alts alt)(hk:∀ hb:b<toks.length,toks[b].1≠1/\toks[b].1≠2/\toks[b].1≠4/\toks[b].1≠5):cB toks a b :=
 ⟨Yg h.1,h.2.1,fun done=>⟨_,h.2.2 done,fun hb=>by
  obtain⟨k1,k2,k4,k5⟩:=hk hb
  show (if _ then _ else if _ then _ else if _ then _ else _)=_
  rw[if_neg (by omega),if_neg k4,if_neg k5],fun _ _=>rfl⟩⟩
end
def Cg(toks:List Kr)(k:Nat)(done:List Ke):Prop:=k<=toks.length/\Lp (.name []) (toks.take k)=some (.name done)
theorem Cg.start(toks:List Kr):Cg toks 0 []:=⟨Yf _,rfl⟩
theorem Cg.more{toks:List Kr}{k b:Nat}{done:List Ke}{l:Ke}(h:Cg toks k done)(hy:qbI toks k l b):Cg toks b (done++[l]):=by
 refine⟨hy.le,?_⟩;rw[kb (Yg hy.lt),aR,h.2];exact hy.run done
theorem Cg.bad{toks:List Kr}{k b:Nat}{done:List Ke}(h:Cg toks k done)(hx:cB toks k b)(len:Nat):gD toks len=if hb:b<toks.length then ([],toks[b].2.2,14) else ([],len,14):=by
 obtain⟨st,h1,h2,h3⟩:=hx.run done;have hr:Lp (.name []) (toks.take b)=some st:=by
  rw[kb hx.ab,aR,h.2];exact h1
 split
 ·rename_i hb;exact sY hb hr (h2 hb)
 ·rename_i hb;have e:b=toks.length:=by have:=hx.le;omega
  rw[Qd (by omega)] at hr;rw[gC hr];exact h3 e len
theorem Cg.all{toks:List Kr}{k:Nat}{done:List Ke}(h:Cg toks k done)(hk:toks.length<=k)(len:Nat):gD toks len=if done=[] then ([],len,14) else (done,0,0):=by
 have hr:=h.2;rw[Qd hk] at hr;rw[gC hr];rfl
theorem sE{may:Int->Bool}{l:Wd}{i:Nat}(hi:i<l.length)(h:may (l[i].toNat:Int)=true):Ki may (l.drop i)=Ki may (l.drop (i+1))+1:=by
 rw[Ql hi,Ki,if_pos h]
theorem lO{may:Int->Bool}{l:Wd}{i:Nat}(hi:i<l.length)(h:may (l[i].toNat:Int)=false):Ki may (l.drop i)=0:=by
 rw[Ql hi,Ki,if_neg (by rw[h];decide)]
theorem sF{may:Int->Bool}{l:Wd}{i:Nat}(hi:l.length<=i):Ki may (l.drop i)=0:=by
 rw[Xl hi];rfl
theorem qc(s:ByteArray){i e:Nat}(h:i<=e):(s.extract i e).data.toList=(s.data.toList.drop i).take (e - i):=by
 obtain⟨k,rfl⟩:∃ k,e=i+k:=⟨e - i,by omega⟩;rw[tK,Nat.add_sub_cancel_left]
theorem Uh{fn:Func}{p u x:Tmp}{r y:Value}{Q:Ending->World->Prop}(h:fn.results=#[.cell p 104,.tmp u,.tmp x]){a:Act}{w:World}{g:Nat}{c0 c1 c2:Value}{fr:Nat×Nat}{t:TypeId}(hd:a.defers=[])
  (hp:a.tmps.getD p undef=.pointer (some ⟨g,0,none⟩)) (hu:a.tmps.getD u undef=r) (hx:a.tmps.getD x undef=y) (hg:w.heap[g]? = some (.cells #[c0,c1,c2] t fr)) (hq:Q (.returned (.tuple #[.agg #[c0,c1,c2],r,y])) w):bodyPost Tryz.prog fn Q .ret a w:=by
 refine Zg (v:=.tuple #[.agg #[c0,c1,c2],r,y]) ?_ hd hq;rw[Mw h,hp,hu,hx];simp[asAddr,Result.andThen,run_loadVar_row w g t 104 #[c0,c1,c2] fr _ hg Tryz.underlying104 rfl (by kernel_rfl)]
theorem Uo{w:World}{g:Nat}{vs:List Value}{v:Value}(hv:v.cells=vs.toArray)(hl:vs.length=3){cur:Array Value}{t:TypeId}(hg:w.heap[g]? = some (.cells cur t (0,0)))
  (hc:cur.size=3) (h1:∀ u∈vs,u.oneCell'=true):(Instr.storeAt 104 (.pointer (some ⟨g,0,none⟩)) v).run Tryz.prog w=.ok () (w.setRow g vs.toArray):=by
 rw[Az hv (by rw[hl];kernel_rfl) hg (by omega) h1];congr 2;simp[List.drop_eq_nil_of_le (show cur.toList.length<=vs.length by simp;omega)]
def mw(l:Wd)(i:Nat):Value:=match Er (l.drop i) with
 |.ok t=>.tuple #[.agg #[.int .i64 t.1,.string (Jp t.2.1),.int .i64 i],.int .i64 ((i+t.2.2:Nat):Int),.int .i64 0]
 |.error e=>.tuple #[.agg #[.int .i64 0,.string ⟨#[]⟩,.int .i64 0],.int .i64 i,.int .i64 e]
theorem Lu{l:Wd}{i:Nat}{t:Nat×Wd×Nat}(h:Er (l.drop i)=.ok t){b:ByteArray}(hb:b.data.toList=t.2.1){j k:Int}(hj:j=(i:Int)+t.2.2)(hk:k=t.1):.tuple #[.agg #[.int .i64 k,.string b,.int .i64 i],.int .i64 j,.int .i64 0]=mw l i:=by
 unfold mw;rw[h,<-qiY hb,hj,hk];rfl
theorem Fh{l:Wd}{i e:Nat}(h:Er (l.drop i)=.error e){k:Int}(hk:k=e):.tuple #[.agg #[.int .i64 0,.string ⟨#[]⟩,.int .i64 0],.int .i64 i,.int .i64 k]=mw l i:=by
 unfold mw;rw[h,hk]
def S_(l:Wd)(i:Nat)(w:World)(e:Ending)(w':World):Prop:=e=.returned (mw l i)/\Below w.heap.size w w'
theorem vd(s:ByteArray)(i:Nat)(w:World)(hs:s.size<=maxLen)(hi:i<s.size):Calls Tryz.prog 109 #[.string s,.int .i64 i] w (S_ s.data.toList i w):=by
 unfold maxLen at hs;have hbt:=dN s;have Nh:=Lh (show s.data.toList.length=s.size by simp);have Wt:i<s.data.toList.length:=by rw[Nh.o];exact hi
 obtain⟨c,r,jS⟩:∃ c r,s.data.toList.drop i=c::r:=⟨_,_,Ql Wt⟩;have hdr:s.data.toList.drop (i+1)=r:=by
  have:=congrArg (List.drop 1) jS;rw[List.drop_drop] at this;exact this
 have Vh:Mp s i=(c.toNat:Int):=by
  rw[Ey s i Wt];rw[Ql Wt] at jS;injection jS with h1 h2;rw[h1]
 have HT:=Lh (show Er (s.data.toList.drop i)=Bg c r by rw[jS];rfl);unfold S_;have HB1:=Lt (Below w.heap.size w (w.alloc (.cells #[.int .i64 0,.string ⟨#[]⟩,.int .i64 0] 104))) ((Xr _ _).alloc (Ya _) _);have HI1:=Lh (Xn w (.cells #[.int .i64 0,.string ⟨#[]⟩,.int .i64 0] 104));have Ht:Mp s i=58\/Mp s i=124\/Mp s i=59\/(Mp s i≠58/\Mp s i≠124/\Mp s i≠59):=by omega
 rcases Ht with h | h | h | ⟨h1,h2,h3⟩
 ·have HV:=Lh (Lu (b:=⟨#[58]⟩) (HT.o.trans (by rw[show c=58 from UInt8.toNat_inj.1 (by have:=Vh;rw[h] at this;exact Int.ofNat_inj.1 this.symm)];exact rI r)) rfl rfl rfl);clear HT jS Vh hdr;go_enter Tryz.func109,Tryz.ntmps109;go_wp2_with fail;refine Uh (g:=w.heap.size) rfl rfl rfl rfl rfl (Xn _ _) ?_;exact⟨congrArg Ending.returned HV.o,(Xr _ _).alloc (Ya _) _⟩
 ·have HV:=Lh (Lu (b:=⟨#[124]⟩) (HT.o.trans (by rw[show c=124 from UInt8.toNat_inj.1 (by have:=Vh;rw[h] at this;exact Int.ofNat_inj.1 this.symm)];exact jx r)) rfl rfl rfl);clear HT jS Vh hdr;go_enter Tryz.func109,Tryz.ntmps109;go_wp2_with fail;refine Uh (g:=w.heap.size) rfl rfl rfl rfl rfl (Xn _ _) ?_;exact⟨congrArg Ending.returned HV.o,(Xr _ _).alloc (Ya _) _⟩
 ·have HV:=Lh (Lu (b:=⟨#[59]⟩) (HT.o.trans (by rw[show c=59 from UInt8.toNat_inj.1 (by have:=Vh;rw[h] at this;exact Int.ofNat_inj.1 this.symm)];exact yL r)) rfl rfl rfl);clear HT jS Vh hdr;go_enter Tryz.func109,Tryz.ntmps109;go_wp2_with fail;refine Uh (g:=w.heap.size) rfl rfl rfl rfl rfl (Xn _ _) ?_;exact⟨congrArg Ending.returned HV.o,(Xr _ _).alloc (Ya _) _⟩
 ·have hb1:(Mp s i==58)=false:=by simpa using h1
  have Ja:(Mp s i==124)=false:=by simpa using h2
  have hb3:(Mp s i==59)=false:=by simpa using h3
  have n1:c≠58:=fun e=>h1 (by rw[Vh,e];rfl);have n2:c≠124:=fun e=>h2 (by rw[Vh,e];rfl);have n3:c≠59:=fun e=>h3 (by rw[Vh,e];rfl);clear h1 h2 h3;rcases Yn (Ul (Mp s i)) with hl | hl
  ·have HTN:=Lh (HT.o.trans (yM (by rw[<-Vh];exact hl)));have cD:=Lh (fun W:World=>Aa (Mp s i) W);rw[<-jS] at HTN;rw[hl] at cD;clear HT jS Vh hdr n1 n2 n3 hl;go_enter Tryz.func109,Tryz.ntmps109;go_wp2_with fail;refine (cD.o _).mono ?_;rintro e w1 ⟨rfl,rfl⟩;generalize w.alloc (.cells #[.int .i64 0,.string ⟨#[]⟩,.int .i64 0] 104)=w1 at *;go_wp2_with fail;go_loop [8] (fun v8=>∃ e:Nat,i<=e/\e<=s.size/\v8=.int .i64 e/\Hid (Ki Wl (s.data.toList.drop i)=(e - i)+Ki Wl (s.data.toList.drop e))) (fun v8=>s.size - (intOf v8).toNat);exact⟨i,Ya _,by omega,rfl,by show _=_;rw[Nat.sub_self,Yq]⟩;obtain⟨e,yv,hes,rfl,HR⟩:=hrel;have hc:(e<s.size/\Wl (Mp s e)=true)\/(Hid (Ki Wl (s.data.toList.drop i)=e - i)/\((e<s.size/\Wl (Mp s e)=false)\/¬ e<s.size)):=by
    by_cases Ji:e<s.size
    ·have ar:e<s.data.toList.length:=by rw[Nh.o];exact Ji
     cases hg:Wl (Mp s e) with
     |true=>exact .inl ⟨Ji,rfl⟩
     |false=>exact .inr ⟨by show _=_;rw[HR.o,lO ar (by rw[<-Ey s e ar];exact hg),Yp],.inl ⟨Ji,rfl⟩⟩
    ·exact .inr ⟨by show _=_;rw[HR.o,sF (by rw[Nh.o];omega),Yp],.inr Ji⟩
   rcases hc with ⟨Ji,hg⟩ | ⟨HN,hbc⟩
   ·have HSTEP:=Lh (show Ki Wl (s.data.toList.drop i)=(e+1 - i)+Ki Wl (s.data.toList.drop (e+1)) by
     have ar:e<s.data.toList.length:=by rw[Nh.o];exact Ji
     rw[HR.o,sE ar (by rw[<-Ey s e ar];exact hg)]
     omega)
    have HG:=Lh hg;clear hg;go_wp2_with fail;refine (gH (Mp s e) _).mono ?_;rintro e1 w2 ⟨rfl,rfl⟩;rw[HG.o];go_wp2_with fail;go_round;exact⟨e+1,by omega,by omega,by go_num,HSTEP.o⟩;simp[intOf];omega
   ·by_cases uE:32<e - i
    ·have g32:decide ((32:Int)<(e:Int) - (i:Int))=true:=by simp;omega
     have HV:=Lh (Fh (HTN.o.trans (if_pos (by rw[HN.o];exact uE))) rfl);rcases hbc with ⟨Ji,hg⟩ | hge
     ·have HG:=Lh hg;clear hg;go_wp2_with fail;refine (gH (Mp s e) _).mono ?_;rintro e1 w2 ⟨rfl,rfl⟩;rw[HG.o];go_wp2_with (refine Zs none rfl ?_);refine Stop.go (Zn rfl 104 rfl rfl rfl (Uo (vs:=[.int .i64 0,.string ⟨#[]⟩,.int .i64 0]) rfl rfl HI1.o rfl (by intro u hu;simp only[List.mem_cons,List.not_mem_nil,or_false] at hu;rcases hu with rfl | rfl | rfl <;> rfl)) ?_);have HRW:=Lh (Zi _ _ _ _ _ _ HI1.o:(w1.setRow w.heap.size [.int .i64 0,.string ⟨#[]⟩,.int .i64 0].toArray).heap[w.heap.size]? = _);have HBR:=Lh (Zj HB1.o (Ya _) [.int .i64 0,.string ⟨#[]⟩,.int .i64 0].toArray);generalize w1.setRow w.heap.size [.int .i64 0,.string ⟨#[]⟩,.int .i64 0].toArray=w3 at *;generalize ha:Act.put _ _ _=z9;simp[Act.put] at ha;subst ha;go_wp2_with fail;refine Uh (g:=w.heap.size) rfl rfl rfl rfl rfl HRW.o ?_;exact⟨congrArg Ending.returned HV.o,HBR.o⟩
     ·go_wp2_with (refine Zs none rfl ?_);refine Stop.go (Zn rfl 104 rfl rfl rfl (Uo (vs:=[.int .i64 0,.string ⟨#[]⟩,.int .i64 0]) rfl rfl HI1.o rfl (by intro u hu;simp only[List.mem_cons,List.not_mem_nil,or_false] at hu;rcases hu with rfl | rfl | rfl <;> rfl)) ?_);have HRW:=Lh (Zi _ _ _ _ _ _ HI1.o:(w1.setRow w.heap.size [.int .i64 0,.string ⟨#[]⟩,.int .i64 0].toArray).heap[w.heap.size]? = _);have HBR:=Lh (Zj HB1.o (Ya _) [.int .i64 0,.string ⟨#[]⟩,.int .i64 0].toArray);generalize w1.setRow w.heap.size [.int .i64 0,.string ⟨#[]⟩,.int .i64 0].toArray=w3 at *;generalize ha:Act.put _ _ _=z9;simp[Act.put] at ha;subst ha;go_wp2_with fail;refine Uh (g:=w.heap.size) rfl rfl rfl rfl rfl HRW.o ?_;exact⟨congrArg Ending.returned HV.o,HBR.o⟩
    ·have g32:decide ((32:Int)<(e:Int) - (i:Int))=false:=by simp;omega
     have HV:=Lh (Lu (j:=(e:Int)) (b:=s.extract i e) (HTN.o.trans (if_neg (by rw[HN.o];exact uE))) (by rw[qc s yv,HN.o]) (by simp only[HN.o];omega) rfl);rcases hbc with ⟨Ji,hg⟩ | hge
     ·have HG:=Lh hg;clear hg;go_wp2_with fail;refine (gH (Mp s e) _).mono ?_;rintro e1 w2 ⟨rfl,rfl⟩;rw[HG.o];go_wp2_with (refine Zs none rfl ?_);refine Stop.go (Zn rfl 104 rfl rfl rfl (Uo (vs:=[.int .i64 1,.string (s.extract i e),.int .i64 i]) rfl rfl HI1.o rfl (by intro u hu;simp only[List.mem_cons,List.not_mem_nil,or_false] at hu;rcases hu with rfl | rfl | rfl <;> rfl)) ?_);have HRW:=Lh (Zi _ _ _ _ _ _ HI1.o:(w1.setRow w.heap.size [.int .i64 1,.string (s.extract i e),.int .i64 i].toArray).heap[w.heap.size]? = _);have HBR:=Lh (Zj HB1.o (Ya _) [.int .i64 1,.string (s.extract i e),.int .i64 i].toArray);generalize w1.setRow w.heap.size [.int .i64 1,.string (s.extract i e),.int .i64 i].toArray=w3 at *;generalize ha:Act.put _ _ _=z9;simp[Act.put] at ha;subst ha;go_wp2_with fail;refine Uh (g:=w.heap.size) rfl rfl rfl rfl rfl HRW.o ?_;exact⟨congrArg Ending.returned HV.o,HBR.o⟩
     ·go_wp2_with (refine Zs none rfl ?_);refine Stop.go (Zn rfl 104 rfl rfl rfl (Uo (vs:=[.int .i64 1,.string (s.extract i e),.int .i64 i]) rfl rfl HI1.o rfl (by intro u hu;simp only[List.mem_cons,List.not_mem_nil,or_false] at hu;rcases hu with rfl | rfl | rfl <;> rfl)) ?_);have HRW:=Lh (Zi _ _ _ _ _ _ HI1.o:(w1.setRow w.heap.size [.int .i64 1,.string (s.extract i e),.int .i64 i].toArray).heap[w.heap.size]? = _);have HBR:=Lh (Zj HB1.o (Ya _) [.int .i64 1,.string (s.extract i e),.int .i64 i].toArray);generalize w1.setRow w.heap.size [.int .i64 1,.string (s.extract i e),.int .i64 i].toArray=w3 at *;generalize ha:Act.put _ _ _=z9;simp[Act.put] at ha;subst ha;go_wp2_with fail;refine Uh (g:=w.heap.size) rfl rfl rfl rfl rfl HRW.o ?_;exact⟨congrArg Ending.returned HV.o,HBR.o⟩
  ·have cD:=Lh (fun W:World=>Aa (Mp s i) W);rw[hl] at cD;have n4:Ul (c.toNat:Int)=false:=by rw[<-Vh];exact hl
   by_cases h4:Mp s i=39
   ·have n5:c=39:=UInt8.toNat_inj.1 (by have:=Vh;rw[h4] at this;exact Int.ofNat_inj.1 this.symm);have HTN:=Lh (HT.o.trans ((congrArg (fun c=>Bg c r) n5).trans (yK r)));have hb4:(Mp s i != 39)=false:=by simpa using h4
    have HDL:=Lh (show r.length=s.size - (i+1) by rw[<-hdr,Xj,Nh.o]);have qpF:=Lh (show ∀ e,i+1<=e->(h:e<s.size)->(r[e - (i+1)]? = some 39↔Mp s e=39) from fun e h0 h=>by
     have h1:e<s.data.toList.length:=by rw[Nh.o];exact h
     have h2:=bU s h1 39
     rw[show (39:Int)=((39:UInt8).toNat:Int) from rfl,<-h2,<-hdr,List.getElem?_drop,show i+1+(e - (i+1))=e by omega,Qa h1]
     simp)
    have quM:=Lt (r[s.size - (i+1)]? = none) (Xf (by have:=HDL.o;omega));rw[<-hdr] at HTN qpF quM HDL;clear HT jS Vh hdr n1 n2 n3 n4 n5 hl h4;go_enter Tryz.func109,Tryz.ntmps109;go_wp2_with fail;refine (cD.o _).mono ?_;rintro e w1 ⟨rfl,rfl⟩;generalize w.alloc (.cells #[.int .i64 0,.string ⟨#[]⟩,.int .i64 0] 104)=w1 at *;go_wp2_with fail;go_loop [9] (fun v9=>∃ e:Nat,i+1<=e/\e<=s.size/\v9=.int .i64 e/\Hid (Ki Jc (s.data.toList.drop (i+1))=(e - (i+1))+Ki Jc (s.data.toList.drop e))) (fun v9=>s.size - (intOf v9).toNat);exact⟨i+1,Ya _,by omega,by go_num,by show _=_;rw[Nat.sub_self,Yq]⟩;obtain⟨e,yv,hes,rfl,HR⟩:=hrel;by_cases Ji:e<s.size
    ·have ar:e<s.data.toList.length:=by rw[Nh.o];exact Ji
     have Ld:=Lh (fun h=>sE (may:=Jc) ar (by rw[<-Ey s e ar];exact h));have Hz:=Lh (fun h=>lO (may:=Jc) ar (by rw[<-Ey s e ar];exact h));have ir:=Lh (qpF.o e yv Ji);obtain⟨x,hx⟩:=Xe (Mp s e);rw[<-hx] at Ld Hz ir;have Mo:Mp s e=x:=hx.symm;clear hx ar;have hcc:x<32\/(32<=x/\x<39)\/(39<=x/\x<=39)\/(39<x/\x<92)\/(92<=x/\x<=92)\/(92<x/\x<=126)\/126<x:=by omega
     rcases hcc with h | h | h | h | h | h | h
     ·have ak:Jc x=false:=by
       unfold Jc;simp;omega
      have e1:(x != 39)=true:=by rw[Yu];omega
      have e2:(x != 92)=true:=by rw[Yu];omega
      have e3:decide (32<=x)=false:=by simp;omega
      have e4:decide (x<=126)=true:=by simp;omega
      have HV:=Lh (Fh (HTN.o.trans (if_neg (fun hh=>by
       rw[HR.o,Hz.o ak,Yp,ir.o] at hh
       omega))) rfl)
      clear ak h Ld Hz ir;go_wp2_with (refine Zs none rfl ?_);refine Stop.go (Zn rfl 104 rfl rfl rfl (Uo (vs:=[.int .i64 0,.string ⟨#[]⟩,.int .i64 0]) rfl rfl HI1.o rfl (by intro u hu;simp only[List.mem_cons,List.not_mem_nil,or_false] at hu;rcases hu with rfl | rfl | rfl <;> rfl)) ?_);have HRW:=Lh (Zi _ _ _ _ _ _ HI1.o:(w1.setRow w.heap.size [.int .i64 0,.string ⟨#[]⟩,.int .i64 0].toArray).heap[w.heap.size]? = _);have HBR:=Lh (Zj HB1.o (Ya _) [.int .i64 0,.string ⟨#[]⟩,.int .i64 0].toArray);generalize w1.setRow w.heap.size [.int .i64 0,.string ⟨#[]⟩,.int .i64 0].toArray=w3 at *;generalize ha:Act.put _ _ _=z9;simp[Act.put] at ha;subst ha;go_wp2_with fail;refine Uh (g:=w.heap.size) rfl rfl rfl rfl rfl HRW.o ?_;exact⟨congrArg Ending.returned HV.o,HBR.o⟩
     ·have ak:Jc x=true:=by
       unfold Jc;simp;omega
      have e1:(x != 39)=true:=by rw[Yu];omega
      have e2:(x != 92)=true:=by rw[Yu];omega
      have e3:decide (32<=x)=true:=by simp;omega
      have e4:decide (x<=126)=true:=by simp;omega
      have HSTEP:=Lh (show Ki Jc (s.data.toList.drop (i+1))=(e+1 - (i+1))+Ki Jc (s.data.toList.drop (e+1)) by
       rw[HR.o,Ld.o ak]
       omega)
      clear ak h Ld Hz ir;go_wp2_with fail;go_round;exact⟨e+1,by omega,by omega,by go_num,HSTEP.o⟩;simp[intOf];omega
     ·have ak:Jc x=false:=by
       unfold Jc;simp;omega
      have e1:(x != 39)=false:=by rw[bne_eq_false_iff_eq];omega
      have e2:(x != 92)=true:=by rw[Yu];omega
      have e3:decide (32<=x)=true:=by simp;omega
      have e4:decide (x<=126)=true:=by simp;omega
      have HN:=Lh (show Ki Jc (s.data.toList.drop (i+1))=e - (i+1) by rw[HR.o,Hz.o ak,Yp]);have HQ:=Lh (ir.o.2 (by omega));clear ak h Ld Hz ir;by_cases hz:e=i+1
      ·have HV:=Lh (Fh (HTN.o.trans (if_neg (fun hh=>by
        rw[HN.o] at hh
        omega))) rfl)
       have g5:((e:Int)==(i:Int)+1)=true:=by rw[beq_iff_eq];omega
       clear hz;go_wp2_with (refine Zs none rfl ?_);refine Stop.go (Zn rfl 104 rfl rfl rfl (Uo (vs:=[.int .i64 0,.string ⟨#[]⟩,.int .i64 0]) rfl rfl HI1.o rfl (by intro u hu;simp only[List.mem_cons,List.not_mem_nil,or_false] at hu;rcases hu with rfl | rfl | rfl <;> rfl)) ?_);have HRW:=Lh (Zi _ _ _ _ _ _ HI1.o:(w1.setRow w.heap.size [.int .i64 0,.string ⟨#[]⟩,.int .i64 0].toArray).heap[w.heap.size]? = _);have HBR:=Lh (Zj HB1.o (Ya _) [.int .i64 0,.string ⟨#[]⟩,.int .i64 0].toArray);generalize w1.setRow w.heap.size [.int .i64 0,.string ⟨#[]⟩,.int .i64 0].toArray=w3 at *;generalize ha:Act.put _ _ _=z9;simp[Act.put] at ha;subst ha;go_wp2_with fail;refine Uh (g:=w.heap.size) rfl rfl rfl rfl rfl HRW.o ?_;exact⟨congrArg Ending.returned HV.o,HBR.o⟩
      ·have g5:((e:Int)==(i:Int)+1)=false:=by rw[Yo];omega
       have HT2:=Lh (HTN.o.trans (if_pos (by rw[HN.o];exact⟨by omega,HQ.o⟩)));clear HQ;by_cases uE:32<e - (i+1)
       ·have g32:decide ((32:Int)<(e:Int) - (i:Int) - 1)=true:=by simp;omega
        have HV:=Lh (Fh (HT2.o.trans (if_pos (by rw[HN.o];exact uE))) rfl);clear hz uE;go_wp2_with (refine Zs none rfl ?_);refine Stop.go (Zn rfl 104 rfl rfl rfl (Uo (vs:=[.int .i64 0,.string ⟨#[]⟩,.int .i64 0]) rfl rfl HI1.o rfl (by intro u hu;simp only[List.mem_cons,List.not_mem_nil,or_false] at hu;rcases hu with rfl | rfl | rfl <;> rfl)) ?_);have HRW:=Lh (Zi _ _ _ _ _ _ HI1.o:(w1.setRow w.heap.size [.int .i64 0,.string ⟨#[]⟩,.int .i64 0].toArray).heap[w.heap.size]? = _);have HBR:=Lh (Zj HB1.o (Ya _) [.int .i64 0,.string ⟨#[]⟩,.int .i64 0].toArray);generalize w1.setRow w.heap.size [.int .i64 0,.string ⟨#[]⟩,.int .i64 0].toArray=w3 at *;generalize ha:Act.put _ _ _=z9;simp[Act.put] at ha;subst ha;go_wp2_with fail;refine Uh (g:=w.heap.size) rfl rfl rfl rfl rfl HRW.o ?_;exact⟨congrArg Ending.returned HV.o,HBR.o⟩
       ·have g32:decide ((32:Int)<(e:Int) - (i:Int) - 1)=false:=by simp;omega
        have HV:=Lh (Lu (j:=(e:Int)+1) (b:=s.extract (i+1) e) (HT2.o.trans (if_neg (by rw[HN.o];exact uE))) (by rw[qc s yv,HN.o]) (by simp only[HN.o];omega) rfl);clear hz uE;go_wp2_with (refine Zs none rfl ?_);refine Stop.go (Zn rfl 104 rfl rfl rfl (Uo (vs:=[.int .i64 2,.string (s.extract (i+1) e),.int .i64 i]) rfl rfl HI1.o rfl (by intro u hu;simp only[List.mem_cons,List.not_mem_nil,or_false] at hu;rcases hu with rfl | rfl | rfl <;> rfl)) ?_);have HRW:=Lh (Zi _ _ _ _ _ _ HI1.o:(w1.setRow w.heap.size [.int .i64 2,.string (s.extract (i+1) e),.int .i64 i].toArray).heap[w.heap.size]? = _);have HBR:=Lh (Zj HB1.o (Ya _) [.int .i64 2,.string (s.extract (i+1) e),.int .i64 i].toArray);generalize w1.setRow w.heap.size [.int .i64 2,.string (s.extract (i+1) e),.int .i64 i].toArray=w3 at *;generalize ha:Act.put _ _ _=z9;simp[Act.put] at ha;subst ha;go_wp2_with fail;refine Uh (g:=w.heap.size) rfl rfl rfl rfl rfl HRW.o ?_;exact⟨congrArg Ending.returned HV.o,HBR.o⟩
     ·have ak:Jc x=true:=by
       unfold Jc;simp;omega
      have e1:(x != 39)=true:=by rw[Yu];omega
      have e2:(x != 92)=true:=by rw[Yu];omega
      have e3:decide (32<=x)=true:=by simp;omega
      have e4:decide (x<=126)=true:=by simp;omega
      have HSTEP:=Lh (show Ki Jc (s.data.toList.drop (i+1))=(e+1 - (i+1))+Ki Jc (s.data.toList.drop (e+1)) by
       rw[HR.o,Ld.o ak]
       omega)
      clear ak h Ld Hz ir;go_wp2_with fail;go_round;exact⟨e+1,by omega,by omega,by go_num,HSTEP.o⟩;simp[intOf];omega
     ·have ak:Jc x=false:=by
       unfold Jc;simp;omega
      have e1:(x != 39)=true:=by rw[Yu];omega
      have e2:(x != 92)=false:=by rw[bne_eq_false_iff_eq];omega
      have e3:decide (32<=x)=true:=by simp;omega
      have e4:decide (x<=126)=true:=by simp;omega
      have HV:=Lh (Fh (HTN.o.trans (if_neg (fun hh=>by
       rw[HR.o,Hz.o ak,Yp,ir.o] at hh
       omega))) rfl)
      clear ak h Ld Hz ir;go_wp2_with (refine Zs none rfl ?_);refine Stop.go (Zn rfl 104 rfl rfl rfl (Uo (vs:=[.int .i64 0,.string ⟨#[]⟩,.int .i64 0]) rfl rfl HI1.o rfl (by intro u hu;simp only[List.mem_cons,List.not_mem_nil,or_false] at hu;rcases hu with rfl | rfl | rfl <;> rfl)) ?_);have HRW:=Lh (Zi _ _ _ _ _ _ HI1.o:(w1.setRow w.heap.size [.int .i64 0,.string ⟨#[]⟩,.int .i64 0].toArray).heap[w.heap.size]? = _);have HBR:=Lh (Zj HB1.o (Ya _) [.int .i64 0,.string ⟨#[]⟩,.int .i64 0].toArray);generalize w1.setRow w.heap.size [.int .i64 0,.string ⟨#[]⟩,.int .i64 0].toArray=w3 at *;generalize ha:Act.put _ _ _=z9;simp[Act.put] at ha;subst ha;go_wp2_with fail;refine Uh (g:=w.heap.size) rfl rfl rfl rfl rfl HRW.o ?_;exact⟨congrArg Ending.returned HV.o,HBR.o⟩
     ·have ak:Jc x=true:=by
       unfold Jc;simp;omega
      have e1:(x != 39)=true:=by rw[Yu];omega
      have e2:(x != 92)=true:=by rw[Yu];omega
      have e3:decide (32<=x)=true:=by simp;omega
      have e4:decide (x<=126)=true:=by simp;omega
      have HSTEP:=Lh (show Ki Jc (s.data.toList.drop (i+1))=(e+1 - (i+1))+Ki Jc (s.data.toList.drop (e+1)) by
       rw[HR.o,Ld.o ak]
       omega)
      clear ak h Ld Hz ir;go_wp2_with fail;go_round;exact⟨e+1,by omega,by omega,by go_num,HSTEP.o⟩;simp[intOf];omega
     ·have ak:Jc x=false:=by
       unfold Jc;simp;omega
      have e1:(x != 39)=true:=by rw[Yu];omega
      have e2:(x != 92)=true:=by rw[Yu];omega
      have e3:decide (32<=x)=true:=by simp;omega
      have e4:decide (x<=126)=false:=by simp;omega
      have HV:=Lh (Fh (HTN.o.trans (if_neg (fun hh=>by
       rw[HR.o,Hz.o ak,Yp,ir.o] at hh
       omega))) rfl)
      clear ak h Ld Hz ir;go_wp2_with (refine Zs none rfl ?_);refine Stop.go (Zn rfl 104 rfl rfl rfl (Uo (vs:=[.int .i64 0,.string ⟨#[]⟩,.int .i64 0]) rfl rfl HI1.o rfl (by intro u hu;simp only[List.mem_cons,List.not_mem_nil,or_false] at hu;rcases hu with rfl | rfl | rfl <;> rfl)) ?_);have HRW:=Lh (Zi _ _ _ _ _ _ HI1.o:(w1.setRow w.heap.size [.int .i64 0,.string ⟨#[]⟩,.int .i64 0].toArray).heap[w.heap.size]? = _);have HBR:=Lh (Zj HB1.o (Ya _) [.int .i64 0,.string ⟨#[]⟩,.int .i64 0].toArray);generalize w1.setRow w.heap.size [.int .i64 0,.string ⟨#[]⟩,.int .i64 0].toArray=w3 at *;generalize ha:Act.put _ _ _=z9;simp[Act.put] at ha;subst ha;go_wp2_with fail;refine Uh (g:=w.heap.size) rfl rfl rfl rfl rfl HRW.o ?_;exact⟨congrArg Ending.returned HV.o,HBR.o⟩
    ·have HV:=Lh (Fh (HTN.o.trans (if_neg (fun hh=>by
      have he:e=s.size:=by omega
      rw[HR.o,sF (by rw[Nh.o];omega),Yp,he,quM.o] at hh
      cases hh.2))) rfl)
     go_wp2_with (refine Zs none rfl ?_);refine Stop.go (Zn rfl 104 rfl rfl rfl (Uo (vs:=[.int .i64 0,.string ⟨#[]⟩,.int .i64 0]) rfl rfl HI1.o rfl (by intro u hu;simp only[List.mem_cons,List.not_mem_nil,or_false] at hu;rcases hu with rfl | rfl | rfl <;> rfl)) ?_);have HRW:=Lh (Zi _ _ _ _ _ _ HI1.o:(w1.setRow w.heap.size [.int .i64 0,.string ⟨#[]⟩,.int .i64 0].toArray).heap[w.heap.size]? = _);have HBR:=Lh (Zj HB1.o (Ya _) [.int .i64 0,.string ⟨#[]⟩,.int .i64 0].toArray);generalize w1.setRow w.heap.size [.int .i64 0,.string ⟨#[]⟩,.int .i64 0].toArray=w3 at *;generalize ha:Act.put _ _ _=z9;simp[Act.put] at ha;subst ha;go_wp2_with fail;refine Uh (g:=w.heap.size) rfl rfl rfl rfl rfl HRW.o ?_;exact⟨congrArg Ending.returned HV.o,HBR.o⟩
   ·have HV:=Lh (Fh (HT.o.trans (jy n1 n2 n3 n4 (fun e=>h4 (by rw[Vh,e];rfl)))) rfl);have h5:(Mp s i != 39)=true:=by simpa using h4
    clear HT jS Vh hdr n1 n2 n3 n4 hl h4;go_enter Tryz.func109,Tryz.ntmps109;go_wp2_with fail;refine (cD.o _).mono ?_;rintro e w1 ⟨rfl,rfl⟩;go_wp2_with fail;refine Uh (g:=w.heap.size) rfl rfl rfl rfl rfl (Xn _ _) ?_;exact⟨congrArg Ending.returned HV.o,(Xr _ _).alloc (Ya _) _⟩
def Ih(l:Wd)(w:World)(e:Ending)(w':World):Prop:=∃ v:Value,e=.returned (.tuple #[v,.int .i64 (Rv l).2.1,.int .i64 (Rv l).2.2])/\w'.ownsRow w.heap.size 104 3 v (Rv l).1.length (Dz (Rv l).1)/\Below w.heap.size w w'
theorem qbU:Dc Tryz.prog 95 104 3 32 (.agg #[.int .i64 0,.string ⟨#[]⟩,.int .i64 0]):=Gq (by kernel_rfl) (by kernel_rfl) rfl (by omega)
theorem Ih.of{l:Wd}{w w':World}{v:Value}{toks:List Kr}{i e:Nat}(h:Rv l=(toks,i,e))(ho:w'.ownsRow w.heap.size 104 3 v toks.length (Dz toks))(hb:Below w.heap.size w w'):Ih l w (.returned (.tuple #[v,.int .i64 i,.int .i64 e])) w':=by
 unfold Ih;rw[h];exact⟨v,rfl,ho,hb⟩
theorem qgT(s:ByteArray)(w:World)(hs:s.size<=maxLen):Calls Tryz.prog 53 #[.string s] w (Ih s.data.toList w):=by
 have Ab:=hs;unfold maxLen at hs;have hbt:=dN s;have Nh:=Lh (show s.data.toList.length=s.size by simp);by_cases ze:65536<s.size
 ·have HL:=Lh (ac (s:=s.data.toList) (by rw[Nh.o];exact ze));have g0:decide ((65536:Int)<(s.size:Int))=true:=by simp;omega
  clear hs Ab ze;go_enter Tryz.func53,Tryz.ntmps53;go_wp2_with fail;refine Zg (Zh rfl _ _ _) rfl ?_;exact Ih.of HL.o (Yz _ _ _ _) (Xr _ _)
 ·have Mi:s.size<=65536:=by omega
  have g0:decide ((65536:Int)<(s.size:Int))=false:=by simp;omega
  have HOWN:=Lh (Yz w w.heap.size 104 3);have HB0:=Lh (Xr w.heap.size w);have HX:=Lh (ReachX.refl (s:=s.data.toList) (0,[]));go_enter Tryz.func53,Tryz.ntmps53;go_wp2_with fail;go_loopw [5,6] (fun v5 v6 wr=>∃(i:Nat)(toks:List Kr),i<=s.size/\toks.length<=i/\v6=.int .i64 i/\Hid (ReachX s.data.toList (0,[]) (i,toks))/\Hid (wr.ownsRow w.heap.size 104 3 v5 toks.length (Dz toks))/\Hid (Below w.heap.size w wr)) (fun _ v6 _=>s.size - (intOf v6).toNat);exact⟨0,[],Yf _,Yf _,rfl,HX.o,HOWN.o,HB0.o⟩;clear HX HOWN HB0;obtain⟨i,toks,hi,hti,rfl,HX,HOWN,HB⟩:=hrel;by_cases Ji:i<s.size
  ·have Wt:i<s.data.toList.length:=by rw[Nh.o];exact Ji
   have HF:=Lh (vd s i wr Ab Ji);have HBK:=Lh (fun h=>rT Wt ((fv s Wt).2 h) toks);have yE:=Lh (fun h=>yR Wt ((bU s Wt 35).2 h) toks);have sr:=Lt (¬ (Mp s i=32\/Mp s i=9\/Mp s i=13\/Mp s i=10)->pU s.data.toList[i]=false) (fun h=>by rw[<-Bool.not_eq_true,fv s Wt];exact h);have HNF:=Lt (Mp s i≠35->s.data.toList[i]≠35) (fun h e=>h ((bU s Wt 35).1 e));have hc:Mp s i=35\/Mp s i=32\/Mp s i=9\/Mp s i=13\/Mp s i=10\/(Mp s i≠35/\Mp s i≠32/\Mp s i≠9/\Mp s i≠13/\Mp s i≠10):=by omega
   rcases hc with h | h | h | h | h | ⟨h1,h2,h3,h4,h5⟩
   ·have HX2:=Lh (HX.o.snoc (yE.o h));have HP:=Lh (show 1<=Ki Sb (s.data.toList.drop i) by
     rw[Ql Wt,(bU s Wt 35).2 h];exact Lq (by decide))
    go_wp2_with fail;go_loop [6] (fun v6=>∃ e:Nat,i<=e/\e<=s.size/\v6=.int .i64 e/\Hid (Ki Sb (s.data.toList.drop i)=(e - i)+Ki Sb (s.data.toList.drop e))) (fun v6=>s.size - (intOf v6).toNat);exact⟨i,Ya _,hi,rfl,by show _=_;rw[Nat.sub_self,Yq]⟩;obtain⟨e,yv,hes,rfl,HR⟩:=hrel;by_cases hle:e<s.size
    ·have ar:e<s.data.toList.length:=by rw[Nh.o];exact hle
     by_cases Ly:Mp s e=10
     ·have HN:=Lh (show Ki Sb (s.data.toList.drop i)=e - i by
       rw[HR.o,lO ar (by rw[<-Ey s e ar,Ly];rfl),Yp])
      have ef:i<e:=by have:=HP.o;have:=HN.o;omega
      have HX3:=Lh (show ReachX s.data.toList (0,[]) (e,toks) by
       have:=HX2.o
       rwa [HN.o,show i+(e - i)=e by omega] at this)
      go_wp2_with fail;go_roundw;exact⟨e,toks,hes,by omega,rfl,HX3.o,HOWN.o,HB.o⟩;simp[intOf];omega
     ·have HN:=Lh (show Ki Sb (s.data.toList.drop i)=(e+1 - i)+Ki Sb (s.data.toList.drop (e+1)) by
       rw[HR.o,sE ar (by rw[<-Ey s e ar];exact Yv Ly)]
       omega)
      have hb10:(Mp s e != 10)=true:=by simpa using Ly
      clear Ly;go_wp2_with fail;go_round;exact⟨e+1,by omega,by omega,by go_num,HN.o⟩;simp[intOf];omega
    ·have HN:=Lh (show Ki Sb (s.data.toList.drop i)=e - i by
      rw[HR.o,sF (by rw[Nh.o];omega),Yp])
     have ef:i<e:=by have:=HP.o;have:=HN.o;omega
     have HX3:=Lh (show ReachX s.data.toList (0,[]) (e,toks) by
      have:=HX2.o
      rwa [HN.o,show i+(e - i)=e by omega] at this)
     go_wp2_with fail;go_roundw;exact⟨e,toks,hes,by omega,rfl,HX3.o,HOWN.o,HB.o⟩;simp[intOf];omega
   iterate 4
    ·have HX2:=Lh (HX.o.snoc (HBK.o (by omega)));go_wp2_with fail;go_roundw;exact⟨i+1,toks,by omega,by omega,by go_num,HX2.o,HOWN.o,HB.o⟩;simp[intOf];omega
   ·have HB1:=Lh (sr.o (by omega));have HB2:=Lh (HNF.o h1);have b1:(Mp s i==32)=false:=by simpa using h2
    have b2:(Mp s i==9)=false:=by simpa using h3
    have b3:(Mp s i==10)=false:=by simpa using h5
    have b4:(Mp s i==13)=false:=by simpa using h4
    have b5:(Mp s i==35)=false:=by simpa using h1
    clear h1 h2 h3 h4 h5;unfold S_ at HF;cases ht:Er (s.data.toList.drop i) with
    |error en =>
     have HV:=Lh (Fh ht rfl).symm;have Ju:=Lh (nv (by rw[Nh.o];exact Mi) HX.o Wt HB1.o HB2.o ht);have hen:=rJ ht;clear ht;go_wp2_with fail;refine HF.o.mono ?_;rintro e w2 ⟨rfl,Ja⟩;rw[HV.o];have HB2:=Lh ((HB.o.trans (Ja.mono HB.o.size)).alloc (by have:=HB.o.size;have:=Ja.size;omega) (.cells #[.int .i64 0,.string ⟨#[]⟩,.int .i64 0] 104));rcases hen with rfl | rfl
     all_goals
      go_wp2_with fail;refine Zg (Zh rfl _ _ _) rfl ?_;exact Ih.of Ju.o (Yz _ _ _ _) HB2.o
    |ok t =>
     obtain⟨k,txt,n⟩:=t;have HV:=Lh (Lu ht (b:=Jp txt) rfl (j:=((i+n:Nat):Int)) (by simp) rfl).symm;have hn1:1<=n:=cU ht;have yg:i+n<=s.size:=by have:=jz ht;rw[Xj,Nh.o] at this;simp only at this;omega
     have HXN:=Lh (HX.o.snoc (kc Wt HB1.o HB2.o ht toks));clear ht;obtain⟨j,hj⟩:=Xe (i+n);simp only at HV HXN;rw[<-hj] at HV HXN yg;have hij:i<j:=by omega
     clear hj hn1;go_wp2_with fail;refine HF.o.mono ?_;rintro e w2 ⟨rfl,Ja⟩;rw[HV.o];have HB2:=Lh (HB.o.trans (Ja.mono HB.o.size));have hb4:Below w2.heap.size w2 ((w2.alloc (.cells #[.int .i64 k,.string (Jp txt),.int .i64 i] 104)).alloc (.cells #[.int .i64 k,.string (Jp txt),.int .i64 i] 104)):=((Xr _ _).alloc (Ya _) _).alloc (by rw[Xs];omega) _;have HO4:=Lh (Zy (Zy HOWN.o Ja) hb4);have HB4:=Lh (HB2.o.trans (hb4.mono HB2.o.size));have HN4:=Lh (Xn (w2.alloc (.cells #[.int .i64 k,.string (Jp txt),.int .i64 i] 104)) (.cells #[.int .i64 k,.string (Jp txt),.int .i64 i] 104));rw[Xs] at HN4;clear Ja hb4;go_wp2_with (at_builtin;refine Zz (m:=1) qbU rfl rfl rfl rfl HO4.o (Rd.row (B:=w2.heap.size+2) HN4.o (by omega)) rfl (by simp[Value.oneCell']) ?h63 ?hby ?hbase ?_)
     case h63=>simp only[maxLen];omega
     case hby=>omega
     case hbase=>exact HB4.o.size
     intro v5' w7 Na Ta _ _;have HO7:=Lt (w7.ownsRow w.heap.size 104 3 v5' (toks++[(k,txt,i)]).length (Dz (toks++[(k,txt,i)]))) (by
      rw[nP,Qe,Qf]
      exact Na)
     have HB7:=Lh (Zt HB4.o Ta HO4.o (Ya _) HB4.o.size);clear Na Ta;go_wp2_with fail;go_roundw;exact⟨j,toks++[(k,txt,i)],by omega,by rw[Qe,Qf];omega,by go_num,HXN.o,HO7.o,HB7.o⟩;simp[intOf];omega
  ·have Ju:=Lh (nw (by rw[Nh.o];exact Mi) HX.o (by rw[Nh.o];omega));go_wp2_with fail;refine Zg (Zh rfl _ _ _) rfl ?_;exact Ih.of Ju.o HOWN.o HB.o
structure aG(tA tI:TypeId)(w:World)(N:Nat)(vA:Value)(cA:List Value)(alts:List (List Vw))(vI:Value)(cI:List (List Value))(alt:List Vw)(B:Nat):Prop where
 row:w.ownsRow N tA 1 vA alts.length cA
 al:Vj (wZ tI) w B (cA.map fun v=>[v]) alts
 last:w.ownsRow B tI 2 vI alt.length cI.flatten
 it:Vj iQ w B cI alt
 nB:N<=B
 bB:B<=w.heap.size
section
variable {tA tI:TypeId} {w w1:World} {N:Nat} {vA:Value} {cA:List Value} {alts:List (List Vw)} {vI:Value} {cI:List (List Value)} {alt:List Vw} {B:Nat}
theorem aG.start(h:N<=w.heap.size):aG tA tI w N (.slice none 0 0) [] [] (.slice none 0 0) [] [] w.heap.size :=
 ⟨Yz _ _ _ _,Vj.nil _ _ _,Yz _ _ _ _,Vj.nil _ _ _,h,Ya _⟩
theorem aG.below(h:aG tA tI w N vA cA alts vI cI alt B)(hb:Below w.heap.size w w1):aG tA tI w1 N vA cA alts vI cI alt B :=
 ⟨Zy h.row hb,h.al.below hb,Zy h.last hb,h.it.below hb,h.nB,Yb h.bB hb.size⟩
theorem aG.set(h:aG tA tI w N vA cA alts vI cI alt B){g k:Nat}{cs:Array Value}{T:TypeId}(hg:w.heap[g]? = some (.cells cs T (0,0)))(hA:T≠tA)(hI:T≠tI)(v:Value):aG tA tI (w.setCell ⟨g,k,none⟩ v) N vA cA alts vI cI alt B :=
 ⟨ownsRow_setCell_other h.row (tB h.row hg hA) v,h.al.keep (.of_setT hg (by rw[iR];simpa using hI) v),ownsRow_setCell_other h.last (tB h.last hg hI) v,h.it.keep (.of_setT hg (by rw[jv];simp) v),h.nB,by rw[Za];exact h.bB⟩
theorem aG.item{j_:Value}{b:Bool}{s:ByteArray}(h:aG tA tI w N vA cA alts vI cI alt B)(hAI:tA≠tI)(hs:s.size<=maxLen)(ho:w1.ownsRow B tI 2 j_ (alt.length+1) (cI.flatten++[.bool b,.string s]))(hg:w.grownBy w1 vI.ownBlock) :
  aG tA tI w1 N vA cA alts j_ (cI++[[.bool b,.string s]]) (alt++[(b,s)]) B:=by
 refine⟨Vr h.row h.last hAI hg,h.al.keep (.of_grown h.last hg (Ya _)),?_,?_,h.nB,Yb h.bB hg.size⟩
 ·rw[Qe,Qf,Qs];simpa using ho
 ·exact Vj.snoc (h.it.keep (w':=w1) ⟨hg.size,fun _ _ _ _ ht=>nomatch ht⟩) ⟨[.bool b],[.string s],rfl,rfl,rfl,hs⟩
theorem aG.bar{Ov:Value}(h:aG tA tI w N vA cA alts vI cI alt B)(hAI:tA≠tI)(ho:w1.ownsRow N tA 1 Ov (alts.length+1) (cA++[vI]))(hg:w.grownBy w1 vA.ownBlock) :
  aG tA tI w1 N Ov (cA++[vI]) (alts++[alt]) (.slice none 0 0) [] [] w1.heap.size:=by
 refine⟨?_,?_,Yz _ _ _ _,Vj.nil _ _ _,Yb h.nB (Yb h.bB hg.size),Ya _⟩
 ·rw[Qe,Qf];exact ho
 ·rw[Qt];have h1:=(h.al.keep (.of_keepT (Jg.of_grown h.row hg (by rw[iR];simpa using hAI)))).more (Yb h.bB hg.size);refine Vj.snoc (xs:=alts) (x:=alt) h1 ⟨vI,rfl,?_⟩;exact Tn.of_row (O:=iQ) (Vr h.last h.row (Ne.symm hAI) hg) ((h.it.keep (w':=w1) ⟨hg.size,fun _ _ _ _ ht=>nomatch ht⟩).more (Yb h.bB hg.size))
theorem aG.toU(h:aG tA tI w N vA cA alts vI cI alt B):Tn (wZ tI) tA w w.heap.size vA alts :=
 Tn.of_row (by rw[mj];exact h.row) (h.al.more h.bB)
end
theorem aV{w:World}{g:Nat}{a b:Value}{t:TypeId}{fr:Nat×Nat}(h:w.heap[g]? = some (.cells #[a,b] t fr)):w.cell? ⟨g,0,none⟩=some a/\w.cell? ⟨g,1,none⟩=some b:=by
 refine⟨?_,?_⟩ <;> (rw[Zc _ _ _ _ _ _ h];rfl)
theorem Sh{fn:Func}{p u x:Tmp}{r y:Value}{Q:Ending->World->Prop}(h:fn.results=#[.cell p 100,.tmp u,.tmp x]){a:Act}{w:World}{g:Nat}{c0 c1:Value}{fr:Nat×Nat}{t:TypeId}(hd:a.defers=[])
  (hp:a.tmps.getD p undef=.pointer (some ⟨g,0,none⟩)) (hu:a.tmps.getD u undef=r) (hx:a.tmps.getD x undef=y) (hg:w.heap[g]? = some (.cells #[c0,c1] t fr)) (hq:Q (.returned (.tuple #[.agg #[c0,c1],r,y])) w):bodyPost Tryz.prog fn Q .ret a w:=by
 refine Zg (v:=.tuple #[.agg #[c0,c1],r,y]) ?_ hd hq;rw[Mw h,hp,hu,hx];simp[asAddr,Result.andThen,run_loadVar_row w g t 100 #[c0,c1] fr _ hg Tryz.underlying100 rfl (by kernel_rfl)]
theorem Fb{w:World}{g:Nat}{a b:Value}{cur:Array Value}{t:TypeId}(hg:w.heap[g]? = some (.cells cur t (0,0)))(hc:cur.size=2)(h1:a.oneCell'=true)(h2:b.oneCell'=true) :
  (Instr.storeAt 100 (.pointer (some ⟨g,0,none⟩)) (.agg #[a,b])).run Tryz.prog w=.ok () (w.setRow g [a,b].toArray):=by
 rw[Az (vs:=[a,b]) rfl (by kernel_rfl) hg (by simp;omega) (by intro u hu;simp only[List.mem_cons,List.not_mem_nil,or_false] at hu;rcases hu with rfl | rfl <;> assumption)];congr 2;simp[List.drop_eq_nil_of_le (show cur.toList.length<=2 by simp;omega)]
theorem tT:Dc Tryz.prog 105 107 2 24 (.agg #[.bool false,.string ⟨#[]⟩]):=Gq (by kernel_rfl) (by kernel_rfl) rfl (by omega)
theorem bx:Dc Tryz.prog 98 105 1 24 (.slice none 0 0):=Gq (by kernel_rfl) (by kernel_rfl) rfl (by omega)
theorem tS{ts:List TypeId}{w:World}{g:Nat}{cs cs':Array Value}{T:TypeId}(h:w.heap[g]? = some (.cells cs T (0,0)))(hT:T∉ts):Jg ts w (w.setRow g cs'):=by
 refine⟨by simp[World.setRow],fun j cur t ht hj=>?_⟩;by_cases e:j=g
 ·subst e;rw[h] at hj;injection hj with hj;injection hj with _ hj;exact absurd (hj ▸ ht) hT
 ·rw[setRow_other _ _ _ _ e];exact hj
def Fa(toks:List Kr)(i:Nat)(w:World)(e:Ending)(w':World):Prop :=
 (∃ nx nm A n c,cB toks i nx/\e=.returned (.tuple #[.agg #[.string nm,.slice A n c],.int .i64 (nx:Nat),.bool false])/\Below w.heap.size w w') \/
 ∃ nx nm vA alts,qbI toks i (nm,alts) nx/\e=.returned (.tuple #[.agg #[.string nm,vA],.int .i64 (nx:Nat),.bool true])/\nm.size<=maxLen/\Tn (wZ 107) 105 w' w'.heap.size vA alts/\Below w.heap.size w w'
theorem Fa.no{toks:List Kr}{i nx n c:Nat}{nm:ByteArray}{A:Option Addr}{w w':World}{j:Int}(h:cB toks i nx)(hj:j=nx)(hb:Below w.heap.size w w'):Fa toks i w (.returned (.tuple #[.agg #[.string nm,.slice A n c],.int .i64 j,.bool false])) w' :=
 .inl ⟨nx,nm,A,n,c,h,by rw[hj],hb⟩
theorem Fa.yes{toks:List Kr}{i nx:Nat}{nm:ByteArray}{vA:Value}{alts:List (List Vw)}{w w':World}{j:Int}(h:qbI toks i (nm,alts) nx)(hj:j=nx)(hs:nm.size<=maxLen)(ha:Tn (wZ 107) 105 w' w'.heap.size vA alts)(hb:Below w.heap.size w w'):Fa toks i w (.returned (.tuple #[.agg #[.string nm,vA],.int .i64 j,.bool true])) w' :=
 .inr ⟨nx,nm,vA,alts,h,by rw[hj],hs,ha,hb⟩
theorem tz(vT:Value)(toks:List Kr)(i B0:Nat)(w:World)(hT:w.ownsRow B0 104 3 vT toks.length (Dz toks))(hi:i<toks.length)(hn:toks.length<=65536)(hz:∀ t∈toks,t.2.1.length<=32) :
  Calls Tryz.prog 54 #[vT,.int .i64 i] w (Fa toks i w):=by
 obtain⟨AT,cT,rfl,Nj,Uy⟩:=Zo hT;unfold maxLen at Uy;obtain⟨bT,oT,hAT,hbT,hcT⟩:=Rd.of_own hT (fun e=>by have:=rM toks;rw[e,Xt] at this;omega);subst hAT;have HTK:=Lh (show ∀(W:World),Below w.heap.size w W->∀(j:Nat)(hj:j<toks.length),W.cell? ⟨bT,oT+j*3,none⟩=some (.int .i64 toks[j].1)/\W.cell? ⟨bT,oT+j*3+1,none⟩=some (.string (Jp toks[j].2.1)) from fun W hb j hj=>by
  obtain⟨t0,t1,_⟩:=fR hj
  exact⟨(hb.cell (p:=⟨bT,oT+j*3,none⟩) hbT).trans (hcT _ _ t0),(hb.cell (p:=⟨bT,oT+j*3+1,none⟩) hbT).trans (hcT (j*3+1) _ t1)⟩)
 have HZ:=Lh (show ∀(j:Nat)(hj:j<toks.length),(Jp toks[j].2.1).size<=maxLen from fun j hj=>by
  have:=hz toks[j] (Qg hj)
  rw[rK]
  unfold maxLen
  omega)
 clear hcT hT hz;obtain⟨n,hn'⟩:=Xe toks.length;have HN:=Lh hn';rw[<-hn'] at Nj hn |-;have Ua:i<n:=by omega
 clear hn';obtain⟨S,hS⟩:=Xe w.heap.size;have HB1:=Lt (Below w.heap.size w ((w.alloc (.cells #[.string ⟨#[]⟩,.slice none 0 0] 100)).alloc (.cells #[.string ⟨#[]⟩,.slice none 0 0] 100))) (((Xr _ _).alloc (Ya _) _).alloc (by rw[Xs];omega) _);have HS1:=Lh (Go.heap_alloc2_old w (.cells #[.string ⟨#[]⟩,.slice none 0 0] 100) (.cells #[.string ⟨#[]⟩,.slice none 0 0] 100));have HL1:=Lh (Go.heap_alloc2_new w (.cells #[.string ⟨#[]⟩,.slice none 0 0] 100) (.cells #[.string ⟨#[]⟩,.slice none 0 0] 100));have HZ1:=Lh (show ((w.alloc (.cells #[.string ⟨#[]⟩,.slice none 0 0] 100)).alloc (.cells #[.string ⟨#[]⟩,.slice none 0 0] 100)).heap.size=w.heap.size+2 by rw[Xs,Xs]);rw[<-hS] at HS1 HL1 HZ1;go_enter Tryz.func54,Tryz.ntmps54;go_wp2_with (refine Zs (some 12) rfl ?_);rw[<-hS];have HSE:=Lh hS;clear hS;refine Stop.go ?_;generalize (w.alloc (.cells #[.string ⟨#[]⟩,.slice none 0 0] 100)).alloc (.cells #[.string ⟨#[]⟩,.slice none 0 0] 100)=w1 at *;obtain⟨c0,c1⟩:=HTK.o w1 HB1.o i hi;by_cases Iu:toks[i].1=1
 ·obtain⟨j,hj⟩:=Xe (i+1);obtain⟨j2,yq⟩:=Xe (i+2);have HX2:=Lt ((∀ hb:j<toks.length,toks[j].1≠3)->cB toks i j) (by subst hj;exact fun h=>cB.second hi Iu h);have HI2:=Lt (∀ hb:j<toks.length,toks[j].1=3->Rq toks i j2 (Jp toks[i].2.1) [] []) (by subst hj yq;exact fun h h2=>Rq.start hi Iu h h2);have e1:(i:Int)+1=(j:Int):=by omega
  have e2:(j:Int)+1=(j2:Int):=by omega
  have HIJ:=Lt (j=i+1/\j2=i+2) (⟨hj,yq⟩);clear hj yq;have HNM:=Lh (HZ.o i hi);generalize toks[i]=tk at *;obtain⟨kd,txt,ti⟩:=tk;simp only at Iu c0 c1 HNM HI2;subst Iu;obtain⟨l0,l1⟩:=aV HL1.o;have f0:w1.frozen? ⟨S+1,0,none⟩=false:=by simp[World.frozen?,HL1.o]
  have HL2:=Lh (Kj (k:=0) HL1.o (.string (Jp txt)));have HS2:=Lh (Vd (g:=S+1) (k:=0) HS1.o (by omega) (.string (Jp txt)));have HB2:=Lh (HB1.o.setCell (p:=⟨S+1,0,none⟩) (by show w.heap.size<=S+1;rw[HSE.o];omega) (.string (Jp txt)));have HZ2:=Lh (show (w1.setCell ⟨S+1,0,none⟩ (.string (Jp txt))).heap.size=S+2 by rw[Za];exact HZ1.o);go_wp2_with (refine Zs (some 29) rfl ?_);refine Stop.go ?_;generalize w1.setCell ⟨S+1,0,none⟩ (.string (Jp txt))=w2 at *;clear c0 c1 l0 l1 f0;by_cases hjn:j<n
  ·have Mn:j<toks.length:=by rw[<-HN.o];exact hjn
   have g0:decide ((n:Int)<=(j:Int))=false:=by simp;omega
   have g0':decide (n<=j)=false:=by simp;omega
   obtain⟨c0,c1⟩:=HTK.o w2 HB2.o j Mn;by_cases eh:toks[j].1=3
   ·have HI3:=Lh (HI2.o Mn eh);rw[eh] at c0;clear eh;go_wp2_with fail;clear c0 c1;have HM0:=Lh (aG.start (tA:=105) (tI:=107) (w:=w2) (N:=S+2) (by rw[HZ2.o];exact Ya _));go_loopw [1,8] (fun v1 v8 wr=>∃(k:Nat)(alts:List (List Vw))(alt:List Vw)(vA:Value)(cA:List Value)(cI:List (List Value))(B:Nat),k<=n/\v1=.int .i64 k/\alts.length<=k/\alt.length<=k/\Hid (Rq toks i k (Jp txt) alts alt)/\Hid (aG 105 107 wr (S+2) vA cA alts v8 cI alt B)/\Hid (wr.heap[S+1]? = some (.cells #[.string (Jp txt),vA] 100 (0,0)))/\Hid (wr.heap[S]? = some (.cells #[.string ⟨#[]⟩,.slice none 0 0] 100 (0,0)))/\Hid (Below w.heap.size w wr)) (fun v1 _ _=>n - (intOf v1).toNat);exact⟨j2,[],[],_,_,_,_,by have:=HIJ.o;omega,rfl,Yf _,Yf _,HI3.o,HM0.o,HL2.o,HS2.o,HB2.o⟩;clear HI3 HM0 HL2 HS2 HB2;obtain⟨k,alts,alt,vA,cA,cI,B,hk,rfl,hal1,hal2,HI,HM,HL,HS,HB⟩:=hrel;obtain⟨A8,c8,rfl,h81,h82⟩:=Zo HM.o.last;obtain⟨AA,cAA,rfl,hA1,hA2⟩:=Zo HM.o.row;unfold maxLen at h82 hA2;by_cases hkn:k<n
    ·have Eu:k<toks.length:=by rw[<-HN.o];exact hkn
     obtain⟨d0,d1⟩:=HTK.o wr HB.o k Eu;have zbI:=Lh (fun h=>HI.o.item Eu h);have zjA:=Lh (fun h=>HI.o.bar Eu h);have zhO:=Lh (fun h=>HI.o.semi Eu h);have Rw:=Lh (fun(h:toks[k].1≠1/\toks[k].1≠2/\toks[k].1≠4/\toks[k].1≠5)=>HI.o.bad (fun _=>h));have HTZ:=Lh (HZ.o k Eu);generalize toks[k]=tk at *;obtain⟨kk,txk,tik⟩:=tk;simp only at d0 d1 zbI zjA zhO Rw HTZ;clear Eu;have Ht:kk=1\/kk=2\/kk=4\/kk=5\/(kk≠1/\kk≠2/\kk≠4/\kk≠5):=by omega
     rcases Ht with h | h | h | h | ⟨k1,k2,k4,k5⟩
     ·subst h;have HI4:=Lt (Rq toks i (k+1) (Jp txt) alts (alt++[(false,Jp txk)])) (zbI.o (by decide));have hb4:Below wr.heap.size wr (wr.alloc (.cells #[.bool false,.string (Jp txk)] 107)):=(Xr _ _).alloc (Ya _) _;have HN4:=Lh (Xn wr (.cells #[.bool false,.string (Jp txk)] 107));have HZ4:=Lh (Xs wr (.cells #[.bool false,.string (Jp txk)] 107));have Lc:=Lh (HM.o.below hb4);have HL4:=Lh ((hb4.block (S+1) (gl HL.o)).trans HL.o);have HS4:=Lh ((hb4.block S (gl HS.o)).trans HS.o);have HB4:=Lh (HB.o.trans (hb4.mono HB.o.size));clear hb4;go_wp2_with (at_builtin;refine Zz (m:=1) tT rfl rfl rfl rfl Lc.o.last (Rd.row (B:=wr.heap.size+1) HN4.o (Ye _)) rfl (by simp[Value.oneCell']) ?h63 ?hby ?hbase ?_)
      case h63=>simp only[maxLen];omega
      case hby=>omega
      case hbase=>have h1:=HM.o.nB;have h2:=HM.o.bB;omega
      intro v8' w7 Na Ta _ _;have HM7:=Lh (Lc.o.item (by decide) HTZ.o Na Ta);have HL7:=Lh (Zq Lc.o.last Ta HL4.o (by decide));have HS7:=Lh (Zq Lc.o.last Ta HS4.o (by decide));have HB7:=Lh (Zt HB4.o Ta Lc.o.last (by have:=Lc.o.nB;have:=HSE.o;omega) HB4.o.size);clear Na Ta;go_wp2_with fail;go_roundw;exact⟨k+1,alts,alt++[(false,Jp txk)],_,_,_,_,by omega,by go_num,by omega,by rw[Qe,Qf];omega,HI4.o,HM7.o,HL7.o,HS7.o,HB7.o⟩;simp[intOf];omega
     ·subst h;have HI4:=Lt (Rq toks i (k+1) (Jp txt) alts (alt++[(true,Jp txk)])) (zbI.o (by decide));have hb4:Below wr.heap.size wr (wr.alloc (.cells #[.bool true,.string (Jp txk)] 107)):=(Xr _ _).alloc (Ya _) _;have HN4:=Lh (Xn wr (.cells #[.bool true,.string (Jp txk)] 107));have HZ4:=Lh (Xs wr (.cells #[.bool true,.string (Jp txk)] 107));have Lc:=Lh (HM.o.below hb4);have HL4:=Lh ((hb4.block (S+1) (gl HL.o)).trans HL.o);have HS4:=Lh ((hb4.block S (gl HS.o)).trans HS.o);have HB4:=Lh (HB.o.trans (hb4.mono HB.o.size));clear hb4;go_wp2_with (at_builtin;refine Zz (m:=1) tT rfl rfl rfl rfl Lc.o.last (Rd.row (B:=wr.heap.size+1) HN4.o (Ye _)) rfl (by simp[Value.oneCell']) ?h63 ?hby ?hbase ?_)
      case h63=>simp only[maxLen];omega
      case hby=>omega
      case hbase=>have h1:=HM.o.nB;have h2:=HM.o.bB;omega
      intro v8' w7 Na Ta _ _;have HM7:=Lh (Lc.o.item (by decide) HTZ.o Na Ta);have HL7:=Lh (Zq Lc.o.last Ta HL4.o (by decide));have HS7:=Lh (Zq Lc.o.last Ta HS4.o (by decide));have HB7:=Lh (Zt HB4.o Ta Lc.o.last (by have:=Lc.o.nB;have:=HSE.o;omega) HB4.o.size);clear Na Ta;go_wp2_with fail;go_roundw;exact⟨k+1,alts,alt++[(true,Jp txk)],_,_,_,_,by omega,by go_num,by omega,by rw[Qe,Qf];omega,HI4.o,HM7.o,HL7.o,HS7.o,HB7.o⟩;simp[intOf];omega
     ·subst h;have HI4:=Lh (zjA.o rfl);obtain⟨l0,l1⟩:=aV HL.o;have hb4:Below wr.heap.size wr (wr.alloc (.cells #[.slice A8 alt.length c8] 105)):=(Xr _ _).alloc (Ya _) _;have HN4:=Lh (Xn wr (.cells #[.slice A8 alt.length c8] 105));have HZ4:=Lh (Xs wr (.cells #[.slice A8 alt.length c8] 105));have Lc:=Lh (HM.o.below hb4);have HL4:=Lh ((hb4.block (S+1) (gl HL.o)).trans HL.o);have HS4:=Lh ((hb4.block S (gl HS.o)).trans HS.o);have HB4:=Lh (HB.o.trans (hb4.mono HB.o.size));clear hb4;go_wp2_with (at_builtin;refine Zz (m:=1) bx rfl rfl rfl rfl Lc.o.row (Rd.row (B:=wr.heap.size+1) HN4.o (Ye _)) rfl (by simp[Value.oneCell']) ?h63 ?hby ?hbase ?_)
      case h63=>simp only[maxLen];omega
      case hby=>omega
      case hbase=>have h1:=HM.o.nB;have h2:=HM.o.bB;omega
      intro Ov w7 Na Ta _ _;obtain⟨A9,c9,rfl,h91,h92⟩:=Zo Na;have HM7:=Lh (Lc.o.bar (by decide) Na Ta);have HL7:=Lh (Zq Lc.o.row Ta HL4.o (by decide));have HS7:=Lh (Zq Lc.o.row Ta HS4.o (by decide));have HB7:=Lh (Zt HB4.o Ta Lc.o.row (by have:=HSE.o;omega) HB4.o.size);have q1:=(aV HL7.o).2;have f1:w7.frozen? ⟨S+1,1,none⟩=false:=by simp[World.frozen?,HL7.o]
      have HL8:=Lh (Kj (k:=1) HL7.o (.slice A9 (alts.length+1) c9));have HS8:=Lh (Vd (g:=S+1) (k:=1) HS7.o (by omega) (.slice A9 (alts.length+1) c9));have HM8:=Lh (HM7.o.set (k:=1) HL7.o (by decide) (by decide) (.slice A9 (alts.length+1) c9));have HB8:=Lh (HB7.o.setCell (p:=⟨S+1,1,none⟩) (by show w.heap.size<=S+1;have:=HSE.o;omega) (.slice A9 (alts.length+1) c9));clear Na Ta l0 l1;go_wp2_with fail;go_roundw;exact⟨k+1,alts++[alt],[],_,_,_,_,by omega,by go_num,by rw[Qe,Qf];omega,Yf _,HI4.o,HM8.o,HL8.o,HS8.o,HB8.o⟩;simp[intOf];omega
     ·subst h;have HY:=Lh (zhO.o rfl);obtain⟨l0,l1⟩:=aV HL.o;have hb4:Below wr.heap.size wr (wr.alloc (.cells #[.slice A8 alt.length c8] 105)):=(Xr _ _).alloc (Ya _) _;have HN4:=Lh (Xn wr (.cells #[.slice A8 alt.length c8] 105));have HZ4:=Lh (Xs wr (.cells #[.slice A8 alt.length c8] 105));have Lc:=Lh (HM.o.below hb4);have HL4:=Lh ((hb4.block (S+1) (gl HL.o)).trans HL.o);have HS4:=Lh ((hb4.block S (gl HS.o)).trans HS.o);have HB4:=Lh (HB.o.trans (hb4.mono HB.o.size));clear hb4;go_wp2_with (at_builtin;refine Zz (m:=1) bx rfl rfl rfl rfl Lc.o.row (Rd.row (B:=wr.heap.size+1) HN4.o (Ye _)) rfl (by simp[Value.oneCell']) ?h63 ?hby ?hbase ?_)
      case h63=>simp only[maxLen];omega
      case hby=>omega
      case hbase=>have h1:=HM.o.nB;have h2:=HM.o.bB;omega
      intro Ov w7 Na Ta _ _;obtain⟨A9,c9,rfl,h91,h92⟩:=Zo Na;have HM7:=Lh (Lc.o.bar (by decide) Na Ta);have HL7:=Lh (Zq Lc.o.row Ta HL4.o (by decide));have HS7:=Lh (Zq Lc.o.row Ta HS4.o (by decide));have HB7:=Lh (Zt HB4.o Ta Lc.o.row (by have:=HSE.o;omega) HB4.o.size);have q1:=(aV HL7.o).2;have f1:w7.frozen? ⟨S+1,1,none⟩=false:=by simp[World.frozen?,HL7.o]
      have HL8:=Lh (Kj (k:=1) HL7.o (.slice A9 (alts.length+1) c9));have HS8:=Lh (Vd (g:=S+1) (k:=1) HS7.o (by omega) (.slice A9 (alts.length+1) c9));have HM8:=Lh (HM7.o.set (k:=1) HL7.o (by decide) (by decide) (.slice A9 (alts.length+1) c9));have HB8:=Lh (HB7.o.setCell (p:=⟨S+1,1,none⟩) (by show w.heap.size<=S+1;have:=HSE.o;omega) (.slice A9 (alts.length+1) c9));clear Na Ta l0 l1;go_wp2_with (refine Zs (some 86) rfl ?_);refine Stop.go ?_;generalize w7.setCell ⟨S+1,1,none⟩ (.slice A9 (alts.length+1) c9)=w8 at *;clear q1 f1;obtain⟨l0,l1⟩:=aV (show w8.heap[S+1]? = some (.cells #[.string (Jp txt),.slice A9 (alts.length+1) c9] 100 (0,0)) from HL8.o);have HE:=Lh (show (k:Int)+1=((k+1:Nat):Int) by omega);go_wp2_with (refine Zs none rfl ?_);refine Stop.go (Zn rfl 100 rfl rfl rfl (Fb HS8.o rfl rfl rfl) ?_);have Dl:=Lh (Zi _ _ _ _ _ _ HS8.o:(w8.setRow S [.string (Jp txt),.slice A9 (alts.length+1) c9].toArray).heap[S]? = _);have Db:=Lh (Zj HB8.o (Yi HSE.o.symm) [.string (Jp txt),.slice A9 (alts.length+1) c9].toArray);have HU:=Lt (Tn (wZ 107) 105 (w8.setRow S [.string (Jp txt),.slice A9 (alts.length+1) c9].toArray) (w8.setRow S [.string (Jp txt),.slice A9 (alts.length+1) c9].toArray).heap.size (.slice A9 (alts.length+1) c9) (alts++[alt])) (by
       have hk:Jg [105,107] w8 (w8.setRow S [.string (Jp txt),.slice A9 (alts.length+1) c9].toArray):=tS HS8.o (by decide)
       exact (HM8.o.toU.keep (.of_keepT hk)).more hk.1)
      generalize w8.setRow S [.string (Jp txt),.slice A9 (alts.length+1) c9].toArray=wz at *;generalize ha:Act.put _ _ _=z9;simp[Act.put] at ha;subst ha;go_wp2_with fail;refine Sh (g:=S) rfl rfl rfl rfl rfl Dl.o ?_;exact Fa.yes HY.o HE.o HNM.o HU.o Db.o
     ·have HX:=Lh (Rw.o ⟨k1,k2,k4,k5⟩);have b1:((kk:Int)==1)=false:=by rw[Yo];omega
      have b2:((kk:Int)==2)=false:=by rw[Yo];omega
      have b4:((kk:Int)==4)=false:=by rw[Yo];omega
      have b5:((kk:Int)==5)=false:=by rw[Yo];omega
      clear k1 k2 k4 k5;obtain⟨l0,l1⟩:=aV HL.o;go_wp2_with (refine Zs none rfl ?_);refine Stop.go (Zn rfl 100 rfl rfl rfl (Fb HS.o rfl rfl rfl) ?_);have Dl:=Lh (Zi _ _ _ _ _ _ HS.o:(wr.setRow S [.string (Jp txt),.slice AA alts.length cAA].toArray).heap[S]? = _);have Db:=Lh (Zj HB.o (Yi HSE.o.symm) [.string (Jp txt),.slice AA alts.length cAA].toArray);generalize wr.setRow S [.string (Jp txt),.slice AA alts.length cAA].toArray=wz at *;generalize ha:Act.put _ _ _=z9;simp[Act.put] at ha;subst ha;go_wp2_with fail;refine Sh (g:=S) rfl rfl rfl rfl rfl Dl.o ?_;exact Fa.no HX.o rfl Db.o
    ·have HX:=Lh (HI.o.bad (fun hb=>absurd hb (by rw[<-HN.o];omega)));obtain⟨l0,l1⟩:=aV HL.o;go_wp2_with (refine Zs none rfl ?_);refine Stop.go (Zn rfl 100 rfl rfl rfl (Fb HS.o rfl rfl rfl) ?_);have Dl:=Lh (Zi _ _ _ _ _ _ HS.o:(wr.setRow S [.string (Jp txt),.slice AA alts.length cAA].toArray).heap[S]? = _);have Db:=Lh (Zj HB.o (Yi HSE.o.symm) [.string (Jp txt),.slice AA alts.length cAA].toArray);generalize wr.setRow S [.string (Jp txt),.slice AA alts.length cAA].toArray=wz at *;generalize ha:Act.put _ _ _=z9;simp[Act.put] at ha;subst ha;go_wp2_with fail;refine Sh (g:=S) rfl rfl rfl rfl rfl Dl.o ?_;exact Fa.no HX.o rfl Db.o
   ·have HX:=Lh (HX2.o (fun _=>eh));generalize toks[j].1=kd3 at *;have b3:((kd3:Int) != 3)=true:=by rw[Yu];omega
    clear eh;obtain⟨l0,l1⟩:=aV HL2.o;go_wp2_with (refine Zs none rfl ?_);refine Stop.go (Zn rfl 100 rfl rfl rfl (Fb HS2.o rfl rfl rfl) ?_);have Dl:=Lh (Zi _ _ _ _ _ _ HS2.o:(w2.setRow S [.string (Jp txt),.slice none 0 0].toArray).heap[S]? = _);have Db:=Lh (Zj HB2.o (Yi HSE.o.symm) [.string (Jp txt),.slice none 0 0].toArray);generalize w2.setRow S [.string (Jp txt),.slice none 0 0].toArray=wz at *;generalize ha:Act.put _ _ _=z9;simp[Act.put] at ha;subst ha;go_wp2_with fail;refine Sh (g:=S) rfl rfl rfl rfl rfl Dl.o ?_;exact Fa.no HX.o rfl Db.o
  ·have HX:=Lh (HX2.o (fun hb=>absurd hb (by rw[<-HN.o];omega)));have g0:decide ((n:Int)<=(j:Int))=true:=by simp;omega
   have g0':decide (n<=j)=true:=by simp;omega
   obtain⟨l0,l1⟩:=aV HL2.o;go_wp2_with (refine Zs none rfl ?_);refine Stop.go (Zn rfl 100 rfl rfl rfl (Fb HS2.o rfl rfl rfl) ?_);have Dl:=Lh (Zi _ _ _ _ _ _ HS2.o:(w2.setRow S [.string (Jp txt),.slice none 0 0].toArray).heap[S]? = _);have Db:=Lh (Zj HB2.o (Yi HSE.o.symm) [.string (Jp txt),.slice none 0 0].toArray);generalize w2.setRow S [.string (Jp txt),.slice none 0 0].toArray=wz at *;generalize ha:Act.put _ _ _=z9;simp[Act.put] at ha;subst ha;go_wp2_with fail;refine Sh (g:=S) rfl rfl rfl rfl rfl Dl.o ?_;exact Fa.no HX.o rfl Db.o
 ·have HX:=Lh (cB.first hi Iu);generalize toks[i].1=kd1 at *;have b1:((kd1:Int) != 1)=true:=by rw[Yu];omega
  clear Iu;obtain⟨l0,l1⟩:=aV HL1.o;go_wp2_with (refine Zs none rfl ?_);refine Stop.go (Zn rfl 100 rfl rfl rfl (Fb HS1.o rfl rfl rfl) ?_);have Dl:=Lh (Zi _ _ _ _ _ _ HS1.o:(w1.setRow S [.string ⟨#[]⟩,.slice none 0 0].toArray).heap[S]? = _);have Db:=Lh (Zj HB1.o (Yi HSE.o.symm) [.string ⟨#[]⟩,.slice none 0 0].toArray);generalize w1.setRow S [.string ⟨#[]⟩,.slice none 0 0].toArray=wz at *;generalize ha:Act.put _ _ _=z9;simp[Act.put] at ha;subst ha;go_wp2_with fail;refine Sh (g:=S) rfl rfl rfl rfl rfl Dl.o ?_;exact Fa.no HX.o rfl Db.o
end Go.Proofs.YtmaojnmnbpomeaaGreatDoor
