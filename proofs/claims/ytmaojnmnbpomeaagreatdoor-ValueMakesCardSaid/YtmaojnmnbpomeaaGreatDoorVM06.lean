/- A part. -/
import Derived.Test.YtmaojnmnbpomeaaGreatDoorVM05
import Derived.Deep.DeepCutAuto
import Derived.Lib.ItoaLen
import Derived.Shelf.Strconv.ErrVarAll
import Derived.Sort.OwnSorted
import Derived.Shelf.Spec.SlicesGrow
set_option maxRecDepth 100000
set_option maxHeartbeats 64000000
namespace Go.Proofs.YtmaojnmnbpomeaaGreatDoor
open Go.RowKit
theorem eO(v:Value)(m:A_)(w:World)(hv:Je Js w w.heap.size v m) :
  Calls Tryz.prog 98 #[v] w fun e w'=>e=.returned (.bool (Un m 9223372036854775807))/\Below w.heap.size w w':=by
 have HS:=Lh (rC v 9223372036854775807 m w hv);go_enter Tryz.func98,Tryz.ntmps98;go_wp2_with fail;refine HS.o.mono ?_;rintro e w' ⟨rfl,hb⟩;go_wp2_with fail;go_ret;exact⟨rfl,hb⟩
theorem zT(z:Value)(n:Nat):madeCells #[z] n=(List.replicate n z).toArray:=by
 apply Array.ext
 ·simp[madeCells]
 ·intro i h1 h2;simp[madeCells,Nat.mod_one]
theorem X_(n:Nat)(hn:n<=2199023255552)(w:World):(Instr.makeSlice 70 (.int .i64 (n:Int)) (.int .i64 (n:Int))).run Tryz.prog w=.ok (.slice (some ⟨w.heap.size,0,none⟩) n n) (w.alloc (.cells ((List.replicate n false).map Value.bool).toArray 4)):=by
 rw[List.map_replicate,<-zT];exact run_make_row' 70 4 (.bool false) 1 Tryz.underlying70 (by kernel_rfl) rfl .i64 .i64 n (by omega) (by omega) w
section
variable (w:World) (o0 o1 o2 o3:Obj)
theorem al3:((((w.alloc o0).alloc o1).alloc o2).alloc o3).drew.heap[w.heap.size+1+1+1]? = some o3:=by
 have:=Xn (((w.alloc o0).alloc o1).alloc o2) o3;rw[Xs,Xs,Xs] at this;exact this
theorem al2:((((w.alloc o0).alloc o1).alloc o2).alloc o3).drew.heap[w.heap.size+1+1]? = some o2:=by
 have:=Xn ((w.alloc o0).alloc o1) o2;rw[Xs,Xs] at this;exact (Ze _ _ _ (by simp only[Xs];omega)).trans this
theorem al1:((((w.alloc o0).alloc o1).alloc o2).alloc o3).drew.heap[w.heap.size+1]? = some o1:=by
 have:=Xn (w.alloc o0) o1;rw[Xs] at this;exact (Ze _ _ _ (by simp only[Xs];omega)).trans ((Ze _ _ _ (by simp only[Xs];omega)).trans this)
theorem al0:((((w.alloc o0).alloc o1).alloc o2).alloc o3).drew.heap[w.heap.size]? = some o0 :=
 (Ze _ _ _ (by simp only[Xs];omega)).trans ((Ze _ _ _ (by simp only[Xs];omega)).trans ((Ze _ _ _ (by simp only[Xs];omega)).trans (Xn w o0)))
theorem alB{w0:World}(h:Below w0.heap.size w0 w):Below w0.heap.size w0 ((((w.alloc o0).alloc o1).alloc o2).alloc o3).drew:=by
 have:=h.size;exact ((((h.alloc this _).alloc (by simp only[Xs];omega) _).alloc (by simp only[Xs];omega) _).alloc (by simp only[Xs];omega) _).drew
end
structure zaB(w W:World)(n b3 b4 x1 x2:Nat):Prop where
 h3:W.heap[b3]? = some (.cells #[.slice (some ⟨x1,0,none⟩) n n] 70 (0,0))
 h4:W.heap[b4]? = some (.cells #[.slice (some ⟨x2,0,none⟩) n n] 70 (0,0))
 k3:w.heap.size<=b3
 k4:w.heap.size<=b4
 j1:w.heap.size<=x1
 j2:w.heap.size<=x2
 nb:b3≠b4
 nx:x1≠x2
theorem qxN{w W:World}{n b3 b4 x1 x2:Nat}(h3:W.heap[b3]? = some (.cells #[.slice (some ⟨x1,0,none⟩) n n] 70 (0,0)))(h4:W.heap[b4]? = some (.cells #[.slice (some ⟨x2,0,none⟩) n n] 70 (0,0)))
  (Pr:Kk W x1 (List.replicate n false)) (gM:Kk W x2 (List.replicate n false)) (hb:Below w.heap.size w W) (hk:w.heap.size<=b3/\w.heap.size<=b4/\w.heap.size<=x1/\w.heap.size<=x2/\b3≠b4/\x1≠x2) :
  ∃ x1 x2,zaB w W n b3 b4 x1 x2/\Kk W x1 (List.replicate n false)/\Kk W x2 (List.replicate n false)/\Below w.heap.size w W:=⟨x1,x2,⟨h3,h4,hk.1,hk.2.1,hk.2.2.1,hk.2.2.2.1,hk.2.2.2.2.1,hk.2.2.2.2.2⟩,Pr,gM,hb⟩
structure Ro(w W:World)(n b3 b4 x1 x2:Nat)(M1 M2:List Bool):Prop where
 two:zaB w W n b3 b4 x1 x2
 m1:Kk W x1 M1
 m2:Kk W x2 M2
 l1:M1.length=n
 l2:M2.length=n
 bel:Below w.heap.size w W
section
variable {w W W':World} {n b3 b4 x1 x2:Nat} {M1 M2:List Bool}
theorem Ro.c3(h:Ro w W n b3 b4 x1 x2 M1 M2):W.cell? ⟨b3,0,none⟩=some (.slice (some ⟨x1,0,none⟩) n n):=Xc h.two.h3 rfl
theorem Ro.c4(h:Ro w W n b3 b4 x1 x2 M1 M2):W.cell? ⟨b4,0,none⟩=some (.slice (some ⟨x2,0,none⟩) n n):=Xc h.two.h4 rfl
theorem mZ{b x:Nat}{cs:Array Value}{t:TypeId}{M:List Bool}(h:W.heap[b]? = some (.cells cs t (0,0)))(hx:Kk W x M)(ht:t≠4):b≠x:=by
 rintro rfl;have h3:=h.symm.trans hx;injection h3 with h3;injection h3 with _ h3;exact ht h3
theorem Ro.alloc(h:Ro w W n b3 b4 x1 x2 M1 M2)(o:Obj):Ro w (W.alloc o) n b3 b4 x1 x2 M1 M2:=by
 obtain⟨⟨h3,h4,k3,k4,j1,j2,nb,nx⟩,m1,m2,l1,l2,hb⟩:=h;have key:∀{k:Nat}{o':Obj},W.heap[k]? = some o'->(W.alloc o).heap[k]? = some o':=fun hk=>(Ze _ _ _ (gl hk)).trans hk;exact⟨⟨key h3,key h4,k3,k4,j1,j2,nb,nx⟩,key m1,key m2,l1,l2,hb.alloc hb.size _⟩
theorem Ro.drew(h:Ro w W n b3 b4 x1 x2 M1 M2):Ro w W.drew n b3 b4 x1 x2 M1 M2 :=
 ⟨⟨h.two.h3,h.two.h4,h.two.k3,h.two.k4,h.two.j1,h.two.j2,h.two.nb,h.two.nx⟩,h.m1,h.m2,h.l1,h.l2,h.bel.drew⟩
theorem Ro.turn1(h:Ro w W n b3 b4 x1 x2 M1 M2)(hg:W.grownBy W' (some x1)){M:List Bool}(hm:Kk W' x1 M)(hl:M.length=n):Ro w W' n b3 b4 x1 x2 M M2:=by
 obtain⟨⟨h3,h4,k3,k4,j1,j2,nb,nx⟩,m1,m2,l1,l2,hb⟩:=h;have key:∀{k:Nat}{o':Obj},W.heap[k]? = some o'->k≠x1->W'.heap[k]? = some o':=fun hk hn=>(hg.block _ (gl hk) fun e=>hn (by injection e)).trans hk;exact⟨⟨key h3 (mZ h3 m1 (by decide)),key h4 (mZ h4 m1 (by decide)),k3,k4,j1,j2,nb,nx⟩,hm,key m2 (fun e=>nx e.symm),hl,l2,hb.trans ⟨hg.os,hg.tape,hg.output,hg.size,fun k hk=>hg.block k (Yd hk hb.size) fun e=>by injection e with e;omega⟩⟩
theorem Ro.turn2(h:Ro w W n b3 b4 x1 x2 M1 M2)(hg:W.grownBy W' (some x2)){M:List Bool}(hm:Kk W' x2 M)(hl:M.length=n):Ro w W' n b3 b4 x1 x2 M1 M:=by
 obtain⟨⟨h3,h4,k3,k4,j1,j2,nb,nx⟩,m1,m2,l1,l2,hb⟩:=h;have key:∀{k:Nat}{o':Obj},W.heap[k]? = some o'->k≠x2->W'.heap[k]? = some o':=fun hk hn=>(hg.block _ (gl hk) fun e=>hn (by injection e)).trans hk;exact⟨⟨key h3 (mZ h3 m2 (by decide)),key h4 (mZ h4 m2 (by decide)),k3,k4,j1,j2,nb,nx⟩,key m1 nx,hm,l1,hl,hb.trans ⟨hg.os,hg.tape,hg.output,hg.size,fun k hk=>hg.block k (Yd hk hb.size) fun e=>by injection e with e;omega⟩⟩
theorem Ro.set1(h:Ro w W n b3 b4 x1 x2 M1 M2)(k:Nat)(b:Bool):Ro w (W.setCell ⟨x1,k,none⟩ (.bool b)) n b3 b4 x1 x2 (M1.set k b) M2:=h.turn1 (bJ _ _ _ _) (h.m1.set k b) (by rw[Qm];exact h.l1)
theorem Ro.set2(h:Ro w W n b3 b4 x1 x2 M1 M2)(k:Nat)(b:Bool):Ro w (W.setCell ⟨x2,k,none⟩ (.bool b)) n b3 b4 x1 x2 M1 (M2.set k b):=h.turn2 (bJ _ _ _ _) (h.m2.set k b) (by rw[Qm];exact h.l2)
end
def Sv(m:Kf)(n i:Nat):List Bool:=Iz n fun k=>decide (k<i)&&decide (0<=My m k)
theorem cv(m:Kf)(n:Nat):Sv m n 0=List.replicate n false:=by
 rw[<-vE];exact kD fun k _=>by simp
theorem cz(m:Kf)(n i:Nat):(Sv m n i).set i (decide (0<=My m i))=Sv m n (i+1):=by
 unfold Sv;rw[vD];refine kD fun k _=>?_;by_cases h:k=i
 ·subst h;simp
 ·have:decide (k<i+1)=decide (k<i):=by rw[decide_eq_decide];omega
  rw[if_neg h,this]
def Tl(M1 M2:List Bool)(n i:Nat):List Bool:=Iz n fun k=>Fl M1 k&&(!decide (k<i)||Fl M2 k)
theorem qz{M1:List Bool}(M2:List Bool){n:Nat}(h:M1.length=n):Tl M1 M2 n 0=M1:=by
 unfold Tl;simp only[Nat.not_lt_zero,decide_false,Bool.not_false,Bool.true_or,Bool.and_true];exact qgK h
theorem rc(M1 M2:List Bool)(n i:Nat):(Tl M1 M2 n i).set i (Fl M1 i&&Fl M2 i)=Tl M1 M2 n (i+1):=by
 unfold Tl;rw[vD];refine kD fun k _=>?_;by_cases h:k=i
 ·subst h;simp
 ·have:decide (k<i+1)=decide (k<i):=by rw[decide_eq_decide];omega
  rw[if_neg h,this]
theorem qgH{M1 M2:List Bool}{n i:Nat}(h:i<n):Fl (Tl M1 M2 n i) i=Fl M1 i:=by
 unfold Tl;rw[Ap];simp[h]
def zgV(m:Kf)(w:World)(n:Nat)(e:Ending)(w':World):Prop:=∃ x,e=.returned (.slice (some ⟨x,0,none⟩) n n)/\Kk w' x (Iz n (Ka m))/\w.heap.size<=x/\Below w.heap.size w w'
theorem vj{m:Kf}(hg:Wm m){W0:World}{x b7 b3:Nat}(h7:W0.cell? ⟨b7,0,none⟩=some (.func (.func 160) #[] #[]))(h3:W0.cell? ⟨b3,0,none⟩=some (.slice (some ⟨x,0,none⟩) m.length m.length))(n7:b7≠x)(n3:b3≠x) :
  qoR 162 #[.pointer (some ⟨b7,0,none⟩),.pointer (some ⟨b3,0,none⟩)] x true m W0:=by
 intro M i e W Lz hx hl hi he;have hto:=hg.tos i hi e he;have h:=ck x b7 b3 M i e.2.toNat W hx (Lz.cell h7 (fun e=>n7 (by injection e))) (by rw[hl];exact Lz.cell h3 (fun e=>n3 (by injection e))) (by omega) (by omega);rw[show ((e.2.toNat:Nat):Int)=e.2 by omega] at h;exact h
theorem vi{m:Kf}(hg:Wm m){W0:World}{x b7 b3:Nat}(h7:W0.cell? ⟨b7,0,none⟩=some (.func (.func 160) #[] #[]))(h3:W0.cell? ⟨b3,0,none⟩=some (.slice (some ⟨x,0,none⟩) m.length m.length))(n7:b7≠x)(n3:b3≠x) :
  qoR 163 #[.pointer (some ⟨b7,0,none⟩),.pointer (some ⟨b3,0,none⟩)] x false m W0:=by
 intro M i e W Lz hx hl hi he;have hto:=hg.tos i hi e he;have h:=ch x b7 b3 M i e.2.toNat W hx (Lz.cell h7 (fun e=>n7 (by injection e))) (by rw[hl];exact Lz.cell h3 (fun e=>n3 (by injection e))) (by omega) (by omega);rw[show ((e.2.toNat:Nat):Int)=e.2 by omega] at h;exact h
def qoV(m:Kf)(M:List Bool):Prop:=Fl M 0=true/\∀ k,Fl M k=true->Oi m k
def qoU(m:Kf)(M:List Bool):Prop:=(∀ k<m.length,0<=My m k->Fl M k=true)/\∀ k,Fl M k=true->kH m k
theorem qeC{m:Kf}(hg:Wm m)(M:List Bool)(i:Nat)(e:Int×Int)(he:e∈Mb m i)(h:qoV m M)(hs:Fl M (rV true i e)=true):qoV m (M.set (Od true i e) true):=by
 refine⟨kF h.1,fun k hk=>?_⟩;rcases qaX hk with rfl | hk
 ·exact Bm hg (h.2 i hs) he
 ·exact h.2 k hk
theorem qeB{m:Kf}(hg:Wm m)(M:List Bool)(i:Nat)(e:Int×Int)(hi:i<m.length)(he:e∈Mb m i)(h:qoU m M)(hs:Fl M (rV false i e)=true):qoU m (M.set (Od false i e) true):=by
 refine⟨fun k hk ho=>kF (h.1 k hk ho),fun k hk=>?_⟩;rcases qaX hk with rfl | hk
 ·exact th hg hi he (h.2 _ hs)
 ·exact h.2 k hk
theorem xm{m:Kf}{n:Nat}(hp:0<n):qoV m ((List.replicate n false).set 0 true):=by
 rw[<-vE,vD];refine⟨by rw[Ap];simp[hp],fun k hk=>?_⟩;rw[Ap] at hk;simp at hk;obtain⟨_,rfl⟩:=hk;exact Bl m
theorem xk{m:Kf}{n:Nat}(hn:n=m.length):qoU m (Sv m n n):=by
 subst hn;unfold Sv;refine⟨fun k hk ho=>by rw[Ap];simp[hk,ho],fun k hk=>?_⟩;rw[Ap] at hk;simp at hk;exact qbY hk.2
theorem qnU{m:Kf}(hg:Wm m){n:Nat}(hn:n=m.length){M1 M2:List Bool}(i1:qoV m M1)(s1:∀ j<m.length,kI true M1 j (Mb m j))(i2:qoU m M2)(s2:∀ j<m.length,kI false M2 j (Mb m j)):Tl M1 M2 n n=Iz n (Ka m):=by
 unfold Tl;refine kD fun k hk=>?_;rw[Bool.eq_iff_iff,Ep,Yv hk];simp only[Bool.not_true,Ys,Yl];rw[lq hg i1.1 i1.2 s1,ka hg i2.1 i2.2 s2 (by omega)];exact Iff.rfl
theorem tc(v:Value)(m:A_)(w:World)(hv:Je Js w w.heap.size v m)(oL:Un m 9223372036854775807=true)(hl:m.length<=2199023255552) :
  Calls Tryz.prog 99 #[v] w (zgV m w m.length):=by
 have HR:=Lh (eO v m w hv);rw[oL] at HR;obtain⟨A,c,rfl,Nj,Uy⟩:=hv.form;unfold maxLen at Uy;have HV:=Lh hv;have HG:=Lh (Fy oL);clear hv oL;obtain⟨n,hn⟩:=Xe m.length;have HN:=Lh hn;rw[<-hn] at Nj HV hl HR |-;clear hn;go_enter Tryz.func99,Tryz.ntmps99;go_wp2_with fail;refine HR.o.mono ?_;rintro e w1 ⟨rfl,hb1⟩;have HB1:=Lh hb1;clear hb1;go_wp2_with fail
 go_cut [3,4] (fun v3 v4 wx=>∃ b3 b4:Nat,v3=.pointer (some ⟨b3,0,none⟩)/\v4=.pointer (some ⟨b4,0,none⟩)/\Hid (∃ x1 x2,zaB w wx n b3 b4 x1 x2/\Kk wx x1 (List.replicate n false)/\Kk wx x2 (List.replicate n false)/\Below w.heap.size w wx))
 case first =>
  have qL:=X_ n hl
  go_region_with (fail)
  all_goals (go_wp2;go_meet)
  all_goals
   have hz:=HB1.o.size;refine⟨_,_,rfl,rfl,?_⟩;apply qxN
   ·first | exact al0 _ _ _ _ _ | exact al1 _ _ _ _ _ | exact al2 _ _ _ _ _ | exact al3 _ _ _ _ _
   ·first | exact al0 _ _ _ _ _ | exact al1 _ _ _ _ _ | exact al2 _ _ _ _ _ | exact al3 _ _ _ _ _
   ·first | exact (al0 _ _ _ _ _).trans (by simp) | exact (al1 _ _ _ _ _).trans (by simp) | exact (al2 _ _ _ _ _).trans (by simp) | exact (al3 _ _ _ _ _).trans (by simp)
   ·first | exact (al0 _ _ _ _ _).trans (by simp) | exact (al1 _ _ _ _ _).trans (by simp) | exact (al2 _ _ _ _ _).trans (by simp) | exact (al3 _ _ _ _ _).trans (by simp)
   ·exact alB _ _ _ _ _ HB1.o
   ·omega
 case rest =>
  obtain⟨b3,b4,rfl,rfl,⟨x1,x2,h2,Pr,gM,Mo⟩⟩:=hcut;have HS:=Lt (Ro w wc n b3 b4 x1 x2 (List.replicate n false) (List.replicate n false)) (⟨h2,Pr,gM,Qr,Qr,Mo⟩);have HJ:=Lt (w.heap.size<=x1/\w.heap.size<=x2) (⟨h2.j1,h2.j2⟩);clear Pr gM Mo h2 HB1;generalize wc=wx at *;have Dg:0<n:=by rw[HN.o];exact Qy.2 HG.o.some
  have c3:=HS.o.c3;obtain⟨c0,cf⟩:=HS.o.m1.at_ (k:=0) (by rw[HS.o.l1];exact Dg);have HS1:=Lt (Ro w (wx.setCell ⟨x1,0,none⟩ (.bool true)) n b3 b4 x1 x2 ((List.replicate n false).set 0 true) (Sv m n 0)) (by rw[cv];exact HS.o.set1 0 true);have HVK:=Lh (fun(W:World)(h:Below w.heap.size w W)=>HV.o.below h);clear HS;obtain⟨Ma,hMa⟩:=Xe ((List.replicate n false).set 0 true);have HMA:=Lh hMa;rw[<-hMa] at HS1;clear hMa;go_wp2_with fail;go_loopw [22] (fun v22 wr=>∃ i:Nat,i<=n/\v22=.int .i64 i/\Hid (Ro w wr n b3 b4 x1 x2 Ma (Sv m n i))) (fun v22 _=>n - (intOf v22).toNat);exact⟨0,by omega,rfl,HS1.o⟩;clear HS1 c3 c0 cf;obtain⟨i,hi,rfl,HS⟩:=hrel;by_cases Ji:i<n
  ·have Wt:i<m.length:=by rw[<-HN.o];exact Ji
   obtain⟨ba,oa,cs,rfl,-,hba,Zx,Zm⟩:=(HVK.o wr HS.o.bel).get Wt (by decide);obtain⟨u,rfl,hu,Ib,Sc⟩:=Me Zx;obtain⟨A4,e4,rfl,av,qN⟩:=hu.form;have d0:=Zm 0 _ rfl;have d1:=Zm 1 _ rfl;clear Zm Zx hu;simp only[show Js.size=2 from rfl,Yp,<-Yx] at d0 d1;have zhZ:=Lh (Bq Wt);obtain⟨so,hso⟩:=Xe (m[i].1);rw[<-hso] at d0 zhZ Ib Sc;clear hso;have HS2:=Lh (HS.o.alloc (.cells #[.int .i64 so,.slice A4 m[i].2.length e4] 118));have HS3:=Lt (Ro w ((wr.alloc (.cells #[.int .i64 so,.slice A4 m[i].2.length e4] 118)).setCell ⟨x2,i,none⟩ (.bool (decide (0<=so)))) n b3 b4 x1 x2 Ma (Sv m n (i+1))) (by
    have:=HS2.o.set2 i (decide (0<=My m i))
    rw[cz,zhZ.o] at this
    exact this)
   have c4:=HS2.o.c4;obtain⟨g0,gf⟩:=HS2.o.m2.at_ (k:=i) (by rw[HS2.o.l2];exact Ji);clear HS HS2;go_wp2_with fail;go_roundw;exact⟨i+1,by omega,by go_num,HS3.o⟩;simp[intOf];omega
  ·have Ua:i=n:=by omega
   subst Ua;have sp:=Lh (HS.o.alloc (.cells #[.func (.func 160) #[] #[]] 202));have HB7:=Lh (Xn wr (.cells #[.func (.func 160) #[] #[]] 202));have c3:=sp.o.c3;have c4:=sp.o.c4;have Pr:x1<wr.heap.size:=(gl HS.o.m1);have gM:x2<wr.heap.size:=(gl HS.o.m2);have HN3:=Lt (b3≠x1/\b4≠x2) (⟨mZ HS.o.two.h3 HS.o.m1 (by decide),mZ HS.o.two.h4 HS.o.m2 (by decide)⟩);clear HS HR;go_wp2_with fail;generalize wr.alloc (.cells #[.func (.func 160) #[] #[]] 202)=wy at *;generalize wr.heap.size=b7 at *;have h7:wy.cell? ⟨b7,0,none⟩=some (.func (.func 160) #[] #[]):=Xc HB7.o rfl;have HJ1:=HJ.o;have HSP:=Lh (nR 162 #[.pointer (some ⟨b7,0,none⟩),.pointer (some ⟨b3,0,none⟩)] x1 true (qoV m) (.slice A i c) m w.heap.size Ma wy (HVK.o wy sp.o.bel) HJ1.1 sp.o.bel.size HG.o (fun _ _=>by kernel_rfl) sp.o.m1 (by rw[sp.o.l1];exact HN.o) (by rw[HMA.o];exact xm Dg) (fun M i e _ he h _ hs=>qeC HG.o M i e he h hs) (vj HG.o h7 (by rw[<-HN.o];exact c3) (by omega) HN3.o.1));rw[<-HN.o] at HSP;clear c3 c4;refine HSP.o.mono ?_;rintro e w2 ⟨M1,rfl,aI,hm2,dD,hi2,eX⟩;have kN:=Lh (sp.o.turn1 aI hm2 (by rw[HN.o];exact dD));have HI1:=Lh hi2;have HS1:=Lh eX;have h7':w2.cell? ⟨b7,0,none⟩=some (.func (.func 160) #[] #[]):=aI.cell h7 (fun e=>by simp only[Option.some.injEq] at e;omega);clear h7 aI hm2 dD hi2 eX sp HB7 HSP;have c4:=kN.o.c4;go_wp2_with fail;have HSP:=Lh (nR 163 #[.pointer (some ⟨b7,0,none⟩),.pointer (some ⟨b4,0,none⟩)] x2 false (qoU m) (.slice A i c) m w.heap.size (Sv m i i) w2 (HVK.o w2 kN.o.bel) HJ1.2 kN.o.bel.size HG.o (fun _ _=>by kernel_rfl) kN.o.m2 (by rw[kN.o.l2];exact HN.o) (xk HN.o) (fun M i e hi he h _ hs=>qeB HG.o M i e hi he h hs) (vi HG.o h7' (by rw[<-HN.o];exact c4) (by omega) HN3.o.2));rw[<-HN.o] at HSP;clear c4;refine HSP.o.mono ?_;rintro e w3 ⟨M2,rfl,aI,hm2,dD,hi2,eX⟩;have HSC:=Lh (kN.o.turn2 aI hm2 (by rw[HN.o];exact dD));have HI2:=Lh hi2;have HS2:=Lh eX;clear h7' aI hm2 dD hi2 eX kN HSP;have c3:=HSC.o.c3;go_wp2_with fail;have HSC0:=Lt (Ro w w3 i b3 b4 x1 x2 (Tl M1 M2 i 0) M2) (by rw[qz M2 HSC.o.l1];exact HSC.o);clear HSC c3;go_loopw [44] (fun v44 wr=>∃ k:Nat,k<=i/\v44=.int .i64 k/\Hid (Ro w wr i b3 b4 x1 x2 (Tl M1 M2 i k) M2)) (fun v44 _=>i - (intOf v44).toNat);exact⟨0,by omega,rfl,HSC0.o⟩;clear HSC0;obtain⟨k,hk,rfl,HS⟩:=hrel;have c3:=HS.o.c3;have c4:=HS.o.c4;by_cases hlk:k<i
   ·obtain⟨g0,gf⟩:=HS.o.m1.at_ (k:=k) (by rw[HS.o.l1];exact hlk);rw[qgH hlk] at g0;obtain⟨g1,-⟩:=HS.o.m2.at_ (k:=k) (by rw[HS.o.l2];exact hlk);have HNX:=Lt (Ro w (wr.setCell ⟨x1,k,none⟩ (.bool (Fl M1 k&&Fl M2 k))) i b3 b4 x1 x2 (Tl M1 M2 i (k+1)) M2) (by rw[<-rc];exact HS.o.set1 _ _);clear HS;obtain⟨a,ha⟩:=Xe (Fl M1 k);obtain⟨b,hb⟩:=Xe (Fl M2 k);rw[<-ha] at g0 HNX;rw[<-hb] at g1 HNX;clear ha hb;obtain⟨r,hr⟩:=Xe ((a&&b));rw[<-hr] at HNX;go_wp2_with fail;cases a <;> cases b <;> cases hr
    all_goals
     refine Text.wt (by kernel_rfl) fun Q' hQ'=>?_;go_wp2_with fail;refine⟨by rfl,?_⟩;go_wp2;go_roundw;exact⟨k+1,by omega,by go_num,HNX.o.drew⟩;simp[intOf];omega
   ·have hki:k=i:=by omega
    subst hki;go_wp2_with fail;go_ret;have:=HS.o;rw[qnU HG.o HN.o HI1.o HS1.o HI2.o HS2.o] at this;exact⟨x1,rfl,this.m1,HJ1.1,this.bel⟩
theorem Ak(acc:Nat)(b:UInt8)(r:List UInt8):Lib.decFrom acc (b::r)=(Lib.digitVal b).bind fun d=>Lib.decFrom (acc*10+d) r:=by
 rw[Lib.decFrom];cases Lib.digitVal b <;> rfl
theorem uW(x y:List UInt8):∀(acc:Nat),Lib.decFrom acc (x++y)=(Lib.decFrom acc x).bind fun m=>Lib.decFrom m y:=by
 induction x with
 |nil=>intro acc;rfl
 |cons a x ih =>
  intro acc;rw[List.cons_append,Ak,Ak];cases Lib.digitVal a with
  |none=>rfl
  |some d=>exact ih _
theorem bP(d:Nat)(h:d<10):Lib.digitVal (UInt8.ofNat (48+d))=some d:=by
 have h1:(UInt8.ofNat (48+d)).toNat=48+d:=by
  rw[UInt8.toNat_ofNat'];omega
 unfold Lib.digitVal;rw[h1,if_pos (by omega)];congr 1;omega
theorem Cc(u:Nat):Lib.decFrom 0 (Lib.decDigits u)=some u:=by
 induction u using Nat.strongRecOn with
 |_ u ih =>
  rw[Lib.decDigits];split
  ·rename_i h;rw[Ak,bP u h,Option.bind_some,Lib.decFrom,Nat.zero_mul,Yq]
  ·rename_i h;rw[uW,ih (u/10) (by omega),Option.bind_some,Ak,bP (u%10) (by omega),Option.bind_some,Lib.decFrom];congr 1;omega
theorem Iy(u:Nat):∀ b∈Lib.decDigits u,48<=b.toNat/\b.toNat<=57:=fun b hb=>by
 obtain⟨k,hk⟩:=List.mem_iff_getElem?.1 hb;obtain⟨d,hd⟩:=Lib.digit_of_decFrom _ 0 u (Cc u) k b hk;unfold Lib.digitVal at hd;split at hd
 ·assumption
 ·cases hd
theorem qdX(n:Int):∀ c∈Lib.itoa n,c=45\/(48<=c.toNat/\c.toNat<=57):=by
 intro c hc;unfold Lib.itoa at hc;split at hc
 ·rcases List.mem_cons.1 hc with e | hc
  ·exact .inl e
  ·exact .inr (Iy _ c hc)
 ·exact .inr (Iy _ c hc)
theorem fB{a b:Nat}(h:Lib.decDigits a=Lib.decDigits b):a=b:=by
 have h1:=Cc a;rw[h,Cc b] at h1;injection h1 with h1;exact h1.symm
theorem jL{a b:Int}(h:Lib.itoa a=Lib.itoa b):a=b:=by
 have hno:∀(u v:Nat),Lib.decDigits u≠45::Lib.decDigits v:=by
  intro u v e;have:=Iy u 45 (by rw[e];exact Xh ..);exact absurd this.1 (by decide)
 unfold Lib.itoa at h;split at h <;> split at h
 ·injection h with _ h;have:=fB h;omega
 ·exact absurd h.symm (hno _ _)
 ·exact absurd h (hno _ _)
 ·have:=fB h;omega
theorem dy(n:Int)(s:UInt8)(h1:s≠45)(h2:s.toNat<48\/57<s.toNat):s∉Lib.itoa n:=by
 intro h;rcases qdX n s h with e | e
 ·exact h1 e
 ·omega
theorem jX{s:UInt8}:∀{A B T U:List UInt8},s∉A->s∉B->(T=[]\/∃ r,T=s::r)->(U=[]\/∃ r,U=s::r)->A++T=B++U->A=B/\T=U
 |[],[],_,_,_,_,_,_,h=>⟨rfl,h⟩
 |[],b::B,T,U,_,hB,hT,_,h=>by
  exfalso;rcases hT with rfl | ⟨r,rfl⟩
  ·simp at h
  ·simp only[List.nil_append,List.cons_append] at h;injection h with h1 _;exact hB (by rw[h1];exact Xh ..)
 |a::A,[],T,U,hA,_,_,hU,h=>by
  exfalso;rcases hU with rfl | ⟨r,rfl⟩
  ·simp at h
  ·simp only[List.nil_append,List.cons_append] at h;injection h with h1 _;exact hA (by rw[<-h1];exact Xh ..)
 |a::A,b::B,T,U,hA,hB,hT,hU,h=>by
  simp only[List.cons_append] at h;injection h with h1 h2;obtain⟨e1,e2⟩:=jX (fun hm=>hA (Xi _ hm)) (fun hm=>hB (Xi _ hm)) hT hU h2;exact⟨by rw[h1,e1],e2⟩
def edT(e:Int×Int):List UInt8:=32::(Lib.itoa e.1++58::Lib.itoa e.2)
def pQ(l:List (Int×Int)):List UInt8:=l.flatMap edT
def rZ(s:Int×Int×List (Int×Int)):List UInt8:=Lib.itoa s.1++32::(Lib.itoa s.2.1++pQ s.2.2)
theorem dI(l:List (Int×Int)):pQ l=[]\/∃ r,pQ l=32::r:=by
 cases l with
 |nil=>exact .inl rfl
 |cons e r=>exact .inr ⟨_,rfl⟩
theorem qa:∀{l k:List (Int×Int)},pQ l=pQ k->l=k
 |[],[],_=>rfl
 |[],e::r,h=>by simp[pQ,edT] at h
 |e::r,[],h=>by simp[pQ,edT] at h
 |e::r,d::s,h=>by
  have h1:∀(x:Int×Int)(l:List (Int×Int)),pQ (x::l)=32::(Lib.itoa x.1++58::(Lib.itoa x.2++pQ l)):=fun x l=>by simp[pQ,edT]
  rw[h1,h1] at h;injection h with _ h;have n58:∀ n,(58:UInt8)∉Lib.itoa n:=fun n=>dy n 58 (by decide) (by decide);have n32:∀ n,(32:UInt8)∉Lib.itoa n:=fun n=>dy n 32 (by decide) (by decide);obtain⟨e1,e2⟩:=jX (n58 _) (n58 _) (.inr ⟨_,rfl⟩) (.inr ⟨_,rfl⟩) h;injection e2 with _ e2;obtain⟨e3,e4⟩:=jX (n32 _) (n32 _) (dI r) (dI s) e2;rw[show e=d from Prod.ext (jL e1) (jL e3),qa e4]
theorem qcG{s t:Int×Int×List (Int×Int)}(h:rZ s=rZ t):s=t:=by
 unfold rZ at h;have n32:∀ n,(32:UInt8)∉Lib.itoa n:=fun n=>dy n 32 (by decide) (by decide);obtain⟨e1,e2⟩:=jX (n32 _) (n32 _) (.inr ⟨_,rfl⟩) (.inr ⟨_,rfl⟩) h;injection e2 with _ e2;obtain⟨e3,e4⟩:=jX (n32 _) (n32 _) (dI _) (dI _) e2;exact Prod.ext (jL e1) (Prod.ext (jL e3) (qa e4))
theorem qkK{α:Type}{l:List α}(h:l.Nodup){i j:Nat}(hi:i<l.length)(hj:j<l.length)(e:l[i]=l[j]):i=j:=by
 have hp:=List.pairwise_iff_getElem.1 h;rcases Nat.lt_trichotomy i j with Ji | he | Ji
 ·exact absurd e (hp i j hi hj Ji)
 ·exact he
 ·exact absurd e.symm (hp j i hj hi Ji)
structure Hd(m:Kf)(use:Nat->Bool)(c c':Nat->Int)(K:Nat):Prop where
 neg:∀ i<m.length,use i=false->c' i=-1
 eq:∀ i<m.length,∀ j<m.length,use i=true->use j=true->(c' i=c' j↔Ry m use c i=Ry m use c j)
 lo:∀ i<m.length,use i=true->∃ v<K,c' i=((v:Nat):Int)
 onto:∀ v<K,∃ i<m.length,use i=true/\c' i=((v:Nat):Int)
def wL(m:Kf)(use:Nat->Bool)(c:Nat->Int):Prop:=∀ i<m.length,∀ j<m.length,use i=true->use j=true->Gs m i j->c i=c j
theorem Hd.coarse{m:Kf}(hg:Wm m){use:Nat->Bool}(hu:Og m use){c c':Nat->Int}{K:Nat}(h:Hd m use c c' K)(hc:wL m use c):wL m use c' :=
 fun i hi j hj ui uj ha=>(h.eq i hi j hj ui uj).2 (M_ hg hu hc hi hj ui uj ha)
theorem Hd.more{m:Kf}(hg:Wm m){use:Nat->Bool}(hu:Og m use){b c c':Nat->Int}{J K:Nat}(h1:Hd m use b c J)(h2:Hd m use c c' K)(hb:wL m use b) :
  J<=K/\(K=J->∀ i<m.length,∀ j<m.length,use i=true->use j=true->(c' i=c' j↔Gs m i j)):=by
 have Zx:∀ v,∃ i:Nat,v<K->i<m.length/\use i=true/\c' i=((v:Nat):Int):=by
  intro v;by_cases hv:v<K
  ·obtain⟨i,h3,h4,h5⟩:=h2.onto v hv;exact⟨i,fun _=>⟨h3,h4,h5⟩⟩
  ·exact⟨0,fun h=>absurd h hv⟩
 have hch:∃ rep:Nat->Nat,∀ v<K,rep v<m.length/\use (rep v)=true/\c' (rep v)=((v:Nat):Int):=⟨fun v=>Classical.choose (Zx v),fun v hv=>Classical.choose_spec (Zx v) hv⟩;obtain⟨rep,hr⟩:=hch;have qsU:∀ i<m.length,∀ j<m.length,use i=true->use j=true->c' i=c' j->c i=c j:=by
  intro i hi j hj ui uj e;have:=(h2.eq i hi j hj ui uj).1 e;simp only[Ry,Prod.mk.injEq] at this;exact this.1
 obtain⟨L,hL⟩:=Xe ((List.range K).map fun v=>(c (rep v)).toNat);have hLl:L.length=K:=by rw[hL];simp
 have zgA:∀ k<J,k∈L:=by
  intro k hk;obtain⟨i,hi,ui,e⟩:=h1.onto k hk;obtain⟨v,hv,e2⟩:=h2.lo i hi ui;obtain⟨r1,r2,r3⟩:=hr v hv;have:=qsU (rep v) r1 i hi r2 ui (by rw[r3,e2]);rw[hL];exact Xa.2 ⟨v,Xz.2 hv,by rw[this,e];simp⟩
 refine⟨by rw[<-hLl];exact mW J L zgA,fun hKJ=>?_⟩;have So:=oU J L (by omega) zgA;have Bx:∀ i<m.length,∀ j<m.length,use i=true->use j=true->c i=c j->c' i=c' j:=by
  intro i hi j hj ui uj e;obtain⟨v,hv,e2⟩:=h2.lo i hi ui;obtain⟨u,hu',e3⟩:=h2.lo j hj uj;obtain⟨r1,r2,r3⟩:=hr v hv;obtain⟨s1,s2,s3⟩:=hr u hu';have k1:=qsU (rep v) r1 i hi r2 ui (by rw[r3,e2]);have k2:=qsU (rep u) s1 j hj s2 uj (by rw[s3,e3]);have hv':v<L.length:=by omega
  have znL:u<L.length:=by omega
  have:L[v]=L[u]:=by
   subst hL;simp only[List.getElem_map,List.getElem_range];rw[k1,k2,e]
  rw[e2,e3,qkK So hv' znL this]
 intro i hi j hj ui uj;have hst:=db hg hu (c:=c) fun i hi j hj ui uj e=>(h2.eq i hi j hj ui uj).1 (Bx i hi j hj ui uj e);constructor
 ·intro e l;exact hst l i j hi hj ui uj (qsU i hi j hj ui uj e)
 ·intro ha;exact h2.coarse hg hu (h1.coarse hg hu hb) i hi j hj ui uj ha
abbrev dO:=List UInt8
def Pv(l:List dO):List dO:=l.foldl (fun F w=>if w∈F then F else F++[w]) []
theorem px(l:List dO)(w:dO):Pv (l++[w])=if w∈Pv l then Pv l else Pv l++[w]:=by
 unfold Pv;rw[List.foldl_append];rfl
theorem mS(l:List dO):(Pv l).Nodup/\(∀ w,w∈Pv l↔w∈l)/\(Pv l).length<=l.length:=by
 have key:∀(l F:List dO),F.Nodup->(l.foldl (fun F w=>if w∈F then F else F++[w]) F).Nodup/\(∀ w,w∈l.foldl (fun F w=>if w∈F then F else F++[w]) F↔w∈F\/w∈l)/\(l.foldl (fun F w=>if w∈F then F else F++[w]) F).length<=l.length+F.length:=by
  intro l
  induction l with
  |nil=>intro F hF;exact⟨hF,by simp,by simp⟩
  |cons a r ih =>
   intro F hF;rw[List.foldl_cons];by_cases ha:a∈F
   ·rw[if_pos ha];obtain⟨h1,h2,h3⟩:=ih F hF;refine⟨h1,fun w=>?_,by rw[Qu];omega⟩;rw[h2,List.mem_cons];constructor
    ·rintro (h | h)
     ·exact .inl h
     ·exact .inr (.inr h)
    ·rintro (h | rfl | h)
     ·exact .inl h
     ·exact .inl ha
     ·exact .inr h
   ·rw[if_neg ha];obtain⟨h1,h2,h3⟩:=ih (F++[a]) (List.nodup_append.2 ⟨hF,by simp,fun x hx y hy=>by simp at hy;subst hy;rintro rfl;exact ha hx⟩);refine⟨h1,fun w=>?_,by rw[Qe,Qf] at h3;rw[Qu];omega⟩;rw[h2,Qh,Qi,List.mem_cons];constructor
    ·rintro ((h | rfl) | h)
     ·exact .inl h
     ·exact .inr (.inl rfl)
     ·exact .inr (.inr h)
    ·rintro (h | rfl | h)
     ·exact .inl (.inl h)
     ·exact .inl (.inr rfl)
     ·exact .inr h
 obtain⟨h1,h2,h3⟩:=key l [] List.nodup_nil;exact⟨h1,fun w=>by rw[<-show (w∈([]:List dO)\/w∈l)↔w∈l by simp];exact h2 w,h3⟩
def Ip(m:Kf)(use:Nat->Bool)(c:Nat->Int)(k:Nat):dO:=rZ (Ry m use c k)
def ko(m:Kf)(use:Nat->Bool)(c:Nat->Int)(i:Nat):List dO:=((List.range i).filter use).map (Ip m use c)
theorem yT(m:Kf)(use:Nat->Bool)(c:Nat->Int)(i:Nat):ko m use c (i+1)=ko m use c i++if use i then [Ip m use c i] else []:=by
 unfold ko;rw[List.range_succ,List.filter_append,Qt];congr 1;cases h:use i <;> simp[h]
theorem qjK{m:Kf}{use:Nat->Bool}{c:Nat->Int}{i:Nat}{t:dO}:t∈ko m use c i↔∃ k<i,use k=true/\Ip m use c k=t:=by
 unfold ko;simp only[Xa,Qw,Xz];constructor
 ·rintro⟨k,⟨h1,h2⟩,h3⟩;exact⟨k,h1,h2,h3⟩
 ·rintro⟨k,h1,h2,h3⟩;exact⟨k,⟨h1,h2⟩,h3⟩
theorem qjL(m:Kf)(use:Nat->Bool)(c:Nat->Int)(i:Nat):(ko m use c i).length<=i:=by
 unfold ko;rw[Qk];refine Yb (List.length_filter_le _ _) ?_;rw[List.length_range];exact Ya _
def Ti(m:Kf)(use:Nat->Bool)(c:Nat->Int)(i:Nat):List dO:=Pv (ko m use c i)
theorem o_(m:Kf)(use:Nat->Bool)(c:Nat->Int)(i:Nat):(Ti m use c i).length<=i:=Yb (mS _).2.2 (qjL m use c i)
theorem kp{m:Kf}{use:Nat->Bool}{c:Nat->Int}{i:Nat}(h:use i=false):Ti m use c (i+1)=Ti m use c i:=by
 unfold Ti;rw[yT,h];simp
theorem iW{m:Kf}{use:Nat->Bool}{c:Nat->Int}{i:Nat}(h:use i=true):Ti m use c (i+1)=if Ip m use c i∈Ti m use c i then Ti m use c i else Ti m use c i++[Ip m use c i]:=by
 unfold Ti;rw[yT,h,if_pos rfl,px]
theorem dh{m:Kf}{use:Nat->Bool}{c:Nat->Int}{i:Nat}{t:dO}:t∈Ti m use c i↔∃ k<i,use k=true/\Ip m use c k=t:=by
 unfold Ti;rw[(mS _).2.1,qjK]
def Tk(m:Kf)(use:Nat->Bool)(c:Nat->Int)(i k:Nat):Int:=if use k then (((Ti m use c i).idxOf (Ip m use c k):Nat):Int) else -1
theorem qeH{l:List dO}{w:dO}(h:w∈l)(r:List dO):(l++r).idxOf w=l.idxOf w:=by
 rw[List.idxOf_append,if_pos h]
theorem zR{m:Kf}{use:Nat->Bool}{c:Nat->Int}{i k:Nat}(hk:k<i):Tk m use c (i+1) k=Tk m use c i k:=by
 unfold Tk;cases hu:use k with
 |false=>rfl
 |true =>
  simp only[if_true];have hm:Ip m use c k∈Ti m use c i:=dh.2 ⟨k,hk,hu,rfl⟩;cases hi:use i with
  |false=>rw[kp hi]
  |true =>
   rw[iW hi];by_cases h:Ip m use c i∈Ti m use c i
   ·rw[if_pos h]
   ·rw[if_neg h,qeH hm]
theorem qaD{m:Kf}{use:Nat->Bool}{c:Nat->Int}{i:Nat}(hu:use i=true):Tk m use c (i+1) i=if Ip m use c i∈Ti m use c i then (((Ti m use c i).idxOf (Ip m use c i):Nat):Int) else ((Ti m use c i).length:Int):=by
 unfold Tk;rw[hu,if_pos rfl,iW hu];by_cases h:Ip m use c i∈Ti m use c i
 ·rw[if_pos h,if_pos h]
 ·rw[if_neg h,if_neg h,List.idxOf_append,if_neg h];simp
theorem qaB{m:Kf}{use:Nat->Bool}{c:Nat->Int}{i k:Nat}(hu:use k=false):Tk m use c i k=-1:=by
 unfold Tk;rw[hu];rfl
theorem qlG{l:List dO}{a b:dO}(ha:a∈l)(h:l.idxOf a=l.idxOf b):a=b:=by
 have h1:=List.idxOf_lt_length_of_mem ha;have h2:l[l.idxOf a]=a:=List.getElem_idxOf h1;have h3:l.idxOf b<l.length:=by rw[<-h];exact h1
 have h4:l[l.idxOf b]=b:=List.getElem_idxOf h3;rw[<-h2,<-h4];congr 1
theorem ld(m:Kf)(use:Nat->Bool)(c:Nat->Int):Hd m use c (Tk m use c m.length) (Ti m use c m.length).length:=by
 have Ux:∀ i<m.length,use i=true->Ip m use c i∈Ti m use c m.length:=fun i hi ui=>dh.2 ⟨i,hi,ui,rfl⟩;refine⟨fun i _ hu=>qaB hu,fun i hi j hj ui uj=>?_,fun i hi ui=>?_,fun v hv=>?_⟩
 ·unfold Tk;rw[ui,uj];simp only[if_true];constructor
  ·intro h;have h2:Ip m use c i=Ip m use c j:=qlG (Ux i hi ui) (by exact_mod_cast h);exact qcG h2
  ·intro h;unfold Ip;rw[h]
 ·refine⟨_,List.idxOf_lt_length_of_mem (Ux i hi ui),?_⟩;unfold Tk;rw[ui];rfl
 ·obtain⟨k,hk,uk,qM⟩:=dh.1 (Qg hv);refine⟨k,hk,uk,?_⟩;unfold Tk;rw[uk,if_pos rfl,qM];have So:(Ti m use c m.length).Nodup:=(mS _).1;rw[So.idxOf_getElem v hv]
def cJ(m:Kf)(use:Nat->Bool)(c:Nat->Int)(bj:Int):Prop:=(bj=-1/\∀ i<m.length,c i=-1)\/∃ b J,bj=((J:Nat):Int)/\Hd m use b c J/\wL m use b
theorem cJ.coarse{m:Kf}(hg:Wm m){use:Nat->Bool}(hu:Og m use){c:Nat->Int}{bj:Int}(h:cJ m use c bj):wL m use c:=by
 rcases h with ⟨_,h⟩ | ⟨b,J,_,h1,h2⟩
 ·intro i hi j hj _ _ _;rw[h i hi,h j hj]
 ·exact h1.coarse hg hu h2
theorem cJ.next{m:Kf}(hg:Wm m){use:Nat->Bool}(hu:Og m use){c:Nat->Int}{bj:Int}(h:cJ m use c bj):cJ m use (Tk m use c m.length) ((Ti m use c m.length).length:Int):=.inr ⟨c,_,rfl,ld m use c,h.coarse hg hu⟩
theorem cJ.more{m:Kf}(hg:Wm m){use:Nat->Bool}(hu:Og m use){c:Nat->Int}{bj:Int}(h:cJ m use c bj):bj<=(Ti m use c m.length).length/\(((Ti m use c m.length).length:Int)=bj->∀ i<m.length,∀ j<m.length,use i=true->use j=true->(Tk m use c m.length i=Tk m use c m.length j↔Gs m i j)):=by
 rcases h with ⟨h1,_⟩ | ⟨b,J,h0,h1,h2⟩
 ·exact⟨by omega,fun h=>by omega⟩
 ·obtain⟨h3,h4⟩:=h1.more hg hu (ld m use c) h2;exact⟨by omega,fun h=>h4 (by omega)⟩
def Sa(m:Kf)(use:Nat->Bool)(c:Nat->Int)(i k:Nat):dO:=rZ (c i,My m i,(((Mb m i).take k).filter fun e=>use e.2.toNat).map fun e=>(e.1,c e.2.toNat))
theorem sW(m:Kf)(use:Nat->Bool)(c:Nat->Int)(i:Nat):Sa m use c i 0=Lib.itoa (c i)++32::Lib.itoa (My m i):=by
 unfold Sa rZ pQ;simp
theorem qcS(m:Kf)(use:Nat->Bool)(c:Nat->Int)(i:Nat):Sa m use c i (Mb m i).length=Ip m use c i:=by
 unfold Sa Ip Ry;rw[List.take_length]
theorem sX{m:Kf}{use:Nat->Bool}{c:Nat->Int}{i k:Nat}{e:Int×Int}(h:(Mb m i)[k]? = some e):Sa m use c i (k+1)=Sa m use c i k++if use e.2.toNat then 32::(Lib.itoa e.1++58::Lib.itoa (c e.2.toNat)) else []:=by
 obtain⟨hk,he⟩:=Qj.1 h;unfold Sa rZ;rw[Qc hk,List.filter_append,Qt,he];unfold pQ;rw[List.flatMap_append];cases hu:use e.2.toNat <;> simp[hu,edT]
theorem zF{m:Kf}{use:Nat->Bool}{c:Nat->Int}{i:Nat}(hc:∀ k,-9223372036854775808<=c k/\c k<=9223372036854775807)(ho:-9223372036854775808<=My m i/\My m i<=9223372036854775807)(he:∀ e∈Mb m i,-9223372036854775808<=e.1/\e.1<=9223372036854775807) :
  ∀ k≤(Mb m i).length,(Sa m use c i k).length<=43+44*k
 |0,_=>by
  rw[sW];have h1:=Lib.itoa_length_le (c i) (hc i).1 (hc i).2;have h2:=Lib.itoa_length_le (My m i) ho.1 ho.2;simp only[Qe,Qu];omega
 |k+1,hk=>by
  have ih:=zF (use:=use) hc ho he k (by omega);have hg:=Qa (l:=Mb m i) (i:=k) (by omega);rw[sX hg];have h1:=Lib.itoa_length_le ((Mb m i)[k]).1 (he _ (Qg _)).1 (he _ (Qg _)).2;have h2:=Lib.itoa_length_le (c ((Mb m i)[k]).2.toNat) (hc _).1 (hc _).2;split
  ·simp only[Qe,Qu];omega
  ·simp only[Qe,Xt];omega
theorem qbP{P:Program}{w w':World}{n:String}{cs:Array Value}(h:w.var? P n=some cs)(hb:Below w.heap.size w w'):w'.var? P n=some cs:=by
 unfold World.var? at h |-;cases hg:P.globalNamed n with
 |none=>simp[hg] at h
 |some g =>
  simp only[hg,Option.bind_some] at h |-;have Ji:g<w.heap.size:=by
   rcases Nat.lt_or_ge g w.heap.size with h' | h'
   ·exact h'
   ·simp[Array.getElem?_eq_none h'] at h
  rw[hb.block g Ji];exact h
structure Tabs(w:World):Prop where
 tab : Lib.TabIs Tryz.prog w "internal/strconv.uint64pow10" .u64 Lib.pow10Tab
 syn : ∃ tp p, w.var? Tryz.prog "strconv.ErrSyntax" = some #[.iface tp p]
 rng : ∃ tp p, w.var? Tryz.prog "strconv.ErrRange" = some #[.iface tp p]
theorem Y_(w:World)(k:Nat)(os:Array Obj):Below w.heap.size w (Sort.grow (w.drewN k) os) :=
 ⟨rfl,rfl,rfl,by simp[Sort.grow,World.drewN],fun i hi=>by
  show (w.heap++os)[i]? = _
  rw[Array.getElem?_append_left hi]⟩
abbrev Ds:=Int×Wd×Int
def byI(l:Wd):List Int:=l.map fun c=>(c.toNat:Int)
def Dn(rows:List Ds)(w:Wd):Int:=rows.foldl (fun o r=>if r.2.1=w/\o<0 then r.2.2 else o) (-1)
def Do(F:List Wd)(w:Wd):List (Int×Int):=(F.zipIdx.filter fun p=>decide (p.1≠[]/\p.1.dropLast=w)).map fun p=>((p.1.getLastD 0).toNat,(p.2:Int))
def Nv(rows:List Ds)(F:List Wd):Kf:=F.map fun w=>(Dn rows w,Do F w)
def Bj(a b:Wd):Prop:=a.length<b.length\/a.length=b.length/\a<b
structure Nu(rows:List Ds)(F:List Wd):Prop where
 mem:∀ w,w∈F↔w=[]\/∃ r∈rows,w <+: r.2.1
 asc:F.Pairwise Bj
theorem Cv(a:Wd):¬ Bj a a:=by
 rintro (h | ⟨_,h⟩)
 ·omega
 ·exact List.lt_irrefl _ h
theorem rY{a b:Wd}(h:Bj a b):¬ Bj b a:=by
 rintro (h2 | ⟨h3,h2⟩)
 ·rcases h with h | ⟨h,_⟩ <;> omega
 ·rcases h with h | ⟨_,h⟩
  ·omega
  ·exact List.lt_asymm h h2
theorem bN{rows:List Ds}{F:List Wd}(h:Nu rows F):F[0]? = some []:=by
 obtain⟨i,hi,e⟩:=Qz ((h.mem []).2 (.inl rfl));by_cases h0:i=0
 ·subst h0;rw[Qa hi,e]
 ·exfalso;have:=List.pairwise_iff_getElem.1 h.asc 0 i (by omega) hi (by omega);rw[e] at this;rcases this with h2 | ⟨h2,h3⟩
  ·simp at h2
  ·exact absurd h3 (List.not_lt_nil _)
theorem xU{rows:List Ds}{F G:List Wd}(h:Nu rows F)(h2:Nu rows G):F=G:=by
 have key:∀(F G:List Wd),F.Pairwise Bj->G.Pairwise Bj->(∀ w,w∈F↔w∈G)->F=G:=by
  intro F
  induction F with
  |nil =>
   intro G _ _ hm;cases G with
   |nil=>rfl
   |cons a r=>exact absurd ((hm a).2 (Xh ..)) (by simp)
  |cons a r ih =>
   intro G hF hG hm;cases G with
   |nil=>exact absurd ((hm a).1 (Xh ..)) (by simp)
   |cons b s =>
    obtain⟨p1,q1⟩:=Qx.1 hF;obtain⟨p2,q2⟩:=Qx.1 hG;have Lj:a=b:=by
     rcases List.mem_cons.1 ((hm a).1 (Xh ..)) with e | e
     ·exact e
     ·rcases List.mem_cons.1 ((hm b).2 (Xh ..)) with e2 | e2
      ·exact e2.symm
      ·exact absurd (p1 b e2) (rY (p2 a e))
    subst Lj;congr 1;refine ih s q1 q2 fun e=>⟨fun he=>?_,fun he=>?_⟩
    ·rcases List.mem_cons.1 ((hm e).1 (Xi _ he)) with e2 | e2
     ·subst e2;exact absurd (p1 e he) (Cv e)
     ·exact e2
    ·rcases List.mem_cons.1 ((hm e).2 (Xi _ he)) with e2 | e2
     ·subst e2;exact absurd (p2 e he) (Cv e)
     ·exact e2
 exact key F G h.asc h2.asc fun w=>by rw[h.mem,h2.mem]
theorem bE{F:List Wd}{w:Wd}{t n:Int}:(t,n)∈Do F w↔∃(c:UInt8)(j:Nat),F[j]? = some (w++[c])/\t=(c.toNat:Int)/\n=(j:Int):=by
 unfold Do;simp only[Xa,Qw,Yj,Prod.mk.injEq];constructor
 ·rintro⟨⟨x,j⟩,⟨h1,h2,h3⟩,rfl,rfl⟩;have hj:=List.mem_zipIdx_iff_getElem?.1 h1;simp only at hj h2 h3 |-;refine⟨x.getLastD 0,j,?_,rfl,rfl⟩;rw[hj,<-h3];obtain⟨y,rfl⟩:∃ y:Wd×UInt8,x=y.1++[y.2]:=⟨(x.dropLast,x.getLast h2),(List.dropLast_concat_getLast h2).symm⟩;simp
 ·rintro⟨c,j,h1,rfl,rfl⟩;exact⟨(w++[c],j),⟨List.mem_zipIdx_iff_getElem?.2 h1,by simp,by simp⟩,by simp,rfl⟩
theorem sy{w:Wd}{a b:UInt8}(h:Bj (w++[a]) (w++[b])):a<b:=by
 rcases h with h | ⟨-,h⟩
 ·simp at h
 ·induction w with
  |nil =>
   simp only[List.nil_append] at h;rcases List.cons_lt_cons_iff.1 h with h | ⟨_,h⟩
   ·exact h
   ·exact absurd h (List.not_lt_nil _)
  |cons x r ih =>
   simp only[List.cons_append] at h;rcases List.cons_lt_cons_iff.1 h with h | ⟨_,h⟩
   ·exact absurd h (by simp)
   ·exact ih h
theorem qdT{rows:List Ds}{F:List Wd}(h:Nu rows F)(w:Wd):(Do F w).Pairwise fun a b=>a.1<b.1:=by
 unfold Do;rw[List.pairwise_map];have h1:F.zipIdx.Pairwise fun a b=>Bj a.1 b.1:=by
  have:=h.asc;rw[<-List.zipIdx_map_fst 0 F] at this;exact List.pairwise_map.1 this
 refine (List.Pairwise.filter _ h1).imp_of_mem ?_;intro a b ha hb Lj;simp only[Qw,Yj] at ha hb;obtain⟨_,uD,wT⟩:=ha;obtain⟨_,hb1,Ja⟩:=hb;have ea:a.1=w++[a.1.getLastD 0]:=by
  obtain⟨y,hy⟩:∃ y:Wd×UInt8,a.1=y.1++[y.2]:=⟨(a.1.dropLast,a.1.getLast uD),(List.dropLast_concat_getLast uD).symm⟩;rw[<-wT,hy];simp
 have eb:b.1=w++[b.1.getLastD 0]:=by
  obtain⟨y,hy⟩:∃ y:Wd×UInt8,b.1=y.1++[y.2]:=⟨(b.1.dropLast,b.1.getLast hb1),(List.dropLast_concat_getLast hb1).symm⟩;rw[<-Ja,hy];simp
 rw[ea,eb] at Lj;have:=UInt8.lt_iff_toNat_lt.1 (sy Lj);omega
theorem lX{rows:List Ds}(h:∀ r∈rows,0<=r.2.2)(w:Wd):Dn rows w=(match rows.find? fun r=>decide (r.2.1=w) with | some r=>r.2.2 | none=>-1):=by
 unfold Dn;have stay:∀(rows:List Ds)(o:Int),0<=o->rows.foldl (fun o r=>if r.2.1=w/\o<0 then r.2.2 else o) o=o:=by
  intro rows
  induction rows with
  |nil=>intro o _;rfl
  |cons r l ih =>
   intro o ho;rw[List.foldl_cons,if_neg (by omega)];exact ih o ho
 induction rows with
 |nil=>rfl
 |cons r l ih =>
  rw[List.foldl_cons];by_cases he:r.2.1=w
  ·rw[if_pos ⟨he,by omega⟩,List.find?_cons_of_pos (by simp[he]),stay l _ (h r (Xh ..))]
  ·rw[if_neg (fun h2=>he h2.1),List.find?_cons_of_neg (by simp[he])];exact ih fun x hx=>h x (Xi _ hx)
theorem qkB{rows:List Ds}(h:∀ r∈rows,0<=r.2.2)(w:Wd):-1<=Dn rows w:=by
 rw[lX h];split
 ·rename_i r hr;have:=h r (List.mem_of_find?_eq_some hr);omega
 ·omega
theorem Gw{rows:List Ds}{F:List Wd}{k:Nat}{w:Wd}(h:F[k]? = some w):My (Nv rows F) k=Dn rows w/\Mb (Nv rows F) k=Do F w:=by
 unfold My Mb Nv;rw[Qb,Qv,h];exact⟨rfl,rfl⟩
theorem Dm(rows:List Ds)(F:List Wd):(Nv rows F).length=F.length:=by simp[Nv]
theorem yJ{rows:List Ds}{F:List Wd}(hF:Nu rows F)(h:∀ r∈rows,0<=r.2.2):Wm (Nv rows F):=by
 have dV:∀ k<(Nv rows F).length,∃ w,F[k]? = some w:=fun k hk=>by rw[Dm] at hk;exact⟨_,Qa hk⟩
 refine⟨?_,fun k hk=>?_,fun k hk e he=>?_,fun k hk=>?_⟩
 ·have:=(Qj.1 (bN hF)).1;intro e;have h2:=Dm rows F;rw[e] at h2;simp at h2;omega
 ·obtain⟨w,hw⟩:=dV k hk;rw[(Gw hw).1];exact qkB h w
 ·obtain⟨w,hw⟩:=dV k hk;rw[(Gw hw).2] at he;obtain⟨c,j,h1,h2,h3⟩:=bE.1 he;have:=(Qj.1 h1).1;rw[Dm];omega
 ·obtain⟨w,hw⟩:=dV k hk;rw[(Gw hw).2];exact qdT hF w
theorem cQ{rows:List Ds}{F:List Wd}(hF:Nu rows F){n:Nat}(hb:∀ r∈rows,∀ c∈r.2.1,c.toNat<n):∀ k<(Nv rows F).length,∀ e∈Mb (Nv rows F) k,e.1<(n:Int):=by
 intro k hk e he;rw[Dm] at hk;rw[(Gw (Qa hk)).2] at he;obtain⟨c,j,h1,h2,h3⟩:=bE.1 he;have hm:=(hF.mem _).1 (Qp h1);rcases hm with hm | ⟨r,hr,hp⟩
 ·simp at hm
 ·have:=hb r hr c (hp.subset (by simp));omega
theorem td{rows:List Ds}{F:List Wd}(hF:Nu rows F)(h:∀ r∈rows,0<=r.2.2):Un (Nv rows F) 9223372036854775807=true :=
 gQ (yJ hF h) fun k hk e he=>by
  have:=cQ hF (n:=256) (fun r _ c _=>c.toNat_lt) k hk e he;omega
theorem qbT{rows:List Ds}{F:List Wd}(hF:Nu rows F)(h:∀ r∈rows,0<=r.2.2)(l:Wd):Uq (Nv rows F) 0 (byI l)=Dn rows l:=by
 have hg:=yJ hF h;have key:∀(l:Wd)(k:Nat)(w:Wd),F[k]? = some w->Uq (Nv rows F) k (byI l)=if w++l∈F then Dn rows (w++l) else -1:=by
  intro l
  induction l with
  |nil =>
   intro k w hw;rw[List.append_nil,if_pos (Qp hw)];exact (Gw hw).1
  |cons c r ih =>
   intro k w hw;have hk:k<(Nv rows F).length:=by rw[Dm];exact (Qj.1 hw).1
   show Uq _ k ((c.toNat:Int)::byI r)=_;rw[Vt];cases hs:Nw (Nv rows F) k (c.toNat:Int) with
   |some j =>
    have he:=(Vx hg hk _ j).1 hs;rw[(Gw hw).2] at he;obtain⟨c',j',h1,h2,h3⟩:=bE.1 he;have hc:c'=c:=by
     refine UInt8.toNat_inj.1 ?_;omega
    subst hc;have hj:j'=j:=by omega
    subst hj;simp only;rw[ih j' _ h1];simp
   |none =>
    simp only;rw[if_neg];intro hm;have h1:w++[c]∈F:=by
     rcases (hF.mem _).1 hm with h1 | ⟨x,hx,hp⟩
     ·simp at h1
     ·refine (hF.mem _).2 (.inr ⟨x,hx,(List.IsPrefix.trans ?_ hp)⟩);exact⟨r,by simp⟩
    obtain⟨j,hj⟩:=List.mem_iff_getElem?.1 h1;have:Nw (Nv rows F) k (c.toNat:Int)=some j:=(Vx hg hk _ j).2 (by rw[(Gw hw).2];exact bE.2 ⟨c,j,hj,rfl,rfl⟩);rw[hs] at this;cases this
 rw[key l 0 [] (bN hF)];rw[List.nil_append];by_cases hm:l∈F
 ·rw[if_pos hm]
 ·rw[if_neg hm,lX h];split
  ·rename_i r hr;have h1:=List.mem_of_find?_eq_some hr;have h2:=List.find?_some hr;simp only[Yj] at h2;exact absurd ((hF.mem l).2 (.inr ⟨r,h1,by rw[h2];exact List.prefix_refl _⟩)) hm
  ·rfl
theorem Ha{α:Type}[DecidableEq α](l:List (α×Value))(k:α)(v:Value)(x:α):Ni (Wv l k v) x=if x=k then some v else Ni l x:=by
 induction l with
 |nil =>
  unfold Wv Ni;by_cases h:x=k
  ·subst h;simp
  ·rw[if_neg h];have h2:¬ k=x:=fun e=>h e.symm;simp[h2]
 |cons a r ih =>
  unfold Wv;by_cases h1:a.1=k
  ·rw[if_pos h1];unfold Ni;rw[List.find?_cons,List.find?_cons];by_cases h:x=k
   ·subst h;simp
   ·rw[if_neg h];have h2:¬ k=x:=fun e=>h e.symm;have h3:¬ a.1=x:=fun e=>h (e.symm.trans h1);simp[h2,h3]
  ·rw[if_neg h1];unfold Ni at ih |-;rw[List.find?_cons,List.find?_cons];by_cases h:a.1=x
   ·have h2:¬ x=k:=fun e=>h1 (h.trans e);simp[h,h2]
   ·simp only[h,decide_false];exact ih
def atF(ts:List Wd)(i:Nat)(w:Wd):Option Value:=if w∈ts.take i then some (.int .i64 (ts.idxOf w)) else if w∈ts then some (.int .i64 0) else none
theorem Lw{ts:List Wd}(hn:ts.Nodup){i:Nat}{w:Wd}(h:ts[i]? = some w):ts.idxOf w=i:=by
 obtain⟨hi,rfl⟩:=Qj.1 h;exact hn.idxOf_getElem i hi
theorem qoG{ts:List Wd}(hn:ts.Nodup){i:Nat}{w:Wd}(h:ts[i]? = some w)(x:Wd):atF ts (i+1) x=if x=w then some (.int .i64 i) else atF ts i x:=by
 obtain⟨hi,e⟩:=Qj.1 h;unfold atF;rw[Qc hi,e];simp only[Qh,Qi];by_cases hx:x=w
 ·subst hx;rw[if_pos (.inr rfl),if_pos rfl,Lw hn h]
 ·rw[if_neg hx];simp[hx]
theorem qtY{ts:List Wd}{i:Nat}{w:Wd}(h:w∈ts.take i):atF ts i w=some (.int .i64 (ts.idxOf w)):=by
 unfold atF;rw[if_pos h]
def AtR(κ:Wd->Value)(W:World)(g:Nat)(ts:List Wd)(i:Nat):Prop:=∃ l,Up κ W g l/\∀ w,Ni l w=atF ts i w
theorem xV{rows:List Ds}{ts:List Wd}(h:Nu rows ts){i:Nat}{x:Wd}(hx:ts[i]? = some x)(hne:x≠[]):∃ j,j<i/\ts[j]? = some x.dropLast:=by
 have hl:0<x.length:=Qy.2 hne;have hm:x.dropLast∈ts:=by
  rw[h.mem];rcases (h.mem x).1 (Qp hx) with e | ⟨r,hr,hp⟩
  ·exact absurd e hne
  ·exact .inr ⟨r,hr,(List.dropLast_prefix x).trans hp⟩
 obtain⟨j,hj⟩:=List.getElem?_of_mem hm;refine⟨j,?_,hj⟩;obtain⟨a1,a2⟩:=Qj.1 hx;obtain⟨b1,b2⟩:=Qj.1 hj;have hp:=List.pairwise_iff_getElem.1 h.asc;rcases Nat.lt_trichotomy j i with Ji | he | Ji
 ·exact Ji
 ·subst he;rw[a2] at b2;have:=congrArg List.length b2;rw[List.length_dropLast] at this;omega
 ·have:=hp i j a1 b1 Ji;rw[a2,b2] at this;rcases this with h2 | ⟨h2,_⟩ <;> rw[List.length_dropLast] at h2 <;> omega
theorem zj{rows:List Ds}{ts:List Wd}(h:Nu rows ts){N:Nat}(hw:∀ r∈rows,r.2.1.length<=N){i:Nat}{x:Wd}(hx:ts[i]? = some x):x.length<=N:=by
 rcases (h.mem x).1 (Qp hx) with rfl | ⟨r,hr,hp⟩
 ·simp
 ·exact Yb hp.length_le (hw r hr)
theorem qdU(w:Wd)(ts:List Wd):Do (ts.take 0) w=[]:=rfl
theorem mI{ts:List Wd}{i:Nat}{x:Wd}(h:ts[i]? = some x)(w:Wd):Do (ts.take (i+1)) w=Do (ts.take i) w++if x≠[]/\x.dropLast=w then [(((x.getLastD 0).toNat:Int),(i:Int))] else []:=by
 obtain⟨hi,e⟩:=Qj.1 h;unfold Do;rw[Qc hi,List.zipIdx_append,List.filter_append,Qt,e];congr 1;have hl:(ts.take i).length=i:=by rw[Qq];omega
 simp only[List.zipIdx_cons,List.zipIdx_nil,hl,Yq];by_cases hc:x≠[]/\x.dropLast=w
 ·rw[if_pos hc];simp[hc]
 ·rw[if_neg hc,List.filter_cons,if_neg (by simpa using hc)];rfl
theorem qdS{ts:List Wd}{i:Nat}(h:ts[i]? = some []):(ts.map fun w=>Do (ts.take (i+1)) w)=ts.map fun w=>Do (ts.take i) w:=by
 apply List.map_congr_left;intro w _;rw[mI h];simp
theorem qlC{ts:List Wd}(hn:ts.Nodup){i j:Nat}{x p:Wd}(h:ts[i]? = some x)(hx:x≠[])(hp:x.dropLast=p)(hj:ts[j]? = some p) :
  (ts.map fun w=>Do (ts.take (i+1)) w)=(ts.map fun w=>Do (ts.take i) w).set j (Do (ts.take i) p++[(((x.getLastD 0).toNat:Int),(i:Int))]):=by
 apply List.ext_getElem?;intro k;rw[Xv,Qv,Qv,Qk];by_cases hk:j=k
 ·subst hk;rw[if_pos rfl,if_pos (Qj.1 hj).1,hj,Option.map_some,mI h,if_pos ⟨hx,hp⟩]
 ·rw[if_neg hk];cases hw:ts[k]? with
  |none=>rfl
  |some w =>
   rw[Option.map_some,Option.map_some,mI h,if_neg,List.append_nil];rintro⟨_,e⟩;rw[hp] at e;subst e;have h1:=Lw hn hj;have h2:=Lw hn hw;omega
theorem af(F:List Wd)(w:Wd):(Do F w).length<=F.length:=by
 unfold Do;rw[Qk];refine Yb (List.length_filter_le _ _) ?_;rw[List.length_zipIdx];exact Ya _
def Tx(w:Wd)(o:Int)(x:Ds×Wd):Int:=if x.2=w/\x.2=x.1.2.1/\o<0 then x.1.2.2 else o
def zI(pre:List (Ds×Wd))(w:Wd):Int:=pre.foldl (Tx w) (-1)
theorem uu(pre:List (Ds×Wd))(x:Ds×Wd)(w:Wd):zI (pre++[x]) w=Tx w (zI pre w) x:=by
 unfold zI;rw[List.foldl_append];rfl
theorem mg(r:Ds)(w:Wd)(o:Int):((List.range (r.2.1.length+1)).map fun k=>(r,r.2.1.take k)).foldl (Tx w) o=if r.2.1=w/\o<0 then r.2.2 else o:=by
 have stay:∀(l:List Nat)(o:Int),(∀ k∈l,k<r.2.1.length)->(l.map fun k=>(r,r.2.1.take k)).foldl (Tx w) o=o:=by
  intro l
  induction l with
  |nil=>intro o _;rfl
  |cons k l ih =>
   intro o hk;rw[List.map_cons,List.foldl_cons];have h1:Tx w o (r,r.2.1.take k)=o:=by
    unfold Tx;rw[if_neg];rintro⟨_,h2,_⟩;have:=congrArg List.length h2;simp only[Qq] at this;have:=hk k (Xh ..);omega
   rw[h1];exact ih o fun k oP=>hk k (Xi _ oP)
 rw[List.range_succ,Qt,List.foldl_append,stay _ _ (fun k hk=>Xz.1 hk)];show Tx w o (r,r.2.1.take r.2.1.length)=_;unfold Tx;simp only[List.take_length,true_and]
theorem qcZ(rows:List Ds)(w:Wd):zI (rows.flatMap fun r=>(List.range (r.2.1.length+1)).map fun k=>(r,r.2.1.take k)) w=Dn rows w:=by
 unfold zI Dn;generalize (-1:Int)=o
 induction rows generalizing o with
 |nil=>rfl
 |cons r l ih =>
  rw[List.flatMap_cons,List.foldl_append,mg,List.foldl_cons];exact ih _
def pF(ts:List Wd)(pre:List (Ds×Wd))(k:Nat):Int:=zI pre (ts.getD k [])
theorem qcX{ts:List Wd}(hn:ts.Nodup){j:Nat}{x:Ds×Wd}(hj:ts[j]? = some x.2)(pre:List (Ds×Wd)){k:Nat}(hk:k<ts.length):pF ts (pre++[x]) k=if k=j/\x.2=x.1.2.1/\pF ts pre j<0 then x.1.2.2 else pF ts pre k:=by
 unfold pF;rw[uu];have hg:ts.getD k []=ts[k]:=by rw[Qb,Qa hk];rfl
 have hgj:ts.getD j []=x.2:=by rw[Qb,hj];rfl
 rw[hg,hgj];unfold Tx;have he:x.2=ts[k]↔k=j:=by
  constructor
  ·intro h;have h1:=Lw hn hj;have h2:=Lw hn (i:=k) (w:=x.2) (by rw[Qa hk,h]);omega
  ·rintro rfl;rw[Qa hk] at hj;injection hj with hj;exact hj.symm
 by_cases hkj:k=j
 ·subst hkj;have h1:=he.2 rfl;rw[<-h1];simp
 ·have h1:¬ x.2=ts[k]:=fun h=>hkj (he.1 h);simp[h1,hkj]
theorem qkA(ts:List Wd)(k:Nat):pF ts [] k=-1:=rfl
theorem mh(rows:List Ds)(w:Wd):Dn rows w=-1\/∃ r∈rows,Dn rows w=r.2.2:=by
 unfold Dn
 suffices h:∀(l:List Ds)(o:Int),l.foldl (fun o r=>if r.2.1=w/\o<0 then r.2.2 else o) o=o\/∃ r∈l,l.foldl (fun o r=>if r.2.1=w/\o<0 then r.2.2 else o) o=r.2.2 from h rows (-1)
 intro l
 induction l with
 |nil=>intro o;exact .inl rfl
 |cons r l ih =>
  intro o;rw[List.foldl_cons];by_cases hc:r.2.1=w/\o<0
  ·rw[if_pos hc];rcases ih r.2.2 with h | ⟨r',h1,h2⟩
   ·exact .inr ⟨r,Xh ..,h⟩
   ·exact .inr ⟨r',Xi _ h1,h2⟩
  ·rw[if_neg hc];rcases ih o with h | ⟨r',h1,h2⟩
   ·exact .inl h
   ·exact .inr ⟨r',Xi _ h1,h2⟩
open Go.RowKit Go.Sort
theorem aO:Dc Tryz.prog 22 9 1 16 (.string ⟨#[]⟩):=Gq (by kernel_rfl) (by kernel_rfl) rfl (by omega)
def ja(w:World)(xs:List Wd)(e:Ending)(w':World):Prop:=∃ v',e=.returned v'/\w'.ownsRow w.heap.size 9 1 v' xs.length (Jf xs)/\Below w.heap.size w w'
theorem mX(A:Option Addr)(c:Nat)(xs:List Wd)(w:World)(h:Je eW w w.heap.size (.slice A xs.length c) xs)(hb:xs.length*16<=140737488355328) :
  Calls Tryz.prog 74 #[.slice A xs.length c] w (ja w xs):=by
 cases A with
 |none =>
  have hx:xs=[]:=by
   rcases Nat.eq_zero_or_pos xs.length with h0 | h0
   ·exact Xw h0
   ·obtain⟨b,off,e,_⟩:=h.wd (k:=0) h0;cases e
  subst hx;refine (Tryz.slices_Clone_string_nil 0 c w).mono ?_;rintro e w' ⟨rfl,rfl⟩;exact⟨_,rfl,Yz _ _ _ _,Xr _ _⟩
 |some a =>
  rcases Nat.eq_zero_or_pos xs.length with h0 | h0
  ·have hx:xs=[]:=Xw h0;subst hx;refine (Tryz.slices_Clone_string_zero a c w).mono ?_;rintro e w' ⟨v',rfl,hown,_,pg⟩;exact⟨v',rfl,hown,pg⟩
  ·obtain⟨b,off,e,_,_,_⟩:=h.wd (k:=0) h0;injection e with e;subst e;have:=Tryz.slices_Clone_string b off xs.length c (xs.map fun x=>(⟨x.toArray⟩:ByteArray)) w (by simp) hb (fun j hj=>by
    have Hs:j<xs.length:=by simpa using hj
    obtain⟨b',zmZ,e,_,_,hc⟩:=h.wd Hs
    injection e with e
    injection e with e1 e2
    subst e1 e2
    rw[hc,Qb,Qv,Qa Hs]
    rfl)
   refine Calls.mono this ?_;rintro e w' ⟨v',rfl,hown,_,pg⟩;refine⟨v',rfl,?_,pg⟩;rw[show ((xs.map fun x=>(⟨x.toArray⟩:ByteArray)).take xs.length).map Value.string=Jf xs by rw[Qd (by simp)];simp[Jf]] at hown;exact hown
def qoO(w:World)(base:Nat)(v:Value)(xs:List Wd)(e:Ending)(w':World):Prop:=e=.returned (.tuple #[])/\w'.ownsRow base 9 1 v xs.length (Jf (xs.mergeSort fun x y=>decide (x<=y)))/\w.grownBy w' v.ownBlock
theorem kj(base:Nat)(v:Value)(xs:List Wd)(w:World)(h:w.ownsRow base 9 1 v xs.length (Jf xs))(hn:xs.length<4611686018427387904) :
  Calls Tryz.prog 75 #[v] w (qoO w base v xs):=by
 rcases h.2 with ⟨rfl,h0⟩ | ⟨g,cap,cur,rfl,hbase,hb,h1,h2,h3,h4⟩
 ·have hx:xs=[]:=Xw h0;subst hx;refine (Tryz.slices_Sort_string_none none 0 w).mono ?_;rintro e w' ⟨rfl,rfl⟩;exact⟨rfl,by have:=Yz w' base 9 1;simpa[Jf] using this,rfl,rfl,rfl,Ya _,fun _ _ _=>rfl⟩
 ·rw[Yr] at h4;have:=Tryz.slices_Sort_string g 0 cap xs w (holds_of_block hb h4) (gl hb) hn;refine Calls.mono this ?_;rintro e w' ⟨rfl,n,os,rfl⟩;exact⟨rfl,ownsRow_sorted (by simp) hbase hb h1 h2 h3,grownBy_sorted _⟩
theorem zv(xs:List Wd):(Lib.compact xs).length<=xs.length:=by
 unfold Lib.compact Lib.compactUpTo;rw[Qk];exact Yb (List.length_filter_le _ _) (by simp)
def qhG(w:World)(base:Nat)(v:Value)(xs:List Wd)(e:Ending)(w':World):Prop:=∃ v',e=.returned v'/\w'.ownsRow base 9 1 v' (Lib.compact xs).length (Jf (Lib.compact xs))/\w.grownBy w' v.ownBlock
theorem qj(base:Nat)(v:Value)(xs:List Wd)(w:World)(h:w.ownsRow base 9 1 v xs.length (Jf xs))(hn:xs.length<4611686018427387904) :
  Calls Tryz.prog 259 #[v] w (qhG w base v xs):=by
 rcases h.2 with ⟨rfl,h0⟩ | ⟨g,cap,cur,rfl,hbase,hb,h1,h2,h3,h4⟩
 ·have hx:xs=[]:=Xw h0;subst hx;refine (Tryz.slices_Compact_string_empty none 0 w).mono ?_;rintro e w' ⟨rfl,rfl⟩;exact⟨_,rfl,Yz _ _ _ _,rfl,rfl,rfl,Ya _,fun _ _ _=>rfl⟩
 ·rw[Yr] at h4;have:=Tryz.slices_Compact_string g 0 cap xs w (holds_of_block hb h4) (by omega) h1;refine Calls.mono this ?_;rintro e w' ⟨rfl,q,rfl⟩;have hle:=zv xs;have Lz:=grownBy_sorted (w:=w) (g:=g) (n:=q) (os:=#[]) (Lib.compact xs++List.replicate (xs.length - (Lib.compact xs).length) []).toArray;have hhp:=heap_sorted (n:=q) (os:=#[]) (Lib.compact xs++List.replicate (xs.length - (Lib.compact xs).length) []).toArray hb;rw[grow_empty] at Lz hhp;refine⟨_,rfl,⟨by simp[Jf],.inr ⟨g,cap,_,rfl,hbase,hhp,by omega,h2,by simp[putCells,h3],?_⟩⟩,Lz⟩;have ht:=take_putCells cur (Lib.compact xs++List.replicate (xs.length - (Lib.compact xs).length) []) (by rw[Qe,Qr,h3];omega);rw[Yr];have e1:(putCells encStr 0 (Lib.compact xs++List.replicate (xs.length - (Lib.compact xs).length) []).toArray cur).toList.take (Lib.compact xs).length=((putCells encStr 0 (Lib.compact xs++List.replicate (xs.length - (Lib.compact xs).length) []).toArray cur).toList.take (Lib.compact xs++List.replicate (xs.length - (Lib.compact xs).length) []).length).take (Lib.compact xs).length:=by
   rw[List.take_take,Nat.min_eq_left (by simp)]
  rw[e1,ht,Qt];exact List.take_left' (by simp)
def qwN(w:World)(l:List Wd)(e:Ending)(w':World):Prop:=∃ v',e=.returned v'/\w'.ownsRow w.heap.size 9 1 v' (Uw l).length (Jf (Uw l))/\Below w.heap.size w w'
theorem qX(A:Option Addr)(c:Nat)(xs:List Wd)(w:World)(h:Je eW w w.heap.size (.slice A xs.length c) xs)(hb:xs.length*16<=140737488355328) :
  Calls Tryz.prog 217 #[.slice A xs.length c] w (qwN w xs):=by
 have HC:=Lh (mX A c xs w h hb);obtain⟨n,hn⟩:=Xe xs.length;rw[<-hn] at HC |-;have HB:=Lh (show xs.length<4611686018427387904 by omega);clear h hn hb;go_enter Tryz.func217,Tryz.ntmps217;go_wp2_with fail;refine HC.o.mono ?_;rintro e w1 ⟨v1,rfl,h1,hb1⟩;have HB1:=Lh hb1;have HS:=Lh (kj _ v1 xs w1 h1 HB.o);obtain⟨A1,c1,rfl,_⟩:=Zo h1;have HO1:=Lh h1;clear h1 hb1;go_wp2_with fail;refine HS.o.mono ?_;rintro e w2 ⟨rfl,h2,aI⟩;have HB2:=Lh (Zt HB1.o aI HO1.o (Ya _) HB1.o.size);have dD:(xs.mergeSort fun x y=>decide (x<=y)).length=xs.length:=by simp
 rw[<-dD] at h2;have wX:=Lh (qj _ _ _ w2 h2 (by rw[dD];exact HB.o));have HO2:=Lh h2;rw[dD] at wX HO2;clear h2 aI dD HS HO1 HB1;go_wp2_with fail;refine wX.o.mono ?_;rintro e w3 ⟨v3,rfl,h3,mN⟩;have HB3:=Lh (Zt HB2.o mN HO2.o (Ya _) HB2.o.size);have HO3:=Lh h3;obtain⟨A3,c3,rfl,_⟩:=Zo h3;clear h3 mN wX HO2 HB2;go_wp2_with fail;go_ret;exact⟨_,rfl,HO3.o,HB3.o⟩
def zbU(w:World)(e:Ending)(w':World):Prop:=∃ v,e=.returned v/\w'.ownsRow w.heap.size 9 1 v 0 []/\Below w.heap.size w w'
theorem qfI(n:Nat)(w:World)(hn:n*16<=140737488355328):Calls Tryz.prog 260 #[.slice none 0 0,.int .i64 n] w (zbU w):=by
 obtain⟨i0,hi,hz0,Ib,Sc⟩:=aO.info;rcases Nat.eq_zero_or_pos n with h0 | h0
 ·subst h0;refine Calls.mono (Any8.slices_Grow_room Tryz.growLay none 0 0 0 w (by omega) (by omega) (by omega) (by omega)) ?_;rintro e w' ⟨rfl,rfl⟩;exact⟨_,rfl,Yz _ _ _ _,Xr _ _⟩
 ·refine Calls.mono (Any8.slices_Grow_grow Tryz.growLay i0 _ hi hz0 (by rw[Ib];decide) none 0 0 n [] w (by omega) (by omega) (by rw[Sc];omega) (by omega) (by simp) (fun _=>rfl) (fun a h=>by cases h)) ?_;rintro e w' ⟨rfl,rfl⟩;refine⟨_,rfl,?_,(Xr _ _).drew.alloc (Ya _) _⟩;have h1:=grownCap_le_maxLen w (0+n) 0 (Tryz.growLay_ren.t 25) (by unfold maxLen;omega);have h2:=grownCap_ge w (0+n) 0 (Tryz.growLay_ren.t 25);rw[Yq] at h1 h2;exact World.ownsRow_made (base:=w.heap.size) (e:=9) (size:=1) w.drew _ _ (Ya _) (by rw[Yq];exact h1) (by
   rw[Array.size_append,Array.size_append,size_zeroCells,size_zeroCells]
   simp[Value.cells]
   omega)
def qpM(w:World)(ss:List (List Wd))(e:Ending)(w':World):Prop:=∃ v,e=.returned v/\w'.ownsRow w.heap.size 9 1 v ss.flatten.length (Jf ss.flatten)/\Below w.heap.size w w'
theorem az{α:Type}(ss:List (List α)){i:Nat}(h:i<ss.length):(ss.take (i+1)).flatten=(ss.take i).flatten++ss[i]:=by
 rw[Qc h,Qs];simp
theorem fb{α:Type}(ss:List (List α))(i:Nat):(ss.take i).flatten.length<=ss.flatten.length:=by
 have:ss.flatten=(ss.take i).flatten++(ss.drop i).flatten:=by rw[<-Qs,Xm]
 rw[this,Qe];omega
theorem Je.row1{w:World}{B:Nat}{A:Option Addr}{n c:Nat}{ss:List (List Wd)}(h:Je (Th eW) w B (.slice A n c) ss){k:Nat}(hk:k<ss.length):∃ b off A2 c2,A=some ⟨b,off,none⟩/\n<=c/\b<B/\w.cell? ⟨b,off+k,none⟩=some (.slice A2 ss[k].length c2)/\Je eW w B (.slice A2 ss[k].length c2) ss[k]/\ss[k].length<=c2/\c2<=maxLen:=by
 obtain⟨b,off,cs,e,h1,h2,⟨v,rfl,hs⟩,h4⟩:=h.get hk (by show 0<1;omega);obtain⟨A2,c2,rfl,h5,h6⟩:=hs.form;have:=h4 0 _ rfl;simp only[show (Th eW).size=1 from rfl,Yr,Yp] at this;exact⟨b,off,A2,c2,e,h1,h2,this,hs,h5,h6⟩
theorem zu(A:Option Addr)(c:Nat)(ss:List (List Wd))(w:World)(h:Je (Th eW) w w.heap.size (.slice A ss.length c) ss)(hb:ss.flatten.length*16<=140737488355328) :
  Calls Tryz.prog 218 #[.slice A ss.length c] w (qpM w ss):=by
 have HH:=Lh h;have hc:=h.n_le;have HBD:=Lh hb;obtain⟨m,hm⟩:=Xe ss.length;rw[<-hm] at hc HH |-;have HM:=Lh hm;clear h hb hm;go_enter Tryz.func218,Tryz.ntmps218;go_wp2_with fail;go_loopw [11,3] (fun v11 v3 wr=>∃ i t:Nat,i<=m/\v11=.int .i64 i/\v3=.int .i64 t/\Hid (t=(ss.take i).flatten.length)/\wr=w) (fun v11 _ _=>m - (intOf v11).toNat);exact⟨0,0,by omega,rfl,rfl,rfl,rfl⟩;obtain⟨i,t,hi,rfl,rfl,HT,rfl⟩:=hrel;have hle:t<=8796093022208:=by have h1:=HT.o;have h2:=fb ss i;have h3:=HBD.o;omega
 by_cases Ji:i<m
 ·have Nq:i<ss.length:=by rw[<-HM.o];exact Ji
  obtain⟨b,off,A2,c2,rfl,_,pM,Zm,hs,h5,h6⟩:=HH.o.row1 Nq;have HF:=Lh (az ss Nq);have zoT:t+ss[i].length<=8796093022208:=by
   have h1:=HT.o;have h2:=fb ss (i+1);have h3:=HBD.o;rw[HF.o,Qe] at h2;omega
  have io:=Lh (show t+ss[i].length=(ss.take (i+1)).flatten.length by rw[HF.o,Qe,HT.o]);obtain⟨q,hq⟩:=Xe (ss[i].length);rw[<-hq] at zoT io Zm;clear hs HF h5 hq Nq;go_wp2_with fail;refine⟨⟨i+1,t+q,by omega,by go_num,by go_num,io.o,trivial⟩,by simp[intOf];omega⟩
 ·have pb:i=m:=by omega
  clear HT;go_wp2_with fail;refine (qfI t wr (by omega)).mono ?_;rintro e w1 ⟨v1,rfl,h1,hb1⟩;have HB1:=Lh hb1;have HO1:=Lh h1;obtain⟨A1,c1,rfl,_⟩:=Zo h1;clear h1 hb1;go_wp2_with fail;go_loopw [27,6] (fun v27 v6 wt=>∃ i s:Nat,i<=m/\v27=.int .i64 i/\Hid (s=(ss.take i).flatten.length)/\Hid (wt.ownsRow wr.heap.size 9 1 v6 s (Jf (ss.take i).flatten))/\Hid (Below wr.heap.size wr wt)) (fun v27 _ _=>m - (intOf v27).toNat);exact⟨0,0,by omega,rfl,rfl,HO1.o,HB1.o⟩;clear HO1 HB1;obtain⟨i,s,hi,rfl,HSI,HO,HB⟩:=hrel;obtain⟨A6,c6,rfl,_⟩:=Zo HO.o;by_cases Ji:i<m
  ·have Nq:i<ss.length:=by rw[<-HM.o];exact Ji
   obtain⟨b,off,A2,c2,rfl,_,pM,Zm,hs,h5,h6⟩:=(HH.o.below HB.o).row1 Nq;have HF:=Lh (az ss Nq);have ru:=Lh hs.rdW;obtain⟨x,hx⟩:=Xe (ss[i]);rw[<-hx] at Zm HF ru;obtain⟨q,hq⟩:=Xe x.length;rw[<-hq] at Zm;have HQ:=Lh hq;have HSQ:=Lh (show s+q=(ss.take (i+1)).flatten.length by rw[HF.o,Qe,HSI.o,HQ.o]);have HLE:=Lh (show s+q<=8796093022208 by have h2:=fb ss (i+1);have h3:=HBD.o;rw[HSQ.o];omega);clear hs h5 hq hx Nq;go_wp2_with (at_builtin;refine Zz (m:=q) (n:=s) aO rfl rfl rfl rfl HO.o ru.o ?hl (sz _) ?h63 ?hby HB.o.size ?_)
   case hl=>rw[rA,Yr];exact HQ.o.symm
   case h63=>have:=HLE.o;unfold maxLen;omega
   case hby=>have:=HLE.o;omega
   intro v' w' ho hg _ _;have HO2:Hid (w'.ownsRow _ 9 1 v' (s+q) (Jf (ss.take (i+1)).flatten)):=Lh (by
    rw[HF.o]
    simp only[Jf,Qt] at ho |-
    exact ho)
   have HB2:=Lh (Zt HB.o hg HO.o (Ya _) HB.o.size);obtain⟨A7,c7,rfl,_⟩:=Zo HO2.o;clear ho hg;go_wp2_with fail;exact⟨⟨i+1,s+q,by omega,by go_num,HSQ.o,HO2.o,HB2.o⟩,by simp[intOf];omega⟩
  ·have pb:i=m:=by omega
   have Uc:(ss.take i).flatten=ss.flatten:=by rw[pb,HM.o,Qd (Ya _)]
   rw[Uc] at HO HSI;clear Uc pb;go_wp2_with fail;go_ret;exact⟨_,rfl,by rw[<-HSI.o];exact HO.o,HB.o⟩
theorem yH(A:Option Addr)(c:Nat)(a b:List Wd)(w:World)(h:Je (Th eW) w w.heap.size (.slice A 2 c) [a,b])(hb:(a.length+b.length)*16<=140737488355328) :
  Calls Tryz.prog 144 #[.slice A 2 c] w (qwN w (a++b)):=by
 have a_:=Lh (show [a,b].flatten=a++b by simp);have HC:=Lh (zu A c [a,b] w h (by rw[a_.o,Qe];exact hb));have HF:=Lh (show nM (a++b) by
  refine qnF ?_ ?_
  ·obtain⟨_,_,_,_,_,_,_,_,hs,_⟩:=h.row1 (k:=0) (by simp)
   exact hs.fits
  ·obtain⟨_,_,_,_,_,_,_,_,hs,_⟩:=h.row1 (k:=1) (by simp)
   exact hs.fits)
 rw[show [a,b].length=2 from rfl] at HC;have HBD:=Lh (show (a++b).length*16<=140737488355328 by rw[Qe];exact hb);clear h hb;obtain⟨l,hl⟩:=Xe ([a,b]);rw[<-hl] at a_ HC;clear hl;obtain⟨r,hr⟩:=Xe (a++b);rw[<-hr] at a_ HF HBD |-;clear hr;go_enter Tryz.func144,Tryz.ntmps144;go_wp2_with fail;refine HC.o.mono ?_;rintro e w1 ⟨v1,rfl,h1,hb1⟩;rw[a_.o] at h1;obtain⟨A1,c1,rfl,_⟩:=Zo h1;have HW:=Lh (qX A1 c1 r w1 (cX HF.o h1) HBD.o);have HB1:=Lh hb1;clear h1 hb1 HC HF HBD a_;go_wp2_with fail;refine HW.o.mono ?_;rintro e w2 ⟨v2,rfl,h2,Ja⟩;have HB2:=Lh (HB1.o.trans (Ja.mono HB1.o.size));have HO2:=Lh (Fr h2 HB1.o.size);obtain⟨A2,c2,rfl,_⟩:=Zo h2;clear h2 Ja HW;go_wp2_with fail;go_ret;exact⟨_,rfl,HO2.o,HB2.o⟩
theorem aN(x:Wd)(k:Nat)(w:World)(hx:x.length<=maxLen)(hk:k<=4611686018427387904) :
  Calls Tryz.prog 166 #[wv x,.int .i64 k] w fun e w'=>e=.returned (wv (x.take k))/\w'=w:=by
 unfold maxLen at hx;have hs:(⟨x.toArray⟩:ByteArray).size=x.length:=St x;go_enter Tryz.func166,Tryz.ntmps166;have Oa:x.take (max 0 (min (k:Int) (x.length:Int))).toNat=x.take k:=by
  rcases Nat.le_total k x.length with h | h
  ·rw[show (max 0 (min (k:Int) (x.length:Int))).toNat=k by omega]
  ·rw[Qd (by omega),Qd h]
 have HCL:=Lh Oa;clear Oa;go_wp2
 all_goals first
  |(go_ret;exact⟨Kx (qxM (by rw[qD,HCL.o])),rfl⟩)
  |(go_ret;exact⟨Kx (qxM (by rw[qD,Qd (Ya _),Qd (by omega)])),rfl⟩)
  |(go_ret;exact⟨Kx (qxM (qD x k)),rfl⟩)
  |(have e:x.take k=[]:=by
    rcases (by omega:x.length=0\/k=0) with h | h
    ·rw[Xw h,List.take_nil]
    ·rw[h];rfl
    rw[e]
    go_ret
    exact⟨rfl,rfl⟩)
def kA(x y:Wd)(i:Nat):Wd:=if i=0 then [] else if i=1 then x else x++y
theorem nN(x y:Wd)(k:Nat)(A:Option Addr)(c:Nat)(w:World)(h1:1<=k)(hk:k<=4611686018427387904)(hxy:x.length+y.length<=4611686018427387904)(h:Je eW w w.heap.size (.slice A 2 c) [x,y]) :
  Calls Tryz.prog 221 #[.int .i64 k,.slice A 2 c] w fun e w'=>e=.returned (wv ((x++y).take k))/\w'=w:=by
 have HH:=Lh h;have Uy:=h.n_le;clear h;go_enter Tryz.func221,Tryz.ntmps221;go_wp2_with fail;go_loopw [10,5] (fun v10 v5 wr=>∃ i:Nat,i<=2/\v10=.int .i64 i/\v5=wv (kA x y i)/\wr=w/\Hid (i=2->x.length<k)) (fun v10 _ _=>2 - (intOf v10).toNat);exact⟨0,by omega,rfl,rfl,rfl,fun h=>by omega⟩;obtain⟨i,hi,rfl,rfl,rfl,HI⟩:=hrel;rcases (by omega:i=0\/i=1\/i=2) with rfl | rfl | rfl
 ·obtain⟨b,off,rfl,_,_,Zm⟩:=HH.o.wd (k:=0) (by simp);simp only[List.getElem_cons_zero,Yp] at Zm;have hs:(⟨(kA x y 0).toArray⟩:ByteArray).size=0:=rfl;have eX:(kA x y 0).length=0:=rfl;have e:(⟨(kA x y 0).toArray⟩:ByteArray)++⟨x.toArray⟩=⟨(kA x y 1).toArray⟩:=by rw[aL];rfl
  have E:=Lh e;clear e;go_wp2_with fail;rw[E.o];exact⟨⟨1,by omega,rfl,rfl,trivial,fun h=>by omega⟩,by decide⟩
 ·obtain⟨b,off,rfl,_,_,Zm⟩:=HH.o.wd (k:=1) (by simp);simp only[List.getElem_cons_succ,List.getElem_cons_zero] at Zm;have hs:(⟨(kA x y 1).toArray⟩:ByteArray).size=x.length:=St x;have eX:(kA x y 1).length=x.length:=rfl;have e:(⟨(kA x y 1).toArray⟩:ByteArray)++⟨y.toArray⟩=⟨(kA x y 2).toArray⟩:=aL x y;have E:=Lh e;clear e;by_cases Ji:x.length<k
  ·go_wp2_with fail;rw[E.o];exact⟨⟨2,by omega,rfl,rfl,trivial,fun _=>Ji⟩,by decide⟩
  ·go_wp2_with fail;refine (aN x k wr (by unfold maxLen;omega) hk).mono ?_;rintro e w2 ⟨rfl,rfl⟩;go_wp2_with fail;go_ret;exact⟨Kx (by rw[List.take_append_of_le_length (by omega)];rfl),rfl⟩
 ·go_wp2_with fail;refine (aN (x++y) k wr (by unfold maxLen;simp;omega) hk).mono ?_;rintro e w2 ⟨rfl,rfl⟩;go_wp2_with fail;go_ret;exact⟨rfl,rfl⟩
open Go.ChangeMaps (setBlock)
abbrev qnH(e:MapEntry):Value×Value:=(e.key,e.val)
def qoM(es:List MapEntry)(clock:Nat):Prop:=(∀ x∈es,x.born<clock)/\(es.map (·.born)).Nodup
def MapS{α:Type}(κ:α->Value)(w:World)(g:Nat)(l:List (α×Value)):Prop :=
 ∃(es:Array MapEntry)(clock:Nat),w.heap[g]? = some (.map es clock)/\es.toList.map qnH=l.map (fun p=>(κ p.1,p.2))/\qoM es.toList clock
def zlD{α:Type}(κ:α->Value)(w:World)(r g:Nat)(l out:List (α×Value)):Prop :=
 ∃(es:Array MapEntry)(clock:Nat)(seen:Array Nat)(rest:List (α×Value)),w.heap[r]? = some (.mapIter (some g) clock seen clock)/\w.heap[g]? = some (.map es clock) /\
  es.toList.map qnH=l.map (fun p=>(κ p.1,p.2))/\qoM es.toList clock/\(leftOf es seen).toList.map qnH=rest.map (fun p=>(κ p.1,p.2))/\(out++rest).Perm l
section
variable {α:Type} {κ:α->Value} {w:World} {g:Nat} {l:List (α×Value)}
end
section
variable {α:Type} [DecidableEq α] {P:Program} {mt kt et:TypeId} {κ:α->Value} {w:World} {g:Nat} {l:List (α×Value)}
end
section
variable {α:Type} {P:Program} {κ:α->Value} {w:World} {g:Nat} {l:List (α×Value)}
end
theorem nj{P:Program}{w:World}{ty kt et:TypeId}{v:Value}{p:Addr}(hu:P.underlying ty=some (.map kt et))(hc:w.cell? p=some v):(Instr.loadAt ty (.pointer (some p))).run P w=.ok v w:=by
 have mP:(isAgg ty).run P w=.ok false w:=by
  unfold isAgg;rw[Zf,run_underlying hu w];rfl
 simp[Instr.loadAt,Instr.sureAddr,loadVar,mP,hc]
abbrev K32:={ k:List UInt8×Int // k.1.length=32 }
instance:Inhabited K32:=⟨⟨(List.replicate 32 0,0),by simp⟩⟩
def kv(k:K32):Value:=hkv k.1.1 k.1.2
theorem Kd:Sf Tryz.prog 147 9 3 wv where
 und:=Tryz.underlying147
 check:=fun b a w=>by
  show (Instr.checkKey b (9999+1) 9 (.string _)).run Tryz.prog w=_;unfold Instr.checkKey;simp only[Zf,run_underlying Tryz.underlying9,Result.andThen,Sem.run_pure]
 find:=fun k l es w h=>by
  unfold Instr.findKey;have:=Ah (κ:=wv) (d:=.string) (fun a b:Wd=>(congrArg some ((qvD a b).trans (by rw[decide_eq_decide];exact eq_comm)):some ((⟨a.toArray⟩:ByteArray)==⟨b.toArray⟩)=some (decide (b=a)))) k l es 0 h;simp only[Zf,run_underlying Tryz.underlying9,Result.andThen,this,Yq,Sem.run_pure]
 stays:=fun a=>by
  rw[show (10000:Nat)=9999+1 from rfl];have:=Gp ⟨a.toArray⟩ ⟨a.toArray⟩;simp[Instr.sameBits,this]
theorem Du(w:World):(zeroValue 3).run Tryz.prog w=.ok (.int .i64 0) w:=by kernel_rfl
theorem nD{α:Type}[DecidableEq α]:∀(l:List (α×Value))(k:α)(v:Value)(x:α),Ni (Wv l k v) x=if x=k then some v else Ni l x
 |[],k,v,x=>by
  unfold Ni Wv;by_cases h:k=x
  ·subst h;simp
  ·have h':¬ x=k:=fun e=>h e.symm;simp[h,h']
 |p::r,k,v,x=>by
  have ih:=nD r k v x;unfold Wv;by_cases hp:p.1=k
  ·rw[if_pos hp];unfold Ni at ih |-;rw[List.find?_cons,List.find?_cons];by_cases h:k=x
   ·subst h;simp
   ·have h2:p.1≠x:=by rw[hp];exact h
    have h':¬ x=k:=fun e=>h e.symm;simp[h,h2,h']
  ·rw[if_neg hp];unfold Ni at ih |-;rw[List.find?_cons,List.find?_cons];by_cases h:p.1=x
   ·have:x≠k:=by rw[<-h];exact hp
    simp[h,this]
   ·simp only[h,decide_false];exact ih
def Oh(l:List (Wd×Value))(L:List Wd)(N:Nat):Prop:=∀ x,∃ n:Nat,(Ni l x).getD (.int .i64 0)=.int .i64 n/\n<=N/\(n=0↔x∉L)
def dT(L:List Wd)(x:Wd):List Wd:=if x∈L then L else L++[x]
theorem jK{L:List Wd}{x y:Wd}:y∈dT L x↔y∈L\/y=x:=by
 unfold dT;split
 ·rename_i h;exact⟨.inl,fun h'=>h'.elim id fun e=>e ▸ h⟩
 ·simp
theorem Oh.nil:Oh [] [] 0:=fun x=>⟨0,rfl,Ya _,by simp⟩
theorem Oh.put{l:List (Wd×Value)}{L:List Wd}{N:Nat}(h:Oh l L N)(x:Wd){n:Nat}(hn:(Ni l x).getD (.int .i64 0)=.int .i64 n)(hle:n<=N):Oh (Wv l x (.int .i64 ((n+1:Nat):Int))) (dT L x) (N+1):=by
 intro y;by_cases e:y=x
 ·subst e;exact⟨n+1,by rw[nD,if_pos rfl];rfl,by omega,by simp[jK]⟩
 ·obtain⟨m,h1,h2,h3⟩:=h y;refine⟨m,by rw[nD,if_neg e];exact h1,by omega,?_⟩;rw[h3,jK];simp[e]
theorem tC{w w':World}{base:Nat}{e:TypeId}{size n:Nat}{v:Value}{xs:List Value}(h:w.ownsRow base e size v n xs)(hb:∀ k,v.ownBlock=some k->w'.heap[k]? = w.heap[k]?):w'.ownsRow base e size v n xs:=by
 refine⟨h.1,?_⟩;rcases h.2 with h' | ⟨g,cap,cur,rfl,h1,hh,r⟩
 ·exact .inl h'
 ·exact .inr ⟨g,cap,cur,rfl,h1,(hb g rfl).trans hh,r⟩
structure cH(w:World)(g S O C B0:Nat)(L:List Wd)(N:Nat):Prop where
 map:∃ l,Up wv w g l/\Oh l L N
 seen:w.heap[S]? = some (.cells #[.map (some g)] 147 (0,0))
 o:∃ v,w.heap[O]? = some (.cells #[v] 22 (0,0))/\w.ownsRow B0 9 1 v L.length (Jf L)
 le:C<=g/\C<=S/\C<=O/\g<B0/\S<B0/\O<B0/\S≠O/\g≠S/\g≠O/\B0<=w.heap.size
def zjG(w:World)(g S O C B0:Nat)(L:List Wd)(N:Nat)(x:Wd)(e:Ending)(w':World):Prop :=
 e=.returned (.bool (decide ((dT L x).length<=4096)))/\cH w' g S O C B0 (dT L x) (N+1)/\Below C w w'
theorem qv{w:World}{g S O C B0:Nat}{L:List Wd}{N:Nat}(h:cH w g S O C B0 L N){v:Value}(ho:w.heap[O]? = some (.cells #[v] 22 (0,0)))(l:List (Wd×Value))(hm:Up wv w g l)(hown:w.ownsRow B0 9 1 v L.length (Jf L)) :
  ∀(o:Obj)(w1:World)(v':Value)(w':World)(m:Nat)(ys:List Value),w1=w.alloc o->w'.ownsRow B0 9 1 v' m ys->w1.grownBy w' v.ownBlock->w'.heap[O]? = some (.cells #[v] 22 (0,0)) /\
   (w'.setCell ⟨O,0,none⟩ v').cell? ⟨S,0,none⟩=some (.map (some g))/\(w'.setCell ⟨O,0,none⟩ v').cell? ⟨O,0,none⟩=some v'/\Up wv (w'.setCell ⟨O,0,none⟩ v') g l/\Below C w (w'.setCell ⟨O,0,none⟩ v') /\
   (w'.setCell ⟨O,0,none⟩ v').heap[S]? = some (.cells #[.map (some g)] 147 (0,0))/\(w'.setCell ⟨O,0,none⟩ v').heap[O]? = some (.cells #[v'] 22 (0,0))/\(w'.setCell ⟨O,0,none⟩ v').ownsRow B0 9 1 v' m ys:=by
 intro o w1 v' w' m ys e1 eY hg;obtain⟨l1,l2,l3,l4,l5,l6,l7,l8,l9,l10⟩:=h.le;subst e1;have hb:∀ k,k<B0->w'.heap[k]? = w.heap[k]? := fun k hk=>by
  rw[hg.block k (by rw[Xs];omega) (fun e=>by have:=(hown.lt k e.symm).1;omega),Ze w o k (by omega)]
 have hS:=(hb S l5).trans h.seen;have hO:=(hb O l6).trans ho;have hS2:(w'.setCell ⟨O,0,none⟩ v').heap[S]? = some (.cells #[.map (some g)] 147 (0,0)):=(Zd w' ⟨O,0,none⟩ v' S l7).trans hS;have hO2:(w'.setCell ⟨O,0,none⟩ v').heap[O]? = some (.cells #[v'] 22 (0,0)):=by
  simp only[World.setCell,Xy,if_true,hO,Option.map_some];rfl
 refine⟨hO,Vo hS2,Vo hO2,(hm.of_block (hb g l4)).setCell l9,?_,hS2,hO2,tC eY fun k hk=>Zd w' ⟨O,0,none⟩ v' k ?_⟩
 ·have b1:Below C w (w.alloc o):=(Xr _ _).alloc (by omega) _;have b2:Below C w w':=b1.grown hg (by rw[Xs];omega) (fun k hk=>by have:=(hown.lt k hk).1;omega);exact b2.setCell l3 _
 ·have:=(eY.lt k hk).1;show k≠O;omega
theorem vC(w:World)(g S O C B0:Nat)(L:List Wd)(N:Nat)(x:Wd)(h:cH w g S O C B0 L N)(hL:L.length<=4096)(hN:N<=1152921504606846976) :
  Calls Tryz.prog 220 #[wv x,.pointer (some ⟨S,0,none⟩),.pointer (some ⟨O,0,none⟩)] w (zjG w g S O C B0 L N x):=by
 obtain⟨l,hm,hs⟩:=h.map;obtain⟨v,ho,hown⟩:=h.o;obtain⟨n,hn,hnN,hn0⟩:=hs x;have c1:=Vo h.seen;have c2:=Vo ho;obtain⟨A,c,rfl,Nj,Uy⟩:=Zo hown;have ji:=nj (P:=Tryz.prog) Tryz.underlying147 c1;have hlk:=hm.lookup Kd Du x;rw[hn] at hlk;have HS:=Lh hs;have HN0:=Lh hn0;have HO:=Lh hown;have HH:=Lh h;have HM:=Lh hm;have HN:=Lh hn;have HLE:=Lh hnN;have hnb:(n:Int)<=1152921504606846976:=by omega
 clear hs hn0 hown h hm hn hnN hN;by_cases hz:n=0
 ·have hq:((n:Int)==0)=true:=by simp;exact hz
  have HZ:=Lh hz;clear hz;have HC:=Lh (qv HH.o ho l HM.o HO.o);go_enter Tryz.func220,Tryz.ntmps220;go_wp2_with (at_builtin;refine Zz (m:=1) (n:=L.length) aO rfl rfl rfl rfl (HO.o.alloc _) (Rd.row (B:=w.heap.size+1) (Xn w _) (by omega)) rfl (fun u hu=>by simp at hu;subst hu;rfl) (by unfold maxLen;omega) (by omega) (by rw[Xs];have:=HH.o.le;omega) ?_);intro v' w' wQ pJ _ _;obtain⟨A9,c9,rfl,_,_⟩:=Zo wQ;obtain⟨hO4,c4,c5,hm3,qwU⟩:=HC.o _ _ _ w' _ _ rfl wQ pJ;have c6:=Vo hO4;have c7:w'.frozen? ⟨O,0,none⟩=false:=by simp[World.frozen?,hO4]
  have hld3:=nj (P:=Tryz.prog) Tryz.underlying147 c4;have zoR:=hm3.lookup Kd Du x;rw[HN.o] at zoR;have HM3:=Lh hm3;have HR:=Lh qwU;clear wQ pJ hm3 qwU ji hlk;generalize hw4:w'.setCell ⟨O,0,none⟩ (Value.slice A9 (L.length+1) c9)=w4 at *;go_wp2_with (at_mapUpdate;refine Su Kd rfl rfl rfl rfl rfl HM3.o ?_);intro w5 zfF aB hs5;obtain⟨r1,r2,r3,r4⟩:=HR.o;have HPW:=Lh (show dT L x=L++[x] by unfold dT;rw[if_neg (HN0.o.1 HZ.o)]);have zoQ:=(gl r3);obtain⟨l1,l2,l3,l4,l5,l6,l7,l8,l9,l10⟩:=HH.o.le;have ho5:=(aB.block O zoQ (fun e=>l9 (by injection e with e;exact e.symm))).trans r3;have zeO:=(aB.block S (by have:=(gl r2);exact this) (fun e=>l8 (by injection e with e;exact e.symm))).trans r2;have Sd:=tC r4 fun k hk=>aB.block k (r4.lt k hk).2 (fun e=>by have h9:=(r4.lt k hk).1;injection e with e;subst e;omega);have hb5:=r1.grown aB (by omega) (fun k hk=>by injection hk with hk;subst hk;exact l1);have ei:cH w5 g S O C B0 (dT L x) (N+1):=by
   rw[HPW.o];refine⟨⟨_,zfF,?_⟩,zeO,⟨_,ho5,by rw[Qe];simpa[Jf] using Sd⟩,l1,l2,l3,l4,l5,l6,l7,l8,l9,by have:=r1.size;omega⟩;have:=HS.o.put x HN.o HLE.o;rw[HPW.o] at this;exact this
  have c8:=Vo ho5;have Mg:=Lh ei;have HB5:=Lh hb5;clear ei hb5 r1 r2 r3 r4 Sd zeO l1 l2 l3 l4 l5 l6 l7 l8 l9 l10 aB zfF;go_wp2_with fail;go_ret;exact⟨Kx (Zv (by rw[HPW.o,Qe,Qf,decide_eq_decide];omega)),Mg.o,HB5.o⟩
 ·have hq:((n:Int)==0)=false:=by simp;exact hz
  have HZ:=Lh hz;clear hz;have HLT:=Lh (gl ho);have HGO:=Lt (some O≠some g) (fun e=>HH.o.le.2.2.2.2.2.2.2.2.1 (by injection e with e;exact e.symm));have HX:=Lh (show dT L x=L by unfold dT;rw[if_pos];exact Decidable.not_not.1 fun hx=>HZ.o (HN0.o.2 hx));go_enter Tryz.func220,Tryz.ntmps220;go_wp2_with (at_mapUpdate;refine Su Kd rfl rfl rfl rfl rfl HM.o ?_;intro w2 qeS aI eX;have c3:=Vo ((aI.block O HLT.o HGO.o).trans ho));go_ret;refine⟨Kx (Zv (by rw[HX.o,decide_eq_decide];omega)),?_,?_⟩
  ·rw[HX.o];obtain⟨l1,l2,l3,l4,l5,l6,l7,l8,l9,l10⟩:=HH.o.le;refine⟨⟨_,qeS,?_⟩,(aI.block S (by omega) (fun e=>l8 (by injection e with e;exact e.symm))).trans HH.o.seen,⟨_,(aI.block O HLT.o HGO.o).trans ho,tC HO.o fun k hk=>?_⟩,l1,l2,l3,l4,l5,l6,l7,l8,l9,by omega⟩
   ·have:=HS.o.put x HN.o HLE.o;rw[HX.o] at this;exact this
   ·have:=(HO.o.lt k hk);exact aI.block k this.2 (fun e=>by injection e with e;omega)
  ·exact (Xr _ _).grown aI (Yb HH.o.le.1 (Yg HM.o.lt)) (fun k hk=>by injection hk with hk;subst hk;exact HH.o.le.1)
def bz(l:List Wd):Prop:=∀ x∈l,x.length<=4
def Cy(k:Nat)(x:Wd)(b:List Wd):List Wd:=if k<=x.length/\0<b.length then b.take 1 else b
def Vf(k:Nat)(x:Wd)(b:List Wd):List Wd:=b.map fun y=>(x++y).take k
def Ue(k:Nat)(a b:List Wd):List Wd:=a.flatMap fun x=>Vf k x (Cy k x b)
theorem oH{k:Nat}{x:Wd}{b:List Wd}{z:Wd}:z∈Vf k x (Cy k x b)↔∃ y∈b,z=(x++y).take k:=by
 unfold Vf Cy;rw[Xa];split
 ·rename_i h;obtain⟨h1,h2⟩:=h;have ht:∀ y:Wd,(x++y).take k=x.take k:=fun y=>List.take_append_of_le_length h1;constructor
  ·rintro⟨y,hy,rfl⟩;exact⟨y,List.mem_of_mem_take hy,rfl⟩
  ·rintro⟨y,_,rfl⟩
   match b,h2 with
   |z::b,_=>exact⟨z,by simp,by rw[ht,ht]⟩
 ·constructor
  ·rintro⟨y,hy,rfl⟩;exact⟨y,hy,rfl⟩
  ·rintro⟨y,hy,rfl⟩;exact⟨y,hy,rfl⟩
theorem Tz{k:Nat}{a b:List Wd}{z:Wd}:z∈Ue k a b↔z∈Tq k a b:=by
 rw[Dw];unfold Ue;rw[Xu];constructor
 ·rintro⟨x,hx,h⟩;obtain⟨y,hy,rfl⟩:=oH.1 h;exact⟨x,hx,y,hy,rfl⟩
 ·rintro⟨x,hx,y,hy,rfl⟩;exact⟨x,hx,oH.2 ⟨y,hy,rfl⟩⟩
theorem xL{k:Nat}{a b:List Wd}{i:Nat}(h:i<a.length):Ue k (a.take (i+1)) b=Ue k (a.take i) b++Vf k a[i] (Cy k a[i] b):=by
 unfold Ue;rw[Qc h,List.flatMap_append];simp
def Rp(L P:List Wd):Prop:=L.Nodup/\∀ z,z∈L↔z∈P
theorem Rp.put{L P:List Wd}(h:Rp L P)(x:Wd):Rp (dT L x) (P++[x]):=by
 refine⟨?_,fun z=>by rw[jK,h.2,Qh,Qi]⟩;unfold dT;split
 ·exact h.1
 ·rename_i hn;rw[List.nodup_append];exact⟨h.1,by simp,fun a ha b hb e=>by rw[Qi] at hb;subst e hb;exact hn ha⟩
theorem Rp.over{L P:List Wd}(h:Rp L P){k:Int}{a b:List Wd}(hs:∀ z∈P,z∈Tq k a b)(hl:4096<L.length):Ea k a b=none:=by
 unfold Ea;rw[if_neg];have:=h.1.length_le_of_subset (fun z hz=>Dv.2 (hs z ((h.2 z).1 hz)):L ⊆ Uw (Tq k a b));omega
theorem Rp.full{L P:List Wd}(h:Rp L P){k:Int}{a b:List Wd}(hs:∀ z,z∈P↔z∈Tq k a b)(hl:L.length<=4096):Ea k a b=some (Uw L):=by
 have e:Uw L=Uw (Tq k a b):=kr fun z=>(h.2 z).trans (hs z);unfold Ea;rw[<-e,if_pos (Yb (sA L) hl)]
def zbW(w:World)(o:Option (List Wd))(e:Ending)(w':World):Prop :=
 Below w.heap.size w w'/\match o with
 |none=>e=.returned (.tuple #[.slice none 0 0,.bool false])
 |some l=>∃ v,e=.returned (.tuple #[v,.bool true])/\w'.ownsRow w.heap.size 9 1 v l.length (Jf l)
theorem rR{α:Type}{l:List α}{j:Nat}(h:l.length<=j):l.take j=l:=Qd h
theorem aT(k:Nat)(x:Wd)(b:List Wd):(Vf k x b).length=b.length:=by simp[Vf]
theorem eC{α:Type}(l:List α){j:Nat}(h:j<l.length):l.take (j+1)=l.take j++[l[j]]:=Qc h
theorem oV{w w':World}{g S O C B0:Nat}{L:List Wd}{N:Nat}(h:cH w g S O C B0 L N)(hb:Below w.heap.size w w'):cH w' g S O C B0 L N:=by
 obtain⟨l,hm,hs⟩:=h.map;obtain⟨v,ho,hown⟩:=h.o;obtain⟨l1,l2,l3,l4,l5,l6,l7,l8,l9,l10⟩:=h.le;exact⟨⟨l,hm.below hb hm.lt,hs⟩,(hb.block S (by omega)).trans h.seen,⟨v,(hb.block O (by omega)).trans ho,Zy hown hb⟩,l1,l2,l3,l4,l5,l6,l7,l8,l9,Yb l10 hb.size⟩
theorem aM(k:Nat)(A B:Option Addr)(ca cb:Nat)(a b:List Wd)(w:World)(Iu:1<=k)(iH:k<=4)(ha:Je eW w w.heap.size (.slice A a.length ca) a)(hb:Je eW w w.heap.size (.slice B b.length cb) b)(sa:bz a)(sb:bz b)(hN:a.length*b.length<=1152921504606846000) :
  Calls Tryz.prog 147 #[.int .i64 k,.slice A a.length ca,.slice B b.length cb] w (zbW w (Ea k a b)):=by
 have hna:=ha.n_le;have hnb:=hb.n_le;have HA:=Lh ha;have HB:=Lh hb;have sp:=Lh sa;have kN:=Lh sb;have qV:=Lh hN;obtain⟨na,hla⟩:∃ n,n=a.length:=⟨_,rfl⟩;obtain⟨nb,hlb⟩:∃ n,n=b.length:=⟨_,rfl⟩;rw[<-hla] at HA hna |-;rw[<-hlb] at HB hnb |-;have HLA:=Lh hla;have HLB:=Lh hlb;clear ha hb sa sb hN hla hlb;have hmm:=@run_makeMap Tryz.prog;go_enter Tryz.func147,Tryz.ntmps147;go_wp2_with fail;have HS1:=Lh (show cH (((w.alloc (.map #[] 0)).alloc (.cells #[.map (some w.heap.size)] 147)).alloc (.cells #[.slice none 0 0] 22)) w.heap.size (w.heap.size+1) (w.heap.size+1+1) w.heap.size (w.heap.size+3) [] 0 by
  have z1:((w.alloc (.map #[] 0)).alloc (.cells #[.map (some w.heap.size)] 147)).heap.size=w.heap.size+1+1:=by rw[Xs,Xs]
  refine⟨⟨[],((Up.made w).alloc _).alloc _,Oh.nil⟩,?_,⟨_,by rw[<-z1];exact Xn _ _,Yz _ _ _ _⟩,by omega,by omega,by omega,by omega,by omega,by omega,by omega,by omega,by omega,by rw[Xs,z1];omega⟩
  rw[Ze _ _ _ (by rw[z1];omega)]
  have:=Xn (w.alloc (.map #[] 0)) (.cells #[.map (some w.heap.size)] 147)
  rw[Xs] at this
  exact this)
 have HB1:=Lh (((((Xr w.heap.size w).alloc (Ya _) (.map #[] 0)).alloc (by rw[Xs];omega) (.cells #[.map (some w.heap.size)] 147)).alloc (by rw[Xs,Xs];omega) (.cells #[.slice none 0 0] 22)));generalize hw1:((w.alloc (.map #[] 0)).alloc (.cells #[.map (some w.heap.size)] 147)).alloc (.cells #[.slice none 0 0] 22)=w1 at *;clear hw1 hmm;go_loopw [20] (fun v20 wr=>∃(i N:Nat)(L:List Wd),i<=na/\v20=.int .i64 i/\Hid (cH wr w.heap.size (w.heap.size+1) (w.heap.size+1+1) w.heap.size (w.heap.size+3) L N)/\Hid (Rp L (Ue k (a.take i) b))/\Hid (L.length<=4096)/\Hid (N<=i*nb)/\Hid (Below w.heap.size w wr)) (fun v20 _=>na - (intOf v20).toNat);exact⟨0,0,[],by omega,rfl,HS1.o,⟨by simp,by simp[Ue]⟩,(by simp:([]:List Wd).length<=4096),Yf _,HB1.o⟩;clear HS1 HB1;obtain⟨i,N,L,hi,rfl,HST,pZ,HL,HNI,HBR⟩:=hrel;by_cases Ji:i<na
 ·have Nq:i<a.length:=by rw[<-HLA.o];exact Ji
  obtain⟨b1,o1,rfl,_,hb1,Nj⟩:=(HA.o.below HBR.o).wd Nq;have HXP:=Lh (xL (k:=k) (b:=b) Nq);have HXM:=Lh (Qg Nq);obtain⟨x,hx⟩:=Xe (a[i]);rw[<-hx] at Nj HXP HXM;clear hx Nq;have jn:=Lh (sp.o x HXM.o);have Ek:(⟨x.toArray⟩:ByteArray).size=x.length:=St x;by_cases pe:k<=x.length/\0<nb
  ·obtain⟨hge,Dg⟩:=pe;obtain⟨b0,o0,rfl,_,_,_⟩:=HB.o.wd (k:=0) (by rw[<-HLB.o];exact Dg);have Dl:=Lh (HB.o.take_ 1 (n':=1) (by rw[Qq,<-HLB.o];omega));have HXR:=Lh (show Vf k x (b.take 1)=Vf k x (Cy k x b) by unfold Cy;rw[if_pos ⟨hge,by rw[<-HLB.o];exact Dg⟩]);have HRL:=Lh (show 1=(b.take 1).length by rw[Qq,<-HLB.o];omega);have qoX:=Lt (∀ y∈b.take 1,y∈b) (fun y hy=>List.mem_of_mem_take hy);have qgX:=Lt (1<=nb) (Dg);go_wp2_with fail;have HP0:=Lh (show Rp L (Ue k (a.take i) b++(Vf k x (b.take 1)).take 0) by rw[List.take_zero,List.append_nil];exact pZ.o);have HN0:=Lh (show N<=i*nb+0 by rw[Yp];exact HNI.o);clear pZ HNI;go_loopw [38] (fun v38 wt=>∃(j N:Nat)(L:List Wd),j<=1/\v38=.int .i64 j/\Hid (cH wt w.heap.size (w.heap.size+1) (w.heap.size+1+1) w.heap.size (w.heap.size+3) L N)/\Hid (Rp L (Ue k (a.take i) b++(Vf k x (b.take 1)).take j))/\Hid (L.length<=4096)/\Hid (N<=i*nb+j)/\Hid (Below w.heap.size w wt)) (fun v38 _=>1 - (intOf v38).toNat);exact⟨0,N,L,by omega,rfl,HST.o,HP0.o,HL.o,HN0.o,HBR.o⟩;clear HST HP0 HL HN0 HBR;obtain⟨j,N,L,hj,rfl,HST,pZ,HL,HNJ,HBR⟩:=hrel;by_cases yp:j<1
   ·have Mn:j<(b.take 1).length:=by rw[<-HRL.o];exact yp
    obtain⟨b2,o2,eB,_,Ja,Uy⟩:=(Dl.o.below HBR.o).wd Mn;injection eB with eB;injection eB with e1 e2;subst e1 e2;have HPS:=Lh (show (Vf k x (b.take 1)).take (j+1)=(Vf k x (b.take 1)).take j++[(x++(b.take 1)[j]).take k] by rw[eC _ (by unfold Vf;rw[Qk];exact Mn)];simp[Vf]);have HYM:=Lt ((b.take 1)[j]∈b) (qoX.o _ (Qg Mn));obtain⟨y,hy⟩:=Xe ((b.take 1)[j]);rw[<-hy] at Uy HPS HYM;clear Mn hy;have HSY:=Lh (kN.o y HYM.o);have nJ:=Lh (show N<=1152921504606846976 by
     have e1:=HNJ.o
     have e2:(i+1)*nb<=na*nb:=Nat.mul_le_mul_right nb (by omega)
     have e3:=qV.o
     rw[<-HLA.o,<-HLB.o] at e3
     rw[Nat.add_mul,Nat.one_mul] at e2
     have e4:=qgX.o
     omega)
    go_wp2_with fail;have HCA:=Lh ((Xr _ _).alloc (Ya _) (.cells #[wv x,wv y] 9):Below wr.heap.size wr _);have HCS:=Lh (Xn wr (.cells #[wv x,wv y] 9));have HCZ:=Lh (Xs wr (.cells #[wv x,wv y] 9));generalize xu:wr.alloc (.cells #[wv x,wv y] 9)=w3 at *;clear xu;have Mi:Je eW w3 w3.heap.size (.slice (some ⟨wr.heap.size,0,none⟩) 2 2) [x,y]:=Io (xs:=[x,y]) (fun z hz=>by
     have:=jn.o;have:=HSY.o
     rw[List.mem_cons,Qi] at hz
     unfold maxLen
     rcases hz with rfl | rfl <;> omega) (Rd.row HCS.o (by rw[HCZ.o];omega)) (Ya _) (by unfold maxLen;omega)
    refine (nN x y k _ 2 w3 Iu (by omega) (by have:=jn.o;have:=HSY.o;omega) Mi).mono ?_;rintro e w4 ⟨rfl,rfl⟩;have wD:=Lh (oV HST.o HCA.o);have dZ:=Lh (HBR.o.trans (HCA.o.mono HBR.o.size));obtain⟨z,hz⟩:=Xe ((x++y).take k);rw[<-hz] at HPS |-;have HZ:=Lh hz;clear Mi HCA HCS HCZ HST HBR hz;go_wp2_with fail;refine (vC _ _ _ _ _ _ L N z wD.o HL.o nJ.o).mono ?_;rintro e w5 ⟨rfl,qlP,hb5⟩;have qoY:=Lh qlP;have qpI:=Lh (dZ.o.trans hb5);have C_:=Lh (show Rp (dT L z) (Ue k (a.take i) b++(Vf k x (b.take 1)).take (j+1)) by rw[HPS.o,<-Xd];exact pZ.o.put z);clear qlP hb5 wD dZ HPS pZ;obtain⟨M,hM⟩:=Xe (dT L z);rw[<-hM] at qoY C_ |-;clear hM;by_cases h4:M.length<=4096
    ·rw[Yv h4];have H4:=Lh h4;clear h4;go_wp2_with fail;exact⟨⟨j+1,N+1,M,by omega,by go_num,qoY.o,C_.o,H4.o,(show N+1<=i*nb+(j+1) by have:=HNJ.o;omega),qpI.o⟩,by simp[intOf];omega⟩
    ·rw[Yw h4];have HOV:=Lh (show Ea (k:Int) a b=none from C_.o.over (fun q hq=>by
      rw[Qh] at hq
      rcases hq with hq | hq
      ·obtain⟨p,hp,q',hq',rfl⟩:=Dw.1 (Tz.1 hq)
       exact Dw.2 ⟨p,List.mem_of_mem_take hp,q',hq',rfl⟩
      ·have:=List.mem_of_mem_take hq
       obtain⟨y',hy',rfl⟩:=Xa.1 this
       exact Dw.2 ⟨x,HXM.o,y',qoX.o y' hy',by simp⟩) (by omega))
     clear h4;go_wp2_with fail
     go_ret2
     exact⟨qpI.o,by rw[HOV.o];rfl⟩
   ·have pa:j=1:=by omega
    have qoZ:=Lh (show Rp L (Ue k (a.take (i+1)) b) by
     have:=pZ.o
     rw[rR (l:=Vf k x (b.take 1)) (by rw[aT,pa];exact Yi HRL.o.symm),HXR.o,<-HXP.o] at this
     exact this)
    have HNE:=Lh (show N<=(i+1)*nb by have:=HNJ.o;have:=qgX.o;rw[Nat.add_mul,Nat.one_mul];omega);clear pa pZ;go_wp2_with fail;exact⟨⟨i+1,N,L,by omega,by go_num,HST.o,qoZ.o,HL.o,HNE.o,HBR.o⟩,by simp[intOf];omega⟩
  ·have HXR:=Lh (show Vf k x b=Vf k x (Cy k x b) by unfold Cy;rw[if_neg (by rw[<-HLB.o];exact pe)]);have Dl:=HB;have HRL:=HLB;have qoX:=Lt (∀ y∈b,y∈b) (fun y hy=>hy);have qgX:=Lt (nb<=nb) (Ya _);by_cases hge:k<=x.length
   ·have Dg:¬ 0<nb:=fun h=>pe ⟨hge,h⟩;clear pe;go_wp2_with fail;have HP0:=Lh (show Rp L (Ue k (a.take i) b++(Vf k x b).take 0) by rw[List.take_zero,List.append_nil];exact pZ.o);have HN0:=Lh (show N<=i*nb+0 by rw[Yp];exact HNI.o);clear pZ HNI;go_loopw [38] (fun v38 wt=>∃(j N:Nat)(L:List Wd),j<=nb/\v38=.int .i64 j/\Hid (cH wt w.heap.size (w.heap.size+1) (w.heap.size+1+1) w.heap.size (w.heap.size+3) L N)/\Hid (Rp L (Ue k (a.take i) b++(Vf k x b).take j))/\Hid (L.length<=4096)/\Hid (N<=i*nb+j)/\Hid (Below w.heap.size w wt)) (fun v38 _=>nb - (intOf v38).toNat);exact⟨0,N,L,by omega,rfl,HST.o,HP0.o,HL.o,HN0.o,HBR.o⟩;clear HST HP0 HL HN0 HBR;obtain⟨j,N,L,hj,rfl,HST,pZ,HL,HNJ,HBR⟩:=hrel;by_cases yp:j<nb
    ·exact absurd (Nat.lt_of_le_of_lt (Yf _) yp) Dg
    ·have pa:j=nb:=by omega
     have qoZ:=Lh (show Rp L (Ue k (a.take (i+1)) b) by
      have:=pZ.o
      rw[rR (l:=Vf k x b) (by rw[aT,pa];exact Yi HRL.o.symm),HXR.o,<-HXP.o] at this
      exact this)
     have HNE:=Lh (show N<=(i+1)*nb by have:=HNJ.o;have:=qgX.o;rw[Nat.add_mul,Nat.one_mul];omega);clear pa pZ;go_wp2_with fail;exact⟨⟨i+1,N,L,by omega,by go_num,HST.o,qoZ.o,HL.o,HNE.o,HBR.o⟩,by simp[intOf];omega⟩
   ·clear pe;go_wp2_with fail;have HP0:=Lh (show Rp L (Ue k (a.take i) b++(Vf k x b).take 0) by rw[List.take_zero,List.append_nil];exact pZ.o);have HN0:=Lh (show N<=i*nb+0 by rw[Yp];exact HNI.o);clear pZ HNI;go_loopw [38] (fun v38 wt=>∃(j N:Nat)(L:List Wd),j<=nb/\v38=.int .i64 j/\Hid (cH wt w.heap.size (w.heap.size+1) (w.heap.size+1+1) w.heap.size (w.heap.size+3) L N)/\Hid (Rp L (Ue k (a.take i) b++(Vf k x b).take j))/\Hid (L.length<=4096)/\Hid (N<=i*nb+j)/\Hid (Below w.heap.size w wt)) (fun v38 _=>nb - (intOf v38).toNat);exact⟨0,N,L,by omega,rfl,HST.o,HP0.o,HL.o,HN0.o,HBR.o⟩;clear HST HP0 HL HN0 HBR;obtain⟨j,N,L,hj,rfl,HST,pZ,HL,HNJ,HBR⟩:=hrel;by_cases yp:j<nb
    ·have Mn:j<b.length:=by rw[<-HRL.o];exact yp
     obtain⟨b2,o2,eB,_,Ja,Uy⟩:=(Dl.o.below HBR.o).wd Mn;subst eB;have HPS:=Lh (show (Vf k x b).take (j+1)=(Vf k x b).take j++[(x++b[j]).take k] by rw[eC _ (by unfold Vf;rw[Qk];exact Mn)];simp[Vf]);have HYM:=Lt (b[j]∈b) (qoX.o _ (Qg Mn));obtain⟨y,hy⟩:=Xe (b[j]);rw[<-hy] at Uy HPS HYM;clear Mn hy;have HSY:=Lh (kN.o y HYM.o);have nJ:=Lh (show N<=1152921504606846976 by
      have e1:=HNJ.o
      have e2:(i+1)*nb<=na*nb:=Nat.mul_le_mul_right nb (by omega)
      have e3:=qV.o
      rw[<-HLA.o,<-HLB.o] at e3
      rw[Nat.add_mul,Nat.one_mul] at e2
      have e4:=qgX.o
      omega)
     go_wp2_with fail;have HCA:=Lh ((Xr _ _).alloc (Ya _) (.cells #[wv x,wv y] 9):Below wr.heap.size wr _);have HCS:=Lh (Xn wr (.cells #[wv x,wv y] 9));have HCZ:=Lh (Xs wr (.cells #[wv x,wv y] 9));generalize xu:wr.alloc (.cells #[wv x,wv y] 9)=w3 at *;clear xu;have Mi:Je eW w3 w3.heap.size (.slice (some ⟨wr.heap.size,0,none⟩) 2 2) [x,y]:=Io (xs:=[x,y]) (fun z hz=>by
      have:=jn.o;have:=HSY.o
      rw[List.mem_cons,Qi] at hz
      unfold maxLen
      rcases hz with rfl | rfl <;> omega) (Rd.row HCS.o (by rw[HCZ.o];omega)) (Ya _) (by unfold maxLen;omega)
     refine (nN x y k _ 2 w3 Iu (by omega) (by have:=jn.o;have:=HSY.o;omega) Mi).mono ?_;rintro e w4 ⟨rfl,rfl⟩;have wD:=Lh (oV HST.o HCA.o);have dZ:=Lh (HBR.o.trans (HCA.o.mono HBR.o.size));obtain⟨z,hz⟩:=Xe ((x++y).take k);rw[<-hz] at HPS |-;have HZ:=Lh hz;clear Mi HCA HCS HCZ HST HBR hz;go_wp2_with fail;refine (vC _ _ _ _ _ _ L N z wD.o HL.o nJ.o).mono ?_;rintro e w5 ⟨rfl,qlP,hb5⟩;have qoY:=Lh qlP;have qpI:=Lh (dZ.o.trans hb5);have C_:=Lh (show Rp (dT L z) (Ue k (a.take i) b++(Vf k x b).take (j+1)) by rw[HPS.o,<-Xd];exact pZ.o.put z);clear qlP hb5 wD dZ HPS pZ;obtain⟨M,hM⟩:=Xe (dT L z);rw[<-hM] at qoY C_ |-;clear hM;by_cases h4:M.length<=4096
     ·rw[Yv h4];have H4:=Lh h4;clear h4;go_wp2_with fail;exact⟨⟨j+1,N+1,M,by omega,by go_num,qoY.o,C_.o,H4.o,(show N+1<=i*nb+(j+1) by have:=HNJ.o;omega),qpI.o⟩,by simp[intOf];omega⟩
     ·rw[Yw h4];have HOV:=Lh (show Ea (k:Int) a b=none from C_.o.over (fun q hq=>by
       rw[Qh] at hq
       rcases hq with hq | hq
       ·obtain⟨p,hp,q',hq',rfl⟩:=Dw.1 (Tz.1 hq)
        exact Dw.2 ⟨p,List.mem_of_mem_take hp,q',hq',rfl⟩
       ·have:=List.mem_of_mem_take hq
        obtain⟨y',hy',rfl⟩:=Xa.1 this
        exact Dw.2 ⟨x,HXM.o,y',qoX.o y' hy',by simp⟩) (by omega))
      clear h4;go_wp2_with fail
      go_ret2
      exact⟨qpI.o,by rw[HOV.o];rfl⟩
    ·have pa:j=nb:=by omega
     have qoZ:=Lh (show Rp L (Ue k (a.take (i+1)) b) by
      have:=pZ.o
      rw[rR (l:=Vf k x b) (by rw[aT,pa];exact Yi HRL.o.symm),HXR.o,<-HXP.o] at this
      exact this)
     have HNE:=Lh (show N<=(i+1)*nb by have:=HNJ.o;have:=qgX.o;rw[Nat.add_mul,Nat.one_mul];omega);clear pa pZ;go_wp2_with fail;exact⟨⟨i+1,N,L,by omega,by go_num,HST.o,qoZ.o,HL.o,HNE.o,HBR.o⟩,by simp[intOf];omega⟩
 ·have pb:i=na:=by omega
  have fI:=Lh (show Ea (k:Int) a b=some (Uw L) by
   have:=pZ.o
   rw[pb,HLA.o,Qd (Ya _)] at this
   exact this.full (fun z=>Tz) HL.o)
  obtain⟨v,ho,hown⟩:=HST.o.o;have c9:=Vo ho;obtain⟨A9,c8,rfl,_,_⟩:=Zo hown;have HFT:=Lh (show nM L from fun z hz=>by
   obtain⟨p,hp,q,hq,rfl⟩:=Dw.1 (Tz.1 ((pZ.o.2 z).1 hz))
   rw[Qq]
   unfold maxLen
   simp
   omega)
  have HO:=Lh hown;clear ho hown;go_wp2_with fail;refine (qX _ _ L _ (cX HFT.o HO.o) (by have:=HL.o;omega)).mono ?_;rintro e w5 ⟨v5,rfl,h5,hb5⟩;have HO5:=Lh (Fr h5 HBR.o.size);have HB5:=Lh (HBR.o.trans (hb5.mono HBR.o.size));obtain⟨A5,c5,rfl,_,_⟩:=Zo h5;clear h5 hb5;go_wp2_with fail
  go_ret2
  refine⟨HB5.o,?_⟩;rw[fI.o];exact⟨_,rfl,HO5.o⟩
end Go.Proofs.YtmaojnmnbpomeaaGreatDoor
