/- A part. -/
import Derived.Test.YtmaojnmnbpomeaaGreatDoorVO11
import Derived.RangeFuncNested
import Derived.RangeFuncBound
set_option maxRecDepth 100000
set_option maxHeartbeats 64000000
namespace Go.Proofs.YtmaojnmnbpomeaaGreatDoor
open Go.RowKit
def eF(n:Int)(s:Wd):Bool:=s.all fun c=>decide ((c.toNat:Int)<n)
def Ok(n k:Int)(s:Wd):Bool:=eF n s&&decide ((s.length:Int)<=k)
theorem xz{n:Int}{s:Wd}{i:Nat}(h:i<s.length):eF n (s.take (i+1))=(eF n (s.take i)&&decide ((s[i].toNat:Int)<n)):=by
 unfold eF;rw[Qc h,List.all_append];simp
theorem qeG{n:Int}{s:Wd}{i:Nat}(h:i<s.length)(hb:¬ ((s[i].toNat:Int)<n)):eF n s=false:=by
 unfold eF;rw[List.all_eq_false];exact⟨s[i],Qg h,by simpa using hb⟩
theorem wT(s:Wd)(n k:Int)(w:World)(hs:s.length<=maxLen):Calls Tryz.prog 108 #[wv s,.int .i64 n,.int .i64 k] w fun e w'=>e=.returned (.bool (Ok n k s))/\Below w.heap.size w w':=by
 obtain⟨W,cw,hcv,hbW,hsW,hrd⟩:=qoV (P:=Tryz.prog) w 9 114 5 ⟨s.toArray⟩ Tryz.underlying9 Tryz.underlying114 Tryz.underlying5;rw[Sf] at hcv;have yM:Hid (Rd W (w.heap.size+1) (some ⟨w.heap.size,0,none⟩) (Re s)):=hrd;have HBW:=Lh hbW;have hz:=Sf s;obtain⟨n0,hn0⟩:=Xe s.length;rw[<-hn0] at hcv hz hs;unfold maxLen at hs;have HN:=Lh hn0;have HLK:=Lh (show Ok n k s=(eF n s&&decide ((n0:Int)<=k)) by unfold Ok;rw[hn0]);clear hrd hbW hsW hn0;go_enter Tryz.func108,Tryz.ntmps108;go_wp2_with fail;go_loopg [12] n0 (fun left v12 wr=>∃ i:Nat,i<=n0/\n0 - i<=left/\v12=.int .i64 i/\wr=W/\Hid (eF n (s.take i)=true));exact⟨0,by omega,by omega,rfl,rfl,rfl⟩;obtain⟨i,hi,Vt,rfl,rfl,HO⟩:=hrel;by_cases Sb:i<n0
 ·have Vq:i<s.length:=by rw[<-HN.o];exact Sb
  obtain⟨bb,bo,qg,kO,hcb⟩:=yM.o.byte Vq;injection qg with qg;injection qg with e1 e2;subst e1 e2;rw[Yp] at hcb;have HT:=Lh (xz (n:=n) Vq);have Mv:=Lh (qeG (n:=n) Vq);have Ta:=s[i].toNat_lt;obtain⟨x,hx,Hn,hx3⟩:∃ x:Int,((s[i].toNat:Nat):Int)=x/\0<=x/\x<256:=⟨_,rfl,by omega,by omega⟩;rw[hx] at hcb HT Mv;clear hx Ta Vq;by_cases hxn:x<n
  ·have hd:decide (n<=x)=false:=by simpa using hxn
   go_wp2_with fail;go_roundg (gk - 1);exact⟨i+1,by omega,by omega,by go_num,rfl,by show _=_;rw[HT.o,HO.o];simpa using hxn⟩;omega
  ·have hd:decide (n<=x)=true:=by simpa using hxn
   go_wp2_with fail;go_ret;exact⟨Kd (Zm (by rw[HLK.o,Mv.o hxn];rfl)),HBW.o⟩
 ·have HF:=Lh (show eF n s=true by
   have:=HO.o
   rwa [Qd (by rw[<-HN.o];omega)] at this)
  go_wp2_with fail;go_ret;exact⟨Kd (Zm (by rw[HLK.o,HF.o];simp)),HBW.o⟩
theorem jbE(a b:Wr):(decide (a.1=b.1)&&decide (a.2.1=b.2.1)&&decide (a.2.2=b.2.2))=decide (a=b):=by
 obtain⟨a1,a2,a3⟩:=a;obtain⟨b1,b2,b3⟩:=b;simp[Bool.and_assoc]
theorem qhK(A B:Option Addr)(ca cb:Nat)(xs ys:List Wr)(w:World)(ha:Jb An w w.heap.size (.slice A xs.length ca) xs)(hb:Jb An w w.heap.size (.slice B ys.length cb) ys) :
  Calls Tryz.prog 121 #[.slice A xs.length ca,.slice B ys.length cb] w fun e w'=>e=.returned (.bool (decide (xs=ys)))/\Below w.heap.size w w':=by
 have HA:=Lh ha;have HB:=Lh hb;have h1:=ha.n_le;have h2:=hb.n_le;by_cases hl:xs.length=ys.length
 ·rw[<-hl] at HB h2 |-;obtain⟨n,hn⟩:=Xe xs.length;rw[<-hn] at HA HB h1 h2 |-;have HN:=Lh hn;have Ci:=Lh (hn.trans hl);clear ha hb hl hn;go_enter Tryz.func121,Tryz.ntmps121;go_wp2_with fail;go_loopg [13] n (fun left v13 wr=>∃ i:Nat,i<=n/\n - i<=left/\v13=.int .i64 i/\Hid (xs.take i=ys.take i)/\Hid (Below w.heap.size w wr));exact⟨0,by omega,by omega,rfl,by simp[Hid],Xr _ _⟩;obtain⟨i,hi,Vt,rfl,HE,HBR⟩:=hrel;by_cases Sb:i<n
  ·have Ge:i<xs.length:=by rw[<-HN.o];exact Sb
   have Gn:i<ys.length:=by rw[<-Ci.o];exact Sb
   obtain⟨b1,o1,rfl,-,hb1,a0,a1,a2,-⟩:=(HA.o.below HBR.o).rowAt Ge;obtain⟨b2,o2,rfl,-,Zy,c0,c1,c2,-⟩:=(HB.o.below HBR.o).rowAt Gn;have HT:=Lh (Qc Ge);have HT2:=Lh (Qc Gn);have Oj:=Lh (Qa Ge);have bX:=Lh (Qa Gn);obtain⟨x,hx⟩:=Xe (xs[i]);obtain⟨y,hy⟩:=Xe (ys[i]);rw[<-hx] at a0 a1 a2 HT Oj;rw[<-hy] at c0 c1 c2 HT2 bX;clear hx hy Ge Gn;obtain⟨xa,xs1,xi⟩:=x;obtain⟨ya,ys1,yi⟩:=y;simp only at a0 a1 a2 c0 c1 c2;go_wp2_with fail;refine Text.wp_text [8] (by kernel_rfl) (by kernel_rfl) (fun Q' hQ'=>?_);go_wp2_with fail
   all_goals refine⟨by rfl,?_⟩
   case isTrue.isTrue.isTrue =>
    rename_i g1 g2 g3;subst g1 g2 g3;go_wp2_with fail;go_roundg (gk - 1);exact⟨i+1,by omega,by omega,by go_num,by show _=_;rw[HT.o,HT2.o,HE.o],HBR.o.drew⟩;omega
   all_goals
    have HNE:=Lh (show ¬ xs=ys by
     intro e
     have e2:=Oj.o.symm.trans ((congrArg (fun l:List Wr=>l[i]?) e).trans bX.o)
     injection e2 with e2
     injection e2 with e2 e3
     injection e3 with e3 e4
     contradiction)
    go_wp2_with fail;go_ret;exact⟨Kd (Zm (by rw[eq_comm,Yj];exact HNE.o)),HBR.o.drew⟩
  ·have HF:=Lh (show xs=ys by
    have:=HE.o
    rwa [Qd (by rw[<-HN.o];omega),Qd (by rw[<-Ci.o];omega)] at this)
   go_wp2_with fail;go_ret;exact⟨Kd (Zm (by rw[HF.o];simp)),HBR.o⟩
 ·have hd:((xs.length:Int) != ys.length)=true:=by simpa using (show ¬ (xs.length:Int)=ys.length by omega)
  have HL:=Lh hl;clear hl;go_enter Tryz.func121,Tryz.ntmps121;go_wp2_with fail;go_ret;exact⟨Kd (Zm (by rw[eq_comm,Yj];intro h;exact HL.o (congrArg List.length h))),by go_grown⟩
theorem qdQ(A B:Option Addr)(ca cb:Nat)(xs ys:List Wr)(w:World)(ha:Jb An w w.heap.size (.slice A xs.length ca) xs)(hb:Jb An w w.heap.size (.slice B ys.length cb) ys) :
  Calls Tryz.prog 63 #[.slice A xs.length ca,.slice B ys.length cb] w fun e w'=>e=.returned (.bool (decide (xs=ys)))/\Below w.heap.size w w':=by
 have HE:=Lh (qhK A B ca cb xs ys w ha hb);clear ha hb;go_enter Tryz.func63,Tryz.ntmps63;go_wp2_with fail;refine HE.o.mono ?_;rintro e w1 ⟨rfl,hb1⟩;go_wp2_with fail;go_ret;exact⟨rfl,hb1⟩
theorem qaT:Ev Tryz.prog 28 81 3 32 (.agg #[.int .i64 0,.string ⟨#[]⟩,.int .i64 0]):=Sv (by kernel_rfl) (by kernel_rfl) rfl (by omega)
def Wg(xs:List Wr):List Value:=(xs.map Tg).flatten
theorem nT(xs:List Wr)(x:Wr):Wg (xs++[x])=Wg xs++Tg x:=by simp[Wg]
theorem sI(xs:List Wr):(Wg xs).length=xs.length*3:=by
 induction xs with
 |nil=>rfl
 |cons x l ih=>unfold Wg at *;rw[List.map_cons,List.flatten_cons,Qe,ih,Qu];simp;omega
def qqZ(xs:List Wr):Prop:=∀ x∈xs,(-9223372036854775808<=x.1/\x.1<=9223372036854775807)/\x.2.1.length<=maxLen/\(-9223372036854775808<=x.2.2/\x.2.2<=9223372036854775807)
theorem qaQ{w:World}{base:Nat}{t:TypeId}{v:Value}{xs:List Wr}(hf:qqZ xs)(h:w.ownsRow base t 3 v xs.length (Wg xs)):Jb An w w.heap.size v xs:=by
 obtain⟨A,c,rfl,h1,h2⟩:=Zk h;refine⟨A,c,xs.map Tg,rfl,h1,h2,by simp,Rd.of_own h,fun i cs x hc hx=>?_⟩;rw[Qv,hx] at hc;injection hc with hc;subst hc;obtain⟨⟨a1,a2⟩,a3,a4,a5⟩:=hf x (Qp hx);exact qvR a1 a2 a3 a4 a5
theorem Jb.fitR{w:World}{B:Nat}{v:Value}{xs:List Wr}(h:Jb An w B v xs):qqZ xs:=by
 obtain⟨A,c,css,e,h1,h2,h3,h4,h5⟩:=h;intro x hx;obtain⟨i,hi,rfl⟩:=Qz hx;exact (mI (h5 i _ _ (Qa (by omega)) (Qa hi))).2
def Wj(left:Int)(xs:List Wr):List Wr:=xs.filter fun x=>decide (x.1=left)
theorem od(left:Int)(xs:List Wr)(k:Nat)(h:k<xs.length):Wj left (xs.take (k+1))=Wj left (xs.take k)++if xs[k].1=left then [xs[k]] else []:=by
 unfold Wj;rw[Qc h,List.filter_append];congr 1;by_cases hb:xs[k].1=left <;> simp[hb]
theorem qeS(left:Int)(xs:List Wr)(k:Nat):(Wj left (xs.take k)).length<=k:=by
 unfold Wj;refine Ya (List.length_filter_le _ _) ?_;rw[Qq];omega
def OwnRows(w:World)(l:List Wr)(e:Ending)(w':World):Prop:=∃ v,e=.returned v/\w'.ownsRow w.heap.size 81 3 v l.length (Wg l)/\Below w.heap.size w w'
theorem qtR(v:Value)(left:Int)(xs:List Wr)(w:World)(hv:Jb An w w.heap.size v xs)(hr:xs.length<=1048576) :
  Calls Tryz.prog 47 #[v,.int .i64 left] w (OwnRows w (Wj left xs)):=by
 obtain⟨A,c,rfl,oM,oL⟩:=hv.form;unfold maxLen at oL;go_enter Tryz.func47,Tryz.ntmps47;go_wp2_with fail;go_loopw [5,10] (fun v5 v10 wr=>∃ k:Nat,k<=xs.length/\v10=.int .i64 k/\wr.ownsRow w.heap.size 81 3 v5 (Wj left (xs.take k)).length (Wg (Wj left (xs.take k)))/\Below w.heap.size w wr) (fun _ v10 _=>xs.length - (intOf v10).toNat);exact⟨0,by omega,rfl,by simpa[Wj,Wg] using Yx _ _ _ _,by go_grown⟩;obtain⟨k,hk,rfl,hown,hbr⟩:=hrel;by_cases Jo:k<xs.length
 ·obtain⟨b1,o1,rfl,-,hb1,a0,a1,a2,-⟩:=(hv.below hbr).rowAt Jo;have hsn:=Lh (od left xs k Jo);have hle:=qeS left xs k;have hbs:=hbr.size;obtain⟨x,hx⟩:=Xe (xs[k]);rw[<-hx] at a0 a1 a2 hsn;clear hx;obtain⟨xa,xs1,xi⟩:=x;simp only at a0 a1 a2;by_cases hq:xa=left
  ·have hqb:(xa==left)=true:=by simp[hq]
   have HQ:=Lh hq;clear hq;go_wp2_with (at_builtin;refine Ja (m:=1) qaT rfl rfl rfl rfl ((hown.alloc _).alloc _) (Rd.row (B:=wr.heap.size+2) (Fo wr _ _) (by omega)) rfl (by simp[Value.oneCell']) ?h63 ?hby ?hbase ?_)
   case h63=>simp only[maxLen];omega
   case hby=>omega
   case hbase=>omega
   intro v1 w3 St mA _ _;go_wp2;go_roundw
   case rel =>
    refine⟨k+1,by omega,by go_num,?_,?_⟩
    ·rw[hsn.o,if_pos HQ.o];rw[nT,Qe];exact St
    ·exact Zr ((hbr.alloc hbs _).alloc (by simp;omega) _) mA ((hown.alloc _).alloc _) (Xz _) (by simp;omega)
   case measure=>simp[intOf];omega
  ·have hqb:(xa==left)=false:=by simp[hq]
   have HQ:=Lh hq;clear hq;go_wp2_with fail;go_roundw;exact⟨k+1,by omega,by go_num,by rw[hsn.o,if_neg HQ.o,List.append_nil];exact hown.alloc _,hbr.alloc hbs _⟩;simp[intOf];omega
 ·have Dl:k=xs.length:=by omega
  subst Dl;rw[List.take_length] at hown;go_wp2_with fail;go_ret;exact⟨_,rfl,hown,hbr⟩
open Go.RowKit Go.Sort
theorem sJ:∀(ks:List Wr)(t:Nat),t<ks.length*3->(Wg ks)[t]? = some ((Tg (ks.toArray[t/3]!))[t%3]!)
 |[],t,h=>by simp at h
 |k::r,t,h=>by
  unfold Wg;rw[List.map_cons,List.flatten_cons];by_cases ht:t<3
  ·rw[Qo (by exact ht),Nat.div_eq_of_lt ht,Nat.mod_eq_of_lt ht];have hl:t<(Tg k).length:=ht;rw[Qa hl];simp only[List.getElem!_toArray,List.getElem!_cons_zero];rw[getElem!_pos (Tg k) t hl]
  ·rw[Qn (by simp only[Tg,Qu,List.length_nil];omega)];have ih:=sJ r (t - 3) (by rw[Qu,Nat.add_mul] at h;omega);unfold Wg at ih;rw[show t - (Tg k).length=t - 3 from rfl,ih];have e1:t/3=(t - 3)/3+1:=by omega
   have e2:t%3=(t - 3)%3:=by omega
   rw[e1,e2];have Jo:(t - 3)/3<r.length:=by rw[Qu,Nat.add_mul] at h;omega
   simp[Jo]
theorem uH(ks:List Wr):(flatK Tg 3 ks.toArray).toList=Wg ks:=by
 apply List.ext_getElem?;intro t;by_cases h:t<ks.length*3
 ·rw[sJ ks t h,Array.getElem?_toList];have h':t<ks.toArray.size*3:=by simpa using h
  have hs:t<(flatK Tg 3 ks.toArray).size:=by rw[size_flatK];exact h'
  have:=get_flatK Tg 3 ks.toArray t h';rw[getElem!_pos _ t hs] at this;rw[Array.getElem?_eq_getElem hs,this]
 ·rw[Xf (by rw[Array.length_toList,size_flatK];simpa using h),Xf (by rw[sI];omega)]
theorem oz(x y:Wr):ltOf fR x y=true↔Mh x y:=by
 unfold ltOf;rw[Yi];exact qaV x y
theorem lQ(x y:Wr):ltOf fR x y=false↔¬ Mh x y:=by
 rw[<-oz,Bool.not_eq_true]
theorem qdW{a a' b:Wr}(h:Wk a=Wk a')(hl:Mh a b):Mh a' b:=by
 unfold Wk at h;injection h with h1 h2;unfold Mh at *;rw[<-h1,<-h2];exact hl
theorem zpW:SWO (ltOf fR) where
 irrefl:=fun x=>by rw[lQ];exact fun h=>iP h rfl
 trans:=fun x y z h1 h2=>by rw[oz] at *;exact aR h1 h2
 ntrans:=fun x y z h1 h2=>by
  rw[lQ] at *;intro h;rcases zG x y with h3 | h3 | h3
  ·exact h1 h3
  ·exact h2 (qdW h3 h)
  ·exact h2 (aR h3 h)
theorem zx{w:World}{g:Nat}{cur:Array Value}{e:TypeId}{ks:List Wr}(hb:w.heap[g]? = some (.cells cur e (0,0)))(ht:cur.toList.take (ks.length*3)=Wg ks):HoldsK Tg 3 w g 0 ks.toArray:=by
 intro j hj;have Hp:j<ks.length*3:=by simpa using hj
 refine⟨?_,by simp[World.frozen?,hb]⟩;have h1:(cur.toList.take (ks.length*3))[j]? = (flatK Tg 3 ks.toArray).toList[j]? := by rw[ht,uH]
 rw[List.getElem?_take_of_lt Hp,Array.getElem?_toList,Array.getElem?_toList,Array.getElem?_eq_getElem hj] at h1;rw[getElem!_pos _ j hj];simp only[World.cell?,hb,Yp];simp only[Option.isSome_none,Bool.false_eq_true,if_false];rw[h1];rfl
theorem fw{w:World}{g n:Nat}{os:Array Obj}{cur:Array Value}{e:TypeId}{fr:Nat×Nat}(F:Array Value)(hb:w.heap[g]? = some (.cells cur e fr)) :
  (Go.Sort.grow (putRow id (Sort.ahead w n) g 0 F) os).heap[g]? = some (.cells (putCells id 0 F cur) e fr):=by
 have hg:g<w.heap.size:=(gl hb);rw[heap_grow_old _ _ (by simpa using hg)];simp[putRow,mapBlock,Sort.ahead,Xx,hb,onCells]
theorem pN{w:World}{g n:Nat}{os:Array Obj}(F:Array Value):w.grownBy (Go.Sort.grow (putRow id (Sort.ahead w n) g 0 F) os) (some g):=by
 refine⟨rfl,rfl,rfl,by simp,fun k hk hne=>?_⟩;rw[heap_grow_old _ _ (by simpa using hk)];have:g≠k:=fun e=>hne (by rw[e]);simp[putRow,mapBlock,Sort.ahead,Xx,this]
theorem rF(cur F:Array Value)(h:F.size<=cur.size):(putCells id 0 F cur).toList.take F.size=F.toList:=by
 apply List.ext_getElem?;intro j;by_cases hj:j<F.size
 ·rw[List.getElem?_take_of_lt hj,Array.getElem?_toList];simp[putCells,hj,show j<cur.size by omega]
 ·rw[List.getElem?_take_eq_none (by omega),Xf (by simp;omega)]
theorem qfN(w:World):(isAgg 81).run Tryz.prog w=.ok true w:=by kernel_rfl
theorem vv(w:World):(Go.sizeOf 81).run Tryz.prog w=.ok 3 w:=by kernel_rfl
def s_(base:Nat)(v:Value)(ks:List Wr)(w:World)(w':World):Prop :=
 ∃ ks':List Wr,ks'.Perm ks/\ks'.Pairwise (fun a b=>¬ Mh b a)/\w'.ownsRow base 81 3 v ks'.length (Wg ks')/\w.grownBy w' v.ownBlock
theorem dw(base:Nat)(A:Option Addr)(c:Nat)(ks:List Wr)(w:World)(h:w.ownsRow base 81 3 (.slice A ks.length c) ks.length (Wg ks))(hn:ks.length<4611686018427387904) :
  Calls Tryz.prog 41 #[.slice A ks.length c,.func (.func 42) #[] #[]] w fun e w'=>e=.returned (.tuple #[])/\s_ base (.slice A ks.length c) ks w w':=by
 have eg:∀ args w,(callFunc 42 args).run Tryz.prog w=.ok (.enter 42 args) w:=enters_of Tryz.func42 (by kernel_rfl) rfl;have HH:=Lh h;rcases HH.o.2 with ⟨xZ,h0⟩ | ⟨g,cap,cur,hv,hbase,hb,h1,h2,h3,h4⟩
 ·injection xZ with e1 e2 e3;subst e1;rw[h0];refine (AnyF.slices_SortFunc_none { Tryz.sortLay with } none c _ w).mono fun e w' ⟨he,hw⟩=>⟨he,ks,List.Perm.refl _,?_,?_,?_⟩
  ·rw[Xv h0];exact List.Pairwise.nil
  ·subst hw;have:=HH.o;rw[h0] at this;rw[h0];exact this
  ·subst hw;exact⟨rfl,rfl,rfl,Xz _,fun _ _ _=>rfl⟩
 ·injection hv with e1 e2 e3;subst e1 e3;have hH:=zx hb h4;have hgl:g<w.heap.size:=(gl hb);have:=AnyQ.slices_SortFunc Tryz.sortLay 3 qfN vv Tg (fun _=>rfl) (fun k u hu=>by simp only[Tg,List.mem_cons,List.not_mem_nil,or_false] at hu;rcases hu with rfl | rfl | rfl <;> rfl) fR zpW 42 #[] g 0 c ks.toArray w eg (fun m os dk hdk x y=>(zP x y _).mono fun e w' ⟨he,hb,hd⟩=>⟨he,tY hb hd⟩) hH hgl (by simpa using hn);simp only[List.size_toArray] at this;refine Calls.mono this fun e w' ⟨he,d',n,os,hp,hs,hw⟩=>⟨he,d'.toList,?_,?_,?_,?_⟩
  ·obtain⟨p1,_,p3⟩:=hp;have e1:d'.extract 0 ks.length=d':=by
    apply Array.extract_eq_self_of_le;rw[p1];simp
   have e2:ks.toArray.extract 0 ks.length=ks.toArray:=by
    apply Array.extract_eq_self_of_le;simp
   rw[e1,e2] at p3;simpa using p3
  ·rw[List.pairwise_iff_getElem];intro i j hi hj hij;have Fd:d'.size=ks.length:=by rw[hp.1];simp
   have:=hs i j (Ye _) hij (by rw[<-Fd];simpa using hj);rw[lQ] at this;have Hp:j<d'.size:=by simpa using hj
   have hi':i<d'.size:=by simpa using hi
   rw[getElem!_pos d' j Hp,getElem!_pos d' i hi'] at this;simpa using this
  ·have Fd:d'.toList.length=ks.length:=by rw[Array.length_toList,hp.1];simp
   subst hw;have hF:(flatK Tg 3 d')=(flatK Tg 3 d'.toList.toArray):=by simp
   rw[Fd];refine⟨by rw[sI,Fd],.inr ⟨g,c,_,rfl,hbase,fw _ hb,h1,h2,by simp[putCells,h3],?_⟩⟩;have hfs:(flatK Tg 3 d').size=ks.length*3:=by rw[size_flatK,hp.1];simp
   have:=rF cur (flatK Tg 3 d') (by rw[hfs,h3];exact Nat.mul_le_mul_right 3 h1);rw[hfs] at this;rw[this,hF,uH]
  ·subst hw;exact pN _
structure aD(N0:Nat)(w w':World):Prop where
 below:Below N0 w w'
 size:w.heap.size<=w'.heap.size
 typed:∀(g:Nat)(cs:Array Value)(t:TypeId)(fr:Nat×Nat),w.heap[g]? = some (.cells cs t fr)->t≠85->t≠32->w'.heap[g]? = some (.cells cs t fr)
theorem aD.refl(N0:Nat)(w:World):aD N0 w w:=⟨Xr _ _,Xz _,fun _ _ _ _ h _ _=>h⟩
theorem aD.trans{N0:Nat}{w w1 w2:World}(h:aD N0 w w1)(h2:aD N0 w1 w2):aD N0 w w2:=⟨h.below.trans h2.below,Ya h.size h2.size,fun g cs t fr hg h3 h4=>h2.typed g cs t fr (h.typed g cs t fr hg h3 h4) h3 h4⟩
theorem aD.of_below{N0:Nat}{w w':World}(h:Below w.heap.size w w')(hN:N0<=w.heap.size):aD N0 w w':=⟨h.mono hN,h.size,fun _ _ _ _ hg _ _=>(h.block _ (gl hg)).trans hg⟩
def Ur:List Nat->List (Nat×Nat)
 |[]=>[]
 |a::l=>l.map (fun b=>(a,b))++Ur l
def zjV{σ:Type}(F:FuncId)(cap:Array Value)(l:List Nat)(N0:Nat)(f:σ->Nat×Nat->σ)(s0:σ)(I:σ->World->Prop):Prop :=
 ∀(pre post:List (Nat×Nat))(w1:World)(a b:Nat),Ur l=pre++(a,b)::post->a∈l->b∈l->I (pre.foldl f s0) w1->N0<=w1.heap.size->Calls Tryz.prog F (#[.int .i64 a,.int .i64 b]++cap) w1 fun e w2=>e=.returned (.tuple #[])/\I (f (pre.foldl f s0) (a,b)) w2/\aD N0 w1 w2
def Hu{σ:Type}(l:List Nat)(f:σ->Nat×Nat->σ)(s0 s:σ)(rest:List (Nat×Nat)):Prop:=∃ pre,s=pre.foldl f s0/\Ur l=pre++rest
theorem Hu.next{σ:Type}{l:List Nat}{f:σ->Nat×Nat->σ}{s0 s:σ}{p:Nat×Nat}{rest:List (Nat×Nat)}(h:Hu l f s0 s (p::rest)):Hu l f s0 (f s p) rest:=by
 obtain⟨pre,rfl,h⟩:=h;exact⟨pre++[p],by simp,by simp[h]⟩
theorem Hu.done{σ:Type}{l:List Nat}{f:σ->Nat×Nat->σ}{s0 s:σ}(h:Hu l f s0 s []):s=(Ur l).foldl f s0:=by
 obtain⟨pre,rfl,h⟩:=h;rw[h,List.append_nil]
theorem ym(rs:Zq)(left:Int):Ir rs left rs.length=(Wc rs left).map fun i:Nat=>(i:Int):=rfl
theorem qeD{σ:Type}(F:FuncId)(cap:Array Value)(hF:∀(args:Array Value)(w:World),(callFunc F args).run Tryz.prog w=.ok (.enter F args) w)(f:σ->Nat×Nat->σ)(I:σ->World->Prop){A1 A2 A3:Option Addr}{n m q c1 c2 c3 N0:Nat}{g:Jw}(left:Int)(s0:σ)(w:World)
  (h:Wz w w.heap.size A1 A2 A3 n m q c1 c2 c3 g) (hN:N0<=w.heap.size) (hI:∀ s w1 w2,I s w1->Below w1.heap.size w1 w2->I s w2) (h0:I s0 w) (eJ:zjV F cap (Wc g.2.2 left) N0 f s0 I) :
  Calls Tryz.prog 92 #[Nr A1 A2 A3 n m q c1 c2 c3,.int .i64 left,.func (.func F) #[] cap] w fun e w'=>e=.returned (.tuple #[])/\I ((Ur (Wc g.2.2 left)).foldl f s0) w'/\aD N0 w w':=by
 have Wu:=(Xr w.heap.size w).alloc (Xz _) (.cells #[.slice A1 n c1,.slice A2 m c2,.slice A3 q c3] 25);have HZ:=Lh (Xs w (.cells #[.slice A1 n c1,.slice A2 m c2,.slice A3 q c3] 25));have HV:=Lh (h.fut (B':=w.heap.size+1) Wu (Xz _) (by omega));have HBX:=Lh Wu;have HI:=Lh hI;have HI1:=Lh (hI _ _ _ h0 Wu);have HF:=Lh hF;have HS:=Lh eJ;have qE:=h.small;have HQ:=Lh h.ln.2.2;have HLE:=Lh (show (Wc g.2.2 left).length<=1048576 by
  unfold Wc
  refine Ya (List.length_filter_le _ _) ?_
  rw[List.length_range,<-h.ln.2.2]
  exact qE.2.2)
 clear h Wu hI h0 hF eJ;go_enter Tryz.func92,Tryz.ntmps92;go_wp2_with fail;generalize w.alloc (.cells #[.slice A1 n c1,.slice A2 m c2,.slice A3 q c3] 25)=w1 at *;refine (ib A1 A2 (.slice A3 q c3) n m c1 c2 left g.2.2 w1 (by rw[HZ.o];exact HV.o.rules) (by rw[<-HQ.o];omega)).mono ?_;rintro e w2 ⟨v,rfl,hown,Zy⟩;rw[ym] at hown;obtain⟨l,hl⟩:=Xe (Wc g.2.2 left);rw[<-hl] at hown HLE;have HLL:=Lh hl;have HI2:=Lh (HI.o _ _ _ HI1.o Zy);have nA:=Lh (aD.of_below (HBX.o.trans (Zy.mono (by rw[HZ.o];omega))) hN);have HO:=Lh hown;rw[Qk] at HO hown;obtain⟨nl,eM⟩:=Xe l.length;rw[<-eM] at HO HLE hown;have wC:=Lh eM;obtain⟨Sz,dO⟩:=Xe ((Ur l).foldl f s0);have HTOT:=Lh dO;have Up:Hid (∀(e:Ending)(w':World),e=.returned (.tuple #[])->I Sz w'->aD N0 w w'->e=.returned (.tuple #[])/\I ((Ur (Wc g.2.2 left)).foldl f s0) w'/\aD N0 w w'):=by
  intro e w' h1 h2 h3;rw[<-HLL.o,<-HTOT.o];exact⟨h1,h2,h3⟩
 rcases hown.2 with ⟨rfl,hz⟩ | ⟨gl,zjQ,cur,rfl,hbase,hgl,tT,Pj,hl3,hl4⟩
 ·have HT0:=Lh (show Sz=s0 by
   rw[dO,(Xv (by rw[<-eM];exact hz):l=[])]
   rfl)
  have hnl0:nl=0:=hz;clear hown Zy hl eM dO hz;go_wp2_with fail;go_loopg [16] 0 (fun lft kr wr=>kr=.int .i64 0/\wr=w2);exact⟨rfl,rfl⟩;obtain⟨rfl,rfl⟩:=hrel;go_wp2_with fail
  go_end0
  exact Up.o _ _ rfl (by rw[HT0.o];exact HI2.o) nA.o
 ·have HGL:=Lh hgl;have zlU:Hid (∀(w':World),w'.heap[gl]? = some (.cells cur 3 (0,0))->∀ i (hi:i<l.length),w'.cell? ⟨gl,i,none⟩=some (.int .i64 ((l[i]:Nat):Int))):=by
   intro w' hw i hi;rw[Za w' gl i _ _ _ hw,<-Array.getElem?_toList];have:(cur.toList.take (nl*1))[i]? = cur.toList[i]? := List.getElem?_take_of_lt (by omega);rw[<-this,hl4];simp[Ks,hi]
  have hle:=HLE.o;clear hown Zy hl eM dO hgl hl4;go_wp2_with fail;go_loopg [16] nl (fun lft kr wr=>∃(i:Nat)(s:σ),i<=nl/\nl - i<=lft/\kr=.int .i64 i/\Hid (Hu l f s0 s (Ur (l.drop i)))/\Hid (I s wr)/\Hid (aD N0 w2 wr));exact⟨0,s0,by omega,by omega,rfl,⟨[],rfl,rfl⟩,HI2.o,aD.refl _ _⟩;clear HI2;obtain⟨i,s,hi,pw,rfl,HTI,HIS,HCA⟩:=hrel;obtain⟨gas,Ue⟩:=Xe gk;rw[<-Ue] at pw;have HGK:=Lh Ue;clear Ue;have mA:=HCA.o.typed gl cur _ _ HGL.o (by decide) (by decide);by_cases Mq:i<nl
  ·have Vq:i<l.length:=by rw[<-wC.o];exact Mq
   have Vi:=zlU.o _ mA i Vq;have Tn:=Lh (Qg Vq);have HTI2:=Lh (show Hu l f s0 s (((l.drop (i+1)).map fun b=>(l[i],b))++Ur (l.drop (i+1))) by have:=HTI.o;rwa [Ql Vq] at this);obtain⟨a,ha⟩:=Xe (l[i]);rw[<-ha] at Vi Tn HTI2;clear ha Vq mA HTI;by_cases J_:zjQ=i+1
   ·have hni:nl=i+1:=by omega
    have HTI3:=Lh (show Hu l f s0 s (Ur (l.drop (i+1))) by
     have:=HTI2.o
     rwa [List.drop_eq_nil_of_le (by rw[<-wC.o];omega)] at this |-)
    subst J_;subst hni;go_wp2_with fail;go_loopg [26] 0 (fun lft v26 wt=>v26=.int .i64 0/\wt=wr);exact⟨rfl,rfl⟩;obtain⟨rfl,rfl⟩:=hrel;go_wp2_with fail;go_roundg (gas - 1);exact⟨i+1,s,by omega,by omega,by go_num,HTI3.o,HIS.o,HCA.o⟩;have:=HGK.o;omega
   ·go_wp2_with fail;go_loopg [26] (nl - (i+1)) (fun lft v26 wt=>∃(j:Nat)(t:σ),j<=nl - (i+1)/\nl - (i+1) - j<=lft/\v26=.int .i64 j/\Hid (Hu l f s0 t ((((l.drop (i+1)).drop j).map fun b=>(a,b))++Ur (l.drop (i+1))))/\Hid (I t wt)/\Hid (aD N0 w2 wt));exact⟨0,s,by omega,by omega,rfl,HTI2.o,HIS.o,HCA.o⟩;clear HTI2 HIS HCA Vi;obtain⟨j,t,hj,pv,rfl,HTJ,HIT,HCA⟩:=hrel;have mA:=HCA.o.typed gl cur _ _ HGL.o (by decide) (by decide);by_cases hjn:j<nl - (i+1)
    ·have Uh:i+1+j<l.length:=by rw[<-wC.o];omega
     have hc1:=zlU.o _ mA (i+1+j) Uh;have qzA:=Lh (Qg Uh);have HTJ2:=Lh (show Hu l f s0 t ((a,l[i+1+j])::((((l.drop (i+1)).drop (j+1)).map fun b=>(a,b))++Ur (l.drop (i+1)))) by
      have hj2:j<(l.drop (i+1)).length:=by rw[Xj];omega
      have:=HTJ.o
      rwa [Ql hj2,List.map_cons,List.cons_append,List.getElem_drop] at this)
     obtain⟨b,hb⟩:=Xe (l[i+1+j]);rw[<-hb] at hc1 qzA HTJ2;clear hb Uh mA HTJ;go_wp2_with fail;rw[HF.o];obtain⟨pre,Bw,Vj⟩:=HTJ2.o;refine (HS.o pre _ _ a b (by rw[<-HLL.o];exact Vj) (by rw[<-HLL.o];exact Tn.o) (by rw[<-HLL.o];exact qzA.o) (by rw[<-Bw];exact HIT.o) (Ya hN (Ya nA.o.size HCA.o.size))).mono ?_;rw[<-Bw];clear Bw Vj;rintro e w5 ⟨rfl,hi5,hc5⟩;have HI5:=Lh hi5;have HC5:=Lh (HCA.o.trans hc5);clear hi5 hc5;go_wp2_with fail;go_roundg (gk - 1);exact⟨j+1,f t (a,b),by omega,by omega,by go_num,HTJ2.o.next,HI5.o,HC5.o⟩;omega
    ·have HTJ2:=Lh (show Hu l f s0 t (Ur (l.drop (i+1))) by
      have:=HTJ.o
      rwa [show (l.drop (i+1)).drop j=[] from List.drop_eq_nil_of_le (by rw[Xj,<-wC.o];omega)] at this)
     clear mA HTJ;go_wp2_with fail;go_roundg (gas - 1);exact⟨i+1,t,by omega,by omega,by go_num,HTJ2.o,HIT.o,HCA.o⟩;have:=HGK.o;omega
  ·have HT0:=Lh (show Sz=s by
    have:=HTI.o
    rw[List.drop_eq_nil_of_le (by rw[<-wC.o];omega)] at this
    exact HTOT.o.trans (Hu.done this).symm)
   go_wp2_with fail
   go_end0
   exact Up.o _ _ rfl (by rw[HT0.o];exact HIS.o) (nA.o.trans HCA.o)
theorem qhS:Ev Tryz.prog 32 85 4 40 (.agg #[.int .i64 0,.string ⟨#[]⟩,.int .i64 0,.int .i64 0]):=Sv (by kernel_rfl) (by kernel_rfl) rfl (by omega)
abbrev clc(x:We):List Value:=[.int .i64 x.1,wv x.2.1,.int .i64 x.2.2.1,.int .i64 x.2.2.2]
def Pp(xs:List We):List Value:=(xs.map clc).flatten
theorem ry(xs:List We)(x:We):Pp (xs++[x])=Pp xs++clc x:=by simp[Pp]
def Ce(left:Int)(sets:Zu)(s:List We)(p:Nat×Nat):List We:=s++Hl left sets p.1 p.2
def qbA(left:Int)(a b:Nat):Option Wd->List We
 |none=>[]
 |some w=>[(left,w,(a:Int),(b:Int))]
theorem qeF(left:Int)(sets:Zu)(a b:Nat):Hl left sets a b=qbA left a b (Di (sets.getD a []) (sets.getD b [])):=by
 unfold Hl qbA;cases Di (sets.getD a []) (sets.getD b []) <;> rfl
theorem qlD(left:Int)(sets:Zu)(a b:Nat):(Hl left sets a b).length<=1:=by
 unfold Hl;split <;> simp
theorem bN(left:Int)(sets:Zu):∀(l:List (Nat×Nat))(s:List We),l.foldl (Ce left sets) s=s++l.flatMap fun p=>Hl left sets p.1 p.2
 |[],s=>by simp
 |p::l,s=>by rw[List.foldl_cons,bN left sets l];simp[Ce]
theorem gM(left:Int)(sets:Zu):∀(l:List (Nat×Nat))(s:List We),(l.foldl (Ce left sets) s).length<=s.length+l.length
 |[],s=>by simp
 |p::l,s=>by
  rw[List.foldl_cons];have h1:=gM left sets l (Ce left sets s p);have h2:=qlD left sets p.1 p.2;simp only[Ce,Qe,Qu] at h1 |-;omega
theorem lD:∀ l:List Nat,(Ur l).length<=l.length*l.length
 |[]=>by simp[Ur]
 |a::l=>by
  have:=lD l;simp only[Ur,Qe,Qk,Qu,Nat.mul_add,Nat.add_mul];omega
theorem lE(left:Int)(sets:Zu):∀ l:List Nat,((Ur l).flatMap fun p=>Hl left sets p.1 p.2)=Bo left sets l
 |[]=>rfl
 |a::l=>by
  simp only[Ur,List.flatMap_append,Bo,lE left sets l,List.flatMap_map]
structure qiT(N0 GS GO GL:Nat)(A:Option Addr)(ns c:Nat)(left:Int)(sets:Zu)(s:List We)(w:World):Prop where
 hs:w.heap[GS]? = some (.cells #[.slice A ns c] 76 (0,0))
 hl:w.heap[GL]? = some (.cells #[.int .i64 left] 3 (0,0))
 ho:∃ v,w.heap[GO]? = some (.cells #[v] 32 (0,0))/\w.ownsRow N0 85 4 v s.length (Pp s)
 sl:Jb (Ro eW) w N0 (.slice A ns c) sets
 hN:N0<=w.heap.size
 hO:N0<=GO
theorem qiT.below{N0 GS GO GL:Nat}{A:Option Addr}{ns c:Nat}{left:Int}{sets:Zu}{s:List We}{w w':World}(h:qiT N0 GS GO GL A ns c left sets s w)(hb:Below w.heap.size w w'):qiT N0 GS GO GL A ns c left sets s w':=by
 obtain⟨v,h1,h2⟩:=h.ho;have l1:=(gl h.hs);have l2:=(gl h.hl);have l3:=(gl h1);exact⟨(hb.block _ l1).trans h.hs,(hb.block _ l2).trans h.hl,⟨v,(hb.block _ l3).trans h1,Jk h2 hb⟩,h.sl.below (hb.mono h.hN),Ya h.hN hb.size,h.hO⟩
theorem c_{N0 GS GO GL:Nat}{A:Option Addr}{ns c:Nat}{left:Int}{sets:Zu}{s:List We}{a b:Nat}(w:World)(h:qiT N0 GS GO GL A ns c left sets s w)(bc:s.length<=1099511627776)(ha:a<ns)(hb:b<ns)(Fd:∀ x∈sets,x.length<=1048576) :
  Calls Tryz.prog 93 #[.int .i64 a,.int .i64 b,.pointer (some ⟨GS,0,none⟩),.pointer (some ⟨GO,0,none⟩),.pointer (some ⟨GL,0,none⟩)] w fun e w'=>e=.returned (.tuple #[])/\qiT N0 GS GO GL A ns c left sets (Ce left sets s (a,b)) w'/\aD N0 w w':=by
 obtain⟨v,h1,h2⟩:=h.ho;have cS:=Vo h.hs;have cL:=Vo h.hl;have cO:=Vo h1;have HN:=h.sl.n_eq;have Tq:a<sets.length:=by omega
 have cX:b<sets.length:=by omega
 obtain⟨b1,o1,cs1,rfl,_,hb1,Eg,Kn⟩:=h.sl.get Tq (by decide);obtain⟨v1,rfl,Hw⟩:=Eg;have x1:=Kn 0 _ rfl;obtain⟨b2,o2,cs2,oL,_,Zy,Us,Je⟩:=h.sl.get cX (by decide);obtain⟨v2,rfl,oF⟩:=Us;injection oL with oL;injection oL with e1 e2;subst e1 e2;have x2:=Je 0 _ rfl;simp only[show (Ro eW).size=1 from rfl,Yq,Yo] at x1 x2;have HP:=Lh (show Ce left sets s (a,b)=s++qbA left a b (Di sets[a] sets[b]) by
  unfold Ce
  rw[qeF]
  simp only[Qb,Qa Tq,Qa cX,Option.getD_some])
 have z1:=Fd _ (Qg Tq);have z2:=Fd _ (Qg cX);obtain⟨p1,hp1⟩:=Xe (sets[a]);obtain⟨p2,hp2⟩:=Xe (sets[b]);rw[<-hp1] at HP Hw z1;rw[<-hp2] at HP oF z2;obtain⟨A3,c3,rfl,_,_⟩:=Hw.form;obtain⟨A4,c4,rfl,_,_⟩:=oF.form;have Tt:=Lh Hw;have aG:=Lh oF;have HH:=Lh h;have HO:=Lh h2;have HZ1:=Lh z1;have HZ2:=Lh z2;have bY:=Lh h.hN;clear hp1 hp2 Hw oF h h2 Kn Je Fd Tq cX z1 z2;go_enter Tryz.func93,Tryz.ntmps93;go_wp2_with fail;refine Text.wt (by kernel_rfl) fun Q' hQ'=>?_;go_wp2_with fail;have HW:=Lh (((Xr w.heap.size w).alloc (Xz _) (.cells #[.slice A3 p1.length c3,.slice A4 p2.length c4] 22)).drew);have HK:Hid ((w.alloc (.cells #[.slice A3 p1.length c3,.slice A4 p2.length c4] 22)).drew.heap[w.heap.size]? = _):=Xn w (.cells #[.slice A3 p1.length c3,.slice A4 p2.length c4] 22);have HS2:Hid ((w.alloc (.cells #[.slice A3 p1.length c3,.slice A4 p2.length c4] 22)).drew.heap.size=w.heap.size+1):=Xs w _;generalize (w.alloc (.cells #[.slice A3 p1.length c3,.slice A4 p2.length c4] 22)).drew=w2 at *;refine (b_ w.heap.size A3 A4 c3 c4 p1 p2 w2 (Xc HK.o rfl) (Xc HK.o rfl) (Tt.o.fut (HW.o.mono bY.o) (Xz _) (by rw[HS2.o];have:=bY.o;omega)) (aG.o.fut (HW.o.mono bY.o) (Xz _) (by rw[HS2.o];have:=bY.o;omega)) HZ1.o HZ2.o).mono ?_;rintro e w5 ⟨hb5,po⟩;have HB5:=Lh (HW.o.trans (hb5.mono (by rw[HS2.o];omega)));have H5:=Lh (HH.o.below HB5.o);have HC5:=Lh (aD.of_below HB5.o bY.o);cases hco:Di p1 p2 with
 |none =>
  rw[hco] at po HP;simp only at po;subst po;have HP2:=Lh (show Ce left sets s (a,b)=s by rw[HP.o];simp[qbA]);clear hco hb5;go_wp2_with fail;refine⟨by rfl,?_⟩;go_wp2_with fail
  go_end0
  exact⟨rfl,by rw[HP2.o];exact H5.o,HC5.o⟩
 |some x =>
  rw[hco] at po HP;simp only at po;subst po;have HP2:=Lh (show Ce left sets s (a,b)=s++[(left,x,(a:Int),(b:Int))] by rw[HP.o];rfl);obtain⟨l1,l2,l3⟩:GS<w.heap.size/\GL<w.heap.size/\GO<w.heap.size:=⟨(gl HH.o.hs),(gl HH.o.hl),(gl h1)⟩;have HO5:=Lh (Jk HO.o HB5.o);have HG5:=Lh ((HB5.o.block _ l3).trans h1);have HN5:=Lh (Ya bY.o HB5.o.size);clear hco hb5 cS cO cL x1 x2 l1 l2 l3 h1;have cO:=Vo HG5.o;have cL:=Vo H5.o.hl;go_wp2_with fail;refine⟨by rfl,?_⟩;go_wp2_with (at_builtin;refine Ja (m:=1) (n:=s.length) qhS rfl rfl rfl rfl (HO5.o.alloc _) (Rd.row (B:=w5.heap.size+1) (Xn w5 _) (by omega)) rfl (by simp[Value.oneCell']) (by unfold maxLen;omega) (by omega) (by rw[Xs];have:=HN5.o;omega) ?_);intro v' w7 ho7 jI hv7 _;have HT7:=Lh (show ∀(g:Nat)(cs:Array Value)(t:TypeId)(fr:Nat×Nat),w5.heap[g]? = some (.cells cs t fr)->t≠85->w7.heap[g]? = some (.cells cs t fr) from fun g cs t fr hg ht=>by
   refine Jd (HO5.o.alloc _) jI ?_ ht
   rw[Zc _ _ _ (gl hg)]
   exact hg)
  have HG7:=Lh (HT7.o _ _ _ _ HG5.o (by decide));have HB7:Hid (Below N0 w5 w7):=Zr (((Xr w5.heap.size w5).mono HN5.o).alloc HN5.o (.cells (clc (left,x,(a:Int),(b:Int))).toArray 85)) jI (HO5.o.alloc _) (Xz _) (by rw[Xs];have:=HN5.o;omega);have HS7:=Lh (show w5.heap.size<=w7.heap.size by have:=jI.size;rw[Xs] at this;omega);obtain⟨A7,c7,rfl,h71,h72⟩:=Zk ho7;have HO7:=Lh ho7;have cO7:=Vo HG7.o;have fO:w7.frozen? ⟨GO,0,none⟩=false:=by simp[World.frozen?,HG7.o]
  clear ho7 jI hv7 cO cL;go_wp2_with fail
  go_end0
  have hgo:N0<=GO:=HH.o.hO;have HT8:∀(g:Nat)(cs:Array Value)(t:TypeId)(fr:Nat×Nat),w5.heap[g]? = some (.cells cs t fr)->t≠85->t≠32->(w7.setCell ⟨GO,0,none⟩ (.slice A7 (s.length+1) c7)).heap[g]? = some (.cells cs t fr):=fun g cs t fr hg ht ht2=>by
   rw[Zb _ _ _ _ (fun e=>ht2 ?_)]
   ·exact HT7.o g cs t fr hg ht
   ·have e2:g=GO:=e;rw[e2,HG5.o] at hg;injection hg with hg;injection hg with _ hg;exact hg.symm
  have HB8:Below N0 w5 (w7.setCell ⟨GO,0,none⟩ (.slice A7 (s.length+1) c7)):=HB7.o.setCell (p:=⟨GO,0,none⟩) hgo _;have hz8:w5.heap.size<=(w7.setCell ⟨GO,0,none⟩ (.slice A7 (s.length+1) c7)).heap.size:=by have:=HS7.o;simp[World.setCell];omega
  have Wv:(w7.setCell ⟨GO,0,none⟩ (.slice A7 (s.length+1) c7)).heap[GO]? = some (.cells #[.slice A7 (s.length+1) c7] 32 (0,0)):=by
   simp only[World.setCell,Xx,if_true,HG7.o,Option.map_some];rfl
  have hown:(w7.setCell ⟨GO,0,none⟩ (.slice A7 (s.length+1) c7)).ownsRow N0 85 4 (.slice A7 (s.length+1) c7) (s.length+1) (Pp s++clc (left,x,(a:Int),(b:Int))):=World.ownsRow.kept HO7.o (cZ w7 GO 0 _) (.inr (qlE HO7.o HG7.o (by decide)));refine⟨rfl,?_,HC5.o.trans ⟨HB8,hz8,HT8⟩⟩;refine⟨HT8 _ _ _ _ H5.o.hs (by decide) (by decide),HT8 _ _ _ _ H5.o.hl (by decide) (by decide),⟨_,Wv,?_⟩,H5.o.sl.below HB8,Ya HN5.o hz8,hgo⟩;rw[HP2.o,Qe,ry];exact hown
def Aq(rs:Zq)(sets:Zu)(i:Nat):List We:=(List.range i).flatMap fun left:Nat=>Bo (left:Int) sets (Wc rs left)
theorem jR(rs:Zq)(sets:Zu)(i:Nat):Aq rs sets (i+1)=Aq rs sets i++Bo (i:Int) sets (Wc rs i):=by
 unfold Aq;rw[List.range_succ,List.flatMap_append];simp
theorem qeE(left:Int)(sets:Zu)(l:List Nat):(Bo left sets l).length<=l.length*l.length:=by
 rw[<-lE];refine Ya ?_ (lD l);have:=gM left sets (Ur l) [];rw[bN] at this;simpa using this
theorem rW(rs:Zq)(left:Int):(Wc rs left).length<=rs.length:=by
 unfold Wc;refine Ya (List.length_filter_le _ _) ?_;simp
theorem uU(rs:Zq)(sets:Zu)(hq:rs.length<=4096):∀ i,(Aq rs sets i).length<=i*16777216
 |0=>by simp[Aq]
 |i+1=>by
  rw[jR,Qe];have h1:=uU rs sets hq i;have h2:=qeE (i:Int) sets (Wc rs i);have h3:=rW rs (i:Int);have h4:(Wc rs (i:Int)).length*(Wc rs (i:Int)).length<=4096*4096:=Nat.mul_le_mul (by omega) (by omega);omega
theorem ziH(w:World)(a b c:Obj):(((w.alloc a).alloc b).alloc c).heap[w.heap.size]? = some a/\(((w.alloc a).alloc b).alloc c).heap[w.heap.size+1]? = some b/\(((w.alloc a).alloc b).alloc c).heap[w.heap.size+1+1]? = some c:=by
 refine⟨?_,?_,?_⟩
 ·rw[Zc _ _ _ (by simp;omega),Zc _ _ _ (by simp)];exact Xn w a
 ·rw[Zc _ _ _ (by simp)];exact Fo w a b
 ·have:=Fo (w.alloc a) b c
  rwa [Xs] at this
theorem rq{A1 A2 A3 A:Option Addr}{n m q c1 c2 c3 c:Nat}{g:Jw}{sets:Zu}(w:World)(h:Wz w w.heap.size A1 A2 A3 n m q c1 c2 c3 g)(hg:wD g)(hs:Jb (Ro eW) w w.heap.size (.slice A q c) sets)(Fd:∀ x∈sets,x.length<=1048576) :
  Calls Tryz.prog 40 #[Nr A1 A2 A3 n m q c1 c2 c3,.slice A q c] w fun e w'=>∃ v,e=.returned v/\w'.ownsRow w.heap.size 85 4 v (Uk g.2.2 n sets).length (Pp (Uk g.2.2 n sets))/\Below w.heap.size w w':=by
 have HG:=Lh h;have HS:=Lh hs;have qO:=Lh Fd;have qE:=h.small;have Ci:=Lh (show n<=256 by have:=hg.nm;have:=h.ln.1;omega);have HTL:=Lh (uU g.2.2 sets hg.q);have HRL:Hid (∀ left:Int,(Wc g.2.2 left).length<=4096):=fun left=>Ya (rW _ _) hg.q;have HRQ:=Lh (show ∀(left:Int)(a:Nat),a∈Wc g.2.2 left->a<q from fun left a ha=>by
  obtain⟨r,hr,_⟩:=So.1 ha
  have:=(Qj.1 hr).1
  have:=h.ln.2.2
  omega)
 clear h hs Fd hg;go_enter Tryz.func40,Tryz.ntmps40;go_wp2_with fail;obtain⟨k1,k2,k3⟩:=ziH w (.cells #[.slice A1 n c1,.slice A2 m c2,.slice A3 q c3] 25) (.cells #[.slice A q c] 76) (.cells #[.slice none 0 0] 32);have hb1:Below w.heap.size w (((w.alloc (.cells #[.slice A1 n c1,.slice A2 m c2,.slice A3 q c3] 25)).alloc (.cells #[.slice A q c] 76)).alloc (.cells #[.slice none 0 0] 32)):=by go_grown
 have Sr:(((w.alloc (.cells #[.slice A1 n c1,.slice A2 m c2,.slice A3 q c3] 25)).alloc (.cells #[.slice A q c] 76)).alloc (.cells #[.slice none 0 0] 32)).heap.size=w.heap.size+3:=by rw[Xs,Xs,Xs]
 generalize ((w.alloc (.cells #[.slice A1 n c1,.slice A2 m c2,.slice A3 q c3] 25)).alloc (.cells #[.slice A q c] 76)).alloc (.cells #[.slice none 0 0] 32)=w1 at *;have K1:=Lh k1;have K2:=Lh k2;have K3:=Lh k3;have HB1:=Lh hb1;clear k1 k2 k3 hb1 Sr;go_loopg [16] n (fun lft kr wr=>∃ i:Nat,i<=n/\n - i<=lft/\kr=.int .i64 i/\Hid (Below w.heap.size w wr)/\Hid (wr.heap[w.heap.size]? = some (.cells #[.slice A1 n c1,.slice A2 m c2,.slice A3 q c3] 25 (0,0)))/\Hid (wr.heap[w.heap.size+1]? = some (.cells #[.slice A q c] 76 (0,0))) /\
  Hid (∃ v,wr.heap[w.heap.size+1+1]? = some (.cells #[v] 32 (0,0))/\wr.ownsRow w.heap.size 85 4 v (Aq g.2.2 sets i).length (Pp (Aq g.2.2 sets i))))
 exact⟨0,by omega,by omega,rfl,HB1.o,K1.o,K2.o,_,K3.o,Yx _ _ _ _⟩;clear K1 K2 K3 HB1;obtain⟨i,hi,pw,rfl,HB,K1,K2,HO⟩:=hrel;obtain⟨vo,K3',HO'⟩:=HO.o;have K3:=Lh K3';have HOW:=Lh HO';have hle:=HB.o.size;have lK1:=(gl K1.o);have lK2:=(gl K2.o);have lK3:=(gl K3.o);obtain⟨a0,a1,a2⟩:wr.cell? ⟨w.heap.size,0,none⟩=some (.slice A1 n c1)/\wr.cell? ⟨w.heap.size,1,none⟩=some (.slice A2 m c2)/\wr.cell? ⟨w.heap.size,2,none⟩=some (.slice A3 q c3):=⟨Xc K1.o rfl,Xc K1.o rfl,Xc K1.o rfl⟩;have cO:=Vo K3.o;clear HO K3' HO';by_cases Mq:i<n
 ·have HTS:=Lh (jR g.2.2 sets i);have HTI:=Lh (HTL.o i);go_wp2_with fail;have Zy:=(Xr wr.heap.size wr).alloc (Xz _) (.cells #[.int .i64 (i:Int)] 3);have HB2:=Lh Zy;have HZ2:=Lh (Xs wr (.cells #[.int .i64 (i:Int)] 3));have HL2:=Lh (Xn wr (.cells #[.int .i64 (i:Int)] 3));have HO2:=Lh (HOW.o.alloc (.cells #[.int .i64 (i:Int)] 3));have HK2:=Lh ((Zy.block _ lK2).trans K2.o);have iD:=Lh ((Zy.block _ lK3).trans K3.o);have HK1:=Lh ((Zy.block _ lK1).trans K1.o);clear Zy a0 a1 a2 cO K1 K2 K3 HOW;generalize wr.alloc (.cells #[.int .i64 (i:Int)] 3)=w2 at *;have HBW:=Lh (HB.o.trans (HB2.o.mono hle));refine (qeD (N0:=w.heap.size) 93 #[.pointer (some ⟨w.heap.size+1,0,none⟩),.pointer (some ⟨w.heap.size+1+1,0,none⟩),.pointer (some ⟨wr.heap.size,0,none⟩)] (fun args w=>by kernel_rfl) (Ce (i:Int) sets)
   (qiT w.heap.size (w.heap.size+1) (w.heap.size+1+1) wr.heap.size A q c (i:Int) sets) (i:Int) (Aq g.2.2 sets i) w2 (HG.o.fut HBW.o (Xz _) (by rw[HZ2.o];omega)) (by rw[HZ2.o];omega) (fun s w1 w2 h hb=>h.below hb) ?_ ?_).mono ?_
  ·exact⟨HK2.o,HL2.o,⟨vo,iD.o,HO2.o⟩,HS.o.below HBW.o,by rw[HZ2.o];omega,by omega⟩
  ·intro pre post wq a b hp ha hb hI _;have h1:=gM (i:Int) sets pre (Aq g.2.2 sets i);have h2:=lD (Wc g.2.2 (i:Int));have h3:=HRL.o (i:Int);have h4:(Wc g.2.2 (i:Int)).length*(Wc g.2.2 (i:Int)).length<=4096*4096:=Nat.mul_le_mul h3 h3;have h5:pre.length<=(Ur (Wc g.2.2 (i:Int))).length:=by rw[hp];simp
   have h6:=HTI.o;have h7:=Ci.o;exact c_ wq hI (by omega) (HRQ.o _ _ ha) (HRQ.o _ _ hb) qO.o
  ·rintro e w5 ⟨rfl,hI,hC⟩;rw[bN,lE,<-HTS.o] at hI;have H5:=Lh hI;have HC5:=Lh hC;clear hI hC;go_wp2_with fail;go_roundg (gk - 1);exact⟨i+1,by omega,by omega,by go_num,HBW.o.trans HC5.o.below,HC5.o.typed _ _ _ _ HK1.o (by decide) (by decide),H5.o.hs,H5.o.ho⟩;omega
 ·have zsG:i=n:=by omega
  subst zsG;go_wp2_with fail;go_ret;exact⟨_,rfl,HOW.o,HB.o⟩
theorem Pv{k:Nat}(hk:k<=4){g:Jw}{s:Zu}(h:Lc (k:Int) g (some s)):s.length=g.2.2.length/\Ds s:=by
 obtain⟨o1,_,h2⟩:=h;cases o1 with
 |none=>cases h2
 |some s1 =>
  obtain⟨o2,_,h3⟩:=h2;cases o2 with
  |none=>cases h3
  |some f =>
   obtain⟨c1,c2⟩:=gR g.2.2 s h3.symm;refine⟨c1,fun i x hx=>?_⟩;have hi:=(Qj.1 hx).1;obtain⟨y,hy,hb⟩:=c2 i _ (Qa (by omega));rw[hx] at hy;injection hy with hy;subst hy;exact mR hk hb
def Fx(rs:Zq)(ss:Zu)(i:Nat):List Wr:=(ss.getD i []).map fun w=>((rs.getD i (0,[])).1,w,(i:Int))
def Np(rs:Zq)(ss:Zu)(i:Nat):List Wr:=(List.range i).flatMap (Fx rs ss)
theorem nL(rs:Zq)(ss:Zu)(i:Nat):Np rs ss (i+1)=Np rs ss i++Fx rs ss i:=by
 unfold Np;rw[List.range_succ,List.flatMap_append];simp
theorem nM:∀(i:Nat)(rs:Zq)(ss:Zu),ss.length=rs.length->Vf i rs ss=(List.range rs.length).flatMap fun j=>(ss.getD j []).map fun w=>((rs.getD j (0,[])).1,w,((i+j:Nat):Int))
 |i,[],[],_=>rfl
 |i,r::rs,s::ss,h=>by
  have ih:=nM (i+1) rs ss (by simpa using h);rw[Qu,List.range_succ_eq_map,List.flatMap_cons,List.flatMap_map];simp only[Vf,ih];congr 1;congr 1
  funext j
  simp only[List.getD_cons_succ];congr 1
  funext w
  congr 2;omega
theorem sA{rs:Zq}{ss:Zu}(h:ss.length=rs.length):Np rs ss rs.length=Vf 0 rs ss:=by
 rw[nM 0 rs ss h];unfold Np Fx;simp
theorem xe{rs:Zq}{ss:Zu}(hb:Ds ss)(i:Nat):(Fx rs ss i).length<=4096:=by
 unfold Fx;rw[Qk,Qb];cases h:ss[i]? with
 |none=>simp
 |some x=>exact (hb i x h).2
theorem Or{rs:Zq}{ss:Zu}(hb:Ds ss):∀ i,(Np rs ss i).length<=i*4096
 |0=>by simp[Np]
 |i+1=>by
  rw[nL,Qe];have:=Or (rs:=rs) hb i;have:=xe (rs:=rs) hb i;omega
def qwD(n:Nat)(g:Jw)(base:Nat)(w':World)(o:Option Zu)(e:Ending):Prop :=
 match o with
 |none=>e=.returned (.tuple #[.slice none 0 0,.slice none 0 0,.int .i64 21])
 |some s=>(Uk g.2.2 n s≠[]/\∃ v,e=.returned (.tuple #[.slice none 0 0,v,.int .i64 20])/\w'.ownsRow base 85 4 v (Uk g.2.2 n s).length (Pp (Uk g.2.2 n s))) \/
  (Uk g.2.2 n s=[]/\∃ v rows,e=.returned (.tuple #[v,.slice none 0 0,.int .i64 0])/\rows.Perm (Vf 0 g.2.2 s)/\rows.Pairwise (fun a b=>¬ Mh b a)/\w'.ownsRow base 81 3 v rows.length (Wg rows))
def qwC(k:Int)(g:Jw)(n:Nat)(w:World)(e:Ending)(w':World):Prop :=
 Below w.heap.size w w'/\(Ct k g->e=.returned (.tuple #[.slice none 0 0,.slice none 0 0,.int .i64 1]))/\(¬ Ct k g->∃ o,Lc k g o/\qwD n g w.heap.size w' o e)
theorem ow{A1 A2 A3:Option Addr}{n m q c1 c2 c3:Nat}{g:Jw}(k:Int)(w:World)(h:Wz w w.heap.size A1 A2 A3 n m q c1 c2 c3 g) :
  Calls Tryz.prog 13 #[Nr A1 A2 A3 n m q c1 c2 c3,.int .i64 k] w (qwC k g n w):=by
 have Wu:=(Xr w.heap.size w).alloc (Xz _) (.cells #[.slice A1 n c1,.slice A2 m c2,.slice A3 q c3] 25);have HV:=Lh (h.fut (B':=w.heap.size) Wu (Xz _) (Xz _));have HK:=Lh (Xn w (.cells #[.slice A1 n c1,.slice A2 m c2,.slice A3 q c3] 25));have HZ:=Lh (Xs w (.cells #[.slice A1 n c1,.slice A2 m c2,.slice A3 q c3] 25));have HBX:=Lh Wu;have HL:=Lh h.ln;have qE:=h.small;have Nj:Hid (∀(w2:World),w2.heap[w.heap.size]? = some (.cells #[.slice A1 n c1,.slice A2 m c2,.slice A3 q c3] 25 (0,0))->w2.cell? ⟨w.heap.size,0,none⟩=some (.slice A1 n c1)/\w2.cell? ⟨w.heap.size,1,none⟩=some (.slice A2 m c2)/\w2.cell? ⟨w.heap.size,2,none⟩=some (.slice A3 q c3)):=fun w2 hk=>⟨Xc hk rfl,Xc hk rfl,Xc hk rfl⟩;clear h Wu;go_enter Tryz.func13,Tryz.ntmps13;go_wp2_with fail;generalize w.alloc (.cells #[.slice A1 n c1,.slice A2 m c2,.slice A3 q c3] 25)=w1 at *;refine (yH k w1 (HV.o.fut (N:=w1.heap.size) (B':=w1.heap.size) (Xr _ _) (by rw[HZ.o];omega) (by rw[HZ.o];omega))).mono ?_;rintro e w2 ⟨Zy,tW,hgood⟩;have HB2:=Lh (HBX.o.trans (Zy.mono (by rw[HZ.o];omega)));have HB12:Hid (Below (w.heap.size+1) w1 w2):=Zy.mono (Yh HZ.o.symm);have HS2:=Lh (show w.heap.size+1<=w2.heap.size by have:=Zy.size;rw[HZ.o] at this;exact this);have HK2:=Lh ((HB12.o.block w.heap.size (by omega)).trans HK.o);clear Zy;by_cases gD:Ct k g
 ·have:=tW gD;subst this;have Mv:=Lh gD;clear tW hgood gD;go_wp2_with fail
  go_ret3
  exact⟨HB2.o,fun _=>rfl,fun h=>absurd Mv.o h⟩
 ·obtain⟨o,ho,By⟩:=hgood gD;have HNB:=Lh gD;have HO:=Lh ho;clear tW hgood;cases o with
  |none =>
   simp only[tq] at By;subst By;clear gD ho;go_wp2_with fail
   go_ret3
   exact⟨HB2.o,fun h=>absurd h HNB.o,fun _=>⟨none,HO.o,rfl⟩⟩
  |some s =>
   obtain⟨A5,c5,rfl,hs⟩:=By;obtain⟨kk,tv,Y_,jH⟩:∃ kk:Nat,k=(kk:Int)/\kk<=4/\1<=kk:=⟨k.toNat,by unfold Ct at gD;omega,by unfold Ct at gD;omega,by unfold Ct at gD;omega⟩;have Fd:=Pv Y_ (g:=g) (s:=s) (by rw[<-tv];exact ho);have hgood:wD g:=(Ig (Classical.byContradiction fun h=>gD (.inr (.inr h)))).2.1;have pA:=Lh Fd.2;have hlen:s.length=q:=by rw[Fd.1];exact HL.o.2.2.symm
   have Cj:=Lh hlen;rw[hlen] at hs |-;have HSS:=Lh hs;have HQ:=Lh (show q<=4096 by have:=hgood.q;have:=HL.o.2.2;omega);have HCL:=Lh (rq w2 (HV.o.fut HB12.o (Yg _) (by have:=HS2.o;omega)) hgood hs (fun x hx=>by
    obtain⟨i,hi,rfl⟩:=Qz hx
    have:=(Fd.2 i _ (Qa hi)).2
    omega))
   clear gD ho Fd hlen hs hgood tv Y_ jH;obtain⟨cl,Hx⟩:=Xe (Uk g.2.2 n s);rw[<-Hx] at HCL;have HC:=Lh Hx;clear Hx;obtain⟨nc,hnc⟩:=Xe cl.length;rw[<-hnc] at HCL;have HNC:=Lh hnc;clear hnc;obtain⟨a0,a1,a2⟩:=Nj.o w2 HK2.o;go_wp2_with fail;refine HCL.o.mono ?_;rintro e w3 ⟨v,rfl,hown,hb3⟩;obtain⟨A6,c6,rfl,zsU,zsT⟩:=Zk hown;have HB3:=Lh (HB2.o.trans (hb3.mono HB2.o.size));have HS3:Hid (w2.heap.size<=w3.heap.size):=hb3.size;have iD:=Lh ((hb3.block w.heap.size (by have:=HS2.o;omega)).trans HK2.o);have zvL:=Lh (HSS.o.fut hb3 (Xz _) (Xz _));have vV:=Lh (HV.o.rules.fut (B':=w.heap.size) ((HB12.o.mono (Yg _)).trans (hb3.mono HB2.o.size)) (Xz _) (Xz _));have HOWN:=Lh (Nc hown HB2.o.size);clear hown hb3 a0 a1 a2 HCL;by_cases Vi:0<nc
   ·have hd:decide ((nc:Int)>0)=true:=by simpa using Vi
    have jJ:decide (0<nc)=true:=by simpa using Vi
    have HNE:Hid (cl≠[]):=fun e=>by have:=HNC.o;rw[e] at this;simp at this;omega
    clear Vi;go_wp2_with fail
    go_ret3
    refine⟨HB3.o,fun h=>absurd h HNB.o,fun _=>⟨some s,HO.o,.inl ⟨by rw[<-HC.o];exact HNE.o,_,rfl,?_⟩⟩⟩;rw[<-HC.o,<-HNC.o];exact HOWN.o
   ·have hd:decide ((nc:Int)>0)=false:=by simpa using Vi
    have jJ:decide (0<nc)=false:=by simpa using Vi
    have HNE:Hid (cl=[]):=Xv (by have:=HNC.o;omega);clear Vi HOWN zsU zsT;go_wp2_with fail;go_loopg [10,33] q (fun lft v10 v33 wr=>∃ i:Nat,i<=q/\q - i<=lft/\v33=.int .i64 i/\Hid (Below w3.heap.size w3 wr)/\Hid (wr.ownsRow w3.heap.size 81 3 v10 (Np g.2.2 s i).length (Wg (Np g.2.2 s i))));exact⟨0,by omega,by omega,rfl,Xr _ _,Yx _ _ _ _⟩;obtain⟨i,hi,pw,rfl,HB,HO10⟩:=hrel;obtain⟨gas,Ue⟩:=Xe gk;rw[<-Ue] at pw;have HGK:=Lh Ue;clear Ue;generalize wr=wo at *;by_cases hiq:i<q
    ·have his:i<s.length:=by rw[Cj.o];exact hiq
     have hir:i<g.2.2.length:=by rw[<-HL.o.2.2];exact hiq
     have HW3:=Lh (Ya HB2.o.size HS3.o);obtain⟨b1,o1,cs1,oM,-,hb1,Eg,Kn⟩:=(zvL.o.below (HB.o.mono HS3.o)).get his (by decide);obtain⟨v1,rfl,Hw⟩:=Eg;have x1:=Kn 0 _ rfl;simp only[show (Ro eW).size=1 from rfl,Yq,Yo] at x1;subst oM;obtain⟨b2,o2,cs2,oL,-,Zy,Us,Je⟩:=(vV.o.below (HB.o.mono HW3.o)).get hir (by decide);obtain⟨v2,rfl,-,-,-⟩:=Jv Us;have y0:=Je 0 _ rfl;simp only[show Kx.size=2 from rfl,Yo] at y0;subst oL;have HRA:=Lh (show Fx g.2.2 s i=s[i].map fun w=>(g.2.2[i].1,w,(i:Int)) by
      unfold Fx
      simp only[Qb,Qa his,Qa hir,Option.getD_some])
     have HNX:=Lh (pA.o i _ (Qa his)).2;have HTL:=Lh (Or (rs:=g.2.2) pA.o i);have HTS:=Lh (nL g.2.2 s i);obtain⟨x,hx⟩:=Xe (s[i]);rw[<-hx] at Hw HRA HNX;obtain⟨lf,hlf⟩:=Xe (g.2.2[i].1);rw[<-hlf] at y0 HRA;have HRX:=Lh (HB.o.block w.heap.size (by have:=HS2.o;have:=HS3.o;omega));obtain⟨a0,a1,a2⟩:=Nj.o wo (HRX.o.trans iD.o);obtain⟨A7,c7,rfl,zsS,hc72⟩:=Hw.form;obtain⟨nx,hnx⟩:=Xe x.length;rw[<-hnx] at Hw HNX x1 zsS;have wC:=Lh hnx;have HX:=Lh Hw;have hnx2:=HNX.o;clear hx hlf hnx Hw Kn Je Us his hir a0 a1;go_wp2_with fail;go_loopg [10,40] nx (fun fg v10 v40 wt=>∃ j:Nat,j<=nx/\nx - j<=fg/\v40=.int .i64 j/\Hid (Below w3.heap.size w3 wt)/\Hid (Below w3.heap.size wo wt)/\Hid (wt.ownsRow w3.heap.size 81 3 v10 ((Np g.2.2 s i).length+j) (Wg (Np g.2.2 s i)++Wg ((Fx g.2.2 s i).take j))));exact⟨0,by omega,by omega,rfl,HB.o,(Xr _ _).mono HB.o.size,by rw[List.take_zero,show Wg []=[] from rfl,List.append_nil];exact HO10.o⟩;obtain⟨j,hj,pv,rfl,HBT,qwX,HOT⟩:=hrel;have zxO:=Lh (show b2<w3.heap.size by have:=HW3.o;omega);have z0:wr.cell? ⟨b2,o2+i*2,none⟩=some (.int .i64 lf):=(qwX.o.cell (p:=⟨b2,o2+i*2,none⟩) zxO.o).trans y0;have z2:wr.cell? ⟨w.heap.size,2,none⟩=some (.slice (some ⟨b2,o2,none⟩) q c3):=(qwX.o.cell (p:=⟨w.heap.size,2,none⟩) (show w.heap.size<w3.heap.size by have:=HW3.o;have:=HS2.o;have:=HS3.o;omega)).trans a2;by_cases hjx:j<nx
     ·have Uh:j<x.length:=by rw[<-wC.o];exact hjx
      obtain⟨b3,o3,rfl,-,hb3,cw⟩:=(HX.o.below (qwX.o.mono HS3.o)).wd Uh;have HT:=Lh (show Wg ((Fx g.2.2 s i).take (j+1))=Wg ((Fx g.2.2 s i).take j)++Tg (lf,x[j],(i:Int)) by
       rw[HRA.o,Qc (by rw[Qk];exact Uh),nT,List.getElem_map])
      obtain⟨wj,hwj⟩:=Xe (x[j]);rw[<-hwj] at cw HT;obtain⟨pre,Bw⟩:=Xe (Wg (Np g.2.2 s i)++Wg ((Fx g.2.2 s i).take j));rw[<-Bw] at HOT;have HPRE:=Lh Bw;obtain⟨nr,xX⟩:=Xe ((Np g.2.2 s i).length);rw[<-xX] at HOT;have HNR:=Lh xX;have hnr2:nr<=16777216:=by have:=HTL.o;have:=HQ.o;omega
      have Te:=Lh HBT.o.size;obtain⟨A10,c10,rfl,ziS,ziR⟩:=Zk HOT.o;clear hwj Bw xX Uh y0 a2 x1;go_wp2_with (at_builtin;refine Ja (m:=1) (n:=nr+j) qaT rfl rfl rfl rfl (HOT.o.alloc _) (Rd.row (B:=wr.heap.size+1) (Xn wr _) (by omega)) rfl (by simp[Value.oneCell']) (by unfold maxLen;omega) (by omega) (by rw[Xs];have:=Te.o;omega) ?_);intro v' w7 ho7 jI hv7 _;have HB7:Hid (Below w3.heap.size w3 w7):=Zr (HBT.o.alloc Te.o (.cells (Tg (lf,wj,(i:Int))).toArray 81)) jI (HOT.o.alloc _) (Xz _) (by rw[Xs];have:=Te.o;omega);have HBR7:Hid (Below w3.heap.size wo w7):=Zr (qwX.o.alloc Te.o (.cells (Tg (lf,wj,(i:Int))).toArray 81)) jI (HOT.o.alloc _) (Xz _) (by rw[Xs];have:=Te.o;omega);have HO7:=Lh (show w7.ownsRow w3.heap.size 81 3 v' ((Np g.2.2 s i).length+(j+1)) (Wg (Np g.2.2 s i)++Wg ((Fx g.2.2 s i).take (j+1))) by
       rw[HT.o,<-Xd,<-HPRE.o,<-HNR.o]
       exact ho7)
      clear ho7 jI hv7;go_wp2_with fail;go_roundg (gk - 1);exact⟨j+1,by omega,by omega,by go_num,HB7.o,HBR7.o,HO7.o⟩;omega
     ·have HEND:=Lh (show wr.ownsRow w3.heap.size 81 3 u10 (Np g.2.2 s (i+1)).length (Wg (Np g.2.2 s (i+1))) by
       have:=HOT.o
       have e:(Fx g.2.2 s i).take j=Fx g.2.2 s i:=Qd (by rw[HRA.o,Qk,<-wC.o];omega)
       have e2:(Fx g.2.2 s i).length=j:=by rw[HRA.o,Qk,<-wC.o];omega
       rw[e] at this
       rw[HTS.o,Qe,e2]
       unfold Wg at *
       rw[Qt,Qs]
       exact this)
      go_wp2_with fail;go_roundg (gas - 1);exact⟨i+1,by omega,by omega,by go_num,HBT.o,HEND.o⟩;have:=HGK.o;omega
    ·have zsF:i=q:=by omega
     subst zsF;have Hb:=Lh (show Np g.2.2 s i=Vf 0 g.2.2 s by rw[HL.o.2.2];exact sA (by rw[Cj.o];exact HL.o.2.2));have HTL:=Lh (Or (rs:=g.2.2) pA.o i);obtain⟨A10,c10,rfl,ziS,ziR⟩:=Zk HO10.o;have zvM:=Lh (dw w3.heap.size A10 c10 (Np g.2.2 s i) wo HO10.o (by have:=HTL.o;have:=HQ.o;omega));go_wp2_with fail;refine zvM.o.mono ?_;rintro e w9 ⟨rfl,rows,hp,hsd,ho9,hg9⟩;have HP:=Lh hp;have HSD:=Lh hsd;have hln:rows.length=(Np g.2.2 s i).length:=hp.length_eq;have HO9:=Lh (Nc ho9 (Ya HB2.o.size HS3.o));have un:Hid (Below w.heap.size w w9):=Zr (HB3.o.trans (HB.o.mono (Ya HB2.o.size HS3.o))) hg9 HO10.o (Ya HB2.o.size HS3.o) (Ya (Ya HB2.o.size HS3.o) HB.o.size);clear hp hsd ho9 hg9 hln;go_wp2_with fail
     go_ret3
     refine⟨un.o,fun h=>absurd h HNB.o,fun _=>⟨some s,HO.o,.inr ⟨by rw[<-HC.o];exact HNE.o,_,rows,rfl,?_,HSD.o,?_⟩⟩⟩
     ·rw[<-Hb.o];exact HP.o
     ·exact HO9.o
def Rz(g:Jw)(i:Int):Int:=(g.2.2.getD i.toNat (0,[])).1
def Hm(g:Jw)(k:Int)(x:Wr):Bool:=!(decide (x.2.2<0)||decide ((g.2.2.length:Int)<=x.2.2)||decide (Rz g x.2.2≠x.1)||!Ok g.2.1.length k x.2.1)
def mV(p:Option Wr)(x:Wr):Bool:=match p with
 |none=>false
 |some y=>decide (0<=fR y x)
def It(g:Jw)(k:Int):Option Wr->List Wr->Bool
 |_,[]=>true
 |p,x::l=>!mV p x&&Hm g k x&&It g k (some x) l
def zk(g:Jw)(k:Int)(rows:List Wr):Bool:=Vu g&&It g k none rows
def fP(rows:List Wr):Nat->Option Wr
 |0=>none
 |i+1=>rows[i]?
theorem qfM{g:Jw}{k:Int}{rows:List Wr}{i:Nat}(h:i<rows.length):It g k (fP rows i) (rows.drop i)=(!mV (fP rows i) rows[i]&&Hm g k rows[i]&&It g k (fP rows (i+1)) (rows.drop (i+1))):=by
 rw[Ql h];simp only[It,fP,Qa h]
theorem qfL{A1 A2 A3:Option Addr}{n m q c1 c2 c3:Nat}{g:Jw}(A:Option Addr)(nr c:Nat)(k:Int)(rows:List Wr)(w:World)(h:Wz w w.heap.size A1 A2 A3 n m q c1 c2 c3 g)(hv:Jb An w w.heap.size (.slice A nr c) rows)(hle:nr<=1048576) :
  Calls Tryz.prog 52 #[Nr A1 A2 A3 n m q c1 c2 c3,.int .i64 k,.slice A nr c] w fun e w'=>e=.returned (.bool (zk g k rows))/\Below w.heap.size w w':=by
 have Wu:=(Xr w.heap.size w).alloc (Xz _) (.cells #[.slice A1 n c1,.slice A2 m c2,.slice A3 q c3] 25);have HV:=Lh ((h.fut (B':=w.heap.size+1) Wu (Xz _) (by omega)));have HR:Hid (Jb An _ (w.heap.size+1) (.slice A nr c) rows):=hv.fut Wu (Xz _) (by omega);have HK:=Lh (Xn w (.cells #[.slice A1 n c1,.slice A2 m c2,.slice A3 q c3] 25));have HZ:=Lh (Xs w (.cells #[.slice A1 n c1,.slice A2 m c2,.slice A3 q c3] 25));have HBX:=Lh Wu;have HL:=Lh h.ln;have qE:=h.small;have HNR:=Lh hv.n_eq;have hnc:=hv.n_le;clear h Wu hv;have Nj:Hid (∀(w2:World),w2.heap[w.heap.size]? = some (.cells #[.slice A1 n c1,.slice A2 m c2,.slice A3 q c3] 25 (0,0))->w2.cell? ⟨w.heap.size,0,none⟩=some (.slice A1 n c1)/\w2.cell? ⟨w.heap.size,1,none⟩=some (.slice A2 m c2)/\w2.cell? ⟨w.heap.size,2,none⟩=some (.slice A3 q c3)):=fun w2 hk=>⟨Xc hk rfl,Xc hk rfl,Xc hk rfl⟩;go_enter Tryz.func52,Tryz.ntmps52;go_wp2_with fail;generalize w.alloc (.cells #[.slice A1 n c1,.slice A2 m c2,.slice A3 q c3] 25)=w1 at *;refine (Wz.valid (w:=w1) (by rw[HZ.o];exact HV.o)).mono ?_;rintro e w2 ⟨rfl,Zy⟩;have HB2:Hid (Below (w.heap.size+1) w1 w2):=Zy.mono (Yh HZ.o.symm);clear Zy;cases hv:Vu g with
 |false =>
  have HC:=Lh (show zk g k rows=false by unfold zk;rw[hv];rfl);clear hv;go_wp2_with fail;go_ret;exact⟨Kd (Zm HC.o.symm),HBX.o.trans (HB2.o.mono (by omega))⟩
 |true =>
  have HC:=Lh (show zk g k rows=It g k none rows by unfold zk;rw[hv];rfl);clear hv;go_wp2_with fail;go_loopg [14] nr (fun left v14 wr=>∃ i:Nat,i<=nr/\nr - i<=left/\v14=.int .i64 i/\Hid (zk g k rows=It g k (fP rows i) (rows.drop i))/\Hid (Below (w.heap.size+1) w1 wr));exact⟨0,by omega,by omega,rfl,HC.o,HB2.o⟩;clear HC HB2;obtain⟨i,hi,Vt,rfl,HI,HBR⟩:=hrel;have yL:=Lh (show w.heap.size+1<=wr.heap.size by have:=HBR.o.size;have:=HZ.o;omega);by_cases Sb:i<nr
  ·have Vq:i<rows.length:=by rw[<-HNR.o];exact Sb
   obtain⟨b1,o1,rfl,-,hb1,x0,x1,x2,Zt⟩:=(HR.o.below HBR.o).rowAt Vq;have Es:=(mI Zt).2;have HI2:=Lh (HI.o.trans (qfM Vq));obtain⟨x,hx⟩:=Xe (rows[i]);rw[<-hx] at x0 x1 x2 Es HI2;clear hx Zt HI;obtain⟨xa,xs1,xi⟩:=x;simp only at x0 x1 x2 Es;go_upto_region 6 with fail;have hb3:=(Xr wr.heap.size wr).alloc (Xz _) (.cells #[.int .i64 xa,wv xs1,.int .i64 xi] 81);have HB3:Hid (Below (w.heap.size+1) w1 _):=HBR.o.trans (hb3.mono yL.o);have La:=Lh (Xs wr (.cells #[.int .i64 xa,wv xs1,.int .i64 xi] 81));have iD:=Lh (Xn wr (.cells #[.int .i64 xa,wv xs1,.int .i64 xi] 81));generalize wr.alloc (.cells #[.int .i64 xa,wv xs1,.int .i64 xi] 81)=w3 at *;have y0:w3.cell? ⟨wr.heap.size,0,none⟩=some (.int .i64 xa):=Xc iD.o rfl;have y1:w3.cell? ⟨wr.heap.size,1,none⟩=some (wv xs1):=Xc iD.o rfl;have y2:w3.cell? ⟨wr.heap.size,2,none⟩=some (.int .i64 xi):=Xc iD.o rfl;clear x0 x1 x2 hb3;obtain⟨b6,hb6⟩:=Xe (mV (fP rows i) (xa,xs1,xi));rw[<-hb6] at HI2;have HB6:=Lh hb6;clear hb6
   go_cut [30] (fun v30 wx=>v30=.bool b6/\Hid (Below w3.heap.size w3 wx))
   case first =>
    cases i with
    |zero =>
     have HE:Hid (b6=false):=HB6.o;refine Text.wp_grow [9] [7,8] [] (by kernel_rfl) (by kernel_rfl) ?_;refine Text.wpS_seg 9 _ _ _ _ (by decide) (fun Q' hQ'=>?_);simp only[Xta,Xtz];go_wp2_with fail;simp only[Yp,Xw,List.drop_zero];refine Text.wpS_one (fun Q' hQ'=>?_);go_wp2_with fail;refine⟨Xr _ _,?_⟩;refine Text.wpS_seg 2 _ _ _ _ (by decide) (fun Q' hQ'=>?_);simp only[Xta,Xtz];go_wp2_with fail;refine⟨by rfl,?_,?_⟩
     ·exact⟨Text.no_want rfl,Text.no_want rfl,trivial⟩
     go_wp2_with fail
     go_meet
     case rel=>exact⟨by rw[HE.o],(Xr _ _).drew⟩
    |succ i' =>
     have Vq:i'<rows.length:=by rw[<-HNR.o];omega
     obtain⟨b5,o5,he5,-,hb5,z0,z1,z2,-⟩:=(HR.o.below HB3.o).rowAt Vq;injection he5 with he5;injection he5 with e1 e2;subst e1 e2;have HE:=Lh (show b6=decide (0<=fR rows[i'] (xa,xs1,xi)) by rw[HB6.o];simp only[fP,Qa Vq,mV]);obtain⟨y,hy⟩:=Xe (rows[i']);rw[<-hy] at z0 z1 z2 HE;clear hy Vq;obtain⟨ya,ys1,yi⟩:=y;simp only at z0 z1 z2;have HO:=Lh (zP (ya,ys1,yi) (xa,xs1,xi));obtain⟨oo,hoo⟩:=Xe (fR (ya,ys1,yi) (xa,xs1,xi));rw[<-hoo] at HE HO;clear hoo;have he7:((i'+1:Nat):Int) - 1=i':=by omega
     refine Text.wp_grow [9] [7,8] [] (by kernel_rfl) (by kernel_rfl) ?_;refine Text.wpS_seg 9 _ _ _ _ (by decide) (fun Q' hQ'=>?_);simp only[Xta,Xtz];go_wp2_with fail
     try simp only[Yp,Xw,List.drop_zero]
     refine Text.wpS_one (fun Q' hQ'=>?_);go_wp2_with fail;refine (HO.o _).mono ?_;rintro e w5 ⟨rfl,hb5',_⟩;go_wp2_with fail;refine⟨hb5',?_⟩;refine Text.wpS_seg 2 _ _ _ _ (by decide) (fun Q' hQ'=>?_);simp only[Xta,Xtz];go_wp2_with fail;refine⟨by rfl,?_,?_⟩
     ·exact⟨fun _=>⟨_,_,rfl,z0⟩,fun _=>⟨_,_,rfl,y0⟩,trivial⟩
     go_wp2_with fail
     go_meet
     case rel=>exact⟨by rw[HE.o],(Xr _ _).drew.trans hb5'⟩
   case rest =>
    obtain⟨rfl,qwW⟩:=hcut;generalize wc=wx at *;have HB5:Hid (Below (w.heap.size+1) w1 wx):=HB3.o.trans (qwW.o.mono (by have:=La.o;have:=yL.o;omega));have ul:=Lh ((qwW.o.block wr.heap.size (by have:=La.o;omega)).trans iD.o);have kh:=Lh ((HB5.o.block w.heap.size (by omega)).trans HK.o);have pV:=Lh (show wr.heap.size+1<=wx.heap.size by have:=qwW.o.size;have:=La.o;omega);obtain⟨a0,a1,a2⟩:=Nj.o wx kh.o;clear y0 y1 y2 iD HB3 La qwW a0;have y0:wx.cell? ⟨wr.heap.size,0,none⟩=some (.int .i64 xa):=Xc ul.o rfl;have y1:wx.cell? ⟨wr.heap.size,1,none⟩=some (wv xs1):=Xc ul.o rfl;have y2:wx.cell? ⟨wr.heap.size,2,none⟩=some (.int .i64 xi):=Xc ul.o rfl;cases b6 with
    |true =>
     have HF:=Lh (show zk g k rows=false by rw[HI2.o];rfl);go_wp2_with fail;go_ret;exact⟨Kd (Zm HF.o.symm),HBX.o.trans (HB5.o.mono (by omega))⟩
    |false =>
    go_upto_region 8 with fail;obtain⟨b8,hb8⟩:=Xe (Hm g k (xa,xs1,xi));rw[<-hb8] at HI2;have HB8:=Lh hb8;clear hb8
    go_cut [63] (fun v63 wy=>v63=.bool (!b8)/\Hid (Below wx.heap.size wx wy))
    case first =>
     by_cases au:xi<0
     ·have hd0:decide (xi<0)=true:=by simpa using au
      have HE:=Lh (show (!b8)=true by rw[HB8.o];unfold Hm;simp[au]);clear au;refine Text.wp_grow [30] [1,5,7,13,15,18,20,25,27] [] (by kernel_rfl) (by kernel_rfl) ?_;refine Text.wpS_seg 30 _ _ _ _ (by decide) (fun Q' hQ'=>?_);simp only[Xta,Xtz];go_wp2_with fail
      try simp only[Yp,Xw,List.drop_zero]
      refine Text.wpS_one (fun Q' hQ'=>?_);go_wp2_with fail;refine⟨Xr _ _,?_⟩;refine Text.wpS_seg 2 _ _ _ _ (by decide) (fun Q' hQ'=>?_);simp only[Xta,Xtz];go_wp2_with fail;refine⟨by rfl,?_,?_⟩
      ·exact⟨fun _=>⟨_,_,rfl,y2⟩,Text.no_want rfl,Text.no_want rfl,Text.no_want rfl,Text.no_want rfl,Text.no_want rfl,Text.no_want rfl,Text.no_want rfl,Text.no_want rfl,trivial⟩
      go_wp2_with fail
      go_meet
      case rel=>exact⟨by rw[HE.o],(Xr _ _).drew⟩
     ·have hd0:decide (xi<0)=false:=by simpa using au
      by_cases hxq:(q:Int)<=xi
      ·have iB:decide ((q:Int)<=xi)=true:=by simpa using hxq
       have HE:=Lh (show (!b8)=true by rw[HB8.o];unfold Hm;rw[<-HL.o.2.2];simp[hxq]);clear au hxq;refine Text.wp_grow [30] [1,5,7,13,15,18,20,25,27] [] (by kernel_rfl) (by kernel_rfl) ?_;refine Text.wpS_seg 30 _ _ _ _ (by decide) (fun Q' hQ'=>?_);simp only[Xta,Xtz];go_wp2_with fail
       try simp only[Yp,Xw,List.drop_zero]
       refine Text.wpS_one (fun Q' hQ'=>?_);go_wp2_with fail;refine⟨Xr _ _,?_⟩;refine Text.wpS_seg 2 _ _ _ _ (by decide) (fun Q' hQ'=>?_);simp only[Xta,Xtz];go_wp2_with fail;refine⟨by rfl,?_,?_⟩
       ·exact⟨fun _=>⟨_,_,rfl,y2⟩,fun _=>⟨_,_,rfl,y2⟩,fun _=>⟨_,_,rfl,a2⟩,Text.no_want rfl,Text.no_want rfl,Text.no_want rfl,Text.no_want rfl,Text.no_want rfl,Text.no_want rfl,trivial⟩
       go_wp2_with fail
       go_meet
       case rel=>exact⟨by rw[HE.o],(Xr _ _).drew⟩
      ·have iB:decide ((q:Int)<=xi)=false:=by simpa using hxq
       obtain⟨j,rfl⟩:∃ j:Nat,xi=(j:Int):=⟨xi.toNat,by omega⟩;have be:j<q:=by omega
       have Uh:j<g.2.2.length:=by rw[<-HL.o.2.2];exact be
       have hd3:decide (q<=j)=false:=by simpa using be
       obtain⟨b2,o2,cs,rfl,-,-,Zt,Zj⟩:=(HV.o.rules.below HB5.o).get (k:=j) Uh (by decide);obtain⟨v,rfl,-,-,-⟩:=Jv Zt;have Vi:=Zj 0 _ rfl;simp only[show Kx.size=2 from rfl,Yo] at Vi;have HLF:=Lh (show Rz g (j:Int)=g.2.2[j].1 by unfold Rz;rw[Yw,Qb,Qa Uh];rfl);obtain⟨lf,hlf⟩:=Xe (g.2.2[j].1);rw[<-hlf] at Vi HLF;have HIS:=Lh (show Hm g k (xa,xs1,(j:Int))=!(decide (lf≠xa)||!Ok m k xs1) by
        unfold Hm
        rw[<-HL.o.2.2,<-HL.o.2.1,HLF.o,hd0,iB]
        rfl)
       clear Zj Zt hlf Uh au hxq;by_cases bC:lf=xa
       ·have jJ:(lf != xa)=false:=by simpa using bC
        have HWV:=Lh (fun w=>wT xs1 (m:Int) k w Es.2.1);have HE:=Lh (show (!b8)=!Ok m k xs1 by rw[HB8.o,HIS.o];simp[bC]);obtain⟨bw,tz⟩:=Xe (Ok m k xs1);rw[<-tz] at HWV HE;clear tz bC;refine Text.wp_grow [30] [1,5,7,13,15,18,20,25,27] [] (by kernel_rfl) (by kernel_rfl) ?_;refine Text.wpS_seg 30 _ _ _ _ (by decide) (fun Q' hQ'=>?_);simp only[Xta,Xtz];go_wp2_with fail
        try simp only[Yp,Xw,List.drop_zero]
        refine Text.wpS_one (fun Q' hQ'=>?_);go_wp2_with fail;refine (HWV.o _).mono ?_;rintro e w6 ⟨rfl,hb6'⟩;go_wp2_with fail;refine⟨hb6',?_⟩;refine Text.wpS_seg 2 _ _ _ _ (by decide) (fun Q' hQ'=>?_);simp only[Xta,Xtz];go_wp2_with fail;refine⟨by rfl,?_,?_⟩
        ·exact⟨fun _=>⟨_,_,rfl,y2⟩,fun _=>⟨_,_,rfl,y2⟩,fun _=>⟨_,_,rfl,a2⟩,fun _=>⟨_,_,rfl,a2⟩,fun _=>⟨_,_,rfl,y2⟩,fun _=>⟨_,_,rfl,Vi⟩,fun _=>⟨_,_,rfl,y0⟩,fun _=>⟨_,_,rfl,y1⟩,fun _=>⟨_,_,rfl,a1⟩,trivial⟩
        go_wp2_with fail
        go_meet
        case rel=>exact⟨by rw[HE.o],(Xr _ _).drew.trans hb6'⟩
       ·have jJ:(lf != xa)=true:=by simpa using bC
        have HE:=Lh (show (!b8)=true by rw[HB8.o,HIS.o];simp[bC]);clear bC;refine Text.wp_grow [30] [1,5,7,13,15,18,20,25,27] [] (by kernel_rfl) (by kernel_rfl) ?_;refine Text.wpS_seg 30 _ _ _ _ (by decide) (fun Q' hQ'=>?_);simp only[Xta,Xtz];go_wp2_with fail
        try simp only[Yp,Xw,List.drop_zero]
        refine Text.wpS_one (fun Q' hQ'=>?_);go_wp2_with fail;refine⟨Xr _ _,?_⟩;refine Text.wpS_seg 2 _ _ _ _ (by decide) (fun Q' hQ'=>?_);simp only[Xta,Xtz];go_wp2_with fail;refine⟨by rfl,?_,?_⟩
        ·exact⟨fun _=>⟨_,_,rfl,y2⟩,fun _=>⟨_,_,rfl,y2⟩,fun _=>⟨_,_,rfl,a2⟩,fun _=>⟨_,_,rfl,a2⟩,fun _=>⟨_,_,rfl,y2⟩,fun _=>⟨_,_,rfl,Vi⟩,fun _=>⟨_,_,rfl,y0⟩,Text.no_want rfl,Text.no_want rfl,trivial⟩
        go_wp2_with fail
        go_meet
        case rel=>exact⟨by rw[HE.o],(Xr _ _).drew⟩
    case rest =>
     obtain⟨rfl,un⟩:=hcut;generalize wc=wy at *;have HB10:=Lh (HB5.o.trans (un.o.mono (by have:=pV.o;have:=yL.o;omega)));cases b8 with
     |false =>
      have HF:=Lh (show zk g k rows=false by rw[HI2.o];rfl);go_wp2_with fail;go_ret;exact⟨Kd (Zm HF.o.symm),HBX.o.trans (HB10.o.mono (by omega))⟩
     |true =>
      go_wp2_with fail;go_roundg (gk - 1);exact⟨i+1,by omega,by omega,by go_num,by show _=_;rw[HI2.o];simp,HB10.o⟩;omega
  ·have HF:=Lh (show zk g k rows=true by
    rw[HI.o,List.drop_eq_nil_of_le (by rw[<-HNR.o];omega)]
    rfl)
   go_wp2_with fail;go_ret;exact⟨Kd (Zm HF.o.symm),HBX.o.trans (HBR.o.mono (by omega))⟩
theorem qlC{α:Type}{a b:α}{l:List α}(h:l.Perm [a,b]):l=[a,b]\/l=[b,a]:=by
 have hl:=h.length_eq
 match l,hl with
 |[x,y],_ =>
  have ha:a∈[x,y]:=h.mem_iff.2 (by simp);rw[List.mem_cons,Qi] at ha;rcases ha with e | e
  ·subst e;have:=(List.Perm.cons_inv h).eq_singleton;left;rw[this]
  ·subst e;have:=(List.Perm.cons_inv ((List.Perm.swap x a []).trans h)).eq_singleton;right;injection this with this;rw[this]
def Rf:List Wr:=[(0,[],0),(0,[0],1)]
theorem qvX{rows:List Wr}(hp:rows.Perm Rf)(hs:rows.Pairwise fun a b=>¬ Mh b a):rows=Rf:=by
 rcases qlC hp with h | h
 ·exact h
 ·rw[h] at hs;have:=(Qx.1 hs).1 (0,[],0) (by simp);exact absurd (show Mh ((0:Int),([]:Wd),(0:Int)) (0,[0],1) from .inr ⟨rfl,by decide⟩) this
theorem qpL:Jr gA=0:=by kernel_rfl
theorem qpM:Lc 1 gA (some [[[]],[[0]]]):=⟨_,qoG,_,zbP,qoJ.symm⟩
open Go.RowKit Go.Shelf
attribute [local go_sem] Oper.semAt_some
abbrev Beg:=Wr×Wd
def Ts(r:Wr):List Beg:=(List.range (r.2.1.length+1)).map fun k=>(r,r.2.1.take k)
def Av(rows:List Wr):List Beg:=rows.flatMap Ts
abbrev gX(rows:List Wr):={ x:Beg // x∈Av rows }
theorem ct(rows:List Wr){i:Nat}(h:i<rows.length):Av (rows.take (i+1))=Av (rows.take i)++Ts rows[i]:=by
 unfold Av;rw[Qc h,List.flatMap_append];simp
theorem dG(r:Wr):(Ts r).length=r.2.1.length+1:=by simp[Ts]
theorem k_(r:Wr){k:Nat}(h:k<r.2.1.length+1):(Ts r).take (k+1)=(Ts r).take k++[(r,r.2.1.take k)]:=by
 rw[Qc (by rw[dG];exact h)];simp[Ts]
theorem qiA(r:Wr):(Ts r).take (r.2.1.length+1)=Ts r:=Qd (Yh (dG r))
theorem qhZ(r:Wr){k:Nat}(h:k<r.2.1.length+1):(r,r.2.1.take k)∈Ts r:=Xa.2 ⟨k,Xy.2 h,rfl⟩
theorem qvW{rows:List Wr}{i k:Nat}(h:i<rows.length)(hk:k<(rows[i]).2.1.length+1):(rows[i],(rows[i]).2.1.take k)∈Av rows:=Xt.2 ⟨rows[i],Qg h,qhZ _ hk⟩
theorem sp{rows:List Wr}{i k:Nat}(h:i<rows.length)(hk:k<(rows[i]).2.1.length+1):(Av (rows.take i)++(Ts rows[i]).take k).length<(Av rows).length:=by
 have h1:Av rows=Av (rows.take i)++Ts rows[i]++Av (rows.drop (i+1)):=by
  rw[<-ct rows h];unfold Av;rw[<-List.flatMap_append,Xm]
 rw[h1];simp only[Qe,Qq,dG];omega
structure KpR(N0:Nat)(W W':World):Prop where
 bel:Below N0 W W'
 keep:∀(k:Nat)(cs:Array Value),W.heap[k]? = some (.cells cs 81 (0,0))->W'.heap[k]? = some (.cells cs 81 (0,0))
theorem KpR.trans{N0:Nat}{A B C:World}(h:KpR N0 A B)(k:KpR N0 B C):KpR N0 A C:=⟨h.bel.trans k.bel,fun i cs hi=>k.keep i cs (h.keep i cs hi)⟩
theorem KpR.putObj{N0:Nat}{w:World}(hn:N0<=w.heap.size)(W:World)(l:Nat)(o o':Obj)(hl:w.heap.size<=l)(h:W.heap[l]? = some o)(h1:o.isCells=false)(h2:o.isWalk=false):KpR N0 W (W.putObj l o') :=
 ⟨belowK_b hn W l o o' hl h h1 h2,fun k cs hk=>(World.putObj_heap_other (fun e=>by
  subst e
  rw[h] at hk
  injection hk with hk
  subst hk
  cases h1)).trans hk⟩
theorem qpI(n l Bs N0:Nat)(v:Value)(rows:List Wr)(hw:∀ r∈rows,r.2.1.length<=4611686018427387904)(J Jx:List (gX rows)->World->Prop)
  (hJ:∀ s A B,J s A->A.grownBy B none->J s B)
  (hY:∀(pre:List (gX rows))(x:gX rows)(W:World),J pre W->pre.length<(Av rows).length->YieldAt Fence.wide (n - 1) Tryz.prog l #[qtF x.1.1,wv x.1.2] W fun e W' =>
   (e=.returned (.bool true)/\J (pre++[x]) W'/\KpR N0 W W')\/(e=.returned (.bool false)/\Jx (pre++[x]) W'))
  (W:World) (hN:N0<=W.heap.size) (hBs:W.cell? ⟨Bs,0,none⟩=some v) (hv:Jb An W N0 v rows) (h0:J [] W) :
  CallsIn Fence.wide n Tryz.prog 165 #[.func (.yield l) #[] #[],.pointer (some ⟨Bs,0,none⟩)] W fun e W'=>(∃ v,e=.returned v) /\
   ((∃ ys:List (gX rows),ys.map Subtype.val=Av rows/\J ys W')\/(∃ pre,True/\Jx pre W')):=by
 obtain⟨A,c,rfl,hc1,hc2⟩:=hv.form;unfold maxLen at hc2;have HV:=Lh hv;have HW:=Lh hw;have HN:=Lh hN;clear hv hw hN;obtain⟨nr,xX⟩:=Xe rows.length;have HNR:=Lh xX;rw[<-xX] at hBs hc1;clear xX;refine callsIn_of_wp Tryz.func165 rfl trivial ?_ rfl;simp only[Tryz.ntmps165,List.size_toArray,Qu,List.length_nil,Nat.reduceAdd,Nat.reduceSub,Array.replicate_succ,Array.replicate_zero,List.push_toArray,List.append_toArray,List.nil_append,List.cons_append]
 gi_wp2
 gi_loopw [8] (fun v8 wr=>∃(i:Nat)(pre:List (gX rows)),i<=nr/\v8=.int .i64 i/\pre.map Subtype.val=Av (rows.take i)/\J pre wr/\Hid (Below N0 W wr)) (fun v8 _=>nr - (intOf v8).toNat)
 exact⟨0,[],by omega,rfl,rfl,h0,Xr _ _⟩;obtain⟨i,pre,hi,rfl,Bw,hj,HB⟩:=hrel;by_cases Jo:i<nr
 ·have Nq:i<rows.length:=by have:=HNR.o;omega
  obtain⟨b1,o1,rfl,-,hb1,a0,a1,a2,-⟩:=(HV.o.below HB.o).rowAt Nq;have HSN:=Lh (ct rows Nq);have HM:=Lh (fun k (hk:k<(rows[i]).2.1.length+1)=>qvW (rows:=rows) Nq hk);have HL:=Lh (fun k (hk:k<(rows[i]).2.1.length+1)=>sp (rows:=rows) Nq hk);have hwl:=HW.o _ (Qg Nq);obtain⟨x,hx⟩:=Xe (rows[i]);rw[<-hx] at a0 a1 a2 HSN HM HL hwl;clear hx;obtain⟨xa,xs1,xi⟩:=x;simp only at a0 a1 a2 hwl;have HX:=Lh (Xn wr (.cells #[.int .i64 xa,.string ⟨xs1.toArray⟩,.int .i64 xi] 81));have HJ1:=Lh (hJ pre wr _ hj (World.grownBy_alloc wr (.cells #[.int .i64 xa,.string ⟨xs1.toArray⟩,.int .i64 xi] 81) none));have HB1:=Lh (HB.o.alloc (Ya HN.o HB.o.size) (.cells #[.int .i64 xa,.string ⟨xs1.toArray⟩,.int .i64 xi] 81));have HPRE:=Lh Bw;clear hj Bw HB
  gi_wp2
  generalize hw1:wr.alloc (.cells #[.int .i64 xa,.string ⟨xs1.toArray⟩,.int .i64 xi] 81)=w1 at *;generalize wr.heap.size=b4 at *;clear hw1
  gi_loopw [16] (fun kr wt=>∃(k:Nat)(pre2:List (gX rows)),k<=xs1.length+1/\kr=.int .i64 k/\Hid (pre2.map Subtype.val=Av (rows.take i)++(Ts (xa,xs1,xi)).take k)/\Hid (J pre2 wt)/\Hid (Below N0 W wt)/\Hid (wt.heap[b4]? = some (.cells #[.int .i64 xa,.string ⟨xs1.toArray⟩,.int .i64 xi] 81 (0,0)))) (fun kr _=>xs1.length+1 - (intOf kr).toNat)
  exact⟨0,pre,by omega,rfl,by show _=_;rw[HPRE.o];simp,HJ1.o,HB1.o,HX.o⟩;clear HJ1 HB1 HX a0 a1 a2;obtain⟨k,pre2,hk,rfl,HP2,HJ2,HB2,HX2⟩:=hrel;by_cases hlk:k<xs1.length+1
  ·have y0:wr.cell? ⟨b4,0,none⟩=some (.int .i64 xa):=Xc HX2.o rfl;have y1:wr.cell? ⟨b4,1,none⟩=some (.string ⟨xs1.toArray⟩):=Xc HX2.o rfl;have y2:wr.cell? ⟨b4,2,none⟩=some (.int .i64 xi):=Xc HX2.o rfl;obtain⟨fn,tmps,assign,body,hy,hR0⟩:=hY pre2 ⟨_,HM.o k hlk⟩ wr.drew (hJ _ _ _ HJ2.o ⟨rfl,rfl,rfl,Xz _,fun _ _ _=>rfl⟩) (by have:=HL.o k hlk;rw[<-HP2.o,Qk] at this;exact this);dsimp only at hy;have hR:RoundIn Fence.wide (n - 1) Tryz.prog l fn tmps assign body wr.drew fun e W'=>∃ b:Bool,e=.returned (.bool b)/\((b=true/\J (pre2++[⟨_,HM.o k hlk⟩]) W'/\KpR N0 wr.drew W')\/(b=false/\Jx (pre2++[⟨_,HM.o k hlk⟩]) W')):=hR0.mono (by
    rintro e W' (⟨rfl,h1,h2⟩ | ⟨rfl,h1⟩)
    ·exact⟨true,rfl,.inl ⟨rfl,h1,h2⟩⟩
    ·exact⟨false,rfl,.inr ⟨rfl,h1⟩⟩)
   clear hR0;have hmix:Tryz.prog.follows .mixedOrders=true:=by kernel_rfl
   gi_wp2
   gi_region_with_o (first
    |(refine⟨trivial,(fun h=>absurd h Bool.false_ne_true),(callsIn_wide.2 (aK xs1 k _ (by unfold maxLen;omega) (by omega))).mono ?_⟩;rintro e w' ⟨rfl,rfl⟩)
    |(refine⟨(fun h=>absurd h Bool.false_ne_true),hR.mono ?_⟩;rintro e w' ⟨b,rfl,hb⟩)
    |(refine hR.mono ?_;rintro e w' ⟨b,rfl,hb⟩))
   all_goals
    rcases hb with ⟨rfl,hj,hkp⟩ | ⟨rfl,hjx⟩
    ·clear hY hR hy
     gi_wp2
     go_roundw;exact⟨k+1,_,by omega,by go_num,by show _=_;rw[Qt,HP2.o,k_ _ hlk,Xd];rfl,hj,HB2.o.drew.trans hkp.bel,hkp.keep _ _ HX2.o⟩;simp[intOf];omega
    ·clear hY hR hy
     gi_wp2
     refine Ze (results_none rfl _ _ _) rfl ?_;exact⟨⟨_,rfl⟩,.inr ⟨_,trivial,hjx⟩⟩
  ·have Dl:k=xs1.length+1:=by omega
   subst Dl;clear hY
   gi_wp2
   go_roundw;exact⟨i+1,pre2,by omega,by go_num,by rw[HP2.o,HSN.o,qiA (xa,xs1,xi)],HJ2.o,HB2.o⟩;simp[intOf];omega
 ·have Vq:i=nr:=by omega
  subst Vq;clear hY
  gi_wp2
  go_end0
  exact⟨⟨_,rfl⟩,.inl ⟨pre,by rw[Bw,HNR.o,List.take_length],hj⟩⟩
theorem vB(n Bs N0:Nat)(v:Value)(rows:List Wr)(hw:∀ r∈rows,r.2.1.length<=4611686018427387904)(w:World)(hN:N0<=w.heap.size)(hB:Bs<w.heap.size)(hBs:w.cell? ⟨Bs,0,none⟩=some v)(hv:Jb An w N0 v rows) :
  SeqStopsK Fence.wide n Tryz.prog 165 #[.pointer (some ⟨Bs,0,none⟩)] (fun x:gX rows=>#[qtF x.1.1,wv x.1.2]) (KpR N0) (fun xs=>xs.map Subtype.val=Av rows) (fun _=>True) (Av rows).length w :=
 fun l J Jx W hW hJ _ hY h0=>qpI n l Bs N0 v rows hw J Jx (fun s A B hs hg=>hJ s A B none hs hg (fun r e=>by cases e)) hY W (Ya hN hW.size) ((hW.cell (p:=⟨Bs,0,none⟩) hB).trans hBs) (hv.below (hW.mono hN)) h0
theorem bO(A:Option Addr)(n c:Nat)(w:World) :
  Calls Tryz.prog 101 #[.slice A n c] w fun e w'=>e=.returned (.func (.func 165) #[] #[.pointer (some ⟨w.heap.size,0,none⟩)])/\w'=w.alloc (.cells #[.slice A n c] 28):=by
 go_enter Tryz.func101,Tryz.ntmps101;go_wp2_with fail;go_ret;exact⟨rfl,rfl⟩
def uR(a b:Wd):Int:=if a.length=b.length then Lib.compareBytes a b else Lib.compareInt a.length b.length
theorem qvT(a b:Wd):uR a b<0↔Bk a b:=by
 unfold uR Bk;split
 ·rename_i h;rw[gL];constructor
  ·exact fun h2=>.inr ⟨h,h2⟩
  ·rintro (h2 | ⟨_,h2⟩)
   ·omega
   ·exact h2
 ·rename_i h;unfold Lib.compareInt;split
  ·rename_i h1;simp only[Int.reduceNeg,Int.reduceLT,true_iff];exact .inl (by omega)
  ·rename_i h1;constructor
   ·intro h2;split at h2 <;> omega
   ·rintro (h2 | ⟨h2,_⟩) <;> omega
theorem fF{a b c:Wd}(h:Bk a b)(k:Bk b c):Bk a c:=by
 rcases h with h | ⟨h1,h2⟩ <;> rcases k with k | ⟨k1,k2⟩
 ·exact .inl (by omega)
 ·exact .inl (by omega)
 ·exact .inl (by omega)
 ·exact .inr ⟨by omega,List.lt_trans h2 k2⟩
theorem rO(a b:Wd):Bk a b\/a=b\/Bk b a:=by
 rcases Nat.lt_trichotomy a.length b.length with h | h | h
 ·exact .inl (.inl h)
 ·by_cases h1:a<b
  ·exact .inl (.inr ⟨h,h1⟩)
  ·by_cases h2:b<a
   ·exact .inr (.inr (.inr ⟨h.symm,h2⟩))
   ·exact .inr (.inl (List.le_antisymm (List.not_lt.1 h2) (List.not_lt.1 h1)))
 ·exact .inr (.inr (.inl h))
theorem ak(x y:Wd):ltOf uR x y=true↔Bk x y:=by
 unfold ltOf;rw[Yi];exact qvT x y
theorem lR(x y:Wd):ltOf uR x y=false↔¬ Bk x y:=by
 rw[<-ak,Bool.not_eq_true]
theorem zpX:SWO (ltOf uR) where
 irrefl:=fun x=>by rw[lR];exact Cw x
 trans:=fun x y z h1 h2=>by rw[ak] at *;exact fF h1 h2
 ntrans:=fun x y z h1 h2=>by
  rw[lR] at *;intro h;rcases rO x y with h3 | h3 | h3
  ·exact h1 h3
  ·subst h3;exact h2 h
  ·exact h2 (fF h3 h)
theorem qhD(x y:Wd)(w:World):Calls Tryz.prog 103 #[wv x,wv y] w fun e w'=>e=.returned (.int .i64 (uR x y))/\Below w.heap.size w w'/\w.drawn<=w'.drawn:=by
 by_cases h:x.length=y.length
 ·have hq:((x.length:Int)==(y.length:Int))=true:=by simp[h]
  have HO:=Lh (show uR x y=Lib.compareBytes x y by unfold uR;rw[if_pos h]);clear h;go_enter Tryz.func103,Tryz.ntmps103;go_wp2_with fail;refine (Tryz.strings_Compare ⟨x.toArray⟩ ⟨y.toArray⟩ _).mono ?_;rintro e w1 ⟨rfl,rfl⟩;go_wp2_with fail;go_ret;exact⟨Kd (Fs HO.o.symm),by go_grown,Xz _⟩
 ·have hq:((x.length:Int)==(y.length:Int))=false:=by rw[Yn];omega
  have HO:=Lh (show uR x y=Lib.compareInt x.length y.length by unfold uR;rw[if_neg h]);clear h;go_enter Tryz.func103,Tryz.ntmps103;go_wp2_with fail;refine (Tryz.cmp_Compare_int x.length y.length _).mono ?_;rintro e w1 ⟨rfl,rfl⟩;go_wp2_with fail;go_ret;exact⟨Kd (Fs HO.o.symm),by go_grown,Xz _⟩
def qwA(base:Nat)(v:Value)(ks:List Wd)(w w':World):Prop:=∃ ts:List Wd,ts.Perm ks/\ts.Pairwise (fun a b=>¬ Bk b a)/\w'.ownsRow base 9 1 v ks.length (Zp ts)/\w.grownBy w' v.ownBlock
theorem wZ(base:Nat)(A:Option Addr)(c:Nat)(ks:List Wd)(w:World)(h:w.ownsRow base 9 1 (.slice A ks.length c) ks.length (Zp ks))(hn:ks.length<4611686018427387904)(h0:0<ks.length) :
  Calls Tryz.prog 102 #[.slice A ks.length c,.func (.func 103) #[] #[]] w fun e w'=>e=.returned (.tuple #[])/\qwA base (.slice A ks.length c) ks w w':=by
 have eg:∀ args w,(callFunc 103 args).run Tryz.prog w=.ok (.enter 103 args) w:=enters_of Tryz.func103 (by kernel_rfl) rfl;have HH:=Lh h;rcases HH.o.2 with ⟨xZ,h1⟩ | ⟨g,cap,cur,hv,hbase,hb,h1,h2,h3,h4⟩
 ·omega
 ·injection hv with e1 e2 e3;subst e1 e3;have hH:Holds encStr w g 0 ks.toArray:=holds_of_block hb (by rw[Yq] at h4;exact h4);have hgl:g<w.heap.size:=(gl hb);have hS:=Any.slices_SortFunc Tryz.sortLayS encStr (fun _=>rfl) uR zpX 103 #[] g 0 c ks.toArray w eg (fun m os dk hdk x y=>(qhD x y _).mono fun e w' ⟨he,hb,hd⟩=>⟨he,tY hb hd⟩) hH hgl (by simpa using hn);simp only[List.size_toArray] at hS;refine Calls.mono hS fun e w' ⟨he,d',n,os,hp,hs,hw⟩=>⟨he,d'.toList,?_,?_,?_,?_⟩
  ·obtain⟨p1,_,p3⟩:=hp;have e1:d'.extract 0 ks.length=d':=by
    apply Array.extract_eq_self_of_le;rw[p1];simp
   have e2:ks.toArray.extract 0 ks.length=ks.toArray:=by
    apply Array.extract_eq_self_of_le;simp
   rw[e1,e2] at p3;simpa using p3
  ·rw[List.pairwise_iff_getElem];intro i j hi hj hij;have Fd:d'.size=ks.length:=by rw[hp.1];simp
   have:=hs i j (Ye _) hij (by rw[<-Fd];simpa using hj);rw[lR] at this;have Hp:j<d'.size:=by simpa using hj
   have hi':i<d'.size:=by simpa using hi
   rw[getElem!_pos d' j Hp,getElem!_pos d' i hi'] at this;simpa using this
  ·subst hw;have Fd:d'.toList.length=ks.length:=by rw[Array.length_toList,hp.1];simp
   have:=ownsRow_sorted (w:=w) (base:=base) (g:=g) (cap:=c) (n:=n) (os:=os) (cur:=cur) (ss:=ks) (ts:=d'.toList) Fd hbase hb h1 h2 h3;rw[Array.toArray_toList] at this;exact this
  ·subst hw;have:=grownBy_sorted (w:=w) (g:=g) (n:=n) (os:=os) d';exact this
theorem mg{n l:Nat}{P:Program}{row:String}{args:Array Value}{w:World}{R:Value->World->Prop}(h:Rows P row args w R):RowsIn (Fence.wide.inRound l) n P row args w R :=
 fun c cs _=>let ⟨v,w',r,s⟩:=h c cs;⟨v,w',r,stepsIn_wide.2 s⟩
theorem uq{n l:Nat}{P:Program}{o:Oper}{a:Act}{w:World}{K:Act->World->Prop}{Q:Exit->Act->World->Prop}(Id:∀ c,o.op≠.defer c)(h:o.wp P a w K Q):o.wpIn (Fence.wide.inRound l) n P a w K Q:=by
 refine⟨fun _ _=>trivial,?_⟩;rw[Fence.inRound_round,Oper.semAt_some l a.eval o Id];unfold Oper.wp at h;generalize (execOp a.eval o).run P w=r at *;cases r with
 |ok x w' =>
  cases x with
  |value v=>exact h
  |skip=>exact h
  |defer d=>exact h
  |enter f args=>exact⟨fun h=>absurd h Bool.false_ne_true,CallsIn.inRound l (callsIn_wide.2 h)⟩
  |row r args=>exact⟨fun h=>absurd h Bool.false_ne_true,mg h⟩
  |round l f tmps assign body=>exact False.elim h
  |_=>exact False.elim h
 |halt x w'=>cases x <;> first | exact h | exact False.elim h
theorem Da{W W':World}{row:Option Nat}(hg:W.grownBy W' row)(hr:∀ r,row=some r->∃ o:Obj,W.heap[r]? = some o/\o.isCells=false){k:Nat}{cs:Array Value}{t:TypeId}{fr:Nat×Nat}(h:W.heap[k]? = some (.cells cs t fr)):W'.heap[k]? = some (.cells cs t fr) :=
 (grownBy_keeps_cells hg hr h rfl).trans h
theorem Bp{W W':World}{row:Option Nat}(hg:W.grownBy W' row)(hr:∀ r,row=some r->∃ o:Obj,W.heap[r]? = some o/\o.isCells=false){base:Nat}{e:TypeId}{size:Nat}{v:Value}{n:Nat}{xs:List Value}(h:W.ownsRow base e size v n xs):W'.ownsRow base e size v n xs:=by
 refine⟨h.1,?_⟩;rcases h.2 with h' | ⟨g,cap,cur,rfl,hb,hh,r⟩
 ·exact .inl h'
 ·exact .inr ⟨g,cap,cur,rfl,hb,Da hg hr hh,r⟩
theorem Dr{w w':World}{base:Nat}{e:TypeId}{size n:Nat}{v:Value}{xs:List Value}(hown:w.ownsRow base e size v n xs)(hg:w.grownBy w' v.ownBlock){k:Nat}{o:Obj}(h:w.heap[k]? = some o)(hne:∀ cur,o≠.cells cur e (0,0)):w'.heap[k]? = some o:=by
 refine (hg.block k (gl h) fun he=>?_).trans h;rcases hown.2 with ⟨rfl,_⟩ | ⟨g',cap,cur,rfl,_,hh,_⟩
 ·simp[Value.ownBlock] at he
 ·have:k=g':=by simpa[Value.ownBlock] using he
  subst this;rw[h] at hh;injection hh with hh;exact hne cur hh
theorem No{w:World}{g x:Nat}{cs ds:Array Value}{t u:TypeId}{fr gr:Nat×Nat}(h1:w.heap[g]? = some (.cells cs t fr))(h2:w.heap[x]? = some (.cells ds u gr))(ht:t≠u):g≠x:=by
 rintro rfl;have h3:=h1.symm.trans h2;injection h3 with h3;injection h3 with _ h3;exact ht h3
theorem qzV{α:Type}{κ:α->Value}{w:World}{g x:Nat}{l:List (α×Value)}{cs:Array Value}{t:TypeId}{fr:Nat×Nat}(h1:Uo κ w g l)(h2:w.heap[x]? = some (.cells cs t fr)):g≠x:=by
 rintro rfl;obtain⟨es,c,hh,_⟩:=h1;rw[hh] at h2;cases h2
theorem Uo.obj{α:Type}{κ:α->Value}{w:World}{g:Nat}{l:List (α×Value)}(h:Uo κ w g l):∃ o:Obj,w.heap[g]? = some o/\o.isCells=false:=by
 obtain⟨es,c,hh,_⟩:=h;exact⟨_,hh,rfl⟩
theorem qsK{P:Program}{w:World}{o:Oper}{a:Act}{K:Act->World->Prop}{Q:Exit->Act->World->Prop}{s x:Operand}{t e:TypeId}{size bytes:Nat}{z:Value}(T:Ev P t e size bytes z)
  (ho:o.op=.call { callee:=.builtin .append,args:=#[s,x],argTypes:=#[t,t] })
  {v:Value} {A:Option Addr} {m c:Nat} (hs:a.eval s=v) (hx:a.eval x=.slice A m c)
  {base:Nat} {n:Nat} {xs:List Value} (hown:w.ownsRow base e size v n xs)
  {B:Nat} {news:List Value} (hr:Rd w B A news) (hl:news.length=m*size) (h1:∀ u∈news,u.oneCell'=true)
  (h63:n+m<=maxLen) (Iu:(n+m)*bytes<=140737488355328) (hbase:base<=w.heap.size)
  (h:∀ A' c' w',w'.ownsRow base e size (.slice A' (n+m) c') (n+m) (xs++news)->w.grownBy w' v.ownBlock->((Value.slice A' (n+m) c').ownBlock=v.ownBlock\/(Value.slice A' (n+m) c').ownBlock=some w.heap.size)->K (a.put o.dst (.slice A' (n+m) c')) w'):o.wp P a w K Q :=
 qjU T ho hs hx hown hr hl h1 h63 Iu hbase fun v' w' h2 h3 h4 _=>by
  obtain⟨A',c',rfl,_,_⟩:=Zk h2;exact h A' c' w' h2 h3 h4
theorem qsL{P:Program}{w:World}{o:Oper}{a:Act}{K:Act->World->Prop}{Q:Exit->Act->World->Prop}{s x:Operand}{t e:TypeId}{size bytes:Nat}{z:Value}(T:Ev P t e size bytes z)
  (ho:o.op=.call { callee:=.builtin .append,args:=#[s,x],argTypes:=#[t,t] })
  {v:Value} {A:Option Addr} {m c:Nat} (hs:a.eval s=v) (hx:a.eval x=.slice A m c)
  {base:Nat} {n:Nat} {xs:List Value} (hown:w.ownsRow base e size v n xs)
  {B:Nat} {news:List Value} (hr:Rd w B A news) (hl:news.length=m*size) (h1:∀ u∈news,u.oneCell'=true)
  {k:Nat} {u:Value} {tb:TypeId} (Wv:w.heap[k]? = some (.cells #[u] tb (0,0))) (htb:tb≠e)
  (h63:n+m<=maxLen) (Iu:(n+m)*bytes<=140737488355328) (hbase:base<=w.heap.size)
  (h:∀ A' c' w',w'.ownsRow base e size (.slice A' (n+m) c') (n+m) (xs++news)->w.grownBy w' v.ownBlock->((Value.slice A' (n+m) c').ownBlock=v.ownBlock\/(Value.slice A' (n+m) c').ownBlock=some w.heap.size) ->
   w'.heap[k]? = some (.cells #[u] tb (0,0))->w'.cell? ⟨k,0,none⟩=some u->w'.frozen? ⟨k,0,none⟩=false->K (a.put o.dst (.slice A' (n+m) c')) w'):o.wp P a w K Q :=
 qsK T ho hs hx hown hr hl h1 h63 Iu hbase fun A' c' w' h2 h3 h4=>by
  have hb:=Dr hown h3 Wv (fun cur e=>by injection e with _ e;exact htb e);exact h A' c' w' h2 h3 h4 hb (Xc hb rfl) (by simp[World.frozen?,hb])
theorem fB{F:Fence}{n:Nat}{P:Program}{w:World}{a:Act}{α:Type}{g:Operand}{ps:Array Tmp}{assign body:Code}{Q:Exit->Act->World->Prop}
  (hro:F.round=none) (h1:1<=n) {gf:Nat} {lb:Array Value} (hg:a.eval g=.func (.func gf) #[] lb) (hFg:F.fn gf) (eg:∀ args w,(callFunc gf args).run P w=.ok (.enter gf args) w)
  {zbQ:α->Array Value} {Kp:World->World->Prop} {S Sp:List α->Prop} {N:Nat} {w0:World} (zqY:SeqStopsK F (n - 1) P gf lb zbQ Kp S Sp N w0)
  (hKt:∀{A B C:World},Kp A B->Kp B C->Kp A C) (hKb:∀(W:World)(l:Nat)(o o':Obj),w.heap.size<=l->W.heap[l]? = some o->o.isCells=false->o.isWalk=false->Kp W (W.putObj l o')) (Cq:Below w0.heap.size w0 w) (hps:∀ x,(zbQ x).size=ps.size)
  (I:List α->World->Prop) (Ix:Code->List α->World->Prop) (hI:OwnFrom w.heap.size I) (hIx:∀ c,OwnFrom w.heap.size (Ix c)) (h0:I [] w) (row:α->Array Value) (t:TypeId)
  (Nk:∀(pre:List α)(x:α)(W:World),I pre W->Kp W (W.alloc (.cells (row x) t))/\I pre (W.alloc (.cells (row x) t))) (a₁:α->Nat->Act)
  (hassign:∀(l:Nat)(x:α)(W Wn:World)(b:Nat)(K:Act->World->Prop),b=W.heap.size->Wn=W.alloc (.cells (row x) t)->K (a₁ x b) Wn ->
   assign.wpIn (F.inRound l) (n - 1 - 1) P (Exit.then K (fun _ _ _=>False)) { tmps:=(ps.zip (zbQ x)).foldl (fun t (p,v)=>t.setIfInBounds p v) a.tmps,defers:=[] } W)
  (hbody:∀(l:Nat)(pre:List α)(x:α)(b:Nat)(W:World),W.heap[b]? = some (.cells (row x) t (0,0))->I pre W->pre.length<N->body.wpIn (F.inRound l) (n - 1 - 1) P (ownPostG w.heap.size Kp I Ix (pre++[x]) W) (a₁ x b) W)
  (hdone:∀(D:Nat)(xs:List α)(W:World),w.heap.size<=D->S xs->I xs W->W.heap[D]? = some (.deferred (some []))->Q .normal { a with defers:={ target:=.collected D,args:=#[] }::a.defers } W)
  (hstop:∀(D:Nat)(c:Code)(pre:List α)(W:World),w.heap.size<=D->Sp pre->Ix c pre W->W.heap[D]? = some (.deferred (some []))->c.wpIn F n P Q { a with defers:={ target:=.collected D,args:=#[] }::a.defers } W) :
  (Code.rangeFunc g ps assign body).wpIn F n P Q a w :=
 wpIn_rangeFunc_ownH hro h1 hg hFg eg zqY (fun h k=>hKt h k) hKb Cq hps I Ix hI hIx h0 (fun x a' W=>∃ b:Nat,W.heap[b]? = some (.cells (row x) t (0,0))/\a'=a₁ x b)
  (fun _ _ _ _ _ _ hs hg hr=>let ⟨b,hb,e⟩:=hs;⟨b,Da hg (fun r e=>(hr r e).2) hb,e⟩)
  (fun l pre x W K hi hK=>hassign l x W _ _ K rfl rfl (hK _ _ ⟨by simp,fun k _ _ hk _=>(Zc W _ k (gl hk)).trans hk⟩ (Nk pre x W hi).1 (Nk pre x W hi).2 ⟨_,Xn W _,rfl⟩))
  (fun l pre x _ W _ _ hi hs hl=>by
   obtain⟨b,hb,rfl⟩:=hs
   exact hbody l pre x b W hb hi hl) hdone hstop
theorem bz{W:World}{D:Nat}{o:Obj}(hD:W.heap[D]? = some o)(ho:o.isCells=false){p:Addr}(hp:p.block=D):W.cell? p=none:=by
 unfold World.cell?;rw[hp,hD];cases o with
 |cells c t f=>cases ho
 |_=>rfl
theorem rx{W:World}{D:Nat}{o o':Obj}(hD:W.heap[D]? = some o)(ho:o.isCells=false)(wL:o'.isCells=false)(p:Addr):(W.putObj D o').cell? p=W.cell? p:=by
 by_cases hp:p.block=D
 ·rw[bz hD ho hp,bz (World.putObj_heap_same (w:=W) (o:=o') (gl hD)) wL hp]
 ·exact World.cell?_of_block (World.putObj_heap_other hp)
end Go.Proofs.YtmaojnmnbpomeaaGreatDoor
