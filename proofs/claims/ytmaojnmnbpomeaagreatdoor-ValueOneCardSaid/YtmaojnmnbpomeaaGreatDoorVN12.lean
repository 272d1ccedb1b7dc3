/- A part. -/
import Derived.Test.YtmaojnmnbpomeaaGreatDoorVN11
import Derived.RangeFuncNested
import Derived.RangeFuncBound
set_option maxRecDepth 100000
set_option maxHeartbeats 64000000
namespace Go.Proofs.YtmaojnmnbpomeaaGreatDoor
open Go.RowKit
variable{a:Act}{K:Act->World->Prop}{os:Array Obj}{cs cur:Array Value}{Q:Exit->Act->World->Prop}{ss:Jb}{l:List Nat}{rows:List Uk}{news xs:List Value}{B D N0 base bytes c c1 c2 g i k m n q size x:Nat}{fr:Nat×Nat}{A A1 A2 A3:Option Addr}{P:Program}{α σ:Type}{e t:TypeId}{v z:Value}{s:Wd}{W W' w w':World}{rs:Zz}
def gG(n:Int)(s:Wd):Bool:=s.all fun c=>decide ((c.toNat:Int)<n)
def Pp(n k:Int)(s:Wd):Bool:=gG n s&&decide ((s.length:Int)<=k)
theorem Y_{n:Int}(h:i<s.length):gG n (s.take (i+1))=(gG n (s.take i)&&decide ((s[i].toNat:Int)<n)):=by
 unfold gG;rw[Qc h,List.all_append];simp
theorem qgJ{n:Int}(h:i<s.length)(hb:¬ ((s[i].toNat:Int)<n)):gG n s=false:=by
 unfold gG;rw[List.all_eq_false];exact⟨s[i],Qg h,by simpa using hb⟩
theorem yW(s:Wd)(n k:Int)(w:World)(hs:s.length<=maxLen):Calls Tryz.prog 108 #[wv s,.int .i64 n,.int .i64 k] w fun e w'=>e=.returned (.bool (Pp n k s))/\Below w.heap.size w w':=by
 obtain⟨W,cw,hcv,hbW,hsW,hrd⟩:=qrK (P:=Tryz.prog) w 9 114 5 ⟨s.toArray⟩ Tryz.underlying9 Tryz.underlying114 Tryz.underlying5;rw[Ti]at hcv;have ak:=Lt (Rd W (w.heap.size+1) (some ⟨w.heap.size,0,none⟩) (Rz s)) (hrd);have HBW:=Lh hbW;have hz:=Ti s;obtain⟨n0,hn0⟩:=Xe s.length;rw[<-hn0]at hcv hz hs;unfold maxLen at hs;have HN:=Lh hn0;have HLK:=Lh (show Pp n k s=(gG n s&&decide ((n0:Int)<=k)) by unfold Pp;rw[hn0]);clear hrd hbW hsW hn0;go_enter Tryz.func108,Tryz.ntmps108;go_wp2_with fail;go_loopg [12] n0 (fun left v12 wr=>∃i:Nat,i<=n0/\n0-i<=left/\v12=.int .i64 i/\wr=W/\Hid (gG n (s.take i)=true));exact⟨0,by omega,by omega,rfl,rfl,rfl⟩;obtain⟨i,hi,Ef,rfl,rfl,HO⟩:=hrel;by_cases Oh:i<n0
 .have Wp:i<s.length:=by rw[<-HN.o];exact Oh
  obtain⟨bb,bo,tg,ng,hcb⟩:=ak.o.byte Wp;injection tg with tg;injection tg with e1 e2;subst e1 e2;rw[Yr]at hcb;have HT:=Lh (Y_ (n:=n) Wp);have Sl:=Lh (qgJ (n:=n) Wp);have Lr:=s[i].toNat_lt;obtain⟨x,hx,dB,hx3⟩:∃x:Int,((s[i].toNat:Nat):Int)=x/\0<=x/\x<256:=⟨_,rfl,by omega,by omega⟩;rw[hx]at hcb HT Sl;clear hx Lr Wp;by_cases hxn:x<n
  .have hd:decide (n<=x)=false:=by simpa using hxn
   go_wp2;go_roundg (gk-1);exact⟨i+1,by omega,by omega,by go_num,rfl,by show _=_;rw[HT.o,HO.o];simpa using hxn⟩;omega
  have hd:decide (n<=x)=true:=by simpa using hxn
  go_wp2;go_ret;exact⟨Kw (Zw (by rw[HLK.o,Sl.o hxn];rfl)),HBW.o⟩
 have HF:=Lh (show gG n s=true by
  have:=HO.o
  rwa [Qd (by rw[<-HN.o];omega)]at this)
 go_wp2;go_ret;exact⟨Kw (Zw (by rw[HLK.o,HF.o];simp)),HBW.o⟩
theorem jeF(a b:Uk):(decide (a.1=b.1)&&decide (a.2.1=b.2.1)&&decide (a.2.2=b.2.2))=decide (a=b):=by
 obtain⟨a1,a2,a3⟩:=a;obtain⟨b1,b2,b3⟩:=b;simp[Bool.and_assoc]
theorem qjN(A B:Option Addr)(ca cb:Nat)(xs ys:List Uk)(w:World)(ha:Je Bj w w.heap.size (.slice A xs.length ca) xs)(hb:Je Bj w w.heap.size (.slice B ys.length cb) ys) :
  Calls Tryz.prog 121 #[.slice A xs.length ca,.slice B ys.length cb] w fun e w'=>e=.returned (.bool (decide (xs=ys)))/\Below w.heap.size w w':=by
 have HA:=Lh ha;have HB:=Lh hb;have h1:=ha.n_le;have h2:=hb.n_le;by_cases hl:xs.length=ys.length
 .rw[<-hl]at HB h2 |-;obtain⟨n,hn⟩:=Xe xs.length;rw[<-hn]at HA HB h1 h2 |-;have HN:=Lh hn;have If:=Lh (hn.trans hl);clear ha hb hl hn;go_enter Tryz.func121,Tryz.ntmps121;go_wp2_with fail;go_loopg [13] n (fun left v13 wr=>∃i:Nat,i<=n/\n-i<=left/\v13=.int .i64 i/\Hid (xs.take i=ys.take i)/\Hid (Below w.heap.size w wr));exact⟨0,by omega,by omega,rfl,by simp[Hid],Xr _ _⟩;obtain⟨i,hi,Ef,rfl,HE,HBR⟩:=hrel;by_cases Oh:i<n
  .have Gj:i<xs.length:=by rw[<-HN.o];exact Oh
   have Rj:i<ys.length:=by rw[<-If.o];exact Oh
   obtain⟨b1,o1,rfl,-,hb1,a0,a1,a2,-⟩:=(HA.o.below HBR.o).rowAt Gj;obtain⟨b2,o2,rfl,-,Jd,c0,c1,c2,-⟩:=(HB.o.below HBR.o).rowAt Rj;have HT:=Lh (Qc Gj);have HT2:=Lh (Qc Rj);have Po:=Lh (Qa Gj);have dY:=Lh (Qa Rj);obtain⟨x,hx⟩:=Xe (xs[i]);obtain⟨y,hy⟩:=Xe (ys[i]);rw[<-hx]at a0 a1 a2 HT Po;rw[<-hy]at c0 c1 c2 HT2 dY;clear hx hy Gj Rj;obtain⟨xa,xs1,xi⟩:=x;obtain⟨ya,ys1,yi⟩:=y;simp only at a0 a1 a2 c0 c1 c2;go_wp2_with fail;refine Text.wp_text [8] (by kernel_rfl) (by kernel_rfl) (fun Q' hQ'=>?_);go_wp2_with fail
   all_goals refine⟨by rfl,?_⟩
   case isTrue.isTrue.isTrue =>
    rename_i g1 g2 g3;subst g1 g2 g3;go_wp2;go_roundg (gk-1);exact⟨i+1,by omega,by omega,by go_num,by show _=_;rw[HT.o,HT2.o,HE.o],HBR.o.drew⟩;omega
   all_goals
    have HNE:=Lh (show ¬ xs=ys by
     intro e
     have e2:=Po.o.symm.trans ((congrArg (fun l:List Uk=>l[i]?) e).trans dY.o)
     injection e2 with e2
     injection e2 with e2 e3
     injection e3 with e3 e4
     contradiction)
    go_wp2;go_ret;exact⟨Kw (Zw (by rw[eq_comm,Yl];exact HNE.o)),HBR.o.drew⟩
  have HF:=Lh (show xs=ys by
   have:=HE.o
   rwa [Qd (by rw[<-HN.o];omega),Qd (by rw[<-If.o];omega)]at this)
  go_wp2;go_ret;exact⟨Kw (Zw (by rw[HF.o];simp)),HBR.o⟩
 have hd:((xs.length:Int) != ys.length)=true:=by simpa using (show ¬ (xs.length:Int)=ys.length by omega)
 have HL:=Lh hl;clear hl;go_enter Tryz.func121,Tryz.ntmps121;go_wp2;go_ret;exact⟨Kw (Zw (by rw[eq_comm,Yl];intro h;exact HL.o (congrArg List.length h))),by go_grown⟩
theorem qfT(A B:Option Addr)(ca cb:Nat)(xs ys:List Uk)(w:World)(ha:Je Bj w w.heap.size (.slice A xs.length ca) xs)(hb:Je Bj w w.heap.size (.slice B ys.length cb) ys) :
  Calls Tryz.prog 63 #[.slice A xs.length ca,.slice B ys.length cb] w fun e w'=>e=.returned (.bool (decide (xs=ys)))/\Below w.heap.size w w':=by
 have HE:=Lh (qjN A B ca cb xs ys w ha hb);clear ha hb;go_enter Tryz.func63,Tryz.ntmps63;go_wp2_with fail;refine HE.o.mono ?_;rintro e w1 ⟨rfl,hb1⟩;go_wp2;go_ret;exact⟨rfl,hb1⟩
theorem qcV:Dg Tryz.prog 28 81 3 32 (.agg #[.int .i64 0,.string ⟨#[]⟩,.int .i64 0]):=Gh (by kernel_rfl) (by kernel_rfl) rfl (by omega)
def Wv(xs:List Uk):List Value:=(xs.map Ty).flatten
theorem pY(xs:List Uk)(x:Uk):Wv (xs++[x])=Wv xs++Ty x:=by simp[Wv]
theorem uV(xs:List Uk):(Wv xs).length=xs.length*3:=by
 induction xs with
 |nil=>rfl
 |cons x l ih=>unfold Wv at*;rw[List.map_cons,List.flatten_cons,Qe,ih,Qu];simp;omega
def qtO(xs:List Uk):Prop:=∀x∈xs,(-9223372036854775808<=x.1/\x.1<=9223372036854775807)/\x.2.1.length<=maxLen/\(-9223372036854775808<=x.2.2/\x.2.2<=9223372036854775807)
theorem qcR{xs:List Uk}(hf:qtO xs)(h:w.ownsRow base t 3 v xs.length (Wv xs)):Je Bj w w.heap.size v xs:=by
 obtain⟨A,c,rfl,h1,h2⟩:=Zp h;refine⟨A,c,xs.map Ty,rfl,h1,h2,by simp,Rd.of_own h,fun i cs x hc hx=>?_⟩;rw[Qv,hx]at hc;injection hc with hc;subst hc;obtain⟨⟨a1,a2⟩,a3,a4,a5⟩:=hf x (Qp hx);exact qyE a1 a2 a3 a4 a5
theorem Je.fitR{xs:List Uk}(h:Je Bj w B v xs):qtO xs:=by
 obtain⟨A,c,css,e,h1,h2,h3,h4,h5⟩:=h;intro x hx;obtain⟨i,hi,rfl⟩:=Qz hx;exact (oP (h5 i _ _ (Qa (by omega)) (Qa hi))).2
def Ub(left:Int)(xs:List Uk):List Uk:=xs.filter fun x=>decide (x.1=left)
theorem qw(left:Int)(xs:List Uk)(k:Nat)(h:k<xs.length):Ub left (xs.take (k+1))=Ub left (xs.take k)++if xs[k].1=left then [xs[k]]else []:=by
 unfold Ub;rw[Qc h,List.filter_append];congr 1;by_cases hb:xs[k].1=left <;> simp[hb]
theorem qgS(left:Int)(xs:List Uk)(k:Nat):(Ub left (xs.take k)).length<=k:=by
 unfold Ub;refine Yd (List.length_filter_le _ _) ?_;rw[Qq];omega
def OwnRows(w:World)(l:List Uk)(e:Ending)(w':World):Prop:=∃v,e=.returned v/\w'.ownsRow w.heap.size 81 3 v l.length (Wv l)/\Below w.heap.size w w'
theorem qwM(v:Value)(left:Int)(xs:List Uk)(w:World)(hv:Je Bj w w.heap.size v xs)(hr:xs.length<=1048576) :
  Calls Tryz.prog 47 #[v,.int .i64 left] w (OwnRows w (Ub left xs)):=by
 obtain⟨A,c,rfl,ew,sL⟩:=hv.form;unfold maxLen at sL;go_enter Tryz.func47,Tryz.ntmps47;go_wp2_with fail;go_loopw [5,10] (fun v5 v10 wr=>∃k:Nat,k<=xs.length/\v10=.int .i64 k/\wr.ownsRow w.heap.size 81 3 v5 (Ub left (xs.take k)).length (Wv (Ub left (xs.take k)))/\Below w.heap.size w wr) (fun _ v10 _=>xs.length-(intOf v10).toNat);exact⟨0,by omega,rfl,by simpa[Ub,Wv]using Za _ _ _ _,by go_grown⟩;obtain⟨k,hk,rfl,hown,hbr⟩:=hrel;by_cases Jl:k<xs.length
 .obtain⟨b1,o1,rfl,-,hb1,a0,a1,a2,-⟩:=(hv.below hbr).rowAt Jl;have hsn:=Lh (qw left xs k Jl);have hle:=qgS left xs k;have hbs:=hbr.size;obtain⟨x,hx⟩:=Xe (xs[k]);rw[<-hx]at a0 a1 a2 hsn;clear hx;obtain⟨xa,xs1,xi⟩:=x;simp only at a0 a1 a2;by_cases hq:xa=left
  .have hqb:(xa==left)=true:=by simp[hq]
   have HQ:=Lh hq;clear hq;go_wp2_with (at_builtin;refine Zy (m:=1) qcV rfl rfl rfl rfl ((hown.alloc _).alloc _) (Rd.row (B:=wr.heap.size+2) (Gg wr _ _) (by omega)) rfl (by simp[Value.oneCell']) ?h63 ?hby ?hbase ?_)
   case h63=>simp only[maxLen];omega
   case hby=>omega
   case hbase=>omega
   intro v1 w3 Tt oF _ _;go_wp2;go_roundw
   case rel =>
    refine⟨k+1,by omega,by go_num,?_,?_⟩
    .rw[hsn.o,if_pos HQ.o];rw[pY,Qe];exact Tt
    exact Zr ((hbr.alloc hbs _).alloc (by simp;omega) _) oF ((hown.alloc _).alloc _) (Yb _) (by simp;omega)
   case measure=>simp[intOf];omega
  have hqb:(xa==left)=false:=by simp[hq]
  have HQ:=Lh hq;clear hq;go_wp2;go_roundw;exact⟨k+1,by omega,by go_num,by rw[hsn.o,if_neg HQ.o,List.append_nil];exact hown.alloc _,hbr.alloc hbs _⟩;simp[intOf];omega
 have Du:k=xs.length:=by omega
 subst Du;rw[List.take_length]at hown;go_wp2;go_ret;exact⟨_,rfl,hown,hbr⟩
open Go.RowKit Go.Sort
theorem uW:∀(ks:List Uk)(t:Nat),t<ks.length*3->(Wv ks)[t]?=some ((Ty (ks.toArray[t/3]!))[t%3]!)
 |[],t,h=>by simp at h
 |k::r,t,h=>by
  unfold Wv;rw[List.map_cons,List.flatten_cons];by_cases ht:t<3
  .rw[Qo (by exact ht),Nat.div_eq_of_lt ht,Nat.mod_eq_of_lt ht];have hl:t<(Ty k).length:=ht;rw[Qa hl];simp only[List.getElem!_toArray,List.getElem!_cons_zero];rw[getElem!_pos (Ty k) t hl]
  rw[Qn (by simp only[Ty,Qu,Xu];omega)];have ih:=uW r (t-3) (by rw[Qu,Nat.add_mul]at h;omega);unfold Wv at ih;rw[show t-(Ty k).length=t-3 from rfl,ih];have e1:t/3=(t-3)/3+1:=by omega
  have e2:t%3=(t-3)%3:=by omega
  rw[e1,e2];have Jl:(t-3)/3<r.length:=by rw[Qu,Nat.add_mul]at h;omega
  simp[Jl]
theorem wV(ks:List Uk):(flatK Ty 3 ks.toArray).toList=Wv ks:=by
 apply List.ext_getElem?;intro t;by_cases h:t<ks.length*3
 .rw[uW ks t h,Array.getElem?_toList];have h':t<ks.toArray.size*3:=by simpa using h
  have hs:t<(flatK Ty 3 ks.toArray).size:=by rw[size_flatK];exact h'
  have:=get_flatK Ty 3 ks.toArray t h';rw[getElem!_pos _ t hs]at this;rw[Array.getElem?_eq_getElem hs,this]
 rw[Xg (by rw[Array.length_toList,size_flatK];simpa using h),Xg (by rw[uV];omega)]
theorem rm(x y:Uk):ltOf iO x y=true↔Mq x y:=by
 unfold ltOf;rw[Yk];exact qcX x y
theorem nX(x y:Uk):ltOf iO x y=false↔¬ Mq x y:=by
 rw[<-rm,Bool.not_eq_true]
theorem qfY{a a' b:Uk}(h:Uc a=Uc a')(hl:Mq a b):Mq a' b:=by
 unfold Uc at h;injection h with h1 h2;unfold Mq at*;rw[<-h1,<-h2];exact hl
theorem zsN:SWO (ltOf iO) where
 irrefl:=fun x=>by rw[nX];exact fun h=>kO h rfl
 trans:=fun x y z h1 h2=>by rw[rm]at*;exact cH h1 h2
 ntrans:=fun x y z h1 h2=>by
  rw[nX]at*;intro h;rcases bx x y with h3|h3|h3
  .exact h1 h3
  .exact h2 (qfY h3 h)
  exact h2 (cH h3 h)
theorem r_{ks:List Uk}(hb:w.heap[g]?=some (.cells cur e (0,0)))(ht:cur.toList.take (ks.length*3)=Wv ks):HoldsK Ty 3 w g 0 ks.toArray:=by
 intro j hj;have aU:j<ks.length*3:=by simpa using hj
 refine⟨?_,by simp[World.frozen?,hb]⟩;have h1:(cur.toList.take (ks.length*3))[j]?=(flatK Ty 3 ks.toArray).toList[j]? := by rw[ht,wV]
 rw[List.getElem?_take_of_lt aU,Array.getElem?_toList,Array.getElem?_toList,Array.getElem?_eq_getElem hj]at h1;rw[getElem!_pos _ j hj];simp only[World.cell?,hb,Yr];simp only[Option.isSome_none,Bool.false_eq_true,if_false];rw[h1];rfl
theorem ka(F:Array Value)(hb:w.heap[g]?=some (.cells cur e fr)) :
  (Go.Sort.grow (putRow id (Sort.ahead w n) g 0 F) os).heap[g]?=some (.cells (putCells id 0 F cur) e fr):=by
 have hg:g<w.heap.size:=(gl hb);rw[heap_grow_old _ _ (by simpa using hg)];simp[putRow,mapBlock,Sort.ahead,Xz,hb,onCells]
theorem rM(F:Array Value):w.grownBy (Go.Sort.grow (putRow id (Sort.ahead w n) g 0 F) os) (some g):=by
 refine⟨rfl,rfl,rfl,by simp,fun k hk hne=>?_⟩;rw[heap_grow_old _ _ (by simpa using hk)];have:g≠k:=fun e=>hne (by rw[e]);simp[putRow,mapBlock,Sort.ahead,Xz,this]
theorem tQ(cur F:Array Value)(h:F.size<=cur.size):(putCells id 0 F cur).toList.take F.size=F.toList:=by
 apply List.ext_getElem?;intro j;by_cases hj:j<F.size
 .rw[List.getElem?_take_of_lt hj,Array.getElem?_toList];simp[putCells,hj,show j<cur.size by omega]
 rw[List.getElem?_take_eq_none (by omega),Xg (by simp;omega)]
theorem qhN(w:World):(isAgg 81).run Tryz.prog w=.ok true w:=by kernel_rfl
theorem zl(w:World):(Go.sizeOf 81).run Tryz.prog w=.ok 3 w:=by kernel_rfl
def qbP(base:Nat)(v:Value)(ks:List Uk)(w:World)(w':World):Prop :=
 ∃ks':List Uk,ks'.Perm ks/\ks'.Pairwise (fun a b=>¬ Mq b a)/\w'.ownsRow base 81 3 v ks'.length (Wv ks')/\w.grownBy w' v.ownBlock
theorem iy(base:Nat)(A:Option Addr)(c:Nat)(ks:List Uk)(w:World)(h:w.ownsRow base 81 3 (.slice A ks.length c) ks.length (Wv ks))(hn:ks.length<4611686018427387904) :
  Calls Tryz.prog 41 #[.slice A ks.length c,.func (.func 42) #[] #[]] w fun e w'=>e=.returned (.tuple #[])/\qbP base (.slice A ks.length c) ks w w':=by
 have eg:∀args w,(callFunc 42 args).run Tryz.prog w=.ok (.enter 42 args) w:=enters_of Tryz.func42 (by kernel_rfl) rfl;have HH:=Lh h;rcases HH.o.2 with ⟨zU,h0⟩|⟨g,cap,cur,hv,hbase,hb,h1,h2,h3,h4⟩
 .injection zU with e1 e2 e3;subst e1;rw[h0];refine (AnyF.slices_SortFunc_none { Tryz.sortLay with } none c _ w).mono fun e w' ⟨he,hw⟩=>⟨he,ks,List.Perm.refl _,?_,?_,?_⟩
  .rw[Xx h0];exact List.Pairwise.nil
  .subst hw;have:=HH.o;rw[h0]at this;rw[h0];exact this
  subst hw;exact⟨rfl,rfl,rfl,Yb _,fun _ _ _=>rfl⟩
 injection hv with e1 e2 e3;subst e1 e3;have hH:=r_ hb h4;have hgl:g<w.heap.size:=(gl hb);have:=AnyQ.slices_SortFunc Tryz.sortLay 3 qhN zl Ty (fun _=>rfl) (fun k u hu=>by simp only[Ty,List.mem_cons,List.not_mem_nil,or_false]at hu;rcases hu with rfl|rfl|rfl <;> rfl) iO zsN 42 #[] g 0 c ks.toArray w eg (fun m os dk hdk x y=>(da x y _).mono fun e w' ⟨he,hb,hd⟩=>⟨he,wP hb hd⟩) hH hgl (by simpa using hn);simp only[List.size_toArray]at this;refine Calls.mono this fun e w' ⟨he,d',n,os,hp,hs,hw⟩=>⟨he,d'.toList,?_,?_,?_,?_⟩
 .obtain⟨p1,_,p3⟩:=hp;have e1:d'.extract 0 ks.length=d':=by
   apply Array.extract_eq_self_of_le;rw[p1];simp
  have e2:ks.toArray.extract 0 ks.length=ks.toArray:=by
   apply Array.extract_eq_self_of_le;simp
  rw[e1,e2]at p3;simpa using p3
 .rw[List.pairwise_iff_getElem];intro i j hi hj hij;have Fb:d'.size=ks.length:=by rw[hp.1];simp
  have:=hs i j (Yg _) hij (by rw[<-Fb];simpa using hj);rw[nX]at this;have aU:j<d'.size:=by simpa using hj
  have hi':i<d'.size:=by simpa using hi
  rw[getElem!_pos d' j aU,getElem!_pos d' i hi']at this;simpa using this
 .have Fb:d'.toList.length=ks.length:=by rw[Array.length_toList,hp.1];simp
  subst hw;have hF:(flatK Ty 3 d')=(flatK Ty 3 d'.toList.toArray):=by simp
  rw[Fb];refine⟨by rw[uV,Fb],.inr ⟨g,c,_,rfl,hbase,ka _ hb,h1,h2,by simp[putCells,h3],?_⟩⟩;have hfs:(flatK Ty 3 d').size=ks.length*3:=by rw[size_flatK,hp.1];simp
  have:=tQ cur (flatK Ty 3 d') (by rw[hfs,h3];exact Nat.mul_le_mul_right 3 h1);rw[hfs]at this;rw[this,hF,wV]
 subst hw;exact rM _
structure bM(N0:Nat)(w w':World):Prop where
 below:Below N0 w w'
 size:w.heap.size<=w'.heap.size
 typed:∀(g:Nat)(cs:Array Value)(t:TypeId)(fr:Nat×Nat),w.heap[g]?=some (.cells cs t fr)->t≠85->t≠32->w'.heap[g]?=some (.cells cs t fr)
theorem bM.refl(N0:Nat)(w:World):bM N0 w w:=⟨Xr _ _,Yb _,fun _ _ _ _ h _ _=>h⟩
theorem bM.trans{N0:Nat}{w w1 w2:World}(h:bM N0 w w1)(h2:bM N0 w1 w2):bM N0 w w2:=⟨h.below.trans h2.below,Yd h.size h2.size,fun g cs t fr hg h3 h4=>h2.typed g cs t fr (h.typed g cs t fr hg h3 h4) h3 h4⟩
theorem bM.of_below(h:Below w.heap.size w w')(hN:N0<=w.heap.size):bM N0 w w':=⟨h.mono hN,h.size,fun _ _ _ _ hg _ _=>(h.block _ (gl hg)).trans hg⟩
def Mf:List Nat->List (Nat×Nat)
 |[]=>[]
 |a::l=>l.map (fun b=>(a,b))++Mf l
def zmQ{σ:Type}(F:FuncId)(cap:Array Value)(l:List Nat)(N0:Nat)(f:σ->Nat×Nat->σ)(s0:σ)(I:σ->World->Prop):Prop :=
 ∀(pre post:List (Nat×Nat))(w1:World)(a b:Nat),Mf l=pre++(a,b)::post->a∈l->b∈l->I (pre.foldl f s0) w1->N0<=w1.heap.size->Calls Tryz.prog F (#[.int .i64 a,.int .i64 b]++cap) w1 fun e w2=>e=.returned (.tuple #[])/\I (f (pre.foldl f s0) (a,b)) w2/\bM N0 w1 w2
def bA{σ:Type}(l:List Nat)(f:σ->Nat×Nat->σ)(s0 s:σ)(rest:List (Nat×Nat)):Prop:=∃pre,s=pre.foldl f s0/\Mf l=pre++rest
theorem bA.next{f:σ->Nat×Nat->σ}{s0 s:σ}{p:Nat×Nat}{rest:List (Nat×Nat)}(h:bA l f s0 s (p::rest)):bA l f s0 (f s p) rest:=by
 obtain⟨pre,rfl,h⟩:=h;exact⟨pre++[p],by simp,by simp[h]⟩
theorem bA.done{f:σ->Nat×Nat->σ}{s0 s:σ}(h:bA l f s0 s []):s=(Mf l).foldl f s0:=by
 obtain⟨pre,rfl,h⟩:=h;rw[h,List.append_nil]
theorem M_(rs:Zz)(left:Int):Lo rs left rs.length=(Wm rs left).map fun i:Nat=>(i:Int):=rfl
theorem qgG(F:FuncId)(cap:Array Value)(hF:∀(args:Array Value)(w:World),(callFunc F args).run Tryz.prog w=.ok (.enter F args) w)(f:σ->Nat×Nat->σ)(I:σ->World->Prop){c3:Nat}{g:Kd}(left:Int)(s0:σ)(w:World)
  (h:Np w w.heap.size A1 A2 A3 n m q c1 c2 c3 g) (hN:N0<=w.heap.size) (hI:∀s w1 w2,I s w1->Below w1.heap.size w1 w2->I s w2) (h0:I s0 w) (gK:zmQ F cap (Wm g.2.2 left) N0 f s0 I) :
  Calls Tryz.prog 92 #[Rw A1 A2 A3 n m q c1 c2 c3,.int .i64 left,.func (.func F) #[] cap] w fun e w'=>e=.returned (.tuple #[])/\I ((Mf (Wm g.2.2 left)).foldl f s0) w'/\bM N0 w w':=by
 have Nd:=(Xr w.heap.size w).alloc (Yb _) (.cells #[.slice A1 n c1,.slice A2 m c2,.slice A3 q c3] 25);have HZ:=Lh (Xs w (.cells #[.slice A1 n c1,.slice A2 m c2,.slice A3 q c3] 25));have HV:=Lh (h.fut (B':=w.heap.size+1) Nd (Yb _) (by omega));have HBX:=Lh Nd;have HI:=Lh hI;have HI1:=Lh (hI _ _ _ h0 Nd);have HF:=Lh hF;have HS:=Lh gK;have yO:=h.small;have HQ:=Lh h.ln.2.2;have HLE:=Lh (show (Wm g.2.2 left).length<=1048576 by
  unfold Wm
  refine Yd (List.length_filter_le _ _) ?_
  rw[List.length_range,<-h.ln.2.2]
  exact yO.2.2)
 clear h Nd hI h0 hF gK;go_enter Tryz.func92,Tryz.ntmps92;go_wp2_with fail;generalize w.alloc (.cells #[.slice A1 n c1,.slice A2 m c2,.slice A3 q c3] 25)=w1 at*;refine (kh A1 A2 (.slice A3 q c3) n m c1 c2 left g.2.2 w1 (by rw[HZ.o];exact HV.o.rules) (by rw[<-HQ.o];omega)).mono ?_;rintro e w2 ⟨v,rfl,hown,Jd⟩;rw[M_]at hown;obtain⟨l,hl⟩:=Xe (Wm g.2.2 left);rw[<-hl]at hown HLE;have HLL:=Lh hl;have HI2:=Lh (HI.o _ _ _ HI1.o Jd);have pG:=Lh (bM.of_below (HBX.o.trans (Jd.mono (by rw[HZ.o];omega))) hN);have HO:=Lh hown;rw[Qk]at HO hown;obtain⟨nl,Ow⟩:=Xe l.length;rw[<-Ow]at HO HLE hown;have kB:=Lh Ow;obtain⟨Pm,si⟩:=Xe ((Mf l).foldl f s0);have HTOT:=Lh si;have Mc:Hid (∀(e:Ending)(w':World),e=.returned (.tuple #[])->I Pm w'->bM N0 w w'->e=.returned (.tuple #[])/\I ((Mf (Wm g.2.2 left)).foldl f s0) w'/\bM N0 w w'):=by
  intro e w' h1 h2 h3;rw[<-HLL.o,<-HTOT.o];exact⟨h1,h2,h3⟩
 rcases hown.2 with ⟨rfl,hz⟩|⟨gl,zmM,cur,rfl,hbase,hgl,wJ,Hn,hl3,hl4⟩
 .have HT0:=Lh (show Pm=s0 by
   rw[si,(Xx (by rw[<-Ow];exact hz):l=[])]
   rfl)
  have hnl0:nl=0:=hz;clear hown Jd hl Ow si hz;go_wp2_with fail;go_loopg [16] 0 (fun lft ob wr=>ob=.int .i64 0/\wr=w2);exact⟨rfl,rfl⟩;obtain⟨rfl,rfl⟩:=hrel;go_wp2
  go_end0
  exact Mc.o _ _ rfl (by rw[HT0.o];exact HI2.o) pG.o
 have HGL:=Lh hgl;have zoN:Hid (∀(w':World),w'.heap[gl]?=some (.cells cur 3 (0,0))->∀i (hi:i<l.length),w'.cell? ⟨gl,i,none⟩=some (.int .i64 ((l[i]:Nat):Int))):=by
  intro w' hw i hi;rw[Zd w' gl i _ _ _ hw,<-Array.getElem?_toList];have:(cur.toList.take (nl*1))[i]?=cur.toList[i]? := List.getElem?_take_of_lt (by omega);rw[<-this,hl4];simp[Ku,hi]
 have hle:=HLE.o;clear hown Jd hl Ow si hgl hl4;go_wp2_with fail;go_loopg [16] nl (fun lft ob wr=>∃(i:Nat)(s:σ),i<=nl/\nl-i<=lft/\ob=.int .i64 i/\Hid (bA l f s0 s (Mf (l.drop i)))/\Hid (I s wr)/\Hid (bM N0 w2 wr));exact⟨0,s0,by omega,by omega,rfl,⟨[],rfl,rfl⟩,HI2.o,bM.refl _ _⟩;clear HI2;obtain⟨i,s,hi,sv,rfl,HTI,HIS,HCA⟩:=hrel;obtain⟨gas,Gx⟩:=Xe gk;rw[<-Gx]at sv;have HGK:=Lh Gx;clear Gx;have oF:=HCA.o.typed gl cur _ _ HGL.o (by decide) (by decide);by_cases Uh:i<nl
 .have Wp:i<l.length:=by rw[<-kB.o];exact Uh
  have Vn:=zoN.o _ oF i Wp;have Ah:=Lh (Qg Wp);have HTI2:=Lh (show bA l f s0 s (((l.drop (i+1)).map fun b=>(l[i],b))++Mf (l.drop (i+1))) by have:=HTI.o;rwa [Ql Wp]at this);obtain⟨a,ha⟩:=Xe (l[i]);rw[<-ha]at Vn Ah HTI2;clear ha Wp oF HTI;by_cases hci:zmM=i+1
  .have hni:nl=i+1:=by omega
   have HTI3:=Lh (show bA l f s0 s (Mf (l.drop (i+1))) by
    have:=HTI2.o
    rwa [List.drop_eq_nil_of_le (by rw[<-kB.o];omega)]at this |-)
   subst hci;subst hni;go_wp2_with fail;go_loopg [26] 0 (fun lft v26 wt=>v26=.int .i64 0/\wt=wr);exact⟨rfl,rfl⟩;obtain⟨rfl,rfl⟩:=hrel;go_wp2;go_roundg (gas-1);exact⟨i+1,s,by omega,by omega,by go_num,HTI3.o,HIS.o,HCA.o⟩;have:=HGK.o;omega
  go_wp2_with fail;go_loopg [26] (nl-(i+1)) (fun lft v26 wt=>∃(j:Nat)(t:σ),j<=nl-(i+1)/\nl-(i+1)-j<=lft/\v26=.int .i64 j/\Hid (bA l f s0 t ((((l.drop (i+1)).drop j).map fun b=>(a,b))++Mf (l.drop (i+1))))/\Hid (I t wt)/\Hid (bM N0 w2 wt));exact⟨0,s,by omega,by omega,rfl,HTI2.o,HIS.o,HCA.o⟩;clear HTI2 HIS HCA Vn;obtain⟨j,t,hj,qpU,rfl,HTJ,HIT,HCA⟩:=hrel;have oF:=HCA.o.typed gl cur _ _ HGL.o (by decide) (by decide);by_cases hjn:j<nl-(i+1)
  .have Mw:i+1+j<l.length:=by rw[<-kB.o];omega
   have Nj:=zoN.o _ oF (i+1+j) Mw;have zcB:=Lh (Qg Mw);have HTJ2:=Lh (show bA l f s0 t ((a,l[i+1+j])::((((l.drop (i+1)).drop (j+1)).map fun b=>(a,b))++Mf (l.drop (i+1)))) by
    have z_:j<(l.drop (i+1)).length:=by rw[Xl];omega
    have:=HTJ.o
    rwa [Ql z_,List.map_cons,List.cons_append,List.getElem_drop]at this)
   obtain⟨b,hb⟩:=Xe (l[i+1+j]);rw[<-hb]at Nj zcB HTJ2;clear hb Mw oF HTJ;go_wp2_with fail;rw[HF.o];obtain⟨pre,Cr,Wc⟩:=HTJ2.o;refine (HS.o pre _ _ a b (by rw[<-HLL.o];exact Wc) (by rw[<-HLL.o];exact Ah.o) (by rw[<-HLL.o];exact zcB.o) (by rw[<-Cr];exact HIT.o) (Yd hN (Yd pG.o.size HCA.o.size))).mono ?_;rw[<-Cr];clear Cr Wc;rintro e w5 ⟨rfl,hi5,hc5⟩;have HI5:=Lh hi5;have HC5:=Lh (HCA.o.trans hc5);clear hi5 hc5;go_wp2;go_roundg (gk-1);exact⟨j+1,f t (a,b),by omega,by omega,by go_num,HTJ2.o.next,HI5.o,HC5.o⟩;omega
  have HTJ2:=Lh (show bA l f s0 t (Mf (l.drop (i+1))) by
   have:=HTJ.o
   rwa [show (l.drop (i+1)).drop j=[]from List.drop_eq_nil_of_le (by rw[Xl,<-kB.o];omega)]at this)
  clear oF HTJ;go_wp2;go_roundg (gas-1);exact⟨i+1,t,by omega,by omega,by go_num,HTJ2.o,HIT.o,HCA.o⟩;have:=HGK.o;omega
 have HT0:=Lh (show Pm=s by
  have:=HTI.o
  rw[List.drop_eq_nil_of_le (by rw[<-kB.o];omega)]at this
  exact HTOT.o.trans (bA.done this).symm)
 go_wp2
 go_end0
 exact Mc.o _ _ rfl (by rw[HT0.o];exact HIS.o) (pG.o.trans HCA.o)
theorem qjV:Dg Tryz.prog 32 85 4 40 (.agg #[.int .i64 0,.string ⟨#[]⟩,.int .i64 0,.int .i64 0]):=Gh (by kernel_rfl) (by kernel_rfl) rfl (by omega)
abbrev clc(x:Wl):List Value:=[.int .i64 x.1,wv x.2.1,.int .i64 x.2.2.1,.int .i64 x.2.2.2]
def Ht(xs:List Wl):List Value:=(xs.map clc).flatten
theorem vj(xs:List Wl)(x:Wl):Ht (xs++[x])=Ht xs++clc x:=by simp[Ht]
def Ia(left:Int)(sets:Jb)(s:List Wl)(p:Nat×Nat):List Wl:=s++aP left sets p.1 p.2
def qdC(left:Int)(a b:Nat):Option Wd->List Wl
 |none=>[]
 |some w=>[(left,w,(a:Int),(b:Int))]
theorem qgI(left:Int)(sets:Jb)(a b:Nat):aP left sets a b=qdC left a b (Dv (sets.getD a []) (sets.getD b [])):=by
 unfold aP qdC;cases Dv (sets.getD a []) (sets.getD b []) <;> rfl
theorem qnQ(left:Int)(sets:Jb)(a b:Nat):(aP left sets a b).length<=1:=by
 unfold aP;split <;> simp
theorem dN(left:Int)(sets:Jb):∀(l:List (Nat×Nat))(s:List Wl),l.foldl (Ia left sets) s=s++l.flatMap fun p=>aP left sets p.1 p.2
 |[],s=>by simp
 |p::l,s=>by rw[List.foldl_cons,dN left sets l];simp[Ia]
theorem jF(left:Int)(sets:Jb):∀(l:List (Nat×Nat))(s:List Wl),(l.foldl (Ia left sets) s).length<=s.length+l.length
 |[],s=>by simp
 |p::l,s=>by
  rw[List.foldl_cons];have h1:=jF left sets l (Ia left sets s p);have h2:=qnQ left sets p.1 p.2;simp only[Ia,Qe,Qu]at h1 |-;omega
theorem nN:∀l:List Nat,(Mf l).length<=l.length*l.length
 |[]=>by simp[Mf]
 |a::l=>by
  have:=nN l;simp only[Mf,Qe,Qk,Qu,Nat.mul_add,Nat.add_mul];omega
theorem nO(left:Int)(sets:Jb):∀l:List Nat,((Mf l).flatMap fun p=>aP left sets p.1 p.2)=Ck left sets l
 |[]=>rfl
 |a::l=>by
  simp only[Mf,List.flatMap_append,Ck,nO left sets l,List.flatMap_map]
structure qkZ(N0 GS GO GL:Nat)(A:Option Addr)(ns c:Nat)(left:Int)(sets:Jb)(s:List Wl)(w:World):Prop where
 hs:w.heap[GS]?=some (.cells #[.slice A ns c] 76 (0,0))
 hl:w.heap[GL]?=some (.cells #[.int .i64 left] 3 (0,0))
 ho:∃v,w.heap[GO]?=some (.cells #[v] 32 (0,0))/\w.ownsRow N0 85 4 v s.length (Ht s)
 sl:Je (Tw eW) w N0 (.slice A ns c) sets
 hN:N0<=w.heap.size
 hO:N0<=GO
theorem qkZ.below{N0 GS GO GL:Nat}{A:Option Addr}{ns c:Nat}{left:Int}{sets:Jb}{s:List Wl}{w w':World}(h:qkZ N0 GS GO GL A ns c left sets s w)(hb:Below w.heap.size w w'):qkZ N0 GS GO GL A ns c left sets s w':=by
 obtain⟨v,h1,h2⟩:=h.ho;have l1:=(gl h.hs);have l2:=(gl h.hl);have l3:=(gl h1);exact⟨(hb.block _ l1).trans h.hs,(hb.block _ l2).trans h.hl,⟨v,(hb.block _ l3).trans h1,Jc h2 hb⟩,h.sl.below (hb.mono h.hN),Yd h.hN hb.size,h.hO⟩
theorem qbB{GS GO GL:Nat}{ns:Nat}{left:Int}{sets:Jb}{s:List Wl}{a b:Nat}(w:World)(h:qkZ N0 GS GO GL A ns c left sets s w)(ep:s.length<=1099511627776)(ha:a<ns)(hb:b<ns)(Fb:∀x∈sets,x.length<=1048576) :
  Calls Tryz.prog 93 #[.int .i64 a,.int .i64 b,.pointer (some ⟨GS,0,none⟩),.pointer (some ⟨GO,0,none⟩),.pointer (some ⟨GL,0,none⟩)] w fun e w'=>e=.returned (.tuple #[])/\qkZ N0 GS GO GL A ns c left sets (Ia left sets s (a,b)) w'/\bM N0 w w':=by
 obtain⟨v,h1,h2⟩:=h.ho;have cS:=Vv h.hs;have cL:=Vv h.hl;have cO:=Vv h1;have HN:=h.sl.n_eq;have Aj:a<sets.length:=by omega
 have iY:b<sets.length:=by omega
 obtain⟨b1,o1,cs1,rfl,_,hb1,Ev,Kr⟩:=h.sl.get Aj (by decide);obtain⟨v1,rfl,jU⟩:=Ev;have x1:=Kr 0 _ rfl;obtain⟨b2,o2,cs2,sL,_,Jd,Mv,Jr⟩:=h.sl.get iY (by decide);obtain⟨v2,rfl,qJ⟩:=Mv;injection sL with sL;injection sL with e1 e2;subst e1 e2;have x2:=Jr 0 _ rfl;simp only[show (Tw eW).size=1 from rfl,Ys,Yq]at x1 x2;have HP:=Lh (show Ia left sets s (a,b)=s++qdC left a b (Dv sets[a] sets[b]) by
  unfold Ia
  rw[qgI]
  simp only[Qb,Qa Aj,Qa iY,Option.getD_some])
 have z1:=Fb _ (Qg Aj);have z2:=Fb _ (Qg iY);obtain⟨p1,hp1⟩:=Xe (sets[a]);obtain⟨p2,hp2⟩:=Xe (sets[b]);rw[<-hp1]at HP jU z1;rw[<-hp2]at HP qJ z2;obtain⟨A3,c3,rfl,_,_⟩:=jU.form;obtain⟨A4,c4,rfl,_,_⟩:=qJ.form;have Ca:=Lh jU;have bR:=Lh qJ;have HH:=Lh h;have HO:=Lh h2;have HZ1:=Lh z1;have HZ2:=Lh z2;have dZ:=Lh h.hN;clear hp1 hp2 jU qJ h h2 Kr Jr Fb Aj iY z1 z2;go_enter Tryz.func93,Tryz.ntmps93;go_wp2;refine Text.wt (by kernel_rfl) fun Q' hQ'=>?_;go_wp2_with fail;have HW:=Lh (((Xr w.heap.size w).alloc (Yb _) (.cells #[.slice A3 p1.length c3,.slice A4 p2.length c4] 22)).drew);have HK:=Lt ((w.alloc (.cells #[.slice A3 p1.length c3,.slice A4 p2.length c4] 22)).drew.heap[w.heap.size]?=_) (Xn w (.cells #[.slice A3 p1.length c3,.slice A4 p2.length c4] 22));have HS2:=Lt ((w.alloc (.cells #[.slice A3 p1.length c3,.slice A4 p2.length c4] 22)).drew.heap.size=w.heap.size+1) (Xs w _);generalize (w.alloc (.cells #[.slice A3 p1.length c3,.slice A4 p2.length c4] 22)).drew=w2 at*;refine (qbA w.heap.size A3 A4 c3 c4 p1 p2 w2 (Xc HK.o rfl) (Xc HK.o rfl) (Ca.o.fut (HW.o.mono dZ.o) (Yb _) (by rw[HS2.o];have:=dZ.o;omega)) (bR.o.fut (HW.o.mono dZ.o) (Yb _) (by rw[HS2.o];have:=dZ.o;omega)) HZ1.o HZ2.o).mono ?_;rintro e w5 ⟨hb5,lE⟩;have HB5:=Lh (HW.o.trans (hb5.mono (by rw[HS2.o];omega)));have H5:=Lh (HH.o.below HB5.o);have HC5:=Lh (bM.of_below HB5.o dZ.o);cases hco:Dv p1 p2 with
 |none =>
  rw[hco]at lE HP;simp only at lE;subst lE;have HP2:=Lh (show Ia left sets s (a,b)=s by rw[HP.o];simp[qdC]);clear hco hb5;go_wp2;refine⟨by rfl,?_⟩;go_wp2
  go_end0
  exact⟨rfl,by rw[HP2.o];exact H5.o,HC5.o⟩
 |some x =>
  rw[hco]at lE HP;simp only at lE;subst lE;have HP2:=Lh (show Ia left sets s (a,b)=s++[(left,x,(a:Int),(b:Int))] by rw[HP.o];rfl);obtain⟨l1,l2,l3⟩:GS<w.heap.size/\GL<w.heap.size/\GO<w.heap.size:=⟨(gl HH.o.hs),(gl HH.o.hl),(gl h1)⟩;have HO5:=Lh (Jc HO.o HB5.o);have HG5:=Lh ((HB5.o.block _ l3).trans h1);have HN5:=Lh (Yd dZ.o HB5.o.size);clear hco hb5 cS cO cL x1 x2 l1 l2 l3 h1;have cO:=Vv HG5.o;have cL:=Vv H5.o.hl;go_wp2;refine⟨by rfl,?_⟩;go_wp2_with (at_builtin;refine Zy (m:=1) (n:=s.length) qjV rfl rfl rfl rfl (HO5.o.alloc _) (Rd.row (B:=w5.heap.size+1) (Xn w5 _) (by omega)) rfl (by simp[Value.oneCell']) (by unfold maxLen;omega) (by omega) (by rw[Xs];have:=HN5.o;omega) ?_);intro v' w7 ho7 Rk hv7 _;have HT7:=Lh (show ∀(g:Nat)(cs:Array Value)(t:TypeId)(fr:Nat×Nat),w5.heap[g]?=some (.cells cs t fr)->t≠85->w7.heap[g]?=some (.cells cs t fr)from fun g cs t fr hg ht=>by
   refine Zs (HO5.o.alloc _) Rk ?_ ht
   rw[Zf _ _ _ (gl hg)]
   exact hg)
  have HG7:=Lh (HT7.o _ _ _ _ HG5.o (by decide));have HB7:=Lt (Below N0 w5 w7) (Zr (((Xr w5.heap.size w5).mono HN5.o).alloc HN5.o (.cells (clc (left,x,(a:Int),(b:Int))).toArray 85)) Rk (HO5.o.alloc _) (Yb _) (by rw[Xs];have:=HN5.o;omega));have HS7:=Lh (show w5.heap.size<=w7.heap.size by have:=Rk.size;rw[Xs]at this;omega);obtain⟨A7,c7,rfl,h71,h72⟩:=Zp ho7;have HO7:=Lh ho7;have cO7:=Vv HG7.o;have fO:w7.frozen? ⟨GO,0,none⟩=false:=by simp[World.frozen?,HG7.o]
  clear ho7 Rk hv7 cO cL;go_wp2
  go_end0
  have hgo:N0<=GO:=HH.o.hO;have HT8:∀(g:Nat)(cs:Array Value)(t:TypeId)(fr:Nat×Nat),w5.heap[g]?=some (.cells cs t fr)->t≠85->t≠32->(w7.setCell ⟨GO,0,none⟩ (.slice A7 (s.length+1) c7)).heap[g]?=some (.cells cs t fr):=fun g cs t fr hg ht ht2=>by
   rw[Ze _ _ _ _ (fun e=>ht2 ?_)]
   .exact HT7.o g cs t fr hg ht
   have e2:g=GO:=e;rw[e2,HG5.o]at hg;injection hg with hg;injection hg with _ hg;exact hg.symm
  have HB8:Below N0 w5 (w7.setCell ⟨GO,0,none⟩ (.slice A7 (s.length+1) c7)):=HB7.o.setCell (p:=⟨GO,0,none⟩) hgo _;have hz8:w5.heap.size<=(w7.setCell ⟨GO,0,none⟩ (.slice A7 (s.length+1) c7)).heap.size:=by have:=HS7.o;simp[World.setCell];omega
  have Wo:(w7.setCell ⟨GO,0,none⟩ (.slice A7 (s.length+1) c7)).heap[GO]?=some (.cells #[.slice A7 (s.length+1) c7] 32 (0,0)):=by
   simp only[World.setCell,Xz,if_true,HG7.o,Option.map_some];rfl
  have hown:(w7.setCell ⟨GO,0,none⟩ (.slice A7 (s.length+1) c7)).ownsRow N0 85 4 (.slice A7 (s.length+1) c7) (s.length+1) (Ht s++clc (left,x,(a:Int),(b:Int))):=World.ownsRow.kept HO7.o (eT w7 GO 0 _) (.inr (vH HO7.o HG7.o (by decide)));refine⟨rfl,?_,HC5.o.trans ⟨HB8,hz8,HT8⟩⟩;refine⟨HT8 _ _ _ _ H5.o.hs (by decide) (by decide),HT8 _ _ _ _ H5.o.hl (by decide) (by decide),⟨_,Wo,?_⟩,H5.o.sl.below HB8,Yd HN5.o hz8,hgo⟩;rw[HP2.o,Qe,vj];exact hown
def Bl(rs:Zz)(sets:Jb)(i:Nat):List Wl:=(List.range i).flatMap fun left:Nat=>Ck (left:Int) sets (Wm rs left)
theorem lT(rs:Zz)(sets:Jb)(i:Nat):Bl rs sets (i+1)=Bl rs sets i++Ck (i:Int) sets (Wm rs i):=by
 unfold Bl;rw[List.range_succ,List.flatMap_append];simp
theorem qgH(left:Int)(sets:Jb)(l:List Nat):(Ck left sets l).length<=l.length*l.length:=by
 rw[<-nO];refine Yd ?_ (nN l);have:=jF left sets (Mf l) [];rw[dN]at this;simpa using this
theorem uK(rs:Zz)(left:Int):(Wm rs left).length<=rs.length:=by
 unfold Wm;refine Yd (List.length_filter_le _ _) ?_;simp
theorem xG(rs:Zz)(sets:Jb)(hq:rs.length<=4096):∀i,(Bl rs sets i).length<=i*16777216
 |0=>by simp[Bl]
 |i+1=>by
  rw[lT,Qe];have h1:=xG rs sets hq i;have h2:=qgH (i:Int) sets (Wm rs i);have h3:=uK rs (i:Int);have h4:(Wm rs (i:Int)).length*(Wm rs (i:Int)).length<=4096*4096:=Nat.mul_le_mul (by omega) (by omega);omega
theorem zlJ(w:World)(a b c:Obj):(((w.alloc a).alloc b).alloc c).heap[w.heap.size]?=some a/\(((w.alloc a).alloc b).alloc c).heap[w.heap.size+1]?=some b/\(((w.alloc a).alloc b).alloc c).heap[w.heap.size+1+1]?=some c:=by
 refine⟨?_,?_,?_⟩
 .rw[Zf _ _ _ (by simp;omega),Zf _ _ _ (by simp)];exact Xn w a
 .rw[Zf _ _ _ (by simp)];exact Gg w a b
 have:=Gg (w.alloc a) b c
 rwa [Xs]at this
theorem vf{c3:Nat}{g:Kd}{sets:Jb}(w:World)(h:Np w w.heap.size A1 A2 A3 n m q c1 c2 c3 g)(hg:yJ g)(hs:Je (Tw eW) w w.heap.size (.slice A q c) sets)(Fb:∀x∈sets,x.length<=1048576) :
  Calls Tryz.prog 40 #[Rw A1 A2 A3 n m q c1 c2 c3,.slice A q c] w fun e w'=>∃v,e=.returned v/\w'.ownsRow w.heap.size 85 4 v (Nh g.2.2 n sets).length (Ht (Nh g.2.2 n sets))/\Below w.heap.size w w':=by
 have HG:=Lh h;have HS:=Lh hs;have jP:=Lh Fb;have yO:=h.small;have If:=Lh (show n<=256 by have:=hg.nm;have:=h.ln.1;omega);have HTL:=Lh (xG g.2.2 sets hg.q);have HRL:=Lt (∀left:Int,(Wm g.2.2 left).length<=4096) (fun left=>Yd (uK _ _) hg.q);have HRQ:=Lh (show ∀(left:Int)(a:Nat),a∈Wm g.2.2 left->a<q from fun left a ha=>by
  obtain⟨r,hr,_⟩:=Tr.1 ha
  have:=(Qj.1 hr).1
  have:=h.ln.2.2
  omega)
 clear h hs Fb hg;go_enter Tryz.func40,Tryz.ntmps40;go_wp2_with fail;obtain⟨k1,k2,k3⟩:=zlJ w (.cells #[.slice A1 n c1,.slice A2 m c2,.slice A3 q c3] 25) (.cells #[.slice A q c] 76) (.cells #[.slice none 0 0] 32);have hb1:Below w.heap.size w (((w.alloc (.cells #[.slice A1 n c1,.slice A2 m c2,.slice A3 q c3] 25)).alloc (.cells #[.slice A q c] 76)).alloc (.cells #[.slice none 0 0] 32)):=by go_grown
 have Ik:(((w.alloc (.cells #[.slice A1 n c1,.slice A2 m c2,.slice A3 q c3] 25)).alloc (.cells #[.slice A q c] 76)).alloc (.cells #[.slice none 0 0] 32)).heap.size=w.heap.size+3:=by rw[Xs,Xs,Xs]
 generalize ((w.alloc (.cells #[.slice A1 n c1,.slice A2 m c2,.slice A3 q c3] 25)).alloc (.cells #[.slice A q c] 76)).alloc (.cells #[.slice none 0 0] 32)=w1 at*;have K1:=Lh k1;have K2:=Lh k2;have K3:=Lh k3;have HB1:=Lh hb1;clear k1 k2 k3 hb1 Ik;go_loopg [16] n (fun lft ob wr=>∃i:Nat,i<=n/\n-i<=lft/\ob=.int .i64 i/\Hid (Below w.heap.size w wr)/\Hid (wr.heap[w.heap.size]?=some (.cells #[.slice A1 n c1,.slice A2 m c2,.slice A3 q c3] 25 (0,0)))/\Hid (wr.heap[w.heap.size+1]?=some (.cells #[.slice A q c] 76 (0,0))) /\
  Hid (∃v,wr.heap[w.heap.size+1+1]?=some (.cells #[v] 32 (0,0))/\wr.ownsRow w.heap.size 85 4 v (Bl g.2.2 sets i).length (Ht (Bl g.2.2 sets i))))
 exact⟨0,by omega,by omega,rfl,HB1.o,K1.o,K2.o,_,K3.o,Za _ _ _ _⟩;clear K1 K2 K3 HB1;obtain⟨i,hi,sv,rfl,HB,K1,K2,HO⟩:=hrel;obtain⟨vo,K3',HO'⟩:=HO.o;have K3:=Lh K3';have HOW:=Lh HO';have hle:=HB.o.size;have lK1:=(gl K1.o);have lK2:=(gl K2.o);have lK3:=(gl K3.o);obtain⟨a0,a1,a2⟩:wr.cell? ⟨w.heap.size,0,none⟩=some (.slice A1 n c1)/\wr.cell? ⟨w.heap.size,1,none⟩=some (.slice A2 m c2)/\wr.cell? ⟨w.heap.size,2,none⟩=some (.slice A3 q c3):=⟨Xc K1.o rfl,Xc K1.o rfl,Xc K1.o rfl⟩;have cO:=Vv K3.o;clear HO K3' HO';by_cases Uh:i<n
 .have HTS:=Lh (lT g.2.2 sets i);have HTI:=Lh (HTL.o i);go_wp2_with fail;have Jd:=(Xr wr.heap.size wr).alloc (Yb _) (.cells #[.int .i64 (i:Int)] 3);have HB2:=Lh Jd;have HZ2:=Lh (Xs wr (.cells #[.int .i64 (i:Int)] 3));have HL2:=Lh (Xn wr (.cells #[.int .i64 (i:Int)] 3));have HO2:=Lh (HOW.o.alloc (.cells #[.int .i64 (i:Int)] 3));have HK2:=Lh ((Jd.block _ lK2).trans K2.o);have nA:=Lh ((Jd.block _ lK3).trans K3.o);have HK1:=Lh ((Jd.block _ lK1).trans K1.o);clear Jd a0 a1 a2 cO K1 K2 K3 HOW;generalize wr.alloc (.cells #[.int .i64 (i:Int)] 3)=w2 at*;have HBW:=Lh (HB.o.trans (HB2.o.mono hle));refine (qgG (N0:=w.heap.size) 93 #[.pointer (some ⟨w.heap.size+1,0,none⟩),.pointer (some ⟨w.heap.size+1+1,0,none⟩),.pointer (some ⟨wr.heap.size,0,none⟩)] (fun args w=>by kernel_rfl) (Ia (i:Int) sets)
   (qkZ w.heap.size (w.heap.size+1) (w.heap.size+1+1) wr.heap.size A q c (i:Int) sets) (i:Int) (Bl g.2.2 sets i) w2 (HG.o.fut HBW.o (Yb _) (by rw[HZ2.o];omega)) (by rw[HZ2.o];omega) (fun s w1 w2 h hb=>h.below hb) ?_ ?_).mono ?_
  .exact⟨HK2.o,HL2.o,⟨vo,nA.o,HO2.o⟩,HS.o.below HBW.o,by rw[HZ2.o];omega,by omega⟩
  .intro pre post wq a b hp ha hb hI _;have h1:=jF (i:Int) sets pre (Bl g.2.2 sets i);have h2:=nN (Wm g.2.2 (i:Int));have h3:=HRL.o (i:Int);have h4:(Wm g.2.2 (i:Int)).length*(Wm g.2.2 (i:Int)).length<=4096*4096:=Nat.mul_le_mul h3 h3;have h5:pre.length<=(Mf (Wm g.2.2 (i:Int))).length:=by rw[hp];simp
   have h6:=HTI.o;have h7:=If.o;exact qbB wq hI (by omega) (HRQ.o _ _ ha) (HRQ.o _ _ hb) jP.o
  rintro e w5 ⟨rfl,hI,hC⟩;rw[dN,nO,<-HTS.o]at hI;have H5:=Lh hI;have HC5:=Lh hC;clear hI hC;go_wp2;go_roundg (gk-1);exact⟨i+1,by omega,by omega,by go_num,HBW.o.trans HC5.o.below,HC5.o.typed _ _ _ _ HK1.o (by decide) (by decide),H5.o.hs,H5.o.ho⟩;omega
 have zvB:i=n:=by omega
 subst zvB;go_wp2;go_ret;exact⟨_,rfl,HOW.o,HB.o⟩
theorem jJ(hk:k<=4){g:Kd}{s:Jb}(h:Og (k:Int) g (some s)):s.length=g.2.2.length/\Eh s:=by
 obtain⟨o1,_,h2⟩:=h;cases o1 with
 |none=>cases h2
 |some s1 =>
  obtain⟨o2,_,h3⟩:=h2;cases o2 with
  |none=>cases h3
  |some f =>
   obtain⟨c1,c2⟩:=jK g.2.2 s h3.symm;refine⟨c1,fun i x hx=>?_⟩;have hi:=(Qj.1 hx).1;obtain⟨y,hy,hb⟩:=c2 i _ (Qa (by omega));rw[hx]at hy;injection hy with hy;subst hy;exact oZ hk hb
def Gt(rs:Zz)(ss:Jb)(i:Nat):List Uk:=(ss.getD i []).map fun w=>((rs.getD i (0,[])).1,w,(i:Int))
def Da(rs:Zz)(ss:Jb)(i:Nat):List Uk:=(List.range i).flatMap (Gt rs ss)
theorem pR(rs:Zz)(ss:Jb)(i:Nat):Da rs ss (i+1)=Da rs ss i++Gt rs ss i:=by
 unfold Da;rw[List.range_succ,List.flatMap_append];simp
theorem pS:∀(i:Nat)(rs:Zz)(ss:Jb),ss.length=rs.length->Vl i rs ss=(List.range rs.length).flatMap fun j=>(ss.getD j []).map fun w=>((rs.getD j (0,[])).1,w,((i+j:Nat):Int))
 |i,[],[],_=>rfl
 |i,r::rs,s::ss,h=>by
  have ih:=pS (i+1) rs ss (by simpa using h);rw[Qu,List.range_succ_eq_map,List.flatMap_cons,List.flatMap_map];simp only[Vl,ih];congr 1;congr 1
  funext j
  simp only[List.getD_cons_succ];congr 1
  funext w
  congr 2;omega
theorem uM(h:ss.length=rs.length):Da rs ss rs.length=Vl 0 rs ss:=by
 rw[pS 0 rs ss h];unfold Da Gt;simp
theorem zt(hb:Eh ss)(i:Nat):(Gt rs ss i).length<=4096:=by
 unfold Gt;rw[Qk,Qb];cases h:ss[i]? with
 |none=>simp
 |some x=>exact (hb i x h).2
theorem Px{rs:Zz}{ss:Jb}(hb:Eh ss):∀i,(Da rs ss i).length<=i*4096
 |0=>by simp[Da]
 |i+1=>by
  rw[pR,Qe];have:=Px (rs:=rs) hb i;have:=zt (rs:=rs) hb i;omega
def qyR(n:Nat)(g:Kd)(base:Nat)(w':World)(o:Option Jb)(e:Ending):Prop :=
 match o with
 |none=>e=.returned (.tuple #[.slice none 0 0,.slice none 0 0,.int .i64 21])
 |some s=>(Nh g.2.2 n s≠[]/\∃v,e=.returned (.tuple #[.slice none 0 0,v,.int .i64 20])/\w'.ownsRow base 85 4 v (Nh g.2.2 n s).length (Ht (Nh g.2.2 n s))) \/
  (Nh g.2.2 n s=[]/\∃v rows,e=.returned (.tuple #[v,.slice none 0 0,.int .i64 0])/\rows.Perm (Vl 0 g.2.2 s)/\rows.Pairwise (fun a b=>¬ Mq b a)/\w'.ownsRow base 81 3 v rows.length (Wv rows))
def qyQ(k:Int)(g:Kd)(n:Nat)(w:World)(e:Ending)(w':World):Prop :=
 Below w.heap.size w w'/\(Ip k g->e=.returned (.tuple #[.slice none 0 0,.slice none 0 0,.int .i64 1]))/\(¬ Ip k g->∃o,Og k g o/\qyR n g w.heap.size w' o e)
theorem qoM{c3:Nat}{g:Kd}(k:Int)(w:World)(h:Np w w.heap.size A1 A2 A3 n m q c1 c2 c3 g) :
  Calls Tryz.prog 13 #[Rw A1 A2 A3 n m q c1 c2 c3,.int .i64 k] w (qyQ k g n w):=by
 have Nd:=(Xr w.heap.size w).alloc (Yb _) (.cells #[.slice A1 n c1,.slice A2 m c2,.slice A3 q c3] 25);have HV:=Lh (h.fut (B':=w.heap.size) Nd (Yb _) (Yb _));have HK:=Lh (Xn w (.cells #[.slice A1 n c1,.slice A2 m c2,.slice A3 q c3] 25));have HZ:=Lh (Xs w (.cells #[.slice A1 n c1,.slice A2 m c2,.slice A3 q c3] 25));have HBX:=Lh Nd;have HL:=Lh h.ln;have yO:=h.small;have qZ:Hid (∀(w2:World),w2.heap[w.heap.size]?=some (.cells #[.slice A1 n c1,.slice A2 m c2,.slice A3 q c3] 25 (0,0))->w2.cell? ⟨w.heap.size,0,none⟩=some (.slice A1 n c1)/\w2.cell? ⟨w.heap.size,1,none⟩=some (.slice A2 m c2)/\w2.cell? ⟨w.heap.size,2,none⟩=some (.slice A3 q c3)):=fun w2 hk=>⟨Xc hk rfl,Xc hk rfl,Xc hk rfl⟩;clear h Nd;go_enter Tryz.func13,Tryz.ntmps13;go_wp2_with fail;generalize w.alloc (.cells #[.slice A1 n c1,.slice A2 m c2,.slice A3 q c3] 25)=w1 at*;refine (ae k w1 (HV.o.fut (N:=w1.heap.size) (B':=w1.heap.size) (Xr _ _) (by rw[HZ.o];omega) (by rw[HZ.o];omega))).mono ?_;rintro e w2 ⟨Jd,wM,hgood⟩;have HB2:=Lh (HBX.o.trans (Jd.mono (by rw[HZ.o];omega)));have HB12:=Lt (Below (w.heap.size+1) w1 w2) (Jd.mono (Yj HZ.o.symm));have HS2:=Lh (show w.heap.size+1<=w2.heap.size by have:=Jd.size;rw[HZ.o]at this;exact this);have HK2:=Lh ((HB12.o.block w.heap.size (by omega)).trans HK.o);clear Jd;by_cases mX:Ip k g
 .have:=wM mX;subst this;have Sl:=Lh mX;clear wM hgood mX;go_wp2_with fail
  go_ret3
  exact⟨HB2.o,fun _=>rfl,fun h=>absurd Sl.o h⟩
 obtain⟨o,ho,Ls⟩:=hgood mX;have HNB:=Lh mX;have HO:=Lh ho;clear wM hgood;cases o with
 |none =>
  simp only[yh]at Ls;subst Ls;clear mX ho;go_wp2_with fail
  go_ret3
  exact⟨HB2.o,fun h=>absurd h HNB.o,fun _=>⟨none,HO.o,rfl⟩⟩
 |some s =>
  obtain⟨A5,c5,rfl,hs⟩:=Ls;obtain⟨kk,hkk,y_,gM⟩:∃kk:Nat,k=(kk:Int)/\kk<=4/\1<=kk:=⟨k.toNat,by unfold Ip at mX;omega,by unfold Ip at mX;omega,by unfold Ip at mX;omega⟩;have Fb:=jJ y_ (g:=g) (s:=s) (by rw[<-hkk];exact ho);have hgood:yJ g:=(Ld (Classical.byContradiction fun h=>mX (.inr (.inr h)))).2.1;have mI:=Lh Fb.2;have hlen:s.length=q:=by rw[Fb.1];exact HL.o.2.2.symm
  have Ns:=Lh hlen;rw[hlen]at hs |-;have HSS:=Lh hs;have HQ:=Lh (show q<=4096 by have:=hgood.q;have:=HL.o.2.2;omega);have HCL:=Lh (vf w2 (HV.o.fut HB12.o (Yi _) (by have:=HS2.o;omega)) hgood hs (fun x hx=>by
   obtain⟨i,hi,rfl⟩:=Qz hx
   have:=(Fb.2 i _ (Qa hi)).2
   omega))
  clear mX ho Fb hlen hs hgood hkk y_ gM;obtain⟨cl,fP⟩:=Xe (Nh g.2.2 n s);rw[<-fP]at HCL;have HC:=Lh fP;clear fP;obtain⟨nc,hnc⟩:=Xe cl.length;rw[<-hnc]at HCL;have HNC:=Lh hnc;clear hnc;obtain⟨a0,a1,a2⟩:=qZ.o w2 HK2.o;go_wp2_with fail;refine HCL.o.mono ?_;rintro e w3 ⟨v,rfl,hown,hb3⟩;obtain⟨A6,c6,rfl,zvP,zvO⟩:=Zp hown;have HB3:=Lh (HB2.o.trans (hb3.mono HB2.o.size));have HS3:=Lt (w2.heap.size<=w3.heap.size) (hb3.size);have nA:=Lh ((hb3.block w.heap.size (by have:=HS2.o;omega)).trans HK2.o);have zyI:=Lh (HSS.o.fut hb3 (Yb _) (Yb _));have yA:=Lh (HV.o.rules.fut (B':=w.heap.size) ((HB12.o.mono (Yi _)).trans (hb3.mono HB2.o.size)) (Yb _) (Yb _));have HOWN:=Lh (Nn hown HB2.o.size);clear hown hb3 a0 a1 a2 HCL;by_cases Vn:0<nc
  .have hd:decide ((nc:Int)>0)=true:=by simpa using Vn
   have mV:decide (0<nc)=true:=by simpa using Vn
   have HNE:=Lt (cl≠[]) (fun e=>by have:=HNC.o;rw[e]at this;simp at this;omega);clear Vn;go_wp2_with fail
   go_ret3
   refine⟨HB3.o,fun h=>absurd h HNB.o,fun _=>⟨some s,HO.o,.inl ⟨by rw[<-HC.o];exact HNE.o,_,rfl,?_⟩⟩⟩;rw[<-HC.o,<-HNC.o];exact HOWN.o
  have hd:decide ((nc:Int)>0)=false:=by simpa using Vn
  have mV:decide (0<nc)=false:=by simpa using Vn
  have HNE:=Lt (cl=[]) (Xx (by have:=HNC.o;omega));clear Vn HOWN zvP zvO;go_wp2_with fail;go_loopg [10,33] q (fun lft v10 v33 wr=>∃i:Nat,i<=q/\q-i<=lft/\v33=.int .i64 i/\Hid (Below w3.heap.size w3 wr)/\Hid (wr.ownsRow w3.heap.size 81 3 v10 (Da g.2.2 s i).length (Wv (Da g.2.2 s i))));exact⟨0,by omega,by omega,rfl,Xr _ _,Za _ _ _ _⟩;obtain⟨i,hi,sv,rfl,HB,HO10⟩:=hrel;obtain⟨gas,Gx⟩:=Xe gk;rw[<-Gx]at sv;have HGK:=Lh Gx;clear Gx;generalize wr=wo at*;by_cases hiq:i<q
  .have his:i<s.length:=by rw[Ns.o];exact hiq
   have hir:i<g.2.2.length:=by rw[<-HL.o.2.2];exact hiq
   have HW3:=Lh (Yd HB2.o.size HS3.o);obtain⟨b1,o1,cs1,ew,-,hb1,Ev,Kr⟩:=(zyI.o.below (HB.o.mono HS3.o)).get his (by decide);obtain⟨v1,rfl,jU⟩:=Ev;have x1:=Kr 0 _ rfl;simp only[show (Tw eW).size=1 from rfl,Ys,Yq]at x1;subst ew;obtain⟨b2,o2,cs2,sL,-,Jd,Mv,Jr⟩:=(yA.o.below (HB.o.mono HW3.o)).get hir (by decide);obtain⟨v2,rfl,-,-,-⟩:=Kn Mv;have y0:=Jr 0 _ rfl;simp only[show Vw.size=2 from rfl,Yq]at y0;subst sL;have HRA:=Lh (show Gt g.2.2 s i=s[i].map fun w=>(g.2.2[i].1,w,(i:Int)) by
    unfold Gt
    simp only[Qb,Qa his,Qa hir,Option.getD_some])
   have HNX:=Lh (mI.o i _ (Qa his)).2;have HTL:=Lh (Px (rs:=g.2.2) mI.o i);have HTS:=Lh (pR g.2.2 s i);obtain⟨x,hx⟩:=Xe (s[i]);rw[<-hx]at jU HRA HNX;obtain⟨lf,hlf⟩:=Xe (g.2.2[i].1);rw[<-hlf]at y0 HRA;have HRX:=Lh (HB.o.block w.heap.size (by have:=HS2.o;have:=HS3.o;omega));obtain⟨a0,a1,a2⟩:=qZ.o wo (HRX.o.trans nA.o);obtain⟨A7,c7,rfl,zvN,hc72⟩:=jU.form;obtain⟨nx,hnx⟩:=Xe x.length;rw[<-hnx]at jU HNX x1 zvN;have kB:=Lh hnx;have HX:=Lh jU;have hnx2:=HNX.o;clear hx hlf hnx jU Kr Jr Mv his hir a0 a1;go_wp2_with fail;go_loopg [10,40] nx (fun qoS v10 v40 wt=>∃j:Nat,j<=nx/\nx-j<=qoS/\v40=.int .i64 j/\Hid (Below w3.heap.size w3 wt)/\Hid (Below w3.heap.size wo wt)/\Hid (wt.ownsRow w3.heap.size 81 3 v10 ((Da g.2.2 s i).length+j) (Wv (Da g.2.2 s i)++Wv ((Gt g.2.2 s i).take j))));exact⟨0,by omega,by omega,rfl,HB.o,(Xr _ _).mono HB.o.size,by rw[List.take_zero,show Wv []=[]from rfl,List.append_nil];exact HO10.o⟩;obtain⟨j,hj,qpU,rfl,HBT,qzS,HOT⟩:=hrel;have jaS:=Lh (show b2<w3.heap.size by have:=HW3.o;omega);have z0:wr.cell? ⟨b2,o2+i*2,none⟩=some (.int .i64 lf):=(qzS.o.cell (p:=⟨b2,o2+i*2,none⟩) jaS.o).trans y0;have z2:wr.cell? ⟨w.heap.size,2,none⟩=some (.slice (some ⟨b2,o2,none⟩) q c3):=(qzS.o.cell (p:=⟨w.heap.size,2,none⟩) (show w.heap.size<w3.heap.size by have:=HW3.o;have:=HS2.o;have:=HS3.o;omega)).trans a2;by_cases hjx:j<nx
   .have Mw:j<x.length:=by rw[<-kB.o];exact hjx
    obtain⟨b3,o3,rfl,-,hb3,cw⟩:=(HX.o.below (qzS.o.mono HS3.o)).wd Mw;have HT:=Lh (show Wv ((Gt g.2.2 s i).take (j+1))=Wv ((Gt g.2.2 s i).take j)++Ty (lf,x[j],(i:Int)) by
     rw[HRA.o,Qc (by rw[Qk];exact Mw),pY,Xf])
    obtain⟨wj,hwj⟩:=Xe (x[j]);rw[<-hwj]at cw HT;obtain⟨pre,Cr⟩:=Xe (Wv (Da g.2.2 s i)++Wv ((Gt g.2.2 s i).take j));rw[<-Cr]at HOT;have HPRE:=Lh Cr;obtain⟨nr,sr⟩:=Xe ((Da g.2.2 s i).length);rw[<-sr]at HOT;have HNR:=Lh sr;have hnr2:nr<=16777216:=by have:=HTL.o;have:=HQ.o;omega
    have Do:=Lh HBT.o.size;obtain⟨A10,c10,rfl,zlT,zlS⟩:=Zp HOT.o;clear hwj Cr sr Mw y0 a2 x1;go_wp2_with (at_builtin;refine Zy (m:=1) (n:=nr+j) qcV rfl rfl rfl rfl (HOT.o.alloc _) (Rd.row (B:=wr.heap.size+1) (Xn wr _) (by omega)) rfl (by simp[Value.oneCell']) (by unfold maxLen;omega) (by omega) (by rw[Xs];have:=Do.o;omega) ?_);intro v' w7 ho7 Rk hv7 _;have HB7:=Lt (Below w3.heap.size w3 w7) (Zr (HBT.o.alloc Do.o (.cells (Ty (lf,wj,(i:Int))).toArray 81)) Rk (HOT.o.alloc _) (Yb _) (by rw[Xs];have:=Do.o;omega));have HBR7:=Lt (Below w3.heap.size wo w7) (Zr (qzS.o.alloc Do.o (.cells (Ty (lf,wj,(i:Int))).toArray 81)) Rk (HOT.o.alloc _) (Yb _) (by rw[Xs];have:=Do.o;omega));have HO7:=Lh (show w7.ownsRow w3.heap.size 81 3 v' ((Da g.2.2 s i).length+(j+1)) (Wv (Da g.2.2 s i)++Wv ((Gt g.2.2 s i).take (j+1))) by
     rw[HT.o,<-Xd,<-HPRE.o,<-HNR.o]
     exact ho7)
    clear ho7 Rk hv7;go_wp2;go_roundg (gk-1);exact⟨j+1,by omega,by omega,by go_num,HB7.o,HBR7.o,HO7.o⟩;omega
   have HEND:=Lh (show wr.ownsRow w3.heap.size 81 3 u10 (Da g.2.2 s (i+1)).length (Wv (Da g.2.2 s (i+1))) by
    have:=HOT.o
    have e:(Gt g.2.2 s i).take j=Gt g.2.2 s i:=Qd (by rw[HRA.o,Qk,<-kB.o];omega)
    have e2:(Gt g.2.2 s i).length=j:=by rw[HRA.o,Qk,<-kB.o];omega
    rw[e]at this
    rw[HTS.o,Qe,e2]
    unfold Wv at*
    rw[Qt,Qs]
    exact this)
   go_wp2;go_roundg (gas-1);exact⟨i+1,by omega,by omega,by go_num,HBT.o,HEND.o⟩;have:=HGK.o;omega
  have zvA:i=q:=by omega
  subst zvA;have Io:=Lh (show Da g.2.2 s i=Vl 0 g.2.2 s by rw[HL.o.2.2];exact uM (by rw[Ns.o];exact HL.o.2.2));have HTL:=Lh (Px (rs:=g.2.2) mI.o i);obtain⟨A10,c10,rfl,zlT,zlS⟩:=Zp HO10.o;have zyJ:=Lh (iy w3.heap.size A10 c10 (Da g.2.2 s i) wo HO10.o (by have:=HTL.o;have:=HQ.o;omega));go_wp2_with fail;refine zyJ.o.mono ?_;rintro e w9 ⟨rfl,rows,hp,hsd,ho9,hg9⟩;have HP:=Lh hp;have HSD:=Lh hsd;have hln:rows.length=(Da g.2.2 s i).length:=hp.length_eq;have HO9:=Lh (Nn ho9 (Yd HB2.o.size HS3.o));have HB9:=Lt (Below w.heap.size w w9) (Zr (HB3.o.trans (HB.o.mono (Yd HB2.o.size HS3.o))) hg9 HO10.o (Yd HB2.o.size HS3.o) (Yd (Yd HB2.o.size HS3.o) HB.o.size));clear hp hsd ho9 hg9 hln;go_wp2_with fail
  go_ret3
  refine⟨HB9.o,fun h=>absurd h HNB.o,fun _=>⟨some s,HO.o,.inr ⟨by rw[<-HC.o];exact HNE.o,_,rows,rfl,?_,HSD.o,?_⟩⟩⟩
  .rw[<-Io.o];exact HP.o
  exact HO9.o
def Tc(g:Kd)(i:Int):Int:=(g.2.2.getD i.toNat (0,[])).1
def aR(g:Kd)(k:Int)(x:Uk):Bool:=!(decide (x.2.2<0)||decide ((g.2.2.length:Int)<=x.2.2)||decide (Tc g x.2.2≠x.1)||!Pp g.2.1.length k x.2.1)
def pC(p:Option Uk)(x:Uk):Bool:=match p with
 |none=>false
 |some y=>decide (0<=iO y x)
def Lq(g:Kd)(k:Int):Option Uk->List Uk->Bool
 |_,[]=>true
 |p,x::l=>!pC p x&&aR g k x&&Lq g k (some x) l
def e_(g:Kd)(k:Int)(rows:List Uk):Bool:=Ut g&&Lq g k none rows
def iK(rows:List Uk):Nat->Option Uk
 |0=>none
 |i+1=>rows[i]?
theorem qhM{g:Kd}{k:Int}(h:i<rows.length):Lq g k (iK rows i) (rows.drop i)=(!pC (iK rows i) rows[i]&&aR g k rows[i]&&Lq g k (iK rows (i+1)) (rows.drop (i+1))):=by
 rw[Ql h];simp only[Lq,iK,Qa h]
theorem qhL{c3:Nat}{g:Kd}(A:Option Addr)(nr c:Nat)(k:Int)(rows:List Uk)(w:World)(h:Np w w.heap.size A1 A2 A3 n m q c1 c2 c3 g)(hv:Je Bj w w.heap.size (.slice A nr c) rows)(hle:nr<=1048576) :
  Calls Tryz.prog 52 #[Rw A1 A2 A3 n m q c1 c2 c3,.int .i64 k,.slice A nr c] w fun e w'=>e=.returned (.bool (e_ g k rows))/\Below w.heap.size w w':=by
 have Nd:=(Xr w.heap.size w).alloc (Yb _) (.cells #[.slice A1 n c1,.slice A2 m c2,.slice A3 q c3] 25);have HV:=Lh ((h.fut (B':=w.heap.size+1) Nd (Yb _) (by omega)));have HR:=Lt (Je Bj _ (w.heap.size+1) (.slice A nr c) rows) (hv.fut Nd (Yb _) (by omega));have HK:=Lh (Xn w (.cells #[.slice A1 n c1,.slice A2 m c2,.slice A3 q c3] 25));have HZ:=Lh (Xs w (.cells #[.slice A1 n c1,.slice A2 m c2,.slice A3 q c3] 25));have HBX:=Lh Nd;have HL:=Lh h.ln;have yO:=h.small;have HNR:=Lh hv.n_eq;have hnc:=hv.n_le;clear h Nd hv;have qZ:Hid (∀(w2:World),w2.heap[w.heap.size]?=some (.cells #[.slice A1 n c1,.slice A2 m c2,.slice A3 q c3] 25 (0,0))->w2.cell? ⟨w.heap.size,0,none⟩=some (.slice A1 n c1)/\w2.cell? ⟨w.heap.size,1,none⟩=some (.slice A2 m c2)/\w2.cell? ⟨w.heap.size,2,none⟩=some (.slice A3 q c3)):=fun w2 hk=>⟨Xc hk rfl,Xc hk rfl,Xc hk rfl⟩;go_enter Tryz.func52,Tryz.ntmps52;go_wp2_with fail;generalize w.alloc (.cells #[.slice A1 n c1,.slice A2 m c2,.slice A3 q c3] 25)=w1 at*;refine (Np.valid (w:=w1) (by rw[HZ.o];exact HV.o)).mono ?_;rintro e w2 ⟨rfl,Jd⟩;have HB2:=Lt (Below (w.heap.size+1) w1 w2) (Jd.mono (Yj HZ.o.symm));clear Jd;cases hv:Ut g with
 |false =>
  have HC:=Lh (show e_ g k rows=false by unfold e_;rw[hv];rfl);clear hv;go_wp2;go_ret;exact⟨Kw (Zw HC.o.symm),HBX.o.trans (HB2.o.mono (by omega))⟩
 |true =>
  have HC:=Lh (show e_ g k rows=Lq g k none rows by unfold e_;rw[hv];rfl);clear hv;go_wp2_with fail;go_loopg [14] nr (fun left v14 wr=>∃i:Nat,i<=nr/\nr-i<=left/\v14=.int .i64 i/\Hid (e_ g k rows=Lq g k (iK rows i) (rows.drop i))/\Hid (Below (w.heap.size+1) w1 wr));exact⟨0,by omega,by omega,rfl,HC.o,HB2.o⟩;clear HC HB2;obtain⟨i,hi,Ef,rfl,HI,HBR⟩:=hrel;have ig:=Lh (show w.heap.size+1<=wr.heap.size by have:=HBR.o.size;have:=HZ.o;omega);by_cases Oh:i<nr
  .have Wp:i<rows.length:=by rw[<-HNR.o];exact Oh
   obtain⟨b1,o1,rfl,-,hb1,x0,x1,x2,Ja⟩:=(HR.o.below HBR.o).rowAt Wp;have Fj:=(oP Ja).2;have HI2:=Lh (HI.o.trans (qhM Wp));obtain⟨x,hx⟩:=Xe (rows[i]);rw[<-hx]at x0 x1 x2 Fj HI2;clear hx Ja HI;obtain⟨xa,xs1,xi⟩:=x;simp only at x0 x1 x2 Fj;go_upto_region 6 with fail;have hb3:=(Xr wr.heap.size wr).alloc (Yb _) (.cells #[.int .i64 xa,wv xs1,.int .i64 xi] 81);have HB3:=Lt (Below (w.heap.size+1) w1 _) (HBR.o.trans (hb3.mono ig.o));have Ob:=Lh (Xs wr (.cells #[.int .i64 xa,wv xs1,.int .i64 xi] 81));have nA:=Lh (Xn wr (.cells #[.int .i64 xa,wv xs1,.int .i64 xi] 81));generalize wr.alloc (.cells #[.int .i64 xa,wv xs1,.int .i64 xi] 81)=w3 at*;have y0:w3.cell? ⟨wr.heap.size,0,none⟩=some (.int .i64 xa):=Xc nA.o rfl;have y1:w3.cell? ⟨wr.heap.size,1,none⟩=some (wv xs1):=Xc nA.o rfl;have y2:w3.cell? ⟨wr.heap.size,2,none⟩=some (.int .i64 xi):=Xc nA.o rfl;clear x0 x1 x2 hb3;obtain⟨b6,hb6⟩:=Xe (pC (iK rows i) (xa,xs1,xi));rw[<-hb6]at HI2;have HB6:=Lh hb6;clear hb6
   go_cut [30] (fun v30 wx=>v30=.bool b6/\Hid (Below w3.heap.size w3 wx))
   case first =>
    cases i with
    |zero =>
     have HE:=Lt (b6=false) (HB6.o);refine Text.wp_grow [9] [7,8] [] (by kernel_rfl) (by kernel_rfl) ?_;refine Text.wpS_seg 9 _ _ _ _ (by decide) (fun Q' hQ'=>?_);simp only[Xta,Xtz];go_wp2_with fail;simp only[Yr,Xy,List.drop_zero];refine Text.wpS_one (fun Q' hQ'=>?_);go_wp2_with fail;refine⟨Xr _ _,?_⟩;refine Text.wpS_seg 2 _ _ _ _ (by decide) (fun Q' hQ'=>?_);simp only[Xta,Xtz];go_wp2;refine⟨by rfl,?_,?_⟩
     .exact⟨Text.no_want rfl,Text.no_want rfl,trivial⟩
     go_wp2_with fail
     go_meet
     case rel=>exact⟨by rw[HE.o],(Xr _ _).drew⟩
    |succ i' =>
     have Wp:i'<rows.length:=by rw[<-HNR.o];omega
     obtain⟨b5,o5,he5,-,hb5,z0,z1,z2,-⟩:=(HR.o.below HB3.o).rowAt Wp;injection he5 with he5;injection he5 with e1 e2;subst e1 e2;have HE:=Lh (show b6=decide (0<=iO rows[i'] (xa,xs1,xi)) by rw[HB6.o];simp only[iK,Qa Wp,pC]);obtain⟨y,hy⟩:=Xe (rows[i']);rw[<-hy]at z0 z1 z2 HE;clear hy Wp;obtain⟨ya,ys1,yi⟩:=y;simp only at z0 z1 z2;have HO:=Lh (da (ya,ys1,yi) (xa,xs1,xi));obtain⟨oo,hoo⟩:=Xe (iO (ya,ys1,yi) (xa,xs1,xi));rw[<-hoo]at HE HO;clear hoo;have he7:((i'+1:Nat):Int)-1=i':=by omega
     refine Text.wp_grow [9] [7,8] [] (by kernel_rfl) (by kernel_rfl) ?_;refine Text.wpS_seg 9 _ _ _ _ (by decide) (fun Q' hQ'=>?_);simp only[Xta,Xtz];go_wp2_with fail
     try simp only[Yr,Xy,List.drop_zero]
     refine Text.wpS_one (fun Q' hQ'=>?_);go_wp2_with fail;refine (HO.o _).mono ?_;rintro e w5 ⟨rfl,hb5',_⟩;go_wp2_with fail;refine⟨hb5',?_⟩;refine Text.wpS_seg 2 _ _ _ _ (by decide) (fun Q' hQ'=>?_);simp only[Xta,Xtz];go_wp2;refine⟨by rfl,?_,?_⟩
     .exact⟨fun _=>⟨_,_,rfl,z0⟩,fun _=>⟨_,_,rfl,y0⟩,trivial⟩
     go_wp2_with fail
     go_meet
     case rel=>exact⟨by rw[HE.o],(Xr _ _).drew.trans hb5'⟩
   case rest =>
    obtain⟨rfl,qkS⟩:=hcut;generalize wc=wx at*;have HB5:=Lt (Below (w.heap.size+1) w1 wx) (HB3.o.trans (qkS.o.mono (by have:=Ob.o;have:=ig.o;omega)));have HK5:=Lh ((qkS.o.block wr.heap.size (by have:=Ob.o;omega)).trans nA.o);have HKG:=Lh ((HB5.o.block w.heap.size (by omega)).trans HK.o);have yF:=Lh (show wr.heap.size+1<=wx.heap.size by have:=qkS.o.size;have:=Ob.o;omega);obtain⟨a0,a1,a2⟩:=qZ.o wx HKG.o;clear y0 y1 y2 nA HB3 Ob qkS a0;have y0:wx.cell? ⟨wr.heap.size,0,none⟩=some (.int .i64 xa):=Xc HK5.o rfl;have y1:wx.cell? ⟨wr.heap.size,1,none⟩=some (wv xs1):=Xc HK5.o rfl;have y2:wx.cell? ⟨wr.heap.size,2,none⟩=some (.int .i64 xi):=Xc HK5.o rfl;cases b6 with
    |true =>
     have HF:=Lh (show e_ g k rows=false by rw[HI2.o];rfl);go_wp2;go_ret;exact⟨Kw (Zw HF.o.symm),HBX.o.trans (HB5.o.mono (by omega))⟩
    |false =>
    go_upto_region 8 with fail;obtain⟨b8,hb8⟩:=Xe (aR g k (xa,xs1,xi));rw[<-hb8]at HI2;have HB8:=Lh hb8;clear hb8
    go_cut [63] (fun v63 wy=>v63=.bool (!b8)/\Hid (Below wx.heap.size wx wy))
    case first =>
     by_cases ef:xi<0
     .have hd0:decide (xi<0)=true:=by simpa using ef
      have HE:=Lh (show (!b8)=true by rw[HB8.o];unfold aR;simp[ef]);clear ef;refine Text.wp_grow [30] [1,5,7,13,15,18,20,25,27] [] (by kernel_rfl) (by kernel_rfl) ?_;refine Text.wpS_seg 30 _ _ _ _ (by decide) (fun Q' hQ'=>?_);simp only[Xta,Xtz];go_wp2_with fail
      try simp only[Yr,Xy,List.drop_zero]
      refine Text.wpS_one (fun Q' hQ'=>?_);go_wp2_with fail;refine⟨Xr _ _,?_⟩;refine Text.wpS_seg 2 _ _ _ _ (by decide) (fun Q' hQ'=>?_);simp only[Xta,Xtz];go_wp2;refine⟨by rfl,?_,?_⟩
      .exact⟨fun _=>⟨_,_,rfl,y2⟩,Text.no_want rfl,Text.no_want rfl,Text.no_want rfl,Text.no_want rfl,Text.no_want rfl,Text.no_want rfl,Text.no_want rfl,Text.no_want rfl,trivial⟩
      go_wp2_with fail
      go_meet
      case rel=>exact⟨by rw[HE.o],(Xr _ _).drew⟩
     have hd0:decide (xi<0)=false:=by simpa using ef
     by_cases hxq:(q:Int)<=xi
     .have mW:decide ((q:Int)<=xi)=true:=by simpa using hxq
      have HE:=Lh (show (!b8)=true by rw[HB8.o];unfold aR;rw[<-HL.o.2.2];simp[hxq]);clear ef hxq;refine Text.wp_grow [30] [1,5,7,13,15,18,20,25,27] [] (by kernel_rfl) (by kernel_rfl) ?_;refine Text.wpS_seg 30 _ _ _ _ (by decide) (fun Q' hQ'=>?_);simp only[Xta,Xtz];go_wp2_with fail
      try simp only[Yr,Xy,List.drop_zero]
      refine Text.wpS_one (fun Q' hQ'=>?_);go_wp2_with fail;refine⟨Xr _ _,?_⟩;refine Text.wpS_seg 2 _ _ _ _ (by decide) (fun Q' hQ'=>?_);simp only[Xta,Xtz];go_wp2;refine⟨by rfl,?_,?_⟩
      .exact⟨fun _=>⟨_,_,rfl,y2⟩,fun _=>⟨_,_,rfl,y2⟩,fun _=>⟨_,_,rfl,a2⟩,Text.no_want rfl,Text.no_want rfl,Text.no_want rfl,Text.no_want rfl,Text.no_want rfl,Text.no_want rfl,trivial⟩
      go_wp2_with fail
      go_meet
      case rel=>exact⟨by rw[HE.o],(Xr _ _).drew⟩
     have mW:decide ((q:Int)<=xi)=false:=by simpa using hxq
     obtain⟨j,rfl⟩:∃j:Nat,xi=(j:Int):=⟨xi.toNat,by omega⟩;have hjq:j<q:=by omega
     have Mw:j<g.2.2.length:=by rw[<-HL.o.2.2];exact hjq
     have hd3:decide (q<=j)=false:=by simpa using hjq
     obtain⟨b2,o2,cs,rfl,-,-,Ja,Zn⟩:=(HV.o.rules.below HB5.o).get (k:=j) Mw (by decide);obtain⟨v,rfl,-,-,-⟩:=Kn Ja;have Vn:=Zn 0 _ rfl;simp only[show Vw.size=2 from rfl,Yq]at Vn;have HLF:=Lh (show Tc g (j:Int)=g.2.2[j].1 by unfold Tc;rw[Yz,Qb,Qa Mw];rfl);obtain⟨lf,hlf⟩:=Xe (g.2.2[j].1);rw[<-hlf]at Vn HLF;have HIS:=Lh (show aR g k (xa,xs1,(j:Int))=!(decide (lf≠xa)||!Pp m k xs1) by
      unfold aR
      rw[<-HL.o.2.2,<-HL.o.2.1,HLF.o,hd0,mW]
      rfl)
     clear Zn Ja hlf Mw ef hxq;by_cases mS:lf=xa
     .have mV:(lf != xa)=false:=by simpa using mS
      have HWV:=Lh (fun w=>yW xs1 (m:Int) k w Fj.2.1);have HE:=Lh (show (!b8)=!Pp m k xs1 by rw[HB8.o,HIS.o];simp[mS]);obtain⟨bw,ez⟩:=Xe (Pp m k xs1);rw[<-ez]at HWV HE;clear ez mS;refine Text.wp_grow [30] [1,5,7,13,15,18,20,25,27] [] (by kernel_rfl) (by kernel_rfl) ?_;refine Text.wpS_seg 30 _ _ _ _ (by decide) (fun Q' hQ'=>?_);simp only[Xta,Xtz];go_wp2_with fail
      try simp only[Yr,Xy,List.drop_zero]
      refine Text.wpS_one (fun Q' hQ'=>?_);go_wp2_with fail;refine (HWV.o _).mono ?_;rintro e w6 ⟨rfl,hb6'⟩;go_wp2_with fail;refine⟨hb6',?_⟩;refine Text.wpS_seg 2 _ _ _ _ (by decide) (fun Q' hQ'=>?_);simp only[Xta,Xtz];go_wp2;refine⟨by rfl,?_,?_⟩
      .exact⟨fun _=>⟨_,_,rfl,y2⟩,fun _=>⟨_,_,rfl,y2⟩,fun _=>⟨_,_,rfl,a2⟩,fun _=>⟨_,_,rfl,a2⟩,fun _=>⟨_,_,rfl,y2⟩,fun _=>⟨_,_,rfl,Vn⟩,fun _=>⟨_,_,rfl,y0⟩,fun _=>⟨_,_,rfl,y1⟩,fun _=>⟨_,_,rfl,a1⟩,trivial⟩
      go_wp2_with fail
      go_meet
      case rel=>exact⟨by rw[HE.o],(Xr _ _).drew.trans hb6'⟩
     have mV:(lf != xa)=true:=by simpa using mS
     have HE:=Lh (show (!b8)=true by rw[HB8.o,HIS.o];simp[mS]);clear mS;refine Text.wp_grow [30] [1,5,7,13,15,18,20,25,27] [] (by kernel_rfl) (by kernel_rfl) ?_;refine Text.wpS_seg 30 _ _ _ _ (by decide) (fun Q' hQ'=>?_);simp only[Xta,Xtz];go_wp2_with fail
     try simp only[Yr,Xy,List.drop_zero]
     refine Text.wpS_one (fun Q' hQ'=>?_);go_wp2_with fail;refine⟨Xr _ _,?_⟩;refine Text.wpS_seg 2 _ _ _ _ (by decide) (fun Q' hQ'=>?_);simp only[Xta,Xtz];go_wp2;refine⟨by rfl,?_,?_⟩
     .exact⟨fun _=>⟨_,_,rfl,y2⟩,fun _=>⟨_,_,rfl,y2⟩,fun _=>⟨_,_,rfl,a2⟩,fun _=>⟨_,_,rfl,a2⟩,fun _=>⟨_,_,rfl,y2⟩,fun _=>⟨_,_,rfl,Vn⟩,fun _=>⟨_,_,rfl,y0⟩,Text.no_want rfl,Text.no_want rfl,trivial⟩
     go_wp2_with fail
     go_meet
     case rel=>exact⟨by rw[HE.o],(Xr _ _).drew⟩
    case rest =>
     obtain⟨rfl,HB9⟩:=hcut;generalize wc=wy at*;have HB10:=Lh (HB5.o.trans (HB9.o.mono (by have:=yF.o;have:=ig.o;omega)));cases b8 with
     |false =>
      have HF:=Lh (show e_ g k rows=false by rw[HI2.o];rfl);go_wp2;go_ret;exact⟨Kw (Zw HF.o.symm),HBX.o.trans (HB10.o.mono (by omega))⟩
     |true =>
      go_wp2;go_roundg (gk-1);exact⟨i+1,by omega,by omega,by go_num,by show _=_;rw[HI2.o];simp,HB10.o⟩;omega
  have HF:=Lh (show e_ g k rows=true by
   rw[HI.o,List.drop_eq_nil_of_le (by rw[<-HNR.o];omega)]
   rfl)
  go_wp2;go_ret;exact⟨Kw (Zw HF.o.symm),HBX.o.trans (HBR.o.mono (by omega))⟩
theorem qnP{a b:α}{l:List α}(h:l.Perm [a,b]):l=[a,b]\/l=[b,a]:=by
 have hl:=h.length_eq
 match l,hl with
 |[x,y],_ =>
  have ha:a∈[x,y]:=h.mem_iff.2 (by simp);rw[List.mem_cons,Qi]at ha;rcases ha with e|e
  .subst e;have:=(List.Perm.cons_inv h).eq_singleton;left;rw[this]
  subst e;have:=(List.Perm.cons_inv ((List.Perm.swap x a []).trans h)).eq_singleton;right;injection this with this;rw[this]
def Sa:List Uk:=[(0,[],0),(0,[0],1)]
theorem qyK(hp:rows.Perm Sa)(hs:rows.Pairwise fun a b=>¬ Mq b a):rows=Sa:=by
 rcases qnP hp with h|h
 .exact h
 rw[h]at hs;have:=(Qx.1 hs).1 (0,[],0) (by simp);exact absurd (show Mq ((0:Int),([]:Wd),(0:Int)) (0,[0],1)from .inr ⟨rfl,by decide⟩) this
theorem qsB:Kf gA=0:=by kernel_rfl
theorem qsC:Og 1 gA (some [[[]],[[0]]]):=⟨_,qqV,_,zfA,qqY.symm⟩
open Go.RowKit Go.Shelf
attribute [local go_sem] Oper.semAt_some
abbrev Beg:=Uk×Wd
def Al(r:Uk):List Beg:=(List.range (r.2.1.length+1)).map fun k=>(r,r.2.1.take k)
def Bo(rows:List Uk):List Beg:=rows.flatMap Al
abbrev jS(rows:List Uk):={ x:Beg // x∈Bo rows }
theorem fz(rows:List Uk)(h:i<rows.length):Bo (rows.take (i+1))=Bo (rows.take i)++Al rows[i]:=by
 unfold Bo;rw[Qc h,List.flatMap_append];simp
theorem fC(r:Uk):(Al r).length=r.2.1.length+1:=by simp[Al]
theorem qbH(r:Uk)(h:k<r.2.1.length+1):(Al r).take (k+1)=(Al r).take k++[(r,r.2.1.take k)]:=by
 rw[Qc (by rw[fC];exact h)];simp[Al]
theorem qkF(r:Uk):(Al r).take (r.2.1.length+1)=Al r:=Qd (Yj (fC r))
theorem qkE(r:Uk)(h:k<r.2.1.length+1):(r,r.2.1.take k)∈Al r:=Xa.2 ⟨k,Ya.2 h,rfl⟩
theorem qyI(h:i<rows.length)(hk:k<(rows[i]).2.1.length+1):(rows[i],(rows[i]).2.1.take k)∈Bo rows:=Xv.2 ⟨rows[i],Qg h,qkE _ hk⟩
theorem xe(h:i<rows.length)(hk:k<(rows[i]).2.1.length+1):(Bo (rows.take i)++(Al rows[i]).take k).length<(Bo rows).length:=by
 have h1:Bo rows=Bo (rows.take i)++Al rows[i]++Bo (rows.drop (i+1)):=by
  rw[<-fz rows h];unfold Bo;rw[<-List.flatMap_append,Xp]
 rw[h1];simp only[Qe,Qq,fC];omega
structure KpR(N0:Nat)(W W':World):Prop where
 bel:Below N0 W W'
 keep:∀(k:Nat)(cs:Array Value),W.heap[k]?=some (.cells cs 81 (0,0))->W'.heap[k]?=some (.cells cs 81 (0,0))
theorem KpR.trans{N0:Nat}{A B C:World}(h:KpR N0 A B)(k:KpR N0 B C):KpR N0 A C:=⟨h.bel.trans k.bel,fun i cs hi=>k.keep i cs (h.keep i cs hi)⟩
theorem KpR.putObj(hn:N0<=w.heap.size)(W:World)(l:Nat)(o o':Obj)(hl:w.heap.size<=l)(h:W.heap[l]?=some o)(h1:o.isCells=false)(h2:o.isWalk=false):KpR N0 W (W.putObj l o') :=
 ⟨belowK_b hn W l o o' hl h h1 h2,fun k cs hk=>(World.putObj_heap_other (fun e=>by
  subst e
  rw[h]at hk
  injection hk with hk
  subst hk
  cases h1)).trans hk⟩
theorem qrX(n l Bs N0:Nat)(v:Value)(rows:List Uk)(hw:∀r∈rows,r.2.1.length<=4611686018427387904)(J Jx:List (jS rows)->World->Prop)
  (hJ:∀s A B,J s A->A.grownBy B none->J s B)
  (hY:∀(pre:List (jS rows))(x:jS rows)(W:World),J pre W->pre.length<(Bo rows).length->YieldAt Fence.wide (n-1) Tryz.prog l #[qwA x.1.1,wv x.1.2] W fun e W' =>
   (e=.returned (.bool true)/\J (pre++[x]) W'/\KpR N0 W W')\/(e=.returned (.bool false)/\Jx (pre++[x]) W'))
  (W:World) (hN:N0<=W.heap.size) (hBs:W.cell? ⟨Bs,0,none⟩=some v) (hv:Je Bj W N0 v rows) (h0:J [] W) :
  CallsIn Fence.wide n Tryz.prog 165 #[.func (.yield l) #[] #[],.pointer (some ⟨Bs,0,none⟩)] W fun e W'=>(∃v,e=.returned v) /\
   ((∃ys:List (jS rows),ys.map Subtype.val=Bo rows/\J ys W')\/(∃pre,True/\Jx pre W')):=by
 obtain⟨A,c,rfl,Nj,Uw⟩:=hv.form;unfold maxLen at Uw;have HV:=Lh hv;have HW:=Lh hw;have HN:=Lh hN;clear hv hw hN;obtain⟨nr,sr⟩:=Xe rows.length;have HNR:=Lh sr;rw[<-sr]at hBs Nj;clear sr;refine callsIn_of_wp Tryz.func165 rfl trivial ?_ rfl;simp only[Tryz.ntmps165,List.size_toArray,Qu,Xu,Nat.reduceAdd,Nat.reduceSub,Array.replicate_succ,Array.replicate_zero,List.push_toArray,List.append_toArray,List.nil_append,List.cons_append]
 gi_wp2
 gi_loopw [8] (fun v8 wr=>∃(i:Nat)(pre:List (jS rows)),i<=nr/\v8=.int .i64 i/\pre.map Subtype.val=Bo (rows.take i)/\J pre wr/\Hid (Below N0 W wr)) (fun v8 _=>nr-(intOf v8).toNat)
 exact⟨0,[],by omega,rfl,rfl,h0,Xr _ _⟩;obtain⟨i,pre,hi,rfl,Cr,hj,HB⟩:=hrel;by_cases Jl:i<nr
 .have Db:i<rows.length:=by have:=HNR.o;omega
  obtain⟨b1,o1,rfl,-,hb1,a0,a1,a2,-⟩:=(HV.o.below HB.o).rowAt Db;have HSN:=Lh (fz rows Db);have HM:=Lh (fun k (hk:k<(rows[i]).2.1.length+1)=>qyI (rows:=rows) Db hk);have HL:=Lh (fun k (hk:k<(rows[i]).2.1.length+1)=>xe (rows:=rows) Db hk);have hwl:=HW.o _ (Qg Db);obtain⟨x,hx⟩:=Xe (rows[i]);rw[<-hx]at a0 a1 a2 HSN HM HL hwl;clear hx;obtain⟨xa,xs1,xi⟩:=x;simp only at a0 a1 a2 hwl;have HX:=Lh (Xn wr (.cells #[.int .i64 xa,.string ⟨xs1.toArray⟩,.int .i64 xi] 81));have HJ1:=Lh (hJ pre wr _ hj (World.grownBy_alloc wr (.cells #[.int .i64 xa,.string ⟨xs1.toArray⟩,.int .i64 xi] 81) none));have HB1:=Lh (HB.o.alloc (Yd HN.o HB.o.size) (.cells #[.int .i64 xa,.string ⟨xs1.toArray⟩,.int .i64 xi] 81));have HPRE:=Lh Cr;clear hj Cr HB
  gi_wp2
  generalize hw1:wr.alloc (.cells #[.int .i64 xa,.string ⟨xs1.toArray⟩,.int .i64 xi] 81)=w1 at*;generalize wr.heap.size=b4 at*;clear hw1
  gi_loopw [16] (fun ob wt=>∃(k:Nat)(pre2:List (jS rows)),k<=xs1.length+1/\ob=.int .i64 k/\Hid (pre2.map Subtype.val=Bo (rows.take i)++(Al (xa,xs1,xi)).take k)/\Hid (J pre2 wt)/\Hid (Below N0 W wt)/\Hid (wt.heap[b4]?=some (.cells #[.int .i64 xa,.string ⟨xs1.toArray⟩,.int .i64 xi] 81 (0,0)))) (fun ob _=>xs1.length+1-(intOf ob).toNat)
  exact⟨0,pre,by omega,rfl,by show _=_;rw[HPRE.o];simp,HJ1.o,HB1.o,HX.o⟩;clear HJ1 HB1 HX a0 a1 a2;obtain⟨k,pre2,hk,rfl,HP2,HJ2,HB2,HX2⟩:=hrel;by_cases hlk:k<xs1.length+1
  .have y0:wr.cell? ⟨b4,0,none⟩=some (.int .i64 xa):=Xc HX2.o rfl;have y1:wr.cell? ⟨b4,1,none⟩=some (.string ⟨xs1.toArray⟩):=Xc HX2.o rfl;have y2:wr.cell? ⟨b4,2,none⟩=some (.int .i64 xi):=Xc HX2.o rfl;obtain⟨fn,tmps,assign,body,hy,hR0⟩:=hY pre2 ⟨_,HM.o k hlk⟩ wr.drew (hJ _ _ _ HJ2.o ⟨rfl,rfl,rfl,Yb _,fun _ _ _=>rfl⟩) (by have:=HL.o k hlk;rw[<-HP2.o,Qk]at this;exact this);dsimp only at hy;have hR:RoundIn Fence.wide (n-1) Tryz.prog l fn tmps assign body wr.drew fun e W'=>∃b:Bool,e=.returned (.bool b)/\((b=true/\J (pre2++[⟨_,HM.o k hlk⟩]) W'/\KpR N0 wr.drew W')\/(b=false/\Jx (pre2++[⟨_,HM.o k hlk⟩]) W')):=hR0.mono (by
    rintro e W' (⟨rfl,h1,h2⟩|⟨rfl,h1⟩)
    .exact⟨true,rfl,.inl ⟨rfl,h1,h2⟩⟩
    exact⟨false,rfl,.inr ⟨rfl,h1⟩⟩)
   clear hR0;have hmix:Tryz.prog.follows .mixedOrders=true:=by kernel_rfl
   gi_wp2
   gi_region_with_o (first
    |(refine⟨trivial,(fun h=>absurd h Bool.false_ne_true),(callsIn_wide.2 (bX xs1 k _ (by unfold maxLen;omega) (by omega))).mono ?_⟩;rintro e w' ⟨rfl,rfl⟩)
    |(refine⟨(fun h=>absurd h Bool.false_ne_true),hR.mono ?_⟩;rintro e w' ⟨b,rfl,hb⟩)
    |(refine hR.mono ?_;rintro e w' ⟨b,rfl,hb⟩))
   all_goals
    rcases hb with ⟨rfl,hj,hkp⟩|⟨rfl,hjx⟩
    .clear hY hR hy
     gi_wp2
     go_roundw;exact⟨k+1,_,by omega,by go_num,by show _=_;rw[Qt,HP2.o,qbH _ hlk,Xd];rfl,hj,HB2.o.drew.trans hkp.bel,hkp.keep _ _ HX2.o⟩;simp[intOf];omega
    clear hY hR hy
    gi_wp2
    refine Zh (results_none rfl _ _ _) rfl ?_;exact⟨⟨_,rfl⟩,.inr ⟨_,trivial,hjx⟩⟩
  have Du:k=xs1.length+1:=by omega
  subst Du;clear hY
  gi_wp2
  go_roundw;exact⟨i+1,pre2,by omega,by go_num,by rw[HP2.o,HSN.o,qkF (xa,xs1,xi)],HJ2.o,HB2.o⟩;simp[intOf];omega
 have Wp:i=nr:=by omega
 subst Wp;clear hY
 gi_wp2
 go_end0
 exact⟨⟨_,rfl⟩,.inl ⟨pre,by rw[Cr,HNR.o,List.take_length],hj⟩⟩
theorem xL(n Bs N0:Nat)(v:Value)(rows:List Uk)(hw:∀r∈rows,r.2.1.length<=4611686018427387904)(w:World)(hN:N0<=w.heap.size)(hB:Bs<w.heap.size)(hBs:w.cell? ⟨Bs,0,none⟩=some v)(hv:Je Bj w N0 v rows) :
  SeqStopsK Fence.wide n Tryz.prog 165 #[.pointer (some ⟨Bs,0,none⟩)] (fun x:jS rows=>#[qwA x.1.1,wv x.1.2]) (KpR N0) (fun xs=>xs.map Subtype.val=Bo rows) (fun _=>True) (Bo rows).length w :=
 fun l J Jx W hW hJ _ hY h0=>qrX n l Bs N0 v rows hw J Jx (fun s A B hs hg=>hJ s A B none hs hg (fun r e=>by cases e)) hY W (Yd hN hW.size) ((hW.cell (p:=⟨Bs,0,none⟩) hB).trans hBs) (hv.below (hW.mono hN)) h0
theorem dO(A:Option Addr)(n c:Nat)(w:World) :
  Calls Tryz.prog 101 #[.slice A n c] w fun e w'=>e=.returned (.func (.func 165) #[] #[.pointer (some ⟨w.heap.size,0,none⟩)])/\w'=w.alloc (.cells #[.slice A n c] 28):=by
 go_enter Tryz.func101,Tryz.ntmps101;go_wp2;go_ret;exact⟨rfl,rfl⟩
def xE(a b:Wd):Int:=if a.length=b.length then Lib.compareBytes a b else Lib.compareInt a.length b.length
theorem qyF(a b:Wd):xE a b<0↔Ce a b:=by
 unfold xE Ce;split
 .rename_i h;rw[jE];constructor
  .exact fun h2=>.inr ⟨h,h2⟩
  rintro (h2|⟨_,h2⟩)
  .omega
  exact h2
 rename_i h;unfold Lib.compareInt;split
 .rename_i h1;simp only[Int.reduceNeg,Int.reduceLT,true_iff];exact .inl (by omega)
 rename_i h1;constructor
 .intro h2;split at h2 <;> omega
 rintro (h2|⟨h2,_⟩) <;> omega
theorem iE{a b c:Wd}(h:Ce a b)(k:Ce b c):Ce a c:=by
 rcases h with h|⟨h1,h2⟩ <;> rcases k with k|⟨k1,k2⟩
 .exact .inl (by omega)
 .exact .inl (by omega)
 .exact .inl (by omega)
 exact .inr ⟨by omega,List.lt_trans h2 k2⟩
theorem uA(a b:Wd):Ce a b\/a=b\/Ce b a:=by
 rcases Nat.lt_trichotomy a.length b.length with h|h|h
 .exact .inl (.inl h)
 .by_cases h1:a<b
  .exact .inl (.inr ⟨h,h1⟩)
  by_cases h2:b<a
  .exact .inr (.inr (.inr ⟨h.symm,h2⟩))
  exact .inr (.inl (List.le_antisymm (List.not_lt.1 h2) (List.not_lt.1 h1)))
 exact .inr (.inr (.inl h))
theorem du(x y:Wd):ltOf xE x y=true↔Ce x y:=by
 unfold ltOf;rw[Yk];exact qyF x y
theorem nY(x y:Wd):ltOf xE x y=false↔¬ Ce x y:=by
 rw[<-du,Bool.not_eq_true]
theorem zsO:SWO (ltOf xE) where
 irrefl:=fun x=>by rw[nY];exact It x
 trans:=fun x y z h1 h2=>by rw[du]at*;exact iE h1 h2
 ntrans:=fun x y z h1 h2=>by
  rw[nY]at*;intro h;rcases uA x y with h3|h3|h3
  .exact h1 h3
  .subst h3;exact h2 h
  exact h2 (iE h3 h)
theorem qjF(x y:Wd)(w:World):Calls Tryz.prog 103 #[wv x,wv y] w fun e w'=>e=.returned (.int .i64 (xE x y))/\Below w.heap.size w w'/\w.drawn<=w'.drawn:=by
 by_cases h:x.length=y.length
 .have hq:((x.length:Int)==(y.length:Int))=true:=by simp[h]
  have HO:=Lh (show xE x y=Lib.compareBytes x y by unfold xE;rw[if_pos h]);clear h;go_enter Tryz.func103,Tryz.ntmps103;go_wp2_with fail;refine (Tryz.strings_Compare ⟨x.toArray⟩ ⟨y.toArray⟩ _).mono ?_;rintro e w1 ⟨rfl,rfl⟩;go_wp2;go_ret;exact⟨Kw (Gn HO.o.symm),by go_grown,Yb _⟩
 have hq:((x.length:Int)==(y.length:Int))=false:=by rw[Yp];omega
 have HO:=Lh (show xE x y=Lib.compareInt x.length y.length by unfold xE;rw[if_neg h]);clear h;go_enter Tryz.func103,Tryz.ntmps103;go_wp2_with fail;refine (Tryz.cmp_Compare_int x.length y.length _).mono ?_;rintro e w1 ⟨rfl,rfl⟩;go_wp2;go_ret;exact⟨Kw (Gn HO.o.symm),by go_grown,Yb _⟩
def qyO(base:Nat)(v:Value)(ks:List Wd)(w w':World):Prop:=∃ts:List Wd,ts.Perm ks/\ts.Pairwise (fun a b=>¬ Ce b a)/\w'.ownsRow base 9 1 v ks.length (Zx ts)/\w.grownBy w' v.ownBlock
theorem zB(base:Nat)(A:Option Addr)(c:Nat)(ks:List Wd)(w:World)(h:w.ownsRow base 9 1 (.slice A ks.length c) ks.length (Zx ks))(hn:ks.length<4611686018427387904)(h0:0<ks.length) :
  Calls Tryz.prog 102 #[.slice A ks.length c,.func (.func 103) #[] #[]] w fun e w'=>e=.returned (.tuple #[])/\qyO base (.slice A ks.length c) ks w w':=by
 have eg:∀args w,(callFunc 103 args).run Tryz.prog w=.ok (.enter 103 args) w:=enters_of Tryz.func103 (by kernel_rfl) rfl;have HH:=Lh h;rcases HH.o.2 with ⟨zU,h1⟩|⟨g,cap,cur,hv,hbase,hb,h1,h2,h3,h4⟩
 .omega
 injection hv with e1 e2 e3;subst e1 e3;have hH:Holds encStr w g 0 ks.toArray:=holds_of_block hb (by rw[Ys]at h4;exact h4);have hgl:g<w.heap.size:=(gl hb);have hS:=Any.slices_SortFunc Tryz.sortLayS encStr (fun _=>rfl) xE zsO 103 #[] g 0 c ks.toArray w eg (fun m os dk hdk x y=>(qjF x y _).mono fun e w' ⟨he,hb,hd⟩=>⟨he,wP hb hd⟩) hH hgl (by simpa using hn);simp only[List.size_toArray]at hS;refine Calls.mono hS fun e w' ⟨he,d',n,os,hp,hs,hw⟩=>⟨he,d'.toList,?_,?_,?_,?_⟩
 .obtain⟨p1,_,p3⟩:=hp;have e1:d'.extract 0 ks.length=d':=by
   apply Array.extract_eq_self_of_le;rw[p1];simp
  have e2:ks.toArray.extract 0 ks.length=ks.toArray:=by
   apply Array.extract_eq_self_of_le;simp
  rw[e1,e2]at p3;simpa using p3
 .rw[List.pairwise_iff_getElem];intro i j hi hj hij;have Fb:d'.size=ks.length:=by rw[hp.1];simp
  have:=hs i j (Yg _) hij (by rw[<-Fb];simpa using hj);rw[nY]at this;have aU:j<d'.size:=by simpa using hj
  have hi':i<d'.size:=by simpa using hi
  rw[getElem!_pos d' j aU,getElem!_pos d' i hi']at this;simpa using this
 .subst hw;have Fb:d'.toList.length=ks.length:=by rw[Array.length_toList,hp.1];simp
  have:=ownsRow_sorted (w:=w) (base:=base) (g:=g) (cap:=c) (n:=n) (os:=os) (cur:=cur) (ss:=ks) (ts:=d'.toList) Fb hbase hb h1 h2 h3;rw[Array.toArray_toList]at this;exact this
 subst hw;have:=grownBy_sorted (w:=w) (g:=g) (n:=n) (os:=os) d';exact this
theorem po{l:Nat}{row:String}{args:Array Value}{R:Value->World->Prop}(h:Rows P row args w R):RowsIn (Fence.wide.inRound l) n P row args w R :=
 fun c cs _=>let ⟨v,w',r,s⟩:=h c cs;⟨v,w',r,stepsIn_wide.2 s⟩
theorem yy{l:Nat}{o:Oper}(Te:∀c,o.op≠.defer c)(h:o.wp P a w K Q):o.wpIn (Fence.wide.inRound l) n P a w K Q:=by
 refine⟨fun _ _=>trivial,?_⟩;rw[Fence.inRound_round,Oper.semAt_some l a.eval o Te];unfold Oper.wp at h;generalize (execOp a.eval o).run P w=r at*;cases r with
 |ok x w' =>
  cases x with
  |value v=>exact h
  |skip=>exact h
  |defer d=>exact h
  |enter f args=>exact⟨fun h=>absurd h Bool.false_ne_true,CallsIn.inRound l (callsIn_wide.2 h)⟩
  |row r args=>exact⟨fun h=>absurd h Bool.false_ne_true,po h⟩
  |round l f tmps assign body=>exact False.elim h
  |_=>exact False.elim h
 |halt x w'=>cases x <;> first|exact h|exact False.elim h
theorem Dm{row:Option Nat}(hg:W.grownBy W' row)(hr:∀r,row=some r->∃o:Obj,W.heap[r]?=some o/\o.isCells=false)(h:W.heap[k]?=some (.cells cs t fr)):W'.heap[k]?=some (.cells cs t fr) :=
 (grownBy_keeps_cells hg hr h rfl).trans h
theorem Cl{row:Option Nat}(hg:W.grownBy W' row)(hr:∀r,row=some r->∃o:Obj,W.heap[r]?=some o/\o.isCells=false)(h:W.ownsRow base e size v n xs):W'.ownsRow base e size v n xs:=by
 refine⟨h.1,?_⟩;rcases h.2 with h'|⟨g,cap,cur,rfl,hb,hh,r⟩
 .exact .inl h'
 exact .inr ⟨g,cap,cur,rfl,hb,Dm hg hr hh,r⟩
theorem Eg(hown:w.ownsRow base e size v n xs)(hg:w.grownBy w' v.ownBlock){o:Obj}(h:w.heap[k]?=some o)(hne:∀cur,o≠.cells cur e (0,0)):w'.heap[k]?=some o:=by
 refine (hg.block k (gl h) fun he=>?_).trans h;rcases hown.2 with ⟨rfl,_⟩|⟨g',cap,cur,rfl,_,hh,_⟩
 .simp[Value.ownBlock]at he
 have:k=g':=by simpa[Value.ownBlock]using he
 subst this;rw[h]at hh;injection hh with hh;exact hne cur hh
theorem Nz{ds:Array Value}{u:TypeId}{gr:Nat×Nat}(h1:w.heap[g]?=some (.cells cs t fr))(h2:w.heap[x]?=some (.cells ds u gr))(ht:t≠u):g≠x:=by
 rintro rfl;have h3:=h1.symm.trans h2;injection h3 with h3;injection h3 with _ h3;exact ht h3
theorem zcX{κ:α->Value}{l:List (α×Value)}(h1:Mb κ w g l)(h2:w.heap[x]?=some (.cells cs t fr)):g≠x:=by
 rintro rfl;obtain⟨es,c,hh,_⟩:=h1;rw[hh]at h2;cases h2
theorem Mb.obj{κ:α->Value}{l:List (α×Value)}(h:Mb κ w g l):∃o:Obj,w.heap[g]?=some o/\o.isCells=false:=by
 obtain⟨es,c,hh,_⟩:=h;exact⟨_,hh,rfl⟩
theorem qvD{o:Oper}{s x:Operand}(T:Dg P t e size bytes z)
  (ho:o.op=.call { callee:=.builtin .append,args:=#[s,x],argTypes:=#[t,t] })
     (hs:a.eval s=v) (hx:a.eval x=.slice A m c)
     (hown:w.ownsRow base e size v n xs)
    (hr:Rd w B A news) (hl:news.length=m*size) (h1:∀u∈news,u.oneCell'=true)
  (h63:n+m<=maxLen) (Lv:(n+m)*bytes<=140737488355328) (hbase:base<=w.heap.size)
  (h:∀A' c' w',w'.ownsRow base e size (.slice A' (n+m) c') (n+m) (xs++news)->w.grownBy w' v.ownBlock->((Value.slice A' (n+m) c').ownBlock=v.ownBlock\/(Value.slice A' (n+m) c').ownBlock=some w.heap.size)->K (a.put o.dst (.slice A' (n+m) c')) w'):o.wp P a w K Q :=
 qmF T ho hs hx hown hr hl h1 h63 Lv hbase fun v' w' h2 h3 h4 _=>by
  obtain⟨A',c',rfl,_,_⟩:=Zp h2;exact h A' c' w' h2 h3 h4
theorem qvE{o:Oper}{s x:Operand}(T:Dg P t e size bytes z)
  (ho:o.op=.call { callee:=.builtin .append,args:=#[s,x],argTypes:=#[t,t] })
     (hs:a.eval s=v) (hx:a.eval x=.slice A m c)
     (hown:w.ownsRow base e size v n xs)
    (hr:Rd w B A news) (hl:news.length=m*size) (h1:∀u∈news,u.oneCell'=true)
   {u:Value} {tb:TypeId} (Wo:w.heap[k]?=some (.cells #[u] tb (0,0))) (htb:tb≠e)
  (h63:n+m<=maxLen) (Lv:(n+m)*bytes<=140737488355328) (hbase:base<=w.heap.size)
  (h:∀A' c' w',w'.ownsRow base e size (.slice A' (n+m) c') (n+m) (xs++news)->w.grownBy w' v.ownBlock->((Value.slice A' (n+m) c').ownBlock=v.ownBlock\/(Value.slice A' (n+m) c').ownBlock=some w.heap.size) ->
   w'.heap[k]?=some (.cells #[u] tb (0,0))->w'.cell? ⟨k,0,none⟩=some u->w'.frozen? ⟨k,0,none⟩=false->K (a.put o.dst (.slice A' (n+m) c')) w'):o.wp P a w K Q :=
 qvD T ho hs hx hown hr hl h1 h63 Lv hbase fun A' c' w' h2 h3 h4=>by
  have hb:=Eg hown h3 Wo (fun cur e=>by injection e with _ e;exact htb e);exact h A' c' w' h2 h3 h4 hb (Xc hb rfl) (by simp[World.frozen?,hb])
theorem gZ{F:Fence}{g:Operand}{ps:Array Tmp}{assign body:Code}
  (hro:F.round=none) (h1:1<=n) {gf:Nat} {lb:Array Value} (hg:a.eval g=.func (.func gf) #[] lb) (hFg:F.fn gf) (eg:∀args w,(callFunc gf args).run P w=.ok (.enter gf args) w)
  {zfB:α->Array Value} {Kp:World->World->Prop} {S Sp:List α->Prop} {N:Nat} {w0:World} (ztL:SeqStopsK F (n-1) P gf lb zfB Kp S Sp N w0)
  (hKt:∀{A B C:World},Kp A B->Kp B C->Kp A C) (hKb:∀(W:World)(l:Nat)(o o':Obj),w.heap.size<=l->W.heap[l]?=some o->o.isCells=false->o.isWalk=false->Kp W (W.putObj l o')) (Bf:Below w0.heap.size w0 w) (hps:∀x,(zfB x).size=ps.size)
  (I:List α->World->Prop) (Ix:Code->List α->World->Prop) (hI:OwnFrom w.heap.size I) (hIx:∀c,OwnFrom w.heap.size (Ix c)) (h0:I [] w) (row:α->Array Value) (t:TypeId)
  (Nu:∀(pre:List α)(x:α)(W:World),I pre W->Kp W (W.alloc (.cells (row x) t))/\I pre (W.alloc (.cells (row x) t))) (a₁:α->Nat->Act)
  (hassign:∀(l:Nat)(x:α)(W Wn:World)(b:Nat)(K:Act->World->Prop),b=W.heap.size->Wn=W.alloc (.cells (row x) t)->K (a₁ x b) Wn ->
   assign.wpIn (F.inRound l) (n-1-1) P (Exit.then K (fun _ _ _=>False)) { tmps:=(ps.zip (zfB x)).foldl (fun t (p,v)=>t.setIfInBounds p v) a.tmps,defers:=[] } W)
  (hbody:∀(l:Nat)(pre:List α)(x:α)(b:Nat)(W:World),W.heap[b]?=some (.cells (row x) t (0,0))->I pre W->pre.length<N->body.wpIn (F.inRound l) (n-1-1) P (ownPostG w.heap.size Kp I Ix (pre++[x]) W) (a₁ x b) W)
  (hdone:∀(D:Nat)(xs:List α)(W:World),w.heap.size<=D->S xs->I xs W->W.heap[D]?=some (.deferred (some []))->Q .normal { a with defers:={ target:=.collected D,args:=#[] }::a.defers } W)
  (hstop:∀(D:Nat)(c:Code)(pre:List α)(W:World),w.heap.size<=D->Sp pre->Ix c pre W->W.heap[D]?=some (.deferred (some []))->c.wpIn F n P Q { a with defers:={ target:=.collected D,args:=#[] }::a.defers } W) :
  (Code.rangeFunc g ps assign body).wpIn F n P Q a w :=
 wpIn_rangeFunc_ownH hro h1 hg hFg eg ztL (fun h k=>hKt h k) hKb Bf hps I Ix hI hIx h0 (fun x a' W=>∃b:Nat,W.heap[b]?=some (.cells (row x) t (0,0))/\a'=a₁ x b)
  (fun _ _ _ _ _ _ hs hg hr=>let ⟨b,hb,e⟩:=hs;⟨b,Dm hg (fun r e=>(hr r e).2) hb,e⟩)
  (fun l pre x W K hi hK=>hassign l x W _ _ K rfl rfl (hK _ _ ⟨by simp,fun k _ _ hk _=>(Zf W _ k (gl hk)).trans hk⟩ (Nu pre x W hi).1 (Nu pre x W hi).2 ⟨_,Xn W _,rfl⟩))
  (fun l pre x _ W _ _ hi hs hl=>by
   obtain⟨b,hb,rfl⟩:=hs
   exact hbody l pre x b W hb hi hl) hdone hstop
theorem fu{o:Obj}(hD:W.heap[D]?=some o)(ho:o.isCells=false){p:Addr}(hp:p.block=D):W.cell? p=none:=by
 unfold World.cell?;rw[hp,hD];cases o with
 |cells c t f=>cases ho
 |_=>rfl
theorem vi{o o':Obj}(hD:W.heap[D]?=some o)(ho:o.isCells=false)(yR:o'.isCells=false)(p:Addr):(W.putObj D o').cell? p=W.cell? p:=by
 by_cases hp:p.block=D
 .rw[fu hD ho hp,fu (World.putObj_heap_same (w:=W) (o:=o') (gl hD)) yR hp]
 exact World.cell?_of_block (World.putObj_heap_other hp)
end Go.Proofs.YtmaojnmnbpomeaaGreatDoor
