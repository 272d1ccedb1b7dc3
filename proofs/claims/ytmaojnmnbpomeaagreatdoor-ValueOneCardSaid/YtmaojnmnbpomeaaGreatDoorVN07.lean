/- A part. -/
import Derived.Test.YtmaojnmnbpomeaaGreatDoorVN06
import Derived.Shelf.Spec.SlicesGrow
set_option maxRecDepth 100000
set_option maxHeartbeats 64000000
namespace Go.Proofs.YtmaojnmnbpomeaaGreatDoor
open Go.RowKit Go.Sort
variable{p:Addr}{s:Int}{r:Int×List Int}{l:List Int}{L P x:List Wd}{B B0 C N O S base e0 g i j k lo m n:Nat}{A:Option Addr}{α σ:Type}{t:TypeId}{v:Value}{z:Wd}{w w' w1:World}{rs:Zz}
def zhE(w:World)(e:Ending)(w':World):Prop:=∃v,e=.returned v/\w'.ownsRow w.heap.size 9 1 v 0 []/\Below w.heap.size w w'
theorem qiY(n:Nat)(w:World)(hn:n*16<=140737488355328):Calls Tryz.prog 260 #[.slice none 0 0,.int .i64 n] w (zhE w):=by
 obtain⟨i0,hi,hz0,Ik,Si⟩:=bY.info;rcases Nat.eq_zero_or_pos n with h0|h0
 .subst h0;refine Calls.mono (Any8.slices_Grow_room Tryz.growLay none 0 0 0 w (by omega) (by omega) (by omega) (by omega)) ?_;rintro e w' ⟨rfl,rfl⟩;exact⟨_,rfl,Za _ _ _ _,Xr _ _⟩
 refine Calls.mono (Any8.slices_Grow_grow Tryz.growLay i0 _ hi hz0 (by rw[Ik];decide) none 0 0 n [] w (by omega) (by omega) (by rw[Si];omega) (by omega) (by simp) (fun _=>rfl) (fun a h=>by cases h)) ?_;rintro e w' ⟨rfl,rfl⟩;refine⟨_,rfl,?_,(Xr _ _).drew.alloc (Yb _) _⟩;have h1:=grownCap_le_maxLen w (0+n) 0 (Tryz.growLay_ren.t 25) (by unfold maxLen;omega);have h2:=grownCap_ge w (0+n) 0 (Tryz.growLay_ren.t 25);rw[Yr]at h1 h2;exact World.ownsRow_made (base:=w.heap.size) (e:=9) (size:=1) w.drew _ _ (Yb _) (by rw[Yr];exact h1) (by
  rw[Array.size_append,Array.size_append,size_zeroCells,size_zeroCells]
  simp[Value.cells]
  omega)
def qtQ(w:World)(ss:List (List Wd))(e:Ending)(w':World):Prop:=∃v,e=.returned v/\w'.ownsRow w.heap.size 9 1 v ss.flatten.length (Zx ss.flatten)/\Below w.heap.size w w'
theorem fc(ss:List (List α))(h:i<ss.length):(ss.take (i+1)).flatten=(ss.take i).flatten++ss[i]:=by
 rw[Qc h,Qs];simp
theorem km(ss:List (List α))(i:Nat):(ss.take i).flatten.length<=ss.flatten.length:=by
 have:ss.flatten=(ss.take i).flatten++(ss.drop i).flatten:=by rw[<-Qs,Xp]
 rw[this,Qe];omega
theorem Je.row1{c:Nat}{ss:List (List Wd)}(h:Je (Tw eW) w B (.slice A n c) ss)(hk:k<ss.length):∃b off A2 c2,A=some ⟨b,off,none⟩/\n<=c/\b<B/\w.cell? ⟨b,off+k,none⟩=some (.slice A2 ss[k].length c2)/\Je eW w B (.slice A2 ss[k].length c2) ss[k]/\ss[k].length<=c2/\c2<=maxLen:=by
 obtain⟨b,off,cs,e,h1,h2,⟨v,rfl,hs⟩,h4⟩:=h.get hk (by show 0<1;omega);obtain⟨A2,c2,rfl,h5,h6⟩:=hs.form;have:=h4 0 _ rfl;simp only[show (Tw eW).size=1 from rfl,Ys,Yq]at this;exact⟨b,off,A2,c2,e,h1,h2,this,hs,h5,h6⟩
theorem qaY(A:Option Addr)(c:Nat)(ss:List (List Wd))(w:World)(h:Je (Tw eW) w w.heap.size (.slice A ss.length c) ss)(hb:ss.flatten.length*16<=140737488355328) :
  Calls Tryz.prog 218 #[.slice A ss.length c] w (qtQ w ss):=by
 have HH:=Lh h;have hc:=h.n_le;have HBD:=Lh hb;obtain⟨m,hm⟩:=Xe ss.length;rw[<-hm]at hc HH |-;have HM:=Lh hm;clear h hb hm;go_enter Tryz.func218,Tryz.ntmps218;go_wp2_with fail;go_loopw [11,3] (fun v11 v3 wr=>∃i t:Nat,i<=m/\v11=.int .i64 i/\v3=.int .i64 t/\Hid (t=(ss.take i).flatten.length)/\wr=w) (fun v11 _ _=>m-(intOf v11).toNat);exact⟨0,0,by omega,rfl,rfl,rfl,rfl⟩;obtain⟨i,t,hi,rfl,rfl,HT,rfl⟩:=hrel;have hle:t<=8796093022208:=by have h1:=HT.o;have h2:=km ss i;have h3:=HBD.o;omega
 by_cases Jl:i<m
 .have Db:i<ss.length:=by rw[<-HM.o];exact Jl
  obtain⟨b,off,A2,c2,rfl,_,iY,Zn,hs,h5,h6⟩:=HH.o.row1 Db;have HF:=Lh (fc ss Db);have zuP:t+ss[i].length<=8796093022208:=by
   have h1:=HT.o;have h2:=km ss (i+1);have h3:=HBD.o;rw[HF.o,Qe]at h2;omega
  have HLN:=Lh (show t+ss[i].length=(ss.take (i+1)).flatten.length by rw[HF.o,Qe,HT.o]);obtain⟨q,hq⟩:=Xe (ss[i].length);rw[<-hq]at zuP HLN Zn;clear hs HF h5 hq Db;go_wp2_with fail;refine⟨⟨i+1,t+q,by omega,by go_num,by go_num,HLN.o,trivial⟩,by simp[intOf];omega⟩
 have sy:i=m:=by omega
 clear HT;go_wp2_with fail;refine (qiY t wr (by omega)).mono ?_;rintro e w1 ⟨v1,rfl,h1,hb1⟩;have HB1:=Lh hb1;have HO1:=Lh h1;obtain⟨A1,c1,rfl,_⟩:=Zp h1;clear h1 hb1;go_wp2_with fail;go_loopw [27,6] (fun v27 v6 wt=>∃i s:Nat,i<=m/\v27=.int .i64 i/\Hid (s=(ss.take i).flatten.length)/\Hid (wt.ownsRow wr.heap.size 9 1 v6 s (Zx (ss.take i).flatten))/\Hid (Below wr.heap.size wr wt)) (fun v27 _ _=>m-(intOf v27).toNat);exact⟨0,0,by omega,rfl,rfl,HO1.o,HB1.o⟩;clear HO1 HB1;obtain⟨i,s,hi,rfl,HSI,HO,HB⟩:=hrel;obtain⟨A6,c6,rfl,_⟩:=Zp HO.o;by_cases Jl:i<m
 .have Db:i<ss.length:=by rw[<-HM.o];exact Jl
  obtain⟨b,off,A2,c2,rfl,_,iY,Zn,hs,h5,h6⟩:=(HH.o.below HB.o).row1 Db;have HF:=Lh (fc ss Db);have ak:=Lh hs.rdW;obtain⟨x,hx⟩:=Xe (ss[i]);rw[<-hx]at Zn HF ak;obtain⟨q,hq⟩:=Xe x.length;rw[<-hq]at Zn;have HQ:=Lh hq;have HSQ:=Lh (show s+q=(ss.take (i+1)).flatten.length by rw[HF.o,Qe,HSI.o,HQ.o]);have HLE:=Lh (show s+q<=8796093022208 by have h2:=km ss (i+1);have h3:=HBD.o;rw[HSQ.o];omega);clear hs h5 hq hx Db;go_wp2_with (at_builtin;refine Zy (m:=q) (n:=s) bY rfl rfl rfl rfl HO.o ak.o ?hl (iB _) ?h63 ?hby HB.o.size ?_)
  case hl=>rw[Gm,Ys];exact HQ.o.symm
  case h63=>have:=HLE.o;unfold maxLen;omega
  case hby=>have:=HLE.o;omega
  intro v' w' ho hg _ _;have HO2:Hid (w'.ownsRow _ 9 1 v' (s+q) (Zx (ss.take (i+1)).flatten)):=Lh (by
   rw[HF.o]
   simp only[Zx,Qt]at ho |-
   exact ho)
  have HB2:=Lh (Zr HB.o hg HO.o (Yb _) HB.o.size);obtain⟨A7,c7,rfl,_⟩:=Zp HO2.o;clear ho hg;go_wp2_with fail;exact⟨⟨i+1,s+q,by omega,by go_num,HSQ.o,HO2.o,HB2.o⟩,by simp[intOf];omega⟩
 have sy:i=m:=by omega
 have Wc:(ss.take i).flatten=ss.flatten:=by rw[sy,HM.o,Qd (Yb _)]
 rw[Wc]at HO HSI;clear Wc sy;go_wp2;go_ret;exact⟨_,rfl,by rw[<-HSI.o];exact HO.o,HB.o⟩
theorem aw(A:Option Addr)(c:Nat)(a b:List Wd)(w:World)(h:Je (Tw eW) w w.heap.size (.slice A 2 c) [a,b])(hb:(a.length+b.length)*16<=140737488355328) :
  Calls Tryz.prog 144 #[.slice A 2 c] w (zbR w (a++b)):=by
 have mf:=Lh (show [a,b].flatten=a++b by simp);have HC:=Lh (qaY A c [a,b] w h (by rw[mf.o,Qe];exact hb));have HF:=Lh (show bI (a++b) by
  refine qrC ?_ ?_
  .obtain⟨_,_,_,_,_,_,_,_,hs,_⟩:=h.row1 (k:=0) (by simp)
   exact hs.fits
  obtain⟨_,_,_,_,_,_,_,_,hs,_⟩:=h.row1 (k:=1) (by simp)
  exact hs.fits)
 rw[show [a,b].length=2 from rfl]at HC;have HBD:=Lh (show (a++b).length*16<=140737488355328 by rw[Qe];exact hb);clear h hb;obtain⟨l,hl⟩:=Xe ([a,b]);rw[<-hl]at mf HC;clear hl;obtain⟨r,hr⟩:=Xe (a++b);rw[<-hr]at mf HF HBD |-;clear hr;go_enter Tryz.func144,Tryz.ntmps144;go_wp2_with fail;refine HC.o.mono ?_;rintro e w1 ⟨v1,rfl,h1,hb1⟩;rw[mf.o]at h1;obtain⟨A1,c1,rfl,_⟩:=Zp h1;have HW:=Lh (sY A1 c1 r w1 (Av HF.o h1) HBD.o);have HB1:=Lh hb1;clear h1 hb1 HC HF HBD mf;go_wp2_with fail;refine HW.o.mono ?_;rintro e w2 ⟨v2,rfl,h2,Jd⟩;have HB2:=Lh (HB1.o.trans (Jd.mono HB1.o.size));have HO2:=Lh (Nn h2 HB1.o.size);obtain⟨A2,c2,rfl,_⟩:=Zp h2;clear h2 Jd HW;go_wp2;go_ret;exact⟨_,rfl,HO2.o,HB2.o⟩
open Go.RowKit
theorem bX(x:Wd)(k:Nat)(w:World)(hx:x.length<=maxLen)(hk:k<=4611686018427387904) :
  Calls Tryz.prog 166 #[wv x,.int .i64 k] w fun e w'=>e=.returned (wv (x.take k))/\w'=w:=by
 unfold maxLen at hx;have hs:(⟨x.toArray⟩:ByteArray).size=x.length:=Ti x;go_enter Tryz.func166,Tryz.ntmps166;have fP:x.take (max 0 (min (k:Int) (x.length:Int))).toNat=x.take k:=by
  rcases Nat.le_total k x.length with h|h
  .rw[show (max 0 (min (k:Int) (x.length:Int))).toNat=k by omega]
  rw[Qd (by omega),Qd h]
 have HCL:=Lh fP;clear fP;go_wp2
 all_goals first
  |(go_ret;exact⟨Kw (zcP (by rw[sB,HCL.o])),rfl⟩)
  |(go_ret;exact⟨Kw (zcP (by rw[sB,Qd (Yb _),Qd (by omega)])),rfl⟩)
  |(go_ret;exact⟨Kw (zcP (sB x k)),rfl⟩)
  |(have e:x.take k=[]:=by
    rcases (by omega:x.length=0\/k=0)with h|h
    .rw[Xx h,List.take_nil]
    .rw[h];rfl
    rw[e]
    go_ret
    exact⟨rfl,rfl⟩)
def lU(x y:Wd)(i:Nat):Wd:=if i=0 then []else if i=1 then x else x++y
theorem pI(x y:Wd)(k:Nat)(A:Option Addr)(c:Nat)(w:World)(h1:1<=k)(hk:k<=4611686018427387904)(hxy:x.length+y.length<=4611686018427387904)(h:Je eW w w.heap.size (.slice A 2 c) [x,y]) :
  Calls Tryz.prog 221 #[.int .i64 k,.slice A 2 c] w fun e w'=>e=.returned (wv ((x++y).take k))/\w'=w:=by
 have HH:=Lh h;have Uw:=h.n_le;clear h;go_enter Tryz.func221,Tryz.ntmps221;go_wp2_with fail;go_loopw [10,5] (fun v10 v5 wr=>∃i:Nat,i<=2/\v10=.int .i64 i/\v5=wv (lU x y i)/\wr=w/\Hid (i=2->x.length<k)) (fun v10 _ _=>2-(intOf v10).toNat);exact⟨0,by omega,rfl,rfl,rfl,fun h=>by omega⟩;obtain⟨i,hi,rfl,rfl,rfl,HI⟩:=hrel;rcases (by omega:i=0\/i=1\/i=2)with rfl|rfl|rfl
 .obtain⟨b,off,rfl,_,_,Zn⟩:=HH.o.wd (k:=0) (by simp);simp only[List.getElem_cons_zero,Yq]at Zn;have hs:(⟨(lU x y 0).toArray⟩:ByteArray).size=0:=rfl;have eR:(lU x y 0).length=0:=rfl;have e:(⟨(lU x y 0).toArray⟩:ByteArray)++⟨x.toArray⟩=⟨(lU x y 1).toArray⟩:=by rw[bV];rfl
  have E:=Lh e;clear e;go_wp2_with fail;rw[E.o];exact⟨⟨1,by omega,rfl,rfl,trivial,fun h=>by omega⟩,by decide⟩
 .obtain⟨b,off,rfl,_,_,Zn⟩:=HH.o.wd (k:=1) (by simp);simp only[List.getElem_cons_succ,List.getElem_cons_zero]at Zn;have hs:(⟨(lU x y 1).toArray⟩:ByteArray).size=x.length:=Ti x;have eR:(lU x y 1).length=x.length:=rfl;have e:(⟨(lU x y 1).toArray⟩:ByteArray)++⟨y.toArray⟩=⟨(lU x y 2).toArray⟩:=bV x y;have E:=Lh e;clear e;by_cases Jl:x.length<k
  .go_wp2_with fail;rw[E.o];exact⟨⟨2,by omega,rfl,rfl,trivial,fun _=>Jl⟩,by decide⟩
  go_wp2_with fail;refine (bX x k wr (by unfold maxLen;omega) hk).mono ?_;rintro e w2 ⟨rfl,rfl⟩;go_wp2;go_ret;exact⟨Kw (by rw[List.take_append_of_le_length (by omega)];rfl),rfl⟩
 go_wp2_with fail;refine (bX (x++y) k wr (by unfold maxLen;simp;omega) hk).mono ?_;rintro e w2 ⟨rfl,rfl⟩;go_wp2;go_ret;exact⟨rfl,rfl⟩
open Go.ChangeMaps (setBlock)
abbrev qrE(e:MapEntry):Value×Value:=(e.key,e.val)
def qsJ(es:List MapEntry)(clock:Nat):Prop:=(∀x∈es,x.born<clock)/\(es.map (·.born)).Nodup
def MapS{α:Type}(κ:α->Value)(w:World)(g:Nat)(l:List (α×Value)):Prop :=
 ∃(es:Array MapEntry)(clock:Nat),w.heap[g]?=some (.map es clock)/\es.toList.map qrE=l.map (fun p=>(κ p.1,p.2))/\qsJ es.toList clock
def zqX{α:Type}(κ:α->Value)(w:World)(r g:Nat)(l out:List (α×Value)):Prop :=
 ∃(es:Array MapEntry)(clock:Nat)(seen:Array Nat)(rest:List (α×Value)),w.heap[r]?=some (.mapIter (some g) clock seen clock)/\w.heap[g]?=some (.map es clock) /\
  es.toList.map qrE=l.map (fun p=>(κ p.1,p.2))/\qsJ es.toList clock/\(leftOf es seen).toList.map qrE=rest.map (fun p=>(κ p.1,p.2))/\(out++rest).Perm l
theorem rp{P:Program}{ty kt et:TypeId}(hu:P.underlying ty=some (.map kt et))(hc:w.cell? p=some v):(Instr.loadAt ty (.pointer (some p))).run P w=.ok v w:=by
 have iZ:(isAgg ty).run P w=.ok false w:=by
  unfold isAgg;rw[Zg,run_underlying hu w];rfl
 simp[Instr.loadAt,Instr.sureAddr,loadVar,iZ,hc]
abbrev K32:={ k:List UInt8×Int // k.1.length=32 }
instance:Inhabited K32:=⟨⟨(List.replicate 32 0,0),by simp⟩⟩
def kv(k:K32):Value:=hkv k.1.1 k.1.2
theorem Ki:St Tryz.prog 147 9 3 wv where
 und:=Tryz.underlying147
 check:=fun b a w=>by
  show (Instr.checkKey b (9999+1) 9 (.string _)).run Tryz.prog w=_;unfold Instr.checkKey;simp only[Zg,run_underlying Tryz.underlying9,Result.andThen,Sem.run_pure]
 find:=fun k l es w h=>by
  unfold Instr.findKey;have:=Bh (κ:=wv) (d:=.string) (fun a b:Wd=>(congrArg some ((zaC a b).trans (by rw[decide_eq_decide];exact eq_comm)):some ((⟨a.toArray⟩:ByteArray)==⟨b.toArray⟩)=some (decide (b=a)))) k l es 0 h;simp only[Zg,run_underlying Tryz.underlying9,Result.andThen,this,Yr,Sem.run_pure]
 stays:=fun a=>by
  rw[show (10000:Nat)=9999+1 from rfl];have:=Re ⟨a.toArray⟩ ⟨a.toArray⟩;simp[Instr.sameBits,this]
theorem El(w:World):(zeroValue 3).run Tryz.prog w=.ok (.int .i64 0) w:=by kernel_rfl
theorem pA{α:Type}[DecidableEq α]:∀(l:List (α×Value))(k:α)(v:Value)(x:α),Nt (Ue l k v) x=if x=k then some v else Nt l x
 |[],k,v,x=>by
  unfold Nt Ue;by_cases h:k=x
  .subst h;simp
  have h':¬ x=k:=fun e=>h e.symm;simp[h,h']
 |p::r,k,v,x=>by
  have ih:=pA r k v x;unfold Ue;by_cases hp:p.1=k
  .rw[if_pos hp];unfold Nt at ih |-;rw[List.find?_cons,List.find?_cons];by_cases h:k=x
   .subst h;simp
   have h2:p.1≠x:=by rw[hp];exact h
   have h':¬ x=k:=fun e=>h e.symm;simp[h,h2,h']
  rw[if_neg hp];unfold Nt at ih |-;rw[List.find?_cons,List.find?_cons];by_cases h:p.1=x
  .have:x≠k:=by rw[<-h];exact hp
   simp[h,this]
  simp only[h,decide_false];exact ih
def Pf(l:List (Wd×Value))(L:List Wd)(N:Nat):Prop:=∀x,∃n:Nat,(Nt l x).getD (.int .i64 0)=.int .i64 n/\n<=N/\(n=0↔x∉L)
def fJ(L:List Wd)(x:Wd):List Wd:=if x∈L then L else L++[x]
theorem kZ{x y:Wd}:y∈fJ L x↔y∈L\/y=x:=by
 unfold fJ;split
 .rename_i h;exact⟨.inl,fun h'=>h'.elim id fun e=>e ▸ h⟩
 simp
theorem Pf.nil:Pf [] [] 0:=fun x=>⟨0,rfl,Yb _,by simp⟩
theorem Pf.put{l:List (Wd×Value)}(h:Pf l L N)(x:Wd)(hn:(Nt l x).getD (.int .i64 0)=.int .i64 n)(hle:n<=N):Pf (Ue l x (.int .i64 ((n+1:Nat):Int))) (fJ L x) (N+1):=by
 intro y;by_cases e:y=x
 .subst e;exact⟨n+1,by rw[pA,if_pos rfl];rfl,by omega,by simp[kZ]⟩
 obtain⟨m,h1,h2,h3⟩:=h y;refine⟨m,by rw[pA,if_neg e];exact h1,by omega,?_⟩;rw[h3,kZ];simp[e]
theorem vJ{e:TypeId}{size:Nat}{xs:List Value}(h:w.ownsRow base e size v n xs)(hb:∀k,v.ownBlock=some k->w'.heap[k]?=w.heap[k]?):w'.ownsRow base e size v n xs:=by
 refine⟨h.1,?_⟩;rcases h.2 with h'|⟨g,cap,cur,rfl,h1,hh,r⟩
 .exact .inl h'
 exact .inr ⟨g,cap,cur,rfl,h1,(hb g rfl).trans hh,r⟩
structure eC(w:World)(g S O C B0:Nat)(L:List Wd)(N:Nat):Prop where
 map:∃l,Mb wv w g l/\Pf l L N
 seen:w.heap[S]?=some (.cells #[.map (some g)] 147 (0,0))
 o:∃v,w.heap[O]?=some (.cells #[v] 22 (0,0))/\w.ownsRow B0 9 1 v L.length (Zx L)
 le:C<=g/\C<=S/\C<=O/\g<B0/\S<B0/\O<B0/\S≠O/\g≠S/\g≠O/\B0<=w.heap.size
def zpC(w:World)(g S O C B0:Nat)(L:List Wd)(N:Nat)(x:Wd)(e:Ending)(w':World):Prop :=
 e=.returned (.bool (decide ((fJ L x).length<=4096)))/\eC w' g S O C B0 (fJ L x) (N+1)/\Below C w w'
theorem vp(h:eC w g S O C B0 L N)(ho:w.heap[O]?=some (.cells #[v] 22 (0,0)))(l:List (Wd×Value))(hm:Mb wv w g l)(hown:w.ownsRow B0 9 1 v L.length (Zx L)) :
  ∀(o:Obj)(w1:World)(v':Value)(w':World)(m:Nat)(ys:List Value),w1=w.alloc o->w'.ownsRow B0 9 1 v' m ys->w1.grownBy w' v.ownBlock->w'.heap[O]?=some (.cells #[v] 22 (0,0)) /\
   (w'.setCell ⟨O,0,none⟩ v').cell? ⟨S,0,none⟩=some (.map (some g))/\(w'.setCell ⟨O,0,none⟩ v').cell? ⟨O,0,none⟩=some v'/\Mb wv (w'.setCell ⟨O,0,none⟩ v') g l/\Below C w (w'.setCell ⟨O,0,none⟩ v') /\
   (w'.setCell ⟨O,0,none⟩ v').heap[S]?=some (.cells #[.map (some g)] 147 (0,0))/\(w'.setCell ⟨O,0,none⟩ v').heap[O]?=some (.cells #[v'] 22 (0,0))/\(w'.setCell ⟨O,0,none⟩ v').ownsRow B0 9 1 v' m ys:=by
 intro o w1 v' w' m ys e1 gL hg;obtain⟨l1,l2,l3,l4,l5,l6,l7,l8,l9,l10⟩:=h.le;subst e1;have hb:∀k,k<B0->w'.heap[k]?=w.heap[k]? := fun k hk=>by
  rw[hg.block k (by rw[Xs];omega) (fun e=>by have:=(hown.lt k e.symm).1;omega),Zf w o k (by omega)]
 have hS:=(hb S l5).trans h.seen;have hO:=(hb O l6).trans ho;have hS2:(w'.setCell ⟨O,0,none⟩ v').heap[S]?=some (.cells #[.map (some g)] 147 (0,0)):=(Ze w' ⟨O,0,none⟩ v' S l7).trans hS;have hO2:(w'.setCell ⟨O,0,none⟩ v').heap[O]?=some (.cells #[v'] 22 (0,0)):=by
  simp only[World.setCell,Xz,if_true,hO,Option.map_some];rfl
 refine⟨hO,Vv hS2,Vv hO2,(hm.of_block (hb g l4)).setCell l9,?_,hS2,hO2,vJ gL fun k hk=>Ze w' ⟨O,0,none⟩ v' k ?_⟩
 .have b1:Below C w (w.alloc o):=(Xr _ _).alloc (by omega) _;have b2:Below C w w':=b1.grown hg (by rw[Xs];omega) (fun k hk=>by have:=(hown.lt k hk).1;omega);exact b2.setCell l3 _
 have:=(gL.lt k hk).1;show k≠O;omega
theorem xH(w:World)(g S O C B0:Nat)(L:List Wd)(N:Nat)(x:Wd)(h:eC w g S O C B0 L N)(hL:L.length<=4096)(hN:N<=1152921504606846976) :
  Calls Tryz.prog 220 #[wv x,.pointer (some ⟨S,0,none⟩),.pointer (some ⟨O,0,none⟩)] w (zpC w g S O C B0 L N x):=by
 obtain⟨l,hm,hs⟩:=h.map;obtain⟨v,ho,hown⟩:=h.o;obtain⟨n,hn,hnN,hn0⟩:=hs x;have c1:=Vv h.seen;have c2:=Vv ho;obtain⟨A,c,rfl,Nj,Uw⟩:=Zp hown;have my:=rp (P:=Tryz.prog) Tryz.underlying147 c1;have hlk:=hm.lookup Ki El x;rw[hn]at hlk;have HS:=Lh hs;have HN0:=Lh hn0;have HO:=Lh hown;have HH:=Lh h;have HM:=Lh hm;have HN:=Lh hn;have HLE:=Lh hnN;have hnb:(n:Int)<=1152921504606846976:=by omega
 clear hs hn0 hown h hm hn hnN hN;by_cases hz:n=0
 .have hq:((n:Int)==0)=true:=by simp;exact hz
  have HZ:=Lh hz;clear hz;have HC:=Lh (vp HH.o ho l HM.o HO.o);go_enter Tryz.func220,Tryz.ntmps220;go_wp2_with (at_builtin;refine Zy (m:=1) (n:=L.length) bY rfl rfl rfl rfl (HO.o.alloc _) (Rd.row (B:=w.heap.size+1) (Xn w _) (by omega)) rfl (fun u hu=>by simp at hu;subst hu;rfl) (by unfold maxLen;omega) (by omega) (by rw[Xs];have:=HH.o.le;omega) ?_);intro v' w' yR rI _ _;obtain⟨A9,c9,rfl,_,_⟩:=Zp yR;obtain⟨hO4,c4,c5,hm3,zbW⟩:=HC.o _ _ _ w' _ _ rfl yR rI;have c6:=Vv hO4;have c7:w'.frozen? ⟨O,0,none⟩=false:=by simp[World.frozen?,hO4]
  have hld3:=rp (P:=Tryz.prog) Tryz.underlying147 c4;have zuN:=hm3.lookup Ki El x;rw[HN.o]at zuN;have HM3:=Lh hm3;have HR:=Lh zbW;clear yR rI hm3 zbW my hlk;generalize hw4:w'.setCell ⟨O,0,none⟩ (Value.slice A9 (L.length+1) c9)=w4 at*;go_wp2_with (at_mapUpdate;refine Tj Ki rfl rfl rfl rfl rfl HM3.o ?_);intro w5 zkO Lu hs5;obtain⟨r1,r2,r3,r4⟩:=HR.o;have mb:=Lh (show fJ L x=L++[x] by unfold fJ;rw[if_neg (HN0.o.1 HZ.o)]);have zuM:=(gl r3);obtain⟨l1,l2,l3,l4,l5,l6,l7,l8,l9,l10⟩:=HH.o.le;have ho5:=(Lu.block O zuM (fun e=>l9 (by injection e with e;exact e.symm))).trans r3;have zjW:=(Lu.block S (by have:=(gl r2);exact this) (fun e=>l8 (by injection e with e;exact e.symm))).trans r2;have Dl:=vJ r4 fun k hk=>Lu.block k (r4.lt k hk).2 (fun e=>by have h9:=(r4.lt k hk).1;injection e with e;subst e;omega);have hb5:=r1.grown Lu (by omega) (fun k hk=>by injection hk with hk;subst hk;exact l1);have jz:eC w5 g S O C B0 (fJ L x) (N+1):=by
   rw[mb.o];refine⟨⟨_,zkO,?_⟩,zjW,⟨_,ho5,by rw[Qe];simpa[Zx]using Dl⟩,l1,l2,l3,l4,l5,l6,l7,l8,l9,by have:=r1.size;omega⟩;have:=HS.o.put x HN.o HLE.o;rw[mb.o]at this;exact this
  have c8:=Vv ho5;have Mc:=Lh jz;have HB5:=Lh hb5;clear jz hb5 r1 r2 r3 r4 Dl zjW l1 l2 l3 l4 l5 l6 l7 l8 l9 l10 Lu zkO;go_wp2;go_ret;exact⟨Kw (Zw (by rw[mb.o,Qe,Qf,decide_eq_decide];omega)),Mc.o,HB5.o⟩
 have hq:((n:Int)==0)=false:=by simp;exact hz
 have HZ:=Lh hz;clear hz;have HLT:=Lh (gl ho);have HGO:=Lt (some O≠some g) (fun e=>HH.o.le.2.2.2.2.2.2.2.2.1 (by injection e with e;exact e.symm));have HX:=Lh (show fJ L x=L by unfold fJ;rw[if_pos];exact Decidable.not_not.1 fun hx=>HZ.o (HN0.o.2 hx));go_enter Tryz.func220,Tryz.ntmps220;go_wp2_with (at_mapUpdate;refine Tj Ki rfl rfl rfl rfl rfl HM.o ?_;intro w2 qiK bP eR;have c3:=Vv ((bP.block O HLT.o HGO.o).trans ho));go_ret;refine⟨Kw (Zw (by rw[HX.o,decide_eq_decide];omega)),?_,?_⟩
 .rw[HX.o];obtain⟨l1,l2,l3,l4,l5,l6,l7,l8,l9,l10⟩:=HH.o.le;refine⟨⟨_,qiK,?_⟩,(bP.block S (by omega) (fun e=>l8 (by injection e with e;exact e.symm))).trans HH.o.seen,⟨_,(bP.block O HLT.o HGO.o).trans ho,vJ HO.o fun k hk=>?_⟩,l1,l2,l3,l4,l5,l6,l7,l8,l9,by omega⟩
  .have:=HS.o.put x HN.o HLE.o;rw[HX.o]at this;exact this
  have:=(HO.o.lt k hk);exact bP.block k this.2 (fun e=>by injection e with e;omega)
 exact (Xr _ _).grown bP (Yd HH.o.le.1 (Yh HM.o.lt)) (fun k hk=>by injection hk with hk;subst hk;exact HH.o.le.1)
def ie(l:List Wd):Prop:=∀x∈l,x.length<=4
def Iw(k:Nat)(x:Wd)(b:List Wd):List Wd:=if k<=x.length/\0<b.length then b.take 1 else b
def Vm(k:Nat)(x:Wd)(b:List Wd):List Wd:=b.map fun y=>(x++y).take k
def Um(k:Nat)(a b:List Wd):List Wd:=a.flatMap fun x=>Vm k x (Iw k x b)
theorem qE{x:Wd}{b:List Wd}:z∈Vm k x (Iw k x b)↔∃y∈b,z=(x++y).take k:=by
 unfold Vm Iw;rw[Xa];split
 .rename_i h;obtain⟨h1,h2⟩:=h;have ht:∀y:Wd,(x++y).take k=x.take k:=fun y=>List.take_append_of_le_length h1;constructor
  .rintro⟨y,hy,rfl⟩;exact⟨y,List.mem_of_mem_take hy,rfl⟩
  rintro⟨y,_,rfl⟩
  match b,h2 with
  |z::b,_=>exact⟨z,by simp,by rw[ht,ht]⟩
 constructor
 .rintro⟨y,hy,rfl⟩;exact⟨y,hy,rfl⟩
 rintro⟨y,hy,rfl⟩;exact⟨y,hy,rfl⟩
theorem Bc{a b:List Wd}:z∈Um k a b↔z∈Ai k a b:=by
 rw[En];unfold Um;rw[Xv];constructor
 .rintro⟨x,hx,h⟩;obtain⟨y,hy,rfl⟩:=qE.1 h;exact⟨x,hx,y,hy,rfl⟩
 rintro⟨x,hx,y,hy,rfl⟩;exact⟨x,hx,qE.2 ⟨y,hy,rfl⟩⟩
theorem zM{a b:List Wd}(h:i<a.length):Um k (a.take (i+1)) b=Um k (a.take i) b++Vm k a[i] (Iw k a[i] b):=by
 unfold Um;rw[Qc h,List.flatMap_append];simp
def Sd(L P:List Wd):Prop:=L.Nodup/\∀z,z∈L↔z∈P
theorem Sd.put(h:Sd L P)(x:Wd):Sd (fJ L x) (P++[x]):=by
 refine⟨?_,fun z=>by rw[kZ,h.2,Qh,Qi]⟩;unfold fJ;split
 .exact h.1
 rename_i hn;rw[List.nodup_append];exact⟨h.1,by simp,fun a ha b hb e=>by rw[Qi]at hb;subst e hb;exact hn ha⟩
theorem Sd.over(h:Sd L P){k:Int}{a b:List Wd}(hs:∀z∈P,z∈Ai k a b)(hl:4096<L.length):Ep k a b=none:=by
 unfold Ep;rw[if_neg];have:=h.1.length_le_of_subset (fun z hz=>Em.2 (hs z ((h.2 z).1 hz)):L ⊆ Mk (Ai k a b));omega
theorem Sd.full(h:Sd L P){k:Int}{a b:List Wd}(hs:∀z,z∈P↔z∈Ai k a b)(hl:L.length<=4096):Ep k a b=some (Mk L):=by
 have e:Mk L=Mk (Ai k a b):=pi fun z=>(h.2 z).trans (hs z);unfold Ep;rw[<-e,if_pos (Yd (uD L) hl)]
def zhG(w:World)(o:Option (List Wd))(e:Ending)(w':World):Prop :=
 Below w.heap.size w w'/\match o with
 |none=>e=.returned (.tuple #[.slice none 0 0,.bool false])
 |some l=>∃v,e=.returned (.tuple #[v,.bool true])/\w'.ownsRow w.heap.size 9 1 v l.length (Zx l)
theorem tU{l:List α}(h:l.length<=j):l.take j=l:=Qd h
theorem cE(k:Nat)(x:Wd)(b:List Wd):(Vm k x b).length=b.length:=by simp[Vm]
theorem fV(l:List α)(h:j<l.length):l.take (j+1)=l.take j++[l[j]]:=Qc h
theorem qR(h:eC w g S O C B0 L N)(hb:Below w.heap.size w w'):eC w' g S O C B0 L N:=by
 obtain⟨l,hm,hs⟩:=h.map;obtain⟨v,ho,hown⟩:=h.o;obtain⟨l1,l2,l3,l4,l5,l6,l7,l8,l9,l10⟩:=h.le;exact⟨⟨l,hm.below hb hm.lt,hs⟩,(hb.block S (by omega)).trans h.seen,⟨v,(hb.block O (by omega)).trans ho,Jc hown hb⟩,l1,l2,l3,l4,l5,l6,l7,l8,l9,Yd l10 hb.size⟩
theorem bW(k:Nat)(A B:Option Addr)(ca cb:Nat)(a b:List Wd)(w:World)(gM:1<=k)(mU:k<=4)(ha:Je eW w w.heap.size (.slice A a.length ca) a)(hb:Je eW w w.heap.size (.slice B b.length cb) b)(sa:ie a)(sb:ie b)(hN:a.length*b.length<=1152921504606846000) :
  Calls Tryz.prog 147 #[.int .i64 k,.slice A a.length ca,.slice B b.length cb] w (zhG w (Ep k a b)):=by
 have hna:=ha.n_le;have hnb:=hb.n_le;have HA:=Lh ha;have HB:=Lh hb;have yv:=Lh sa;have mI:=Lh sb;have dZ:=Lh hN;obtain⟨na,hla⟩:∃n,n=a.length:=⟨_,rfl⟩;obtain⟨nb,hlb⟩:∃n,n=b.length:=⟨_,rfl⟩;rw[<-hla]at HA hna |-;rw[<-hlb]at HB hnb |-;have HLA:=Lh hla;have HLB:=Lh hlb;clear ha hb sa sb hN hla hlb;have su:=@run_makeMap Tryz.prog;go_enter Tryz.func147,Tryz.ntmps147;go_wp2_with fail;have HS1:=Lh (show eC (((w.alloc (.map #[] 0)).alloc (.cells #[.map (some w.heap.size)] 147)).alloc (.cells #[.slice none 0 0] 22)) w.heap.size (w.heap.size+1) (w.heap.size+1+1) w.heap.size (w.heap.size+3) [] 0 by
  have z1:((w.alloc (.map #[] 0)).alloc (.cells #[.map (some w.heap.size)] 147)).heap.size=w.heap.size+1+1:=by rw[Xs,Xs]
  refine⟨⟨[],((Mb.made w).alloc _).alloc _,Pf.nil⟩,?_,⟨_,by rw[<-z1];exact Xn _ _,Za _ _ _ _⟩,by omega,by omega,by omega,by omega,by omega,by omega,by omega,by omega,by omega,by rw[Xs,z1];omega⟩
  rw[Zf _ _ _ (by rw[z1];omega)]
  have:=Xn (w.alloc (.map #[] 0)) (.cells #[.map (some w.heap.size)] 147)
  rw[Xs]at this
  exact this)
 have HB1:=Lh (((((Xr w.heap.size w).alloc (Yb _) (.map #[] 0)).alloc (by rw[Xs];omega) (.cells #[.map (some w.heap.size)] 147)).alloc (by rw[Xs,Xs];omega) (.cells #[.slice none 0 0] 22)));generalize hw1:((w.alloc (.map #[] 0)).alloc (.cells #[.map (some w.heap.size)] 147)).alloc (.cells #[.slice none 0 0] 22)=w1 at*;clear hw1 su;go_loopw [20] (fun v20 wr=>∃(i N:Nat)(L:List Wd),i<=na/\v20=.int .i64 i/\Hid (eC wr w.heap.size (w.heap.size+1) (w.heap.size+1+1) w.heap.size (w.heap.size+3) L N)/\Hid (Sd L (Um k (a.take i) b))/\Hid (L.length<=4096)/\Hid (N<=i*nb)/\Hid (Below w.heap.size w wr)) (fun v20 _=>na-(intOf v20).toNat);exact⟨0,0,[],by omega,rfl,HS1.o,⟨by simp,by simp[Um]⟩,(by simp:([]:List Wd).length<=4096),Yg _,HB1.o⟩;clear HS1 HB1;obtain⟨i,N,L,hi,rfl,HST,rX,HL,HNI,HBR⟩:=hrel;by_cases Jl:i<na
 .have Db:i<a.length:=by rw[<-HLA.o];exact Jl
  obtain⟨b1,o1,rfl,_,hb1,Nj⟩:=(HA.o.below HBR.o).wd Db;have HXP:=Lh (zM (k:=k) (b:=b) Db);have HXM:=Lh (Qg Db);obtain⟨x,hx⟩:=Xe (a[i]);rw[<-hx]at Nj HXP HXM;clear hx Db;have qX:=Lh (yv.o x HXM.o);have Fb:(⟨x.toArray⟩:ByteArray).size=x.length:=Ti x;by_cases td:k<=x.length/\0<nb
  .obtain⟨hge,Dt⟩:=td;obtain⟨b0,o0,rfl,_,_,_⟩:=HB.o.wd (k:=0) (by rw[<-HLB.o];exact Dt);have Ej:=Lh (HB.o.take_ 1 (n':=1) (by rw[Qq,<-HLB.o];omega));have HXR:=Lh (show Vm k x (b.take 1)=Vm k x (Iw k x b) by unfold Iw;rw[if_pos ⟨hge,by rw[<-HLB.o];exact Dt⟩]);have HRL:=Lh (show 1=(b.take 1).length by rw[Qq,<-HLB.o];omega);have qsV:=Lt (∀y∈b.take 1,y∈b) (fun y hy=>List.mem_of_mem_take hy);have qkO:=Lt (1<=nb) (Dt);go_wp2_with fail;have HP0:=Lh (show Sd L (Um k (a.take i) b++(Vm k x (b.take 1)).take 0) by rw[List.take_zero,List.append_nil];exact rX.o);have HN0:=Lh (show N<=i*nb+0 by rw[Yq];exact HNI.o);clear rX HNI;go_loopw [38] (fun v38 wt=>∃(j N:Nat)(L:List Wd),j<=1/\v38=.int .i64 j/\Hid (eC wt w.heap.size (w.heap.size+1) (w.heap.size+1+1) w.heap.size (w.heap.size+3) L N)/\Hid (Sd L (Um k (a.take i) b++(Vm k x (b.take 1)).take j))/\Hid (L.length<=4096)/\Hid (N<=i*nb+j)/\Hid (Below w.heap.size w wt)) (fun v38 _=>1-(intOf v38).toNat);exact⟨0,N,L,by omega,rfl,HST.o,HP0.o,HL.o,HN0.o,HBR.o⟩;clear HST HP0 HL HN0 HBR;obtain⟨j,N,L,hj,rfl,HST,rX,HL,HNJ,HBR⟩:=hrel;by_cases jx:j<1
   .have Mw:j<(b.take 1).length:=by rw[<-HRL.o];exact jx
    obtain⟨b2,o2,eB,_,Jd,Uw⟩:=(Ej.o.below HBR.o).wd Mw;injection eB with eB;injection eB with e1 e2;subst e1 e2;have HPS:=Lh (show (Vm k x (b.take 1)).take (j+1)=(Vm k x (b.take 1)).take j++[(x++(b.take 1)[j]).take k] by rw[fV _ (by unfold Vm;rw[Qk];exact Mw)];simp[Vm]);have HYM:=Lt ((b.take 1)[j]∈b) (qsV.o _ (Qg Mw));obtain⟨y,hy⟩:=Xe ((b.take 1)[j]);rw[<-hy]at Uw HPS HYM;clear Mw hy;have HSY:=Lh (mI.o y HYM.o);have HNB:=Lh (show N<=1152921504606846976 by
     have e1:=HNJ.o
     have e2:(i+1)*nb<=na*nb:=Nat.mul_le_mul_right nb (by omega)
     have e3:=dZ.o
     rw[<-HLA.o,<-HLB.o]at e3
     rw[Nat.add_mul,Nat.one_mul]at e2
     have e4:=qkO.o
     omega)
    go_wp2_with fail;have HCA:=Lh ((Xr _ _).alloc (Yb _) (.cells #[wv x,wv y] 9):Below wr.heap.size wr _);have HCS:=Lh (Xn wr (.cells #[wv x,wv y] 9));have HCZ:=Lh (Xs wr (.cells #[wv x,wv y] 9));generalize o_:wr.alloc (.cells #[wv x,wv y] 9)=w3 at*;clear o_;have Mo:Je eW w3 w3.heap.size (.slice (some ⟨wr.heap.size,0,none⟩) 2 2) [x,y]:=Lk (xs:=[x,y]) (fun z hz=>by
     have:=qX.o;have:=HSY.o
     rw[List.mem_cons,Qi]at hz
     unfold maxLen
     rcases hz with rfl|rfl <;> omega) (Rd.row HCS.o (by rw[HCZ.o];omega)) (Yb _) (by unfold maxLen;omega)
    refine (pI x y k _ 2 w3 gM (by omega) (by have:=qX.o;have:=HSY.o;omega) Mo).mono ?_;rintro e w4 ⟨rfl,rfl⟩;have yD:=Lh (qR HST.o HCA.o);have fS:=Lh (HBR.o.trans (HCA.o.mono HBR.o.size));obtain⟨z,hz⟩:=Xe ((x++y).take k);rw[<-hz]at HPS |-;have HZ:=Lh hz;clear Mo HCA HCS HCZ HST HBR hz;go_wp2_with fail;refine (xH _ _ _ _ _ _ L N z yD.o HL.o HNB.o).mono ?_;rintro e w5 ⟨rfl,qpK,hb5⟩;have qsW:=Lh qpK;have qtK:=Lh (fS.o.trans hb5);have qbX:=Lh (show Sd (fJ L z) (Um k (a.take i) b++(Vm k x (b.take 1)).take (j+1)) by rw[HPS.o,<-Xd];exact rX.o.put z);clear qpK hb5 yD fS HPS rX;obtain⟨M,hM⟩:=Xe (fJ L z);rw[<-hM]at qsW qbX |-;clear hM;by_cases h4:M.length<=4096
    .rw[Yw h4];have H4:=Lh h4;clear h4;go_wp2_with fail;exact⟨⟨j+1,N+1,M,by omega,by go_num,qsW.o,qbX.o,H4.o,(show N+1<=i*nb+(j+1) by have:=HNJ.o;omega),qtK.o⟩,by simp[intOf];omega⟩
    rw[Yx h4];have HOV:=Lh (show Ep (k:Int) a b=none from qbX.o.over (fun q hq=>by
     rw[Qh]at hq
     rcases hq with hq|hq
     .obtain⟨p,hp,q',hq',rfl⟩:=En.1 (Bc.1 hq)
      exact En.2 ⟨p,List.mem_of_mem_take hp,q',hq',rfl⟩
     have:=List.mem_of_mem_take hq
     obtain⟨y',hy',rfl⟩:=Xa.1 this
     exact En.2 ⟨x,HXM.o,y',qsV.o y' hy',by simp⟩) (by omega))
    clear h4;go_wp2
    go_ret2
    exact⟨qtK.o,by rw[HOV.o];rfl⟩
   have sx:j=1:=by omega
   have qsY:=Lh (show Sd L (Um k (a.take (i+1)) b) by
    have:=rX.o
    rw[tU (l:=Vm k x (b.take 1)) (by rw[cE,sx];exact Yj HRL.o.symm),HXR.o,<-HXP.o]at this
    exact this)
   have HNE:=Lh (show N<=(i+1)*nb by have:=HNJ.o;have:=qkO.o;rw[Nat.add_mul,Nat.one_mul];omega);clear sx rX;go_wp2_with fail;exact⟨⟨i+1,N,L,by omega,by go_num,HST.o,qsY.o,HL.o,HNE.o,HBR.o⟩,by simp[intOf];omega⟩
  have HXR:=Lh (show Vm k x b=Vm k x (Iw k x b) by unfold Iw;rw[if_neg (by rw[<-HLB.o];exact td)]);have Ej:=HB;have HRL:=HLB;have qsV:=Lt (∀y∈b,y∈b) (fun y hy=>hy);have qkO:=Lt (nb<=nb) (Yb _);by_cases hge:k<=x.length
  .have Dt:¬ 0<nb:=fun h=>td ⟨hge,h⟩;clear td;go_wp2_with fail;have HP0:=Lh (show Sd L (Um k (a.take i) b++(Vm k x b).take 0) by rw[List.take_zero,List.append_nil];exact rX.o);have HN0:=Lh (show N<=i*nb+0 by rw[Yq];exact HNI.o);clear rX HNI;go_loopw [38] (fun v38 wt=>∃(j N:Nat)(L:List Wd),j<=nb/\v38=.int .i64 j/\Hid (eC wt w.heap.size (w.heap.size+1) (w.heap.size+1+1) w.heap.size (w.heap.size+3) L N)/\Hid (Sd L (Um k (a.take i) b++(Vm k x b).take j))/\Hid (L.length<=4096)/\Hid (N<=i*nb+j)/\Hid (Below w.heap.size w wt)) (fun v38 _=>nb-(intOf v38).toNat);exact⟨0,N,L,by omega,rfl,HST.o,HP0.o,HL.o,HN0.o,HBR.o⟩;clear HST HP0 HL HN0 HBR;obtain⟨j,N,L,hj,rfl,HST,rX,HL,HNJ,HBR⟩:=hrel;by_cases jx:j<nb
   .exact absurd (Nat.lt_of_le_of_lt (Yg _) jx) Dt
   have sx:j=nb:=by omega
   have qsY:=Lh (show Sd L (Um k (a.take (i+1)) b) by
    have:=rX.o
    rw[tU (l:=Vm k x b) (by rw[cE,sx];exact Yj HRL.o.symm),HXR.o,<-HXP.o]at this
    exact this)
   have HNE:=Lh (show N<=(i+1)*nb by have:=HNJ.o;have:=qkO.o;rw[Nat.add_mul,Nat.one_mul];omega);clear sx rX;go_wp2_with fail;exact⟨⟨i+1,N,L,by omega,by go_num,HST.o,qsY.o,HL.o,HNE.o,HBR.o⟩,by simp[intOf];omega⟩
  clear td;go_wp2_with fail;have HP0:=Lh (show Sd L (Um k (a.take i) b++(Vm k x b).take 0) by rw[List.take_zero,List.append_nil];exact rX.o);have HN0:=Lh (show N<=i*nb+0 by rw[Yq];exact HNI.o);clear rX HNI;go_loopw [38] (fun v38 wt=>∃(j N:Nat)(L:List Wd),j<=nb/\v38=.int .i64 j/\Hid (eC wt w.heap.size (w.heap.size+1) (w.heap.size+1+1) w.heap.size (w.heap.size+3) L N)/\Hid (Sd L (Um k (a.take i) b++(Vm k x b).take j))/\Hid (L.length<=4096)/\Hid (N<=i*nb+j)/\Hid (Below w.heap.size w wt)) (fun v38 _=>nb-(intOf v38).toNat);exact⟨0,N,L,by omega,rfl,HST.o,HP0.o,HL.o,HN0.o,HBR.o⟩;clear HST HP0 HL HN0 HBR;obtain⟨j,N,L,hj,rfl,HST,rX,HL,HNJ,HBR⟩:=hrel;by_cases jx:j<nb
  .have Mw:j<b.length:=by rw[<-HRL.o];exact jx
   obtain⟨b2,o2,eB,_,Jd,Uw⟩:=(Ej.o.below HBR.o).wd Mw;subst eB;have HPS:=Lh (show (Vm k x b).take (j+1)=(Vm k x b).take j++[(x++b[j]).take k] by rw[fV _ (by unfold Vm;rw[Qk];exact Mw)];simp[Vm]);have HYM:=Lt (b[j]∈b) (qsV.o _ (Qg Mw));obtain⟨y,hy⟩:=Xe (b[j]);rw[<-hy]at Uw HPS HYM;clear Mw hy;have HSY:=Lh (mI.o y HYM.o);have HNB:=Lh (show N<=1152921504606846976 by
    have e1:=HNJ.o
    have e2:(i+1)*nb<=na*nb:=Nat.mul_le_mul_right nb (by omega)
    have e3:=dZ.o
    rw[<-HLA.o,<-HLB.o]at e3
    rw[Nat.add_mul,Nat.one_mul]at e2
    have e4:=qkO.o
    omega)
   go_wp2_with fail;have HCA:=Lh ((Xr _ _).alloc (Yb _) (.cells #[wv x,wv y] 9):Below wr.heap.size wr _);have HCS:=Lh (Xn wr (.cells #[wv x,wv y] 9));have HCZ:=Lh (Xs wr (.cells #[wv x,wv y] 9));generalize o_:wr.alloc (.cells #[wv x,wv y] 9)=w3 at*;clear o_;have Mo:Je eW w3 w3.heap.size (.slice (some ⟨wr.heap.size,0,none⟩) 2 2) [x,y]:=Lk (xs:=[x,y]) (fun z hz=>by
    have:=qX.o;have:=HSY.o
    rw[List.mem_cons,Qi]at hz
    unfold maxLen
    rcases hz with rfl|rfl <;> omega) (Rd.row HCS.o (by rw[HCZ.o];omega)) (Yb _) (by unfold maxLen;omega)
   refine (pI x y k _ 2 w3 gM (by omega) (by have:=qX.o;have:=HSY.o;omega) Mo).mono ?_;rintro e w4 ⟨rfl,rfl⟩;have yD:=Lh (qR HST.o HCA.o);have fS:=Lh (HBR.o.trans (HCA.o.mono HBR.o.size));obtain⟨z,hz⟩:=Xe ((x++y).take k);rw[<-hz]at HPS |-;have HZ:=Lh hz;clear Mo HCA HCS HCZ HST HBR hz;go_wp2_with fail;refine (xH _ _ _ _ _ _ L N z yD.o HL.o HNB.o).mono ?_;rintro e w5 ⟨rfl,qpK,hb5⟩;have qsW:=Lh qpK;have qtK:=Lh (fS.o.trans hb5);have qbX:=Lh (show Sd (fJ L z) (Um k (a.take i) b++(Vm k x b).take (j+1)) by rw[HPS.o,<-Xd];exact rX.o.put z);clear qpK hb5 yD fS HPS rX;obtain⟨M,hM⟩:=Xe (fJ L z);rw[<-hM]at qsW qbX |-;clear hM;by_cases h4:M.length<=4096
   .rw[Yw h4];have H4:=Lh h4;clear h4;go_wp2_with fail;exact⟨⟨j+1,N+1,M,by omega,by go_num,qsW.o,qbX.o,H4.o,(show N+1<=i*nb+(j+1) by have:=HNJ.o;omega),qtK.o⟩,by simp[intOf];omega⟩
   rw[Yx h4];have HOV:=Lh (show Ep (k:Int) a b=none from qbX.o.over (fun q hq=>by
    rw[Qh]at hq
    rcases hq with hq|hq
    .obtain⟨p,hp,q',hq',rfl⟩:=En.1 (Bc.1 hq)
     exact En.2 ⟨p,List.mem_of_mem_take hp,q',hq',rfl⟩
    have:=List.mem_of_mem_take hq
    obtain⟨y',hy',rfl⟩:=Xa.1 this
    exact En.2 ⟨x,HXM.o,y',qsV.o y' hy',by simp⟩) (by omega))
   clear h4;go_wp2
   go_ret2
   exact⟨qtK.o,by rw[HOV.o];rfl⟩
  have sx:j=nb:=by omega
  have qsY:=Lh (show Sd L (Um k (a.take (i+1)) b) by
   have:=rX.o
   rw[tU (l:=Vm k x b) (by rw[cE,sx];exact Yj HRL.o.symm),HXR.o,<-HXP.o]at this
   exact this)
  have HNE:=Lh (show N<=(i+1)*nb by have:=HNJ.o;have:=qkO.o;rw[Nat.add_mul,Nat.one_mul];omega);clear sx rX;go_wp2_with fail;exact⟨⟨i+1,N,L,by omega,by go_num,HST.o,qsY.o,HL.o,HNE.o,HBR.o⟩,by simp[intOf];omega⟩
 have sy:i=na:=by omega
 have gW:=Lh (show Ep (k:Int) a b=some (Mk L) by
  have:=rX.o
  rw[sy,HLA.o,Qd (Yb _)]at this
  exact this.full (fun z=>Bc) HL.o)
 obtain⟨v,ho,hown⟩:=HST.o.o;have c9:=Vv ho;obtain⟨A9,c8,rfl,_,_⟩:=Zp hown;have HFT:=Lh (show bI L from fun z hz=>by
  obtain⟨p,hp,q,hq,rfl⟩:=En.1 (Bc.1 ((rX.o.2 z).1 hz))
  rw[Qq]
  unfold maxLen
  simp
  omega)
 have HO:=Lh hown;clear ho hown;go_wp2_with fail;refine (sY _ _ L _ (Av HFT.o HO.o) (by have:=HL.o;omega)).mono ?_;rintro e w5 ⟨v5,rfl,h5,hb5⟩;have HO5:=Lh (Nn h5 HBR.o.size);have HB5:=Lh (HBR.o.trans (hb5.mono HBR.o.size));obtain⟨A5,c5,rfl,_,_⟩:=Zp h5;clear h5 hb5;go_wp2
 go_ret2
 refine⟨HB5.o,?_⟩;rw[gW.o];exact⟨_,rfl,HO5.o⟩
def zfL(w:World)(o:Option (List Wd))(e:Ending)(w':World):Prop :=
 Below w.heap.size w w'/\match o with
 |none=>∃v,e=.returned (.tuple #[v,.bool false])
 |some x=>∃A c,e=.returned (.tuple #[.slice A x.length c,.bool true])/\Je eW w' w'.heap.size (.slice A x.length c) x
theorem qwL(A:Option Addr)(c:Nat)(ss:Jb)(s:Int)(w:World)(h:Je (Tw eW) w w.heap.size (.slice A ss.length c) ss)(h1:-9223372036854775808<=s)(h2:s<=9223372036854775807) :
  Calls Tryz.prog 219 #[.slice A ss.length c,.int .i64 s] w (zfL w (Sj ss s)):=by
 have HH:=Lh h;have hn:=h.n_le;obtain⟨n,hl⟩:=Xe ss.length;rw[<-hl]at HH hn |-;have HL:=Lh hl;clear h hl;by_cases hs:s<0
 .have hd:decide (s<0)=true:=by simpa using hs
  have Zn:(Value.int .u8 ((-1-s)%256))=xf (tb s):=by
   unfold xf tb;rw[UInt8.toNat_ofNat'];congr 1;omega
  have hcv:(convert 114 9 (.slice (some ⟨w.heap.size,0,none⟩) 1 1)).run Tryz.prog (w.alloc (.cells #[.int .u8 ((-1-s)%256)] 5))=.ok (wv [tb s]) (w.alloc (.cells #[.int .u8 ((-1-s)%256)] 5)):=by
   rw[Zn];exact qaW (l:=[tb s]) (B:=w.heap.size+1) (Rd.row (Xn w _) (by omega)) Tryz.underlying114 Tryz.underlying5 Tryz.underlying9 1 rfl 1
  clear Zn;by_cases hm:-256<=s
  .have hmd:decide (-256<=s)=true:=by simpa using hm
   rw[show (-1-s)%256=-1-s by omega]at hcv;have HO:=Lh (show Sj ss s=some [[tb s]] by unfold Sj;rw[if_pos hs,if_pos hm]);go_enter Tryz.func219,Tryz.ntmps219;go_wp2_with fail;refine (Ji s w).mono ?_;rintro e w1 ⟨rfl,rfl⟩;go_wp2
   go_ret2
   refine⟨by go_grown,?_⟩;rw[HO.o];refine⟨_,_,rfl,Lk (xs:=[[tb s]]) (fun x hx=>by rw[Qi]at hx;subst hx;unfold maxLen;simp) (Rd.row (Gg w _ _) (by rw[Xs,Xs];omega)) (Yb _) (by unfold maxLen;omega)⟩
  have hmd:decide (-256<=s)=false:=by simpa using hm
  have HO:=Lh (show Sj ss s=none by unfold Sj;rw[if_pos hs,if_neg hm]);go_enter Tryz.func219,Tryz.ntmps219;go_wp2_with fail;refine (Ji s w).mono ?_;rintro e w1 ⟨rfl,rfl⟩;go_wp2
  go_ret2
  refine⟨by go_grown,?_⟩;rw[HO.o];exact⟨_,rfl⟩
 have hd:decide (s<0)=false:=by simpa using hs
 obtain⟨k,rfl⟩:∃k:Nat,s=(k:Int):=⟨s.toNat,by omega⟩;by_cases hk:k<n
 .have qM:k<ss.length:=by rw[<-HL.o];exact hk
  have HO:=Lh (show Sj ss (k:Int)=some ss[k] by unfold Sj;rw[if_neg (by omega)];exact Qa qM);obtain⟨b,off,A2,c2,rfl,_,iY,Zn,Mo,h5,h6⟩:=HH.o.row1 qM;have HSL:=Lh Mo;obtain⟨x,hx⟩:=Xe (ss[k]);rw[<-hx]at Zn HSL HO;clear Mo h5 hx qM;go_enter Tryz.func219,Tryz.ntmps219;go_wp2_with fail;refine (Ji _ w).mono ?_;rintro e w1 ⟨rfl,rfl⟩;rw[hd];go_wp2
  go_ret2
  refine⟨Xr _ _,?_⟩;rw[HO.o];exact⟨_,_,rfl,HSL.o⟩
 have HO:=Lh (show Sj ss (k:Int)=none by unfold Sj;rw[if_neg (by omega)];exact Xg (by rw[<-HL.o];omega));go_enter Tryz.func219,Tryz.ntmps219;go_wp2_with fail;refine (Ji _ w).mono ?_;rintro e w1 ⟨rfl,rfl⟩;rw[hd];go_wp2
 go_ret2
 refine⟨Xr _ _,?_⟩;rw[HO.o];exact⟨_,rfl⟩
def qeM(ss:Jb):Prop:=∀(i:Nat)(x:List Wd),ss[i]?=some x->ie x/\x.length<=1099511627776
theorem qy{sets:Jb}{k:Int}{acc:List Wd}:Nq sets k acc (s::l)=(Sj sets s).bind fun x=>(Ep k acc x).bind fun o=>Nq sets k o l:=rfl
theorem qjQ(l:List α)(h:i<l.length):l.drop i=l[i]::l.drop (i+1):=Ql h
theorem qbC(hk:k<=4){a b o:List Wd}(h:Ep k a b=some o):ie o/\o.length<=4096:=by
 refine⟨fun z hz=>?_,?_⟩
 .obtain⟨x,_,y,_,rfl⟩:=(Gf h).1 hz;rw[Qq];simp;omega
 unfold Ep at h;split at h
 .injection h with h;subst h;assumption
 cases h
theorem V_{ss:Jb}(h:qeM ss)(hx:Sj ss s=some x):ie x/\x.length<=1099511627776:=by
 unfold Sj at hx;split at hx
 .split at hx
  .injection hx with hx;subst hx;exact⟨fun z hz=>by rw[Qi]at hz;subst hz;simp,by simp⟩
  cases hx
 exact h _ _ hx
def zmU(w:World)(o:Option (List Wd))(e:Ending)(w':World):Prop :=
 Below w.heap.size w w'/\match o with
 |none=>e=.returned (.tuple #[.slice none 0 0,.bool false])
 |some x=>∃A c,e=.returned (.tuple #[.slice A x.length c,.bool true])/\Je eW w' w'.heap.size (.slice A x.length c) x
theorem qP(A B:Option Addr)(c d k:Nat)(ss:Jb)(syms:List Int)(w:World)(gM:1<=k)(mU:k<=4)(h:Je (Tw eW) w w.heap.size (.slice A ss.length c) ss)(hs:Je Wg w w.heap.size (.slice B syms.length d) syms)(hz:qeM ss) :
  Calls Tryz.prog 146 #[.slice A ss.length c,.int .i64 k,.slice B syms.length d] w (zmU w (nS ss k syms)):=by
 have HH:=Lh h;have HS:=Lh hs;have HZ:=Lh hz;have hn:=h.n_le;have hm:=hs.n_le;obtain⟨n,hl⟩:=Xe ss.length;obtain⟨m,Hn⟩:∃n,n=syms.length:=⟨_,rfl⟩;rw[<-hl]at HH hn |-;rw[<-Hn]at HS hm |-;have HL:=Lh hl;have HL2:=Lh Hn;clear h hl hs Hn hz;obtain⟨o,ho⟩:=Xe (nS ss k syms);rw[<-ho];have HO:=Lh ho;clear ho;go_enter Tryz.func146,Tryz.ntmps146;go_wp2_with fail;have HB1:=Lh ((Xr w.heap.size w).alloc (Yb _) (.cells #[.string ⟨#[]⟩] 9));have HS1:=Lt (Je eW (w.alloc (.cells #[.string ⟨#[]⟩] 9)) (w.alloc (.cells #[.string ⟨#[]⟩] 9)).heap.size (.slice (some ⟨w.heap.size,0,none⟩) 1 1) [[]]) (Lk (xs:=[[]]) (fun x hx=>by rw[Qi]at hx;subst hx;unfold maxLen;simp) (Rd.row (Xn w _) (by rw[Xs];omega)) (Yb _) (by unfold maxLen;omega));generalize w.alloc (.cells #[.string ⟨#[]⟩] 9)=w1 at*;go_loopw [16,8] (fun ob v8 wr=>∃(i q:Nat)(acc:List Wd)(A8:Option Addr)(c8:Nat),i<=m/\ob=.int .i64 i/\v8=.slice A8 q c8/\Hid (q=acc.length)/\Hid (o=Nq ss k acc (syms.drop i))/\Hid (Je eW wr wr.heap.size (.slice A8 acc.length c8) acc)/\Hid (ie acc/\acc.length<=4096)/\Hid (Below w.heap.size w wr)) (fun ob _ _=>m-(intOf ob).toNat);exact⟨0,1,[[]],_,1,by omega,rfl,rfl,rfl,HO.o,HS1.o,⟨fun x hx=>by rw[Qi]at hx;subst hx;simp,by simp⟩,HB1.o⟩;clear HS1 HB1;obtain⟨i,q,acc,A8,c8,hi,rfl,rfl,HQ,sV,yv,HSH,HBR⟩:=hrel;by_cases Jl:i<m
 .have Db:i<syms.length:=by rw[<-HL2.o];exact Jl
  obtain⟨b,off,cs,rfl,_,iY,Ja,Zn⟩:=(HS.o.below HBR.o).get (k:=i) Db (by decide);obtain⟨rfl,Lr,dB⟩:=Ja;have Vn:=Zn 0 _ rfl;simp only[show Wg.size=1 from rfl,Ys,Yq]at Vn;have HD:=Lh (qjQ syms Db);obtain⟨s,hse⟩:=Xe (syms[i]);rw[<-hse]at Vn Lr dB HD;clear Zn hse Db;have zgJ:=Lh (show o=(Sj ss s).bind fun x=>(Ep k acc x).bind fun o=>Nq ss k o (syms.drop (i+1)) by rw[sV.o,HD.o,qy]);clear sV HD;go_wp2_with fail;have zT:=qwL A c ss s wr (by rw[<-HL.o];exact HH.o.next HBR.o HBR.o.size) Lr dB;rw[<-HL.o]at zT;refine zT.mono ?_;rintro e w2 ⟨Jd,he⟩;have HB2:=Lh (HBR.o.trans (Jd.mono HBR.o.size));have zyR:=Lh (yv.o.next Jd Jd.size);cases h1:Sj ss s with
  |none =>
   rw[h1]at he;obtain⟨v,rfl⟩:=he;have HN:=Lh (show o=none by rw[zgJ.o,h1];rfl);clear h1 Jd zT;go_wp2
   go_ret2
   refine⟨HB2.o,?_⟩;rw[HN.o];rfl
  |some x =>
   rw[h1]at he;obtain⟨A3,c3,rfl,Be⟩:=he;have ii:=Lh (V_ HZ.o h1);have zgI:=Lh (show o=(Ep k acc x).bind fun o=>Nq ss k o (syms.drop (i+1)) by rw[zgJ.o,h1];rfl);have qX:=Lh Be;obtain⟨r,hr⟩:=Xe x.length;rw[<-hr];have HR:=Lh hr;clear h1 Jd zT Be zgJ hr;go_wp2_with fail;have rK:=bW k A8 A3 c8 c3 acc x w2 gM mU zyR.o qX.o HSH.o.1 ii.o.1 (by
    have e1:=HSH.o.2;have e2:=ii.o.2
    exact Yd (Nat.mul_le_mul e1 e2) (by decide))
   rw[<-HQ.o,<-HR.o]at rK;refine rK.mono ?_;rintro e w3 ⟨hb3,he⟩;have HB3:=Lh (HB2.o.trans (hb3.mono HB2.o.size));cases h2:Ep (k:Int) acc x with
   |none =>
    rw[h2]at he;subst he;have HN:=Lh (show o=none by rw[zgI.o,h2];rfl);clear h2 hb3 rK;go_wp2
    go_ret2
    refine⟨HB3.o,?_⟩;rw[HN.o];rfl
   |some z =>
    rw[h2]at he;obtain⟨v,rfl,hown⟩:=he;have HZ2:=Lh (qbC mU h2);have zzF:=Lh (show o=Nq ss k z (syms.drop (i+1)) by rw[zgI.o,h2];rfl);have jP:=Lh (Av (fun y hy=>by have:=HZ2.o.1 y hy;unfold maxLen;omega) hown);obtain⟨A9,c9,rfl,_,_⟩:=Zp hown;obtain⟨t,ht⟩:=Xe z.length;have HT:=Lh ht;rw[<-ht];clear h2 hb3 rK hown zgI ht;go_wp2_with fail;exact⟨⟨i+1,t,z,A9,c9,by omega,by go_num,rfl,HT.o,zzF.o,jP.o,HZ2.o,HB3.o⟩,by simp[intOf];omega⟩
 have sy:i=m:=by omega
 have Mc:=Lh (show o=some acc by rw[sV.o,sy,HL2.o,List.drop_length];rfl);clear sV sy;go_wp2
 go_ret2
 refine⟨HBR.o,?_⟩;rw[Mc.o];refine⟨A8,c8,?_,yv.o⟩;rw[HQ.o];rfl
structure Ad where
 E:Nat->Nat->Nat->Bool
 F:Nat->Nat->Bool
def zsY(w:Wd)(s:Int)(p:Nat):Bool:=decide (p<w.length)&&decide (((w.getD p 0).toNat:Int)=-1-s)
def zjH(w:Wd)(E:Nat->Nat->Nat->Bool)(s:Int)(p q:Nat):Bool:=if s<0 then zsY w s p&&decide (q=p+1)else decide (p<=q)&&E s.toNat p q
def zcW(w:Wd)(E:Nat->Nat->Nat->Bool)(s:Int)(now:List Bool)(P:Nat):List Bool:=(List.range (w.length+1)).map fun q=>(List.range P).any fun p=>now.getD p false&&zjH w E s p q
def zaE(w:Wd)(E:Nat->Nat->Nat->Bool)(now:List Bool)(s:Int):List Bool:=zcW w E s now (w.length+1)
def zaD(n at_:Nat):List Bool:=(List.replicate (n+1) false).set at_ true
def qeC(w:Wd)(E:Nat->Nat->Nat->Bool)(right:List Int)(at_:Nat):List Bool:=right.foldl (zaE w E) (zaD w.length at_)
def xN(w:Wd)(T:Ad):List Bool->List Int->Bool
 |now,[]=>now.getD w.length false
 |now,s::l=>now.getD w.length false||((decide (0<=s)&&(List.range (w.length+1)).any fun p=>now.getD p false&&T.F s.toNat p)||xN w T (zaE w T.E now s) l)
def sQ(w:Wd)(T:Ad)(right:List Int)(at_:Nat):Bool:=xN w T (zaD w.length at_) right
def zsQ(T:Ad)(a p:Nat)(ends:List Bool)(m:Nat):Ad:=⟨fun a' p' q=>T.E a' p' q||(decide (a'=a)&&decide (p'=p)&&decide (q<m)&&ends.getD q false),T.F⟩
def zsP(T:Ad)(a p:Nat):Ad:=⟨T.E,fun a' p'=>T.F a' p'||(decide (a'=a)&&decide (p'=p))⟩
def zsU(T:Ad)(a p:Nat)(ends:List Bool)(m:Nat):Bool:=(List.range m).any fun q=>ends.getD q false&&!T.E a p q
def zcV(w:Wd)(r:Int×List Int)(t:Ad×Bool)(p:Nat):Ad×Bool :=
 let ends:=qeC w t.1.E r.2 p
 let T1:=zsQ t.1 r.1.toNat p ends (w.length+1)
 let m1:=t.2||zsU t.1 r.1.toNat p ends (w.length+1)
 if T1.F r.1.toNat p=false/\sQ w T1 r.2 p=true then (zsP T1 r.1.toNat p,true)else (T1,m1)
def ziV(w:Wd)(t:Ad×Bool)(r:Int×List Int):Ad×Bool:=(List.range (w.length+1)).foldl (zcV w r) t
def ziZ(w:Wd)(rs:Zz)(T:Ad):Option (Ad×Bool):=some (rs.foldl (ziV w) (T,false))
def qmU(w:Wd)(n:Nat):Ad:=⟨fun _ _ _=>false,fun a p=>decide (a<n)&&decide (p=w.length)⟩
def jeP(w:Wd)(rs:Zz)(n:Nat)(T:Ad):Prop:=RoundsTo (ziZ w rs) (qmU w n) (some T)
def qeD(w:Wd)(T:Ad)(k:Int)(right:List Int)(fol:Nat->Bool)(at_:Nat):Bool :=
 (decide ((w.length:Int)=k)&&sQ w T right at_)||(List.range (w.length+1)).any fun q=>(qeC w T.E right at_).getD q false&&fol q
def zsR(O:Nat->Nat->Bool)(a p:Nat):Nat->Nat->Bool:=fun a' p'=>O a' p'||(decide (a'=a)&&decide (p'=p))
def zwZ(w:Wd)(T:Ad)(k:Int)(a:Nat)(left:Int)(right:List Int)(o:(Nat->Nat->Bool)×Bool)(p:Nat):(Nat->Nat->Bool)×Bool :=
 if o.1 a p=false/\qeD w T k right (o.1 left.toNat) p=true then (zsR o.1 a p,true)else o
def zwX(w:Wd)(T:Ad)(k:Int)(r:Int×List Int)(o:(Nat->Nat->Bool)×Bool)(s:Nat):(Nat->Nat->Bool)×Bool :=
 if r.2.getD s 0<0 then o else (List.range (w.length+1)).foldl (zwZ w T k (r.2.getD s 0).toNat r.1 (r.2.drop (s+1))) o
def zwY(w:Wd)(T:Ad)(k:Int)(o:(Nat->Nat->Bool)×Bool)(r:Int×List Int):(Nat->Nat->Bool)×Bool:=(List.range r.2.length).foldl (zwX w T k r) o
def zjA(w:Wd)(T:Ad)(k:Int)(rs:Zz)(O:Nat->Nat->Bool):Option ((Nat->Nat->Bool)×Bool):=some (rs.foldl (zwY w T k) (O,false))
def qrA(w:Wd)(k:Int)(n:Nat):Nat->Nat->Bool:=fun a p=>decide (a<n)&&decide (p=w.length)&&(decide ((w.length:Int)=k)||decide (a=0))
def jgO(w:Wd)(T:Ad)(k:Int)(rs:Zz)(n:Nat)(O:Nat->Nat->Bool):Prop:=RoundsTo (zjA w T k rs) (qrA w k n) (some O)
def sub(w:Wd)(p q:Nat):Wd:=(w.drop p).take (q-p)
def jeO(rs:Zz):Prop:=∀a r,(a,r)∈rs->∀s∈r,-256<=s
theorem ziS(h1:s<0)(h2:-256<=s):((tb s).toNat:Int)=-1-s:=by
 unfold tb;rw[UInt8.toNat_ofNat'];omega
structure zxL(rs:Zz)(w:Wd)(T:Ad):Prop where
 exact_:∀a p q,T.E a p q=true->p<=q/\q<=w.length/\∃r,((a:Int),r)∈rs/\Der rs r (sub w p q)
 qdZ:∀a p,T.F a p=true->p<=w.length/\∃r u,((a:Int),r)∈rs/\Der rs r u/\w.drop p <+: u
structure zsA(rs:Zz)(w:Wd)(T:Ad):Prop where
 exact_:∀a r,(a,r)∈rs->∀p,p<=w.length->∀q,q<=w.length->(qeC w T.E r p).getD q false=true->T.E a.toNat p q=true
 qdZ:∀a r,(a,r)∈rs->∀p,p<=w.length->sQ w T r p=true->T.F a.toNat p=true
def zpB(w:Wd)(r:Int×List Int)(T:Ad)(p:Nat):Prop:=(∀q,q<=w.length->(qeC w T.E r.2 p).getD q false=true->T.E r.1.toNat p q=true)/\(sQ w T r.2 p=true->T.F r.1.toNat p=true)
def Mt(w:Wd)(k:Int)(x v:Wd):Prop:=if (w.length:Int)=k then x <+: v else x=v
def zxK(rs:Zz)(w:Wd)(k:Int)(O:Nat->Nat->Bool):Prop:=∀a p,O a p=true->p<=w.length/\∃v,Fol rs (a:Int) v/\Mt w k (w.drop p) v
def zsB(w:Wd)(T:Ad)(k:Int)(r:Int×List Int)(O:Nat->Nat->Bool)(s:Nat):Prop:=0<=r.2.getD s 0->∀p,p<=w.length->qeD w T k (r.2.drop (s+1)) (O r.1.toNat) p=true->O (r.2.getD s 0).toNat p=true
abbrev Uk:=Int×Wd×Int
abbrev Wl:=Int×Wd×Int×Int
def Vl:Nat->Zz->Jb->List Uk
 |i,r::rs,s::ss=>s.map (fun w=>(r.1,w,(i:Int)))++Vl (i+1) rs ss
 |_,_,_=>[]
def Mq(a b:Uk):Prop:=a.1<b.1\/a.1=b.1/\a.2.1<b.2.1
def Wm(rs:Zz)(left:Int):List Nat:=(List.range rs.length).filter fun i=>decide ((rs.getD i (0,[])).1=left)
def Dv(a b:List Wd):Option Wd:=(a.filter fun w=>decide (w∈b)).head?
def aP(left:Int)(sets:Jb)(a b:Nat):List Wl :=
 match Dv (sets.getD a []) (sets.getD b [])with
 |none=>[]
 |some w=>[(left,w,(a:Int),(b:Int))]
def Ck(left:Int)(sets:Jb):List Nat->List Wl
 |[]=>[]
 |a::l=>l.flatMap (aP left sets a)++Ck left sets l
def Nh(rs:Zz)(n:Nat)(sets:Jb):List Wl:=(List.range n).flatMap fun left:Nat=>Ck (left:Int) sets (Wm rs left)
theorem Hh:∀(i:Nat)(rs:Zz)(ss:Jb),ss.length=rs.length->∀x:Uk,x∈Vl i rs ss↔∃(j:Nat)(r:Int×List Int)(s:List Wd),rs[j]?=some r/\ss[j]?=some s/\x.1=r.1/\x.2.1∈s/\x.2.2=((i+j:Nat):Int)
 |i,[],[],_,x=>by simp[Vl]
 |i,r::rs,s::ss,h,x=>by
  have ih:=Hh (i+1) rs ss (by simpa using h) x;simp only[Vl,Qh,Xa];rw[ih];constructor
  .rintro (⟨w,hw,rfl⟩|⟨j,r',s',h1,h2,h3,h4,h5⟩)
   .exact⟨0,r,s,by simp,by simp,rfl,hw,by simp⟩
   exact⟨j+1,r',s',by simpa using h1,by simpa using h2,h3,h4,by rw[h5];congr 1;omega⟩
  rintro⟨j,r',s',h1,h2,h3,h4,h5⟩;cases j with
  |zero =>
   simp only[List.getElem?_cons_zero,Option.some.injEq]at h1 h2;subst h1 h2;left;exact⟨x.2.1,h4,by rw[<-h3];obtain⟨a,b,c⟩:=x;simp only at h5 |-;rw[h5];simp⟩
  |succ j =>
   right;exact⟨j,r',s',by simpa using h1,by simpa using h2,h3,h4,by rw[h5];congr 1;omega⟩
theorem Tr{left:Int}:i∈Wm rs left↔∃r,rs[i]?=some r/\r.1=left:=by
 unfold Wm;simp only[Qw,Ya,Yk,Qb];constructor
 .rintro⟨h1,h2⟩;rw[Qa h1]at h2 |-;exact⟨_,rfl,h2⟩
 rintro⟨r,h1,h2⟩;have:=(Qj.1 h1).1;rw[h1];exact⟨this,h2⟩
theorem uJ(rs:Zz)(left:Int):(Wm rs left).Pairwise (·<·):=List.Pairwise.filter _ List.pairwise_lt_range
theorem kq{a b:List Wd}{w:Wd}(h:Dv a b=some w):w∈a/\w∈b:=by
 have:=List.mem_of_head? h;simpa using this
theorem kr{a b:List Wd}(h:Dv a b=none):∀w,w∈a->w∉b:=by
 unfold Dv at h;rw[List.head?_eq_none_iff,List.filter_eq_nil_iff]at h;intro w ha hb;exact h w ha (by simpa using hb)
theorem iS{left:Int}{sets:Jb}:∀(l:List Nat),l.Pairwise (·<·)->∀c:Wl,c∈Ck left sets l↔∃a b:Nat,a∈l/\b∈l/\a<b/\∃w,Dv (sets.getD a []) (sets.getD b [])=some w/\c=(left,w,(a:Int),(b:Int))
 |[],_,c=>by simp[Ck]
 |x::l,hp,c=>by
  obtain⟨h1,h2⟩:=Qx.1 hp;have ih:=iS (left:=left) (sets:=sets) l h2 c;simp only[Ck,Qh,Xv];rw[ih];have yP:∀b,c∈aP left sets x b↔∃w,Dv (sets.getD x []) (sets.getD b [])=some w/\c=(left,w,(x:Int),(b:Int)):=by
   intro b;unfold aP;cases Dv (sets.getD x []) (sets.getD b [])with
   |none=>simp
   |some w=>simp
  constructor
  .rintro (⟨b,hb,hc⟩|⟨a,b,ha,hb,Bg,h⟩)
   .exact⟨x,b,by simp,by simp[hb],h1 b hb,(yP b).1 hc⟩
   exact⟨a,b,by simp[ha],by simp[hb],Bg,h⟩
  rintro⟨a,b,ha,hb,Bg,h⟩;rw[List.mem_cons]at ha hb;rcases ha with rfl|ha
  .rcases hb with rfl|hb
   .omega
   exact .inl ⟨b,hb,(yP b).2 h⟩
  rcases hb with rfl|hb
  .have:=h1 a ha;omega
  exact .inr ⟨a,b,ha,hb,Bg,h⟩
theorem F_{sets:Jb}{c:Wl}:c∈Nh rs n sets↔∃(a b:Nat)(ra rb:Int×List Int)(w:Wd),rs[a]?=some ra/\rs[b]?=some rb/\a<b/\ra.1=c.1/\rb.1=c.1/\0<=c.1/\c.1<n/\Dv (sets.getD a []) (sets.getD b [])=some w/\c=(c.1,w,(a:Int),(b:Int)):=by
 unfold Nh;rw[Xv];constructor
 .rintro⟨left,hl,hc⟩;obtain⟨a,b,ha,hb,Bg,w,hw,rfl⟩:=(iS _ (uJ rs left) c).1 hc;obtain⟨ra,hra,ea⟩:=Tr.1 ha;obtain⟨rb,hrb,eb⟩:=Tr.1 hb;have:=Ya.1 hl;exact⟨a,b,ra,rb,w,hra,hrb,Bg,ea,eb,by simp only;omega,by simp only;omega,hw,rfl⟩
 rintro⟨a,b,ra,rb,w,hra,hrb,Bg,ea,eb,h0,hn,hw,e⟩;have e1:((c.1.toNat:Nat):Int)=c.1:=Int.toNat_of_nonneg h0;refine⟨c.1.toNat,Ya.2 (by omega),(iS _ (uJ rs _) c).2 ⟨a,b,Tr.2 ⟨ra,hra,by rw[ea,e1]⟩,Tr.2 ⟨rb,hrb,by rw[eb,e1]⟩,Bg,w,hw,by rw[e1];exact e⟩⟩
def lvl(t:Nat):Nat->List Wd
 |0=>[[]]
 |n+1=>(lvl t n).flatMap fun w=>(List.range t).map fun c=>w++[UInt8.ofNat c]
def iA(t:Nat):Nat->List Wd
 |0=>[[]]
 |n+1=>iA t n++lvl t (n+1)
def xv(t:Nat)(w:Wd):Prop:=∀c∈w,c.toNat<t
theorem qdH{t:Nat}(ht:t<=256):∀(n:Nat)(w:Wd),w∈lvl t n↔w.length=n/\xv t w
 |0,w=>by
  simp only[lvl,Qi,List.length_eq_zero_iff];exact⟨fun h=>⟨h,by subst h;intro c hc;cases hc⟩,fun h=>h.1⟩
 |n+1,w=>by
  have ih:=qdH ht n;simp only[lvl,Xv,Xa,Ya];constructor
  .rintro⟨v,hv,c,hc,rfl⟩;obtain⟨h1,h2⟩:=(ih v).1 hv;refine⟨by simp[h1],fun d hd=>?_⟩;rcases Qh.1 hd with hd|hd
   .exact h2 d hd
   rw[Qi]at hd;subst hd;rw[UInt8.toNat_ofNat'];omega
  rintro⟨h1,h2⟩;have hne:w≠[]:=by intro e;subst e;simp at h1
  refine⟨w.dropLast,(ih _).2 ⟨by rw[List.length_dropLast];omega,fun c hc=>h2 c (List.dropLast_subset w hc)⟩,(w.getLast hne).toNat,h2 _ (List.getLast_mem hne),?_⟩;rw[UInt8.ofNat_toNat,List.dropLast_concat_getLast]
theorem Hg{t:Nat}(ht:t<=256):∀(n:Nat)(w:Wd),w∈iA t n↔w.length<=n/\xv t w
 |0,w=>by
  simp only[iA,Qi,Nat.le_zero,List.length_eq_zero_iff];exact⟨fun h=>⟨h,by subst h;intro c hc;cases hc⟩,fun h=>h.1⟩
 |n+1,w=>by
  simp only[iA,Qh];rw[Hg ht n w,qdH ht (n+1) w];constructor
  .rintro (⟨h1,h2⟩|⟨h1,h2⟩)
   .exact⟨by omega,h2⟩
   exact⟨by omega,h2⟩
  rintro⟨h1,h2⟩;rcases Nat.lt_or_ge w.length (n+1)with h|h
  .exact .inl ⟨by omega,h2⟩
  exact .inr ⟨by omega,h2⟩
def xp(rs:Zz)(m:Nat):Prop:=∀a r,(a,r)∈rs->∀s∈r,-(m:Int)<=s
theorem uu(hm:m<=256)(hT:xp rs m){u:Wd}(h:Der rs l u):(∀s∈l,-(m:Int)<=s)->xv m u:=by
 induction h with
 |nil=>intro _ c hc;cases hc
 |@term s l w hs hd ih =>
  intro hl c hc;rcases List.mem_cons.1 hc with rfl|hc
  .have:=ziS hs (by have:=hl s (by simp);omega);have h2:=hl s (by simp);omega
  exact ih (fun s h=>hl s (by simp[h])) c hc
 |@nont a l r u v ha hr h1 h2 ih1 ih2 =>
  intro hl c hc;rcases Qh.1 hc with hc|hc
  .exact ih1 (hT a r hr) c hc
  exact ih2 (fun s h=>hl s (by simp[h])) c hc
theorem qqZ(hm:m<=256)(hT:xp rs m){a:Int}{v:Wd}(h:Fol rs a v):xv m v:=by
 induction h with
 |start=>intro c hc;cases hc
 |@step a r l1 b l2 u v hr e hb hd hf ih =>
  intro c hc;rcases Qh.1 hc with hc|hc
  .exact uu hm hT hd (fun s hs=>hT a r hr s (by rw[e];simp[hs])) c hc
  exact ih c hc
theorem qbM(hm:m<=256)(hT:xp rs m)(hr:r∈rs)(h:mq rs k r z):z.length<=k/\xv m z:=by
 obtain⟨u,v,hu,hv,rfl⟩:=h;refine⟨by rw[Qq];omega,fun c hc=>?_⟩;rcases Qh.1 (List.mem_of_mem_take hc)with hc|hc
 .exact uu hm hT hu (fun s hs=>hT r.1 r.2 hr s hs) c hc
 exact qqZ hm hT hv c hc
def G_(rs:Zz)(ah:Nat->Bool)(a:Int):List Nat:=(List.range rs.length).filter fun i=>decide ((rs.getD i (0,[])).1=a)&&ah i
theorem iT{ah:Nat->Bool}{a:Int}:i∈G_ rs ah a↔∃r,rs[i]?=some r/\r.1=a/\ah i=true:=by
 unfold G_;simp only[Qw,Ya,Ym,Yk,Qb];constructor
 .rintro⟨h1,h2,h3⟩;rw[Qa h1]at h2 |-;exact⟨_,rfl,h2,h3⟩
 rintro⟨r,h1,h2,h3⟩;have:=(Qj.1 h1).1;rw[h1];exact⟨this,h2,h3⟩
def zpE(rs:Zz)(k:Nat)(ah:Wd->Nat->Bool)(w:Wd):Prop:=∀(i:Nat)(r:Int×List Int),rs[i]?=some r->(ah w i=true↔mq rs k r w)
section
variable {rs:Zz} {n m k:Nat} {sets:Jb} {ah:Wd->Nat->Bool}
theorem sD(hm:m<=256)(hT:xp rs m)(hM:xX rs n k sets)(hah:∀w∈iA m k,zpE rs k ah w){x:Uk}:x∈Vl 0 rs sets↔∃i:Nat,x.2.2=(i:Int)/\x.2.1∈iA m k/\i∈G_ rs (ah x.2.1) x.1:=by
 rw[Hh 0 rs sets hM.len];constructor
 .rintro⟨j,r,s,h1,h2,h3,h4,h5⟩;have d:=((hM.mean j r s h1 h2).2 x.2.1).1 h4;have hwd:x.2.1∈iA m k:=(Hg hm k _).2 (qbM hm hT (Qp h1) d);exact⟨j,by simpa using h5,hwd,iT.2 ⟨r,h1,h3.symm,(hah _ hwd j r h1).2 d⟩⟩
 rintro⟨i,h1,h2,h3⟩;obtain⟨r,g1,g2,g3⟩:=iT.1 h3;have Wp:=(Qj.1 g1).1;have s1:sets[i]?=some (sets[i]'(by rw[hM.len];exact Wp)):=Qa _;exact⟨i,r,_,g1,s1,g2.symm,((hM.mean i r _ g1 s1).2 _).2 ((hah _ h2 i r g1).1 g3),by simpa using h1⟩
end
def Uc(x:Uk):Int×Wd:=(x.1,x.2.1)
theorem zcM(a b:Wd):a<b\/a=b\/b<a:=by
 rcases List.le_total a b with h|h
 .rcases List.le_iff_lt_or_eq.1 h with h|h
  .exact .inl h
  exact .inr (.inl h)
 rcases List.le_iff_lt_or_eq.1 h with h|h
 .exact .inr (.inr h)
 exact .inr (.inl h.symm)
theorem bx(a b:Uk):Mq a b\/Uc a=Uc b\/Mq b a:=by
 unfold Mq Uc;rcases Int.lt_trichotomy a.1 b.1 with h|h|h
 .exact .inl (.inl h)
 .rcases zcM a.2.1 b.2.1 with h2|h2|h2
  .exact .inl (.inr ⟨h,h2⟩)
  .exact .inr (.inl (by rw[h,h2]))
  exact .inr (.inr (.inr ⟨h.symm,h2⟩))
 exact .inr (.inr (.inl h))
theorem kO{a b:Uk}(h:Mq a b):Uc a≠Uc b:=by
 intro e;unfold Uc at e;injection e with e1 e2;rcases h with h|⟨_,h⟩
 .omega
 rw[e2]at h;exact List.lt_irrefl _ h
theorem cH{a b c:Uk}(h1:Mq a b)(h2:Mq b c):Mq a c:=by
 rcases h1 with h1|⟨e1,h1⟩
 .rcases h2 with h2|⟨e2,_⟩
  .exact .inl (by omega)
  exact .inl (by omega)
 rcases h2 with h2|⟨e2,h2⟩
 .exact .inl (by omega)
 exact .inr ⟨by omega,List.lt_trans h1 h2⟩
theorem pT{a b:Uk}(h1:Mq a b):¬ Mq b a:=fun h2=>kO (cH h1 h2) rfl
theorem bu:∀(i:Nat)(rs:Zz)(ss:Jb),ss.length=rs.length->(∀(j:Nat)(x:List Wd),ss[j]?=some x->sA x)->(∀(j l:Nat)(a b:Int×List Int)(x y:List Wd),j<l->rs[j]?=some a->rs[l]?=some b->ss[j]?=some x->ss[l]?=some y->a.1=b.1->∀w,w∈x->w∉y) ->
  (Vl i rs ss).Pairwise fun a b=>Uc a≠Uc b
 |i,[],[],_,_,_=>List.Pairwise.nil
 |i,r::rs,s::ss,hl,ha,hd=>by
  simp only[Vl];rw[List.pairwise_append];refine⟨?_,bu (i+1) rs ss (by simpa using hl) (fun j x h=>ha (j+1) x (by simpa using h)) (fun j l a b x y h h1 h2 h3 h4=>hd (j+1) (l+1) a b x y (by omega) (by simpa using h1) (by simpa using h2) (by simpa using h3) (by simpa using h4)),fun a hx b hy e=>?_⟩
  .rw[List.pairwise_map];refine (ha 0 s (by simp)).imp fun{a b} Bg e=>?_;unfold Uc at e;injection e with _ e;simp only at e;subst e;exact List.lt_irrefl _ Bg
  obtain⟨w,hw,rfl⟩:=Xa.1 hx;obtain⟨j,r',s',h1,h2,h3,h4,h5⟩:=(Hh (i+1) rs ss (by simpa using hl) b).1 hy;unfold Uc at e;injection e with e1 e2;simp only at e1 e2;rw[<-e2]at h4;exact hd 0 (j+1) r r' s s' (by omega) (by simp) (by simpa using h1) (by simp) (by simpa using h2) (by rw[e1,h3]) w hw h4
theorem gJ{sets:Jb}(hw:Sb rs n)(hM:xX rs n k sets)(hc:Nh rs n sets=[]):(Vl 0 rs sets).Pairwise fun a b=>Uc a≠Uc b:=by
 refine bu 0 rs sets hM.len (fun j x h=>?_) fun j l a b x y h h1 h2 h3 h4 e w hx hy=>?_
 .have hl:=(Qj.1 h).1;rw[hM.len]at hl;exact (hM.mean j _ x (Qa hl) h).1
 cases hcw:Dv (sets.getD j []) (sets.getD l [])with
 |none=>exact kr hcw w (by rw[Qb,h3];exact hx) (by rw[Qb,h4];exact hy)
 |some z =>
  have g:=hw a.1 a.2 (Qp h1);have:(a.1,z,(j:Int),(l:Int))∈Nh rs n sets:=F_.2 ⟨j,l,a,b,z,h1,h2,h,rfl,e.symm,g.1,g.2.1,hcw,rfl⟩;rw[hc]at this;cases this
theorem pQ{l l':List Uk}(hp:l'.Perm l)(hk:l.Pairwise fun a b=>Uc a≠Uc b)(hs:l'.Pairwise fun a b=>¬ Mq b a):l'.Pairwise Mq:=by
 have qM:l'.Pairwise fun a b=>Uc a≠Uc b:=(hp.pairwise_iff (fun h=>h.symm)).2 hk;exact (hs.and qM).imp fun{a b} ⟨h1,h2⟩=>by
  rcases bx a b with h|h|h
  .exact h
  .exact absurd h h2
  exact absurd h h1
def Dw(l:List Wd):Prop:=∀x∈l,x.length<=4
def Eh(s:Jb):Prop:=∀(i:Nat)(x:List Wd),s[i]?=some x->Dw x/\x.length<=4096
def Pm:Jb->Nat
 |[]=>0
 |x::s=>x.length+Pm s
theorem ip:∀(s:Jb)(a:Nat)(u:List Wd),a<s.length->Pm (s.set a u)+(s.getD a []).length=Pm s+u.length
 |[],a,u,h=>by simp at h
 |x::s,0,u,_=>by simp[Pm];omega
 |x::s,a+1,u,h=>by
  have:=ip s a u (by simpa using h);simp only[List.set_cons_succ,Pm,List.getD_cons_succ];omega
theorem zf:∀(s:Jb),Eh s->Pm s<=4096*s.length
 |[],_=>by simp[Pm]
 |x::s,h=>by
  have ih:=zf s (fun i y hy=>h (i+1) y (by simpa using hy));have:=(h 0 x (by simp)).2;simp only[Pm,Qu];omega
theorem qbD(hk:k<=4){a b o:List Wd}(h:Ep k a b=some o):Dw o/\o.length<=4096:=by
 refine⟨fun z hz=>?_,?_⟩
 .obtain⟨x,_,y,_,rfl⟩:=(Gf h).1 hz;rw[Qq];simp;omega
 unfold Ep at h;split at h
 .injection h with h;subst h;assumption
 cases h
theorem rc{k:Nat}(hk:k<=4){sets:Jb}:∀(syms:List Int)(acc out:List Wd),Dw acc/\acc.length<=4096->Nq sets k acc syms=some out->Dw out/\out.length<=4096
 |[],acc,out,ha,h=>by injection h with h;subst h;exact ha
 |s::l,acc,out,_,h=>by
  simp only[Nq]at h;cases h1:Sj sets s with
  |none=>rw[h1]at h;cases h
  |some x =>
   rw[h1,Option.bind_some]at h;cases h2:Ep (k:Int) acc x with
   |none=>rw[h2]at h;cases h
   |some o =>
    rw[h2,Option.bind_some]at h;exact rc hk l o out (qbD hk h2) h
theorem qdA(hk:k<=4){sets:Jb}{syms:List Int}{out:List Wd}(h:nS sets k syms=some out):Dw out/\out.length<=4096 :=
 rc hk syms [[]] out ⟨fun x hx=>by rw[Qi]at hx;subst hx;simp,by simp⟩ h
theorem Eh.getD{s:Jb}(h:Eh s)(a:Nat):Dw (s.getD a [])/\(s.getD a []).length<=4096:=by
 rw[Qb];cases e:s[a]? with
 |none=>exact⟨fun x hx=>(by cases hx),by simp⟩
 |some x=>exact h a x e
theorem Eh.set{s:Jb}(h:Eh s)(a:Nat){u:List Wd}(hu:Dw u/\u.length<=4096):Eh (s.set a u):=by
 intro b y hy;rw[Xw]at hy;split at hy
 .split at hy
  .injection hy with hy;subst hy;exact hu
  cases hy
 exact h b y hy
theorem Eh.replicate(n:Nat):Eh (List.replicate n []):=by
 intro b y hy;rw[Xh]at hy;split at hy
 .injection hy with hy;subst hy;exact⟨fun x hx=>(by cases hx),by simp⟩
 cases hy
theorem Iu{a b:List Wd}(ha:Dw a)(hb:Dw b):Dw (Kv a b):=fun x hx=>(Cn.1 hx).elim (ha x) (hb x)
theorem qxZ(hk:k<=4){s s':Jb}{g:Bool}(hs:Eh s)(ha:Mj s)(hr:r.1.toNat<s.length)(e:Fk k s r=some (s',g)) :
  Eh s'/\Mj s'/\s'.length=s.length/\Pm s<=Pm s'/\(g=true->Pm s<Pm s'):=by
 unfold Fk at e;cases h1:nS s k r.2 with
 |none=>rw[h1]at e;cases e
 |some x =>
  rw[h1,Option.bind_some]at e;split at e
  .rename_i hle;injection e with e;injection e with e e2;subst e e2;have h3:=ip s r.1.toNat (Kv (s.getD r.1.toNat []) x) hr;have h4:=(eG (b:=x) (ha.getD r.1.toNat)).1;change (s.getD r.1.toNat []).length<=(Kv (s.getD r.1.toNat []) x).length at h4;refine⟨hs.set _ ⟨Iu (hs.getD _).1 (qdA hk h1).1,hle⟩,ha.set _ (Gq _ _),by simp,by omega,fun h=>?_⟩;have:=of_decide_eq_true h;omega
  cases e
def Hi(lo e0:Nat)(w:World)(v:Value)(x:List Wd):Prop:=∀w':World,(∀p:Addr,(lo<=p.block\/p.block=e0)->p.block<w.heap.size->w'.cell? p=w.cell? p)->Je eW w' w.heap.size v x
theorem Hi.nil(lo e0:Nat)(w:World):Hi lo e0 w (.slice none 0 0) []:=fun _ _=>Je.nil_
theorem Hi.sl(h:Hi lo e0 w v x):Je eW w w.heap.size v x:=h w fun _ _ _=>rfl
theorem Hi.keep(h:Hi lo e0 w v x)(hs:w.heap.size<=w1.heap.size)(hk:∀p:Addr,(lo<=p.block\/p.block=e0)->p.block<w.heap.size->w1.cell? p=w.cell? p):Hi lo e0 w1 v x:=fun w' hw =>
 (h w' fun p h1 h2=>(hw p h1 (Ye h2 hs)).trans (hk p h1 h2)).more hs
theorem Hi.own(hf:bI x)(h:w.ownsRow base t 1 v x.length (Zx x))(hb:lo<=base\/(base<=e0/\∀b,v.ownBlock=some b->b=e0)):Hi lo e0 w v x:=fun w' hw=>by
 obtain⟨A,c,rfl,h1,h2⟩:=Zp h;refine Lk hf (fun hne=>?_) h1 h2;obtain⟨b,off,e,Jl,hc⟩:=Rd.of_own h hne;subst e;have hge:base<=b:=by
  rcases h.2 with ⟨hn,_⟩|⟨g,cap,cur,hv,hg,_⟩
  .injection hn with e1;cases e1
  injection hv with e1 _ _;injection e1 with e1;injection e1 with e1 _;omega
 refine⟨b,off,rfl,Jl,fun j u hu=>(hw _ (by
  show lo<=b\/b=e0
  rcases hb with hb|⟨_,hb⟩
  .omega
  rcases h.2 with ⟨hn,_⟩|⟨g,cap,cur,hv,hg,_⟩
  .injection hn with e1;cases e1
  injection hv with e1 _ _
  injection e1 with e1
  injection e1 with e1 e2
  subst e1 e2
  exact .inr (hb _ rfl)) Jl).trans (hc j u hu)⟩
def Ew(t:TypeId)(g lo e0:Nat)(w:World)(sets:Jb):Prop :=
 ∃vs:List Value,w.heap[g]?=some (.cells vs.toArray t (0,0))/\vs.length=sets.length/\∀(i:Nat)(v:Value)(x:List Wd),vs[i]?=some v->sets[i]?=some x->Hi lo e0 w v x
theorem Ew.lt{sets:Jb}(h:Ew t g lo e0 w sets):g<w.heap.size:=by
 obtain⟨vs,h1,_⟩:=h;exact (gl h1)
theorem Ew.keep{t:TypeId}{g lo e0:Nat}{w w1:World}{sets:Jb}(h:Ew t g lo e0 w sets)(hs:w.heap.size<=w1.heap.size)(hg:w1.heap[g]?=w.heap[g]?)(hk:∀b,(lo<=b\/b=e0)->b<w.heap.size->w1.heap[b]?=w.heap[b]?):Ew t g lo e0 w1 sets:=by
 obtain⟨vs,h1,h2,h3⟩:=h;exact⟨vs,hg.trans h1,h2,fun i v x hv hx=>(h3 i v x hv hx).keep hs fun p hp hl=>World.cell?_of_block (hk p.block hp hl)⟩
theorem Ew.below{sets:Jb}(h:Ew t g lo e0 w sets)(hb:Below w.heap.size w w1):Ew t g lo e0 w1 sets:=h.keep hb.size (hb.block g h.lt) fun b _ hl=>hb.block b hl
theorem Ew.other{sets:Jb}(h:Ew t g lo e0 w sets)(v:Value)(h1:g≠p.block)(h2:p.block<lo)(h3:p.block≠e0):Ew t g lo e0 (w.setCell p v) sets :=
 h.keep (by simp[World.setCell]) (Ze _ _ _ _ h1) fun b hb _=>Ze _ _ _ _ (by rcases hb with hb|hb <;> omega)
theorem Ew.set{t:TypeId}{g lo e0:Nat}{w:World}{sets:Jb}(h:Ew t g lo e0 w sets)(hlo:g<lo)(hge:g≠e0){k:Nat}{v:Value}{x:List Wd}(hv:Hi lo e0 w v x):Ew t g lo e0 (w.setCell ⟨g,k,none⟩ v) (sets.set k x):=by
 obtain⟨vs,h1,h2,h3⟩:=h;have qL:∀p:Addr,(lo<=p.block\/p.block=e0)->p.block<w.heap.size->(w.setCell ⟨g,k,none⟩ v).cell? p=w.cell? p:=fun p hp _=>World.cell?_of_block (Ze _ _ _ _ (by show p.block≠g;rcases hp with hp|hp <;> omega));refine⟨vs.set k v,?_,by rw[Qm,Qm,h2],fun i u y hu hy=>?_⟩
 .simp only[World.setCell,Xz,if_true,h1,Option.map_some];congr 2;simp
 rw[Xw]at hu hy;by_cases e:k=i
 .rw[if_pos e]at hu hy;split at hu
  .split at hy
   .injection hu with hu;injection hy with hy;subst hu hy;exact hv.keep (by simp[World.setCell]) qL
   cases hy
  cases hu
 rw[if_neg e]at hu hy;exact (h3 i u y hu hy).keep (by simp[World.setCell]) qL
theorem Ew.get{sets:Jb}(h:Ew t g lo e0 w sets)(hk:k<sets.length):∃A c,w.cell? ⟨g,k,none⟩=some (.slice A sets[k].length c)/\sets[k].length<=c/\c<=maxLen/\Hi lo e0 w (.slice A sets[k].length c) sets[k]/\w.frozen? ⟨g,k,none⟩=false:=by
 obtain⟨vs,h1,h2,h3⟩:=h;have hkv:k<vs.length:=by omega
 have hh:=h3 k _ _ (Qa hkv) (Qa hk);obtain⟨A,c,e,h4,h5⟩:=hh.sl.form;refine⟨A,c,?_,h4,h5,by rw[<-e];exact hh,by simp[World.frozen?,h1]⟩;rw[Zd w g k _ _ _ h1,<-e];simp[hkv]
theorem Ew.sl{t:TypeId}{g lo e0:Nat}{w:World}{sets:Jb}(h:Ew t g lo e0 w sets)(hl:sets.length<=maxLen):Je (Tw eW) w w.heap.size (.slice (some ⟨g,0,none⟩) sets.length sets.length) sets:=by
 have Jl:=h.lt;obtain⟨vs,h1,h2,h3⟩:=h;have hfl:(vs.map fun v=>[v]).flatten=vs:=by
  clear h1 h2 h3
  induction vs with
  |nil=>rfl
  |cons v l ih=>rw[List.map_cons,List.flatten_cons,ih];rfl
 refine⟨some ⟨g,0,none⟩,sets.length,vs.map fun v=>[v],rfl,Yb _,hl,by simp[h2],?_,fun i cs x hc hx=>?_⟩
 .rw[hfl];exact Rd.row h1 Jl
 rw[Qv]at hc;cases e:vs[i]? with
 |none=>rw[e]at hc;cases hc
 |some v =>
  rw[e]at hc;injection hc with hc;subst hc;exact⟨v,rfl,(h3 i v x e hx).sl⟩
theorem Ew.start(h:w.heap[g]?=some (.cells (List.replicate n (Value.slice none 0 0)).toArray t (0,0))):Ew t g lo e0 w (List.replicate n []) :=
 ⟨_,h,by simp,fun i v x hv hx=>by
  rw[Xh]at hv hx
  split at hv
  .rename_i hi
   rw[if_pos hi]at hx
   injection hv with hv
   injection hx with hx
   subst hv hx
   exact Hi.nil lo e0 w
  cases hv⟩
theorem qcQ{v1 v2:Value}{a b:List Wd}(h:w.heap[g]?=some (.cells #[v1,v2] t (0,0)))(h1:Je eW w w.heap.size v1 a)(h2:Je eW w w.heap.size v2 b):Je (Tw eW) w w.heap.size (.slice (some ⟨g,0,none⟩) 2 2) [a,b]:=by
 refine⟨some ⟨g,0,none⟩,2,[[v1],[v2]],rfl,by simp,by unfold maxLen;omega,rfl,?_,fun i cs x hc hx=>?_⟩
 .exact Rd.row h (gl h)
 match i,hc,hx with
 |0,hc,hx=>injection hc with hc;injection hx with hx;subst hc hx;exact⟨v1,rfl,h1⟩
 |1,hc,hx=>injection hc with hc;injection hx with hx;subst hc hx;exact⟨v2,rfl,h2⟩
 |i+2,hc,hx=>simp at hc
def Wu(l:List Bool):List Value:=l.map Value.bool
theorem Rd.bool{l:List Bool}(h:Rd w B A (Wu l))(hk:k<l.length):∃b off,A=some ⟨b,off,none⟩/\b<B/\w.cell? ⟨b,off+k,none⟩=some (.bool l[k]):=by
 obtain⟨b,off,e,hb,hc⟩:=h.at_ (k:=k) (by simpa[Wu]using hk);exact⟨b,off,e,hb,by rw[hc];simp[Wu]⟩
theorem Rd.int_(h:Rd w B A (Ku l))(hk:k<l.length):∃b off,A=some ⟨b,off,none⟩/\b<B/\w.cell? ⟨b,off+k,none⟩=some (.int .i64 l[k]):=by
 obtain⟨b,off,e,hb,hc⟩:=h.at_ (k:=k) (by simpa[Ku]using hk);exact⟨b,off,e,hb,by rw[hc];simp[Ku]⟩
theorem gQ(A:Option Addr)(c:Nat)(l:List Bool)(w:World)(h:Rd w w.heap.size A (Wu l))(hn:l.length<=1048576) :
  Calls Tryz.prog 70 #[.slice A l.length c,.bool false] w fun e w'=>e=.returned (.bool (!l.all id))/\w'=w:=by
 have Gj:Calls Tryz.prog 132 #[.slice A l.length c,.bool false] w fun e w'=>(∃i:Int,e=.returned (.int .i64 i)/\decide (0<=i)=!l.all id)/\w'=w:=by
  have HR:=Lh h;obtain⟨n,hl⟩:=Xe l.length;rw[<-hl];have HL:=Lh hl;rw[<-hl]at hn;clear h hl;go_enter Tryz.func132,Tryz.ntmps132;go_wp2_with fail;go_loopw [8] (fun v8 wr=>∃i:Nat,i<=n/\v8=.int .i64 i/\wr=w/\Hid ((l.take i).all id=true)) (fun v8 _=>n-(intOf v8).toNat);exact⟨0,by omega,rfl,rfl,by simp[Hid]⟩;obtain⟨i,hi,rfl,rfl,HI⟩:=hrel;by_cases Jl:i<n
  .have Db:i<l.length:=by rw[<-HL.o];exact Jl
   obtain⟨b,off,rfl,_,hc⟩:=HR.o.bool Db;have HT:=Lh (Qc Db);have HM:=Lh (Qg Db);obtain⟨x,hx⟩:=Xe (l[i]);rw[<-hx]at hc HT HM;clear hx Db;cases x with
   |true =>
    have HI2:=Lh (show (l.take (i+1)).all id=true by rw[HT.o,List.all_append,HI.o];rfl);go_wp2_with fail;exact⟨⟨i+1,by omega,by go_num,trivial,HI2.o⟩,by simp[intOf];omega⟩
   |false =>
    go_wp2;go_ret;refine⟨⟨i,rfl,?_⟩,rfl⟩;have:l.all id=false:=by
     rw[<-Bool.not_eq_true,Xq];intro h;have:=h _ HM.o;cases this
    rw[this];simp
  have sy:i=n:=by omega
  have Io:=Lh (show l.all id=true by have:=HI.o;rwa [sy,HL.o,Qd (Yb _)]at this);go_wp2;go_ret;exact⟨⟨-1,rfl,by rw[Io.o];rfl⟩,rfl⟩
 have HX:=Lh Gj;obtain⟨r,hr⟩:=Xe (!l.all id);rw[<-hr]at HX |-;clear Gj h hr;go_enter Tryz.func70,Tryz.ntmps70;go_wp2_with fail;refine HX.o.mono ?_;rintro e w1 ⟨⟨i,rfl,hi⟩,rfl⟩;have HI:=Lh hi;clear hi HX;go_wp2;go_ret;exact⟨Kw (Zw HI.o),rfl⟩
structure dV(Mu:List Int)(P:List Bool):Prop where
 len:Mu.length=P.length
 val:∀(i:Nat)(x:Int),Mu[i]?=some x->-1<=x/\x<=1000000/\P[i]?=some (decide (0<=x))
def Ol(P:List Bool)(r:List Int):Bool:=r.all fun s=>decide (s<0)||P.getD s.toNat false
def zmO(w:World)(P:List Bool)(r:List Int)(e:Ending)(w':World):Prop:=∃x:Int,e=.returned (.int .i64 x)/\-1<=x/\x<=1000000/\decide (0<=x)=Ol P r/\w'=w
theorem qvS(A B:Option Addr)(c d:Nat)(r Mu:List Int)(P:List Bool)(w:World)(h:Je Wg w w.heap.size (.slice A r.length c) r)(hv:Rd w w.heap.size B (Ku Mu))(hP:dV Mu P)(hr:∀s∈r,s<(P.length:Int))(hl:r.length<=64) :
  Calls Tryz.prog 198 #[.slice A r.length c,.slice B Mu.length d] w (zmO w P r):=by
 have HH:=Lh h;have HV:=Lh hv;have HP:=Lh hP;have HR:=Lh hr;obtain⟨n,hn⟩:=Xe r.length;obtain⟨m,hm⟩:=Xe Mu.length;rw[<-hn]at HH hl |-;rw[<-hm];have HN:=Lh hn;have HM:=Lh hm;clear h hv hP hr hn hm;go_enter Tryz.func198,Tryz.ntmps198;go_wp2_with fail;go_loopw [10,5] (fun v10 v5 wr=>∃(i:Nat)(t:Int),i<=n/\v10=.int .i64 i/\v5=.int .i64 t/\0<=t/\t<=1000000*i/\wr=w/\Hid (Ol P (r.take i)=true)) (fun v10 _ _=>n-(intOf v10).toNat);exact⟨0,0,by omega,rfl,rfl,by omega,by omega,rfl,by simp[Hid,Ol]⟩;obtain⟨i,t,hi,rfl,rfl,ht0,ht1,rfl,HI⟩:=hrel;by_cases Jl:i<n
 .have Db:i<r.length:=by rw[<-HN.o];exact Jl
  obtain⟨b,off,cs,rfl,_,iY,Ja,Zn⟩:=HH.o.get (k:=i) Db (by decide);obtain⟨rfl,Lr,dB⟩:=Ja;have Vn:=Zn 0 _ rfl;simp only[show Wg.size=1 from rfl,Ys,Yq]at Vn;have HT:=Lh (Qc Db);have aF:=Lh (Qg Db);obtain⟨s,hse⟩:=Xe (r[i]);rw[<-hse]at Vn Lr dB HT aF;have yO:=HR.o s aF.o;rw[<-HP.o.len,<-HM.o]at yO;have hti:t<=64000000:=by omega
  clear Zn hse Db;by_cases hs:s<0
  .have hd:decide (s<0)=true:=by simpa using hs
   have HI2:=Lh (show Ol P (r.take (i+1))=true by rw[HT.o];unfold Ol;rw[List.all_append];have:=HI.o;unfold Ol at this;rw[this];simp[hs]);go_wp2_with fail;refine (Ji s wr).mono ?_;rintro e w1 ⟨rfl,rfl⟩;rw[hd];go_wp2_with fail;exact⟨⟨i+1,t+1,by omega,by go_num,rfl,by omega,by omega,trivial,HI2.o⟩,by simp[intOf];omega⟩
  have hd:decide (s<0)=false:=by simpa using hs
  obtain⟨k,rfl⟩:∃k:Nat,s=(k:Int):=⟨s.toNat,by omega⟩;have hk:k<Mu.length:=by rw[<-HM.o];omega
  obtain⟨b2,o2,rfl,_,Uw⟩:=HV.o.int_ hk;obtain⟨g1,g2,g3⟩:=HP.o.val k _ (Qa hk);obtain⟨y,hy⟩:=Xe (Mu[k]);rw[<-hy]at Uw g1 g2 g3;have qY:=Lh g3;have hkm:k<m:=by rw[HM.o];exact hk
  clear hy g3 hk;by_cases hy0:y<0
  .have HF:=Lh (show Ol P r=false by
    rw[<-Bool.not_eq_true]
    intro h
    unfold Ol at h
    have:=Xq.1 h _ aF.o
    rw[Qb,Yz,qY.o]at this
    simp at this
    omega)
   go_wp2_with fail;refine (Ji _ wr).mono ?_;rintro e w1 ⟨rfl,rfl⟩;rw[hd];go_wp2;go_ret;exact⟨-1,rfl,by omega,by omega,by rw[HF.o];rfl,rfl⟩
  have HI2:=Lh (show Ol P (r.take (i+1))=true by
   rw[HT.o];unfold Ol;rw[List.all_append];have:=HI.o;unfold Ol at this;rw[this]
   simp only[List.all_cons,List.all_nil,Bool.and_true,Bool.true_and,Yu,Yk]
   right
   rw[Qb,Yz,qY.o]
   simp
   omega)
  go_wp2_with fail;refine (Ji _ wr).mono ?_;rintro e w1 ⟨rfl,rfl⟩;rw[hd];go_wp2_with fail;exact⟨⟨i+1,t+y,by omega,by go_num,rfl,by omega,by omega,trivial,HI2.o⟩,by simp[intOf];omega⟩
 have sy:i=n:=by omega
 have HF:=Lh (show Ol P r=true by have:=HI.o;rwa [sy,HN.o,Qd (Yb _)]at this);have hti:t<=64000000:=by omega
 clear sy;go_wp2_with fail
 all_goals
  go_ret;refine⟨_,rfl,?_,?_,?_,rfl⟩
  .omega
  .omega
  rw[HF.o,Yk];omega
theorem wO(h:Below w.heap.size w w')(row:Option Nat):w.grownBy w' row:=⟨h.os,h.tape,h.output,h.size,fun k hk _=>h.block k hk⟩
theorem Dd(h:w.grownBy w' (some g))(hN:N<=g)(hw:N<=w.heap.size):Below N w w':=(Xr N w).grown h hw fun k hk=>by injection hk with hk;omega
theorem eT(w:World)(g k:Nat)(v:Value):w.grownBy (w.setCell ⟨g,k,none⟩ v) (some g):=⟨rfl,rfl,rfl,by simp[World.setCell],fun j _ hne=>Ze _ _ _ _ fun e=>hne (congrArg some e)⟩
abbrev bs(l:Int)(A:Option Addr)(n c:Nat):Value:=.agg #[.int .i64 l,.slice A n c]
def zmP{σ:Type}(F:FuncId)(cap:Array Value)(rs:Zz)(N g:Nat)(f:σ->Int×List Int->σ)(I:σ->World->Prop):Prop :=
 ∀(s:σ)(w1:World)(r:Int×List Int)(A:Option Addr)(n c:Nat),r∈rs->I s w1->g<w1.heap.size->n=r.2.length->Je Wg w1 N (.slice A n c) r.2 ->
  Calls Tryz.prog F (#[bs r.1 A n c]++cap) w1 fun e w2=>e=.returned (.tuple #[])/\I (f s r) w2/\w1.grownBy w2 (some g)
theorem qaQ{f:σ->Int×List Int->σ}(h:j<rs.length)(s:σ):(rs.drop j).foldl f s=(rs.drop (j+1)).foldl f (f s rs[j]):=by
 rw[Ql h,List.foldl_cons]
theorem uN(F:FuncId)(cap:Array Value)(hF:∀(args:Array Value)(w:World),(callFunc F args).run Tryz.prog w=.ok (.enter F args) w)(f:σ->Int×List Int->σ)(I:σ->World->Prop)(v2:Value)(A1 A3:Option Addr)(n c1 c3 N g:Nat)(rs:Zz)(s0:σ)(w:World)
  (hn:n<=256) (h3:Je Vw w N (.slice A3 rs.length c3) rs) (hN:N<=g) (hg:g<w.heap.size) (hI:∀s w1 w2,I s w1->Below w1.heap.size w1 w2->I s w2) (h0:I s0 w) (gK:zmP F cap rs N g f I) :
  Calls Tryz.prog 134 #[.agg #[.slice A1 n c1,v2,.slice A3 rs.length c3],.func (.func F) #[] cap] w fun e w'=>e=.returned (.tuple #[])/\I (Wq f rs (n+1) s0) w'/\w.grownBy w' (some g):=by
 have HF:=Lh hF;have H3:=Lh h3;have HI:=Lh hI;have H0:=Lh h0;have HS:=Lh gK;have hm9:=h3.n_le;obtain⟨m,hm⟩:=Xe rs.length;rw[<-hm]at H3 hm9 |-;have HM:=Lh hm;obtain⟨Pm,si⟩:=Xe (Wq f rs (n+1) s0);rw[<-si];have HT:=Lh si;clear hF h3 hI h0 gK hm si;go_enter Tryz.func134,Tryz.ntmps134;go_wp2_with fail;have k0:(w.alloc (.cells #[.slice A1 n c1,v2,.slice A3 m c3] 25)).heap[w.heap.size]?=some (.cells #[.slice A1 n c1,v2,.slice A3 m c3] 25 (0,0)):=Xn w _;have hb1:=(Xr w.heap.size w).alloc (Yb _) (.cells #[.slice A1 n c1,v2,.slice A3 m c3] 25);have HI1:=Lh (HI.o _ _ _ H0.o hb1);have HG1:=Lh (wO hb1 (some g));have jP:=Lh (Xs w (.cells #[.slice A1 n c1,v2,.slice A3 m c3] 25));have HK0:=Lh k0;have H31:=Lh (H3.o.below (hb1.mono (by omega:N<=w.heap.size)));clear k0 hb1;generalize w.alloc (.cells #[.slice A1 n c1,v2,.slice A3 m c3] 25)=w1 at*;go_loopw [10] (fun v10 wr=>∃(i:Nat)(s:σ),i<=n+1/\v10=.int .i64 i/\Hid (Pm=Wq f rs (n+1-i) s)/\Hid (I s wr)/\Hid (w1.grownBy wr (some g))) (fun v10 _=>n+1-(intOf v10).toNat);exact⟨0,s0,by omega,rfl,HT.o,HI1.o,World.grownBy.refl _ _⟩;clear HI1;obtain⟨i,s,hi,rfl,HTI,HIS,HGR⟩:=hrel;have k1:=(HGR.o.block w.heap.size (by rw[jP.o];omega) (fun e=>by injection e with e;omega)).trans HK0.o;have c0:wr.cell? ⟨w.heap.size,0,none⟩=some (.slice A1 n c1):=Xc k1 rfl;have c2:wr.cell? ⟨w.heap.size,2,none⟩=some (.slice A3 m c3):=Xc k1 rfl;by_cases Jl:i<n+1
 .have HTI2:=Lh (show Pm=Wq f rs (n-i) (rs.foldl f s) by rw[HTI.o,show n+1-i=(n-i)+1 by omega];rfl);have hdi:decide ((i:Int)<(n:Int)+1)=true:=by rw[Yk];omega
  clear HTI k1;go_wp2_with fail;go_loopw [15] (fun v15 wt=>∃(j:Nat)(t:σ),j<=m/\v15=.int .i64 j/\Hid (rs.foldl f s=(rs.drop j).foldl f t)/\Hid (I t wt)/\Hid (w1.grownBy wt (some g))) (fun v15 _=>m-(intOf v15).toNat);exact⟨0,s,by omega,rfl,rfl,HIS.o,HGR.o⟩;clear HIS HGR c0 c2;obtain⟨j,t,hj,rfl,HFD,HIT,HGT⟩:=hrel;have hbt:=Lh (Dd HGT.o hN (by rw[jP.o];omega));by_cases hjm:j<m
  .have Mw:j<rs.length:=by rw[<-HM.o];exact hjm
   obtain⟨b,off,cs,rfl,_,iY,Ja,Zn⟩:=(H31.o.below hbt.o).get (k:=j) Mw (by decide);obtain⟨v,rfl,Mo,Ik,Si⟩:=Kn Ja;obtain⟨A5,c5,rfl,Ct,jW⟩:=Mo.form;have Vn:=Zn 0 _ rfl;have Nj:=Zn 1 _ rfl;simp only[show Vw.size=2 from rfl,Yq,<-Yy]at Vn Nj;have HFD2:=Lh (show rs.foldl f s=(rs.drop (j+1)).foldl f (f t rs[j]) by rw[HFD.o,qaQ Mw]);have Ah:=Lh (Qg Mw);obtain⟨r,hr⟩:=Xe (rs[j]);rw[<-hr]at Vn Nj HFD2 Ah Mo Ik Si Ct;obtain⟨q,hq⟩:=Xe r.2.length;rw[<-hq]at Nj Mo Ct;have HQ:=Lh hq;have HSL:=Lh Mo;clear Zn Ja hr hq Mo Mw HFD;go_wp2_with fail;have znY:=Lh (HI.o _ _ _ HIT.o ((Xr wr.heap.size wr).alloc (Yb _) (.cells #[.int .i64 r.1,.slice A5 q c5] 63)));have HG2:=Lh (HGT.o.trans (World.grownBy_alloc wr (.cells #[.int .i64 r.1,.slice A5 q c5] 63) (some g)));have HB2:=Lh (((Xr wr.heap.size wr).alloc (Yb _) (.cells #[.int .i64 r.1,.slice A5 q c5] 63)));have zoC:=Lt (g<wr.heap.size) (Ye (by rw[jP.o];omega) HGT.o.size);rw[HF.o];refine (HS.o t _ r A5 q c5 Ah.o znY.o (by rw[Xs];have:=zoC.o;omega) HQ.o (HSL.o.below (HB2.o.mono (by have:=zoC.o;omega)))).mono ?_;rintro e w5 ⟨rfl,hi5,Lu⟩;have HI5:=Lh hi5;have HG5:=Lh (HG2.o.trans Lu);clear hi5 Lu znY HG2 HIT HGT;go_wp2;go_roundw
   case rel =>
    exact⟨j+1,f t r,by omega,by go_num,HFD2.o,HI5.o,HG5.o⟩
   case measure=>simp[intOf];omega
  have zlA:j=m:=by omega
  have HTI3:=Lh (show Pm=Wq f rs (n+1-(i+1)) t by
   rw[HTI2.o,HFD.o,zlA,HM.o,List.drop_length,show n+1-(i+1)=n-i by omega];rfl)
  clear zlA HFD;go_wp2_with fail;exact⟨⟨i+1,t,by omega,by go_num,HTI3.o,HIT.o,HGT.o⟩,by simp[intOf];omega⟩
 have Mc:=Lh (show I Pm wr by
  have:=HTI.o
  rw[show n+1-i=0 by omega]at this
  rw[this]
  exact HIS.o)
 go_wp2
 go_end0
 exact⟨rfl,Mc.o,HG1.o.trans HGR.o⟩
end Go.Proofs.YtmaojnmnbpomeaaGreatDoor
