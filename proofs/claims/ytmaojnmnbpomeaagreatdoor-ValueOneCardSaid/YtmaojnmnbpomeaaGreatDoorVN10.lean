/- A part. -/
import Derived.Test.YtmaojnmnbpomeaaGreatDoorVN09
set_option maxRecDepth 100000
set_option maxHeartbeats 64000000
namespace Go.Proofs.YtmaojnmnbpomeaaGreatDoor.TextU
open Go Go.RowKit Go.Proofs.YtmaojnmnbpomeaaGreatDoor.Text
variable{i j:Nat}{L:Nat->Bool}
variable {P:Program} {ops:Array Oper} {K:Act->World->Prop}
def jH(L:Nat->Bool)(j:Nat):Nat->Bool:=fun i=>i==j||L i
theorem andL_self(L:Nat->Bool)(j:Nat):jH L j j=true:=by simp[jH]
theorem qsG(h:L i=true):jH L j i=true:=by simp[jH,h]
theorem qeJ(h:i≠j):jH L j i=L i:=by simp[jH,h]
theorem qkG(hn:i≠j)(h:jH L j i=true):L i=true:=by rwa [qeJ hn]at h
theorem _root_.Go.Proofs.YtmaojnmnbpomeaaGreatDoor.Xb(h:jH L j i=true)(hn:i≠j:=by decide):L i=true:=qkG hn h
theorem _root_.Go.Proofs.YtmaojnmnbpomeaaGreatDoor.xqQ{p:Prop}(f:L i=true->p)(hn:i≠j:=by decide):jH L j i=true->p:=fun h=>f (Xb h hn)
theorem _root_.Go.Proofs.YtmaojnmnbpomeaaGreatDoor.Xo(h:L i=true):jH L j i=true:=qsG h
theorem andL_off(h:jH L j i=false):L i=false:=by
 unfold jH at h;rw[Yn]at h;exact h.2
theorem ch(hb:dR ops=true){listed:Array Bool}(hs:listed.size=ops.size)(hr:Region.ready .any ops listed=[]):∀j,j<ops.size->listed.getD j false=true:=by
 intro j
 induction j using Nat.strongRecOn with
 |_ j ih =>
  intro hj;cases hl:listed.getD j false with
  |true=>rfl
  |false =>
   have Jl:listed.getD j true=false:=by
    have aU:j<listed.size:=by omega
    simp only[Array.getD,aU,dif_pos]at hl |-;exact hl
   have Uh:j∈Region.ready .any ops listed:=mem_ready.2 ⟨Jl,ops[j],Array.getElem?_eq_getElem hj,fun e he hbd=>by
    have h1:=Xq.1 hb j (Ya.2 hj)
    rw[Array.getElem?_eq_getElem hj]at h1
    have h2:=Array.all_eq_true'.1 h1 e he
    rw[Yu,Yk]at h2
    rcases h2 with h2|h2
    .rw[hbd]at h2;cases h2
    exact ih e.on h2 (by omega)⟩
   rw[hr]at Uh;cases Uh
theorem qeI(J:(Nat->Bool)->Act->World->Prop)(hb:dR ops=true)
  (gK:∀(j:Nat)(o:Oper)(L:Nat->Bool)(a:Act)(w:World),ops[j]?=some o->L j=false->(∀e∈o.after,Region.binds .any e=true->L e.on=true)->J L a w->wpOp P ops (Q0 K) j (fun a' w'=>J (jH L j) a' w') a w)
  (qqC:∀(L:Nat->Bool)(a:Act)(w:World),(∀j<ops.size,L j=true)->J L a w->K a w) :
  ∀(fuel:Nat)(listed:Array Bool)(a:Act)(w:World),listed.size=ops.size->listed.toList.count false<=fuel->J (fun i=>listed.getD i false) a w->wpAny P .any ops (Q0 K) fuel listed a w
 |0,listed,a,w,hs,hc,hJ=>by
  have hr:Region.ready .any ops listed=[]:=by
   apply List.eq_nil_iff_forall_not_mem.2;intro j hj;have h1:=(mem_ready.1 hj).1;have aU:j<listed.size:=by
    rcases Nat.lt_or_ge j listed.size with h|h
    .exact h
    simp only[Array.getD,show ¬ j<listed.size by omega,dif_neg,not_false_eq_true]at h1;cases h1
   have h2:listed[j]=false:=by simpa[Array.getD,aU]using h1
   have:0<listed.toList.count false:=List.count_pos_iff.2 (by rw[<-h2];exact Array.getElem_mem_toList aU);omega
  exact⟨hr,rfl,qqC _ _ _ (ch hb hs hr) hJ⟩
 |fuel+1,listed,a,w,hs,hc,hJ=>by
  refine⟨fun hr=>⟨rfl,qqC _ _ _ (ch hb hs hr) hJ⟩,fun j hj=>?_⟩;obtain⟨h1,o,ho,Wc⟩:=mem_ready.1 hj;have aU:j<listed.size:=by
   rw[hs];exact (gl ho)
  have h2:listed[j]=false:=by simpa[Array.getD,aU]using h1
  refine wpOp_mono (fun a' w' hJ'=>?_) (gK j o _ a w ho (by simpa[Array.getD,aU]using h2) Wc hJ);refine qeI J hb gK qqC fuel _ a' w' (by simpa using hs) ?_ ?_
  .rw[Array.toList_setIfInBounds,List.count_set (by simpa using aU)];have h3:(listed.toList[j]'(by simpa using aU)==false)=true:=by simpa using h2
   rw[h3];have:0<listed.toList.count false:=List.count_pos_iff.2 (by rw[<-h2];exact Array.getElem_mem_toList aU);rw[if_pos rfl,if_neg (by decide)];omega
  have e:(fun i=>(listed.setIfInBounds j true).getD i false)=jH (fun i=>listed.getD i false) j:=by
   funext i
   by_cases hij:i=j
   .subst hij;simp[jH,Array.getD,aU]
   rw[qeJ hij,getD_set_ne false (Ne.symm hij)]
  rw[e];exact hJ'
theorem wp_anyInv{id:Nat}{Q:Exit->Act->World->Prop}{a:Act}{w:World}{l:List Oper}(J:(Nat->Bool)->Act->World->Prop)(hm:P.follows .mixedOrders=true)(hb:dR l.toArray=true)(h0:J (fun _=>false) a w.drew)
  (gK:∀(j:Nat)(o:Oper)(L:Nat->Bool)(a:Act)(w:World),l[j]?=some o->L j=false->(∀e∈o.after,Region.binds .any e=true->L e.on=true)->J L a w->∀(J':(Nat->Bool)->Act->World->Prop)(Q':Exit->Act->World->Prop),(∀L a w,J L a w->J' L a w)->(∀a' w',J' (jH L j) a' w'->Q' .normal a' w')->wpList P l.toArray Q' [o] a w)
  (qqC:∀(L:Nat->Bool)(a:Act)(w:World),(∀j<l.length,L j=true)->J L a w->Q .normal a w):(Code.region id l.toArray true).wp P Q a w:=by
 refine Code.wp_mono (Q:=Q0 fun a w=>Q .normal a w) ?_ (wp_region_any hm ?_)
 .rintro e a w ⟨rfl,h⟩;exact h
 refine qeI J hb (fun j o L a w ho hL hd hJ=>node_U ho fun Q' hQ'=>gK j o L a w (by simpa using ho) hL hd hJ J Q' (fun _ _ _ h=>h) hQ') (fun L a w Wc hJ=>qqC L a w (by simpa using Wc) hJ) _ _ _ _ (by simp) (by simp) ?_;have e:(fun i=>(Array.replicate l.toArray.size false).getD i false)=fun _=>false:=by
  funext i
  simp only[Array.getD];split <;> simp
 rw[e];exact h0
end Go.Proofs.YtmaojnmnbpomeaaGreatDoor.TextU
namespace Go.Proofs.YtmaojnmnbpomeaaGreatDoor
open Go.RowKit Go.Sort
variable{os:Array Obj}{cs cur:Array Value}{ts:List TypeId}{xs:List Value}{B N P base g k n size:Nat}{fr:Nat×Nat}{e t:TypeId}{v x:Value}{w w':World}
theorem kb{o:Nat}(d:Array (List UInt8))(hb:w.heap[g]?=some (.cells cur e fr)) :
  (Go.Sort.grow (putRow encStr (Sort.ahead w n) g o d) os).heap[g]?=some (.cells (putCells encStr o d cur) e fr):=by
 have hg:g<w.heap.size:=(gl hb);rw[heap_grow_old _ _ (by simpa using hg)];simp[putRow,mapBlock,Sort.ahead,Xz,hb,onCells]
theorem rN{o:Nat}(d:Array (List UInt8)):w.grownBy (Go.Sort.grow (putRow encStr (Sort.ahead w n) g o d) os) (some g):=by
 refine⟨rfl,rfl,rfl,by simp,fun k hk hne=>?_⟩;rw[heap_grow_old _ _ (by simpa using hk)];have:g≠k:=fun e=>hne (by rw[e]);simp[putRow,mapBlock,Sort.ahead,Xz,this]
theorem tR(cur:Array Value)(x:Wd)(xs ts:List Wd)(hl:ts.length=xs.length)(h:xs.length+1<=cur.size)(h0:cur.toList.take (xs.length+1)=Zx (x::xs)):(putCells encStr 1 ts.toArray cur).toList.take (xs.length+1)=Zx (x::ts):=by
 apply List.ext_getElem?;intro j;by_cases hj:j<xs.length+1
 .rw[List.getElem?_take_of_lt hj,Array.getElem?_toList];have aU:j<cur.size:=by omega
  cases j with
  |zero =>
   have h1:(cur.toList.take (xs.length+1))[0]?=(Zx (x::xs))[0]? := by rw[h0]
   rw[List.getElem?_take_of_lt (by omega),Array.getElem?_toList]at h1;simp[putCells,h1,Zx]
  |succ i =>
   have hi:i<ts.length:=by omega
   simp[putCells,aU,Zx,hi,show 1+ts.length>i+1 by omega,encStr]
 rw[List.getElem?_take_eq_none (by omega),Xg (by simp[Zx];omega)]
def qbN(base:Nat)(A:Option Addr)(c:Nat)(x:Wd)(xs:List Wd)(w:World)(e:Ending)(w':World):Prop :=
 e=.returned (.tuple #[])/\w'.ownsRow base 9 1 (.slice A (xs.length+1) c) (xs.length+1) (Zx (x::Jv xs))/\w.grownBy w' (Value.slice A (xs.length+1) c).ownBlock
theorem iw(base:Nat)(A:Option Addr)(c:Nat)(x:Wd)(xs:List Wd)(w:World)(h:w.ownsRow base 9 1 (.slice A (xs.length+1) c) (xs.length+1) (Zx (x::xs)))(hn:xs.length<4611686018427387904) :
  Calls Tryz.prog 75 #[.slice (if c=1 then A else A.map (·.add 1)) xs.length (c-1)] w (qbN base A c x xs w):=by
 rcases Nat.eq_zero_or_pos xs.length with h0|h0
 .have hx:xs=[]:=Xx h0;subst hx;refine (Tryz.slices_Sort_string_none _ _ w).mono ?_;rintro e w' ⟨rfl,rfl⟩;exact⟨rfl,by simpa[Jv]using h,rfl,rfl,rfl,Yb _,fun _ _ _=>rfl⟩
 rcases h.2 with ⟨_,h1⟩|⟨g,cap,cur,hv,hbase,hb,h1,h2,h3,h4⟩
 .omega
 injection hv with e1 e2 e3;subst e1 e3;rw[if_neg (by omega)];rw[Ys]at h3 h4;have hH:Holds encStr w g 1 xs.toArray:=by
  intro j hj;have aU:j<xs.length:=by simpa using hj
  refine⟨?_,by simp[World.frozen?,hb]⟩;have h5:(cur.toList.take (xs.length+1))[1+j]?=(Zx (x::xs))[1+j]? := by rw[h4]
  rw[List.getElem?_take_of_lt (by omega),Array.getElem?_toList]at h5;rw[Zd _ _ _ _ _ _ hb,h5,Nat.add_comm 1 j];simp[Zx,aU,encStr]
 have:=Tryz.slices_Sort_string g 1 (c-1) xs w hH (gl hb) hn;refine Calls.mono this ?_;rintro e w' ⟨rfl,n,os,rfl⟩;refine⟨rfl,⟨by simp[Zx,Fq],.inr ⟨g,c,_,rfl,hbase,kb _ hb,h1,h2,by simpa[putCells]using h3,?_⟩⟩,rN _⟩;rw[Ys];exact tR cur x xs _ (Fq xs) (by omega) h4
open Go.RowKit
theorem tx(l l':List Wd){i:Nat}(h:i<l.length):(l.map fun x=>((l'.idxOf x:Nat):Int)).getD i 0=((l'.idxOf (l.getD i []):Nat):Int):=by
 simp[h]
theorem qvR(ns ts zO ts':List Wd){s:Int}(h:Vc ns.length ts.length s) :
  (if s<0 then -1-(ts.map fun x=>((ts'.idxOf x:Nat):Int)).getD (-1-s).toNat 0 else (ns.map fun x=>((zO.idxOf x:Nat):Int)).getD s.toNat 0)=Gr ns ts zO ts' s:=by
 unfold Gr;obtain⟨h1,h2⟩:=h;by_cases hs:s<0
 .rw[if_pos hs,if_pos hs,tx ts ts' (by omega)]
 rw[if_neg hs,if_neg hs,tx ns zO (by omega)]
def zpD(ns ts:List Wd)(rs:List Jj)(w:World)(e:Ending)(w':World):Prop :=
 ∃u1 u2 u3,e=.returned (.agg #[u1,u2,u3])/\Je eW w' w'.heap.size u1 (Uj ns)/\Je eW w' w'.heap.size u2 (Jv ts)/\Je Vw w' w'.heap.size u3 (oW ns ts rs)/\Below w.heap.size w w'
theorem Fh{P:Program}{ty:TypeId}{vs:List Value}(hv:v.cells=vs.toArray)(hi:(P.info? ty).map (·.size)=some vs.length)(hg:w.heap[g]?=some (.cells cur t (0,0)))
  (hl:vs.length=cur.size) (h1:∀u∈vs,u.oneCell'=true):(Instr.storeAt ty (.pointer (some ⟨g,0,none⟩)) v).run P w=.ok () (w.setRow g vs.toArray):=by
 rw[Bu hv hi hg (by omega) h1];congr 2;simp[List.drop_eq_nil_of_le (show cur.toList.length<=vs.length by simp;omega)]
structure Sf(P:Nat)(w w':World):Prop where
 size:w.heap.size<=w'.heap.size
 os:w'.os=w.os
 tape:w'.tape=w.tape
 output:w'.output=w.output
 block:∀k<w.heap.size,k≠P->w'.heap[k]?=w.heap[k]?
structure Pj(w7:World)(P:Nat)(u1 u2:Value)(l:List Jj)(v3:Value)(wr:World):Prop where
 row:wr.heap[P]?=some (.cells #[u1,u2,v3] 25 (0,0))
 own:Mp Rs 63 wr w7.heap.size v3 l
 keep:Sf P w7 wr
def Tv(w:World)(B:Nat)(x:Value)(cs:Array Value)(T:TypeId):Prop:=∃b,x=.pointer (some ⟨b,0,none⟩)/\B<=b/\w.heap[b]?=some (.cells cs T (0,0))
theorem Ws{T:TypeId}(h:Tv w B x cs T)(hb:Below w.heap.size w w'):Tv w' B x cs T:=by
 obtain⟨b,h1,h2,h3⟩:=h;exact⟨b,h1,h2,(hb.block b (gl h3)).trans h3⟩
theorem sP(w:World)(cs:Array Value)(T:TypeId)(h:B<=w.heap.size):Tv (w.alloc (.cells cs T)) B (.pointer (some ⟨w.heap.size,0,none⟩)) cs T:=⟨_,rfl,h,Xn w _⟩
theorem Ds{cs':Array Value}{T:TypeId}(h:w.heap[g]?=some (.cells cs T (0,0)))(hT:T∉ts):Jk ts w (w.setRow g cs'):=by
 refine⟨by simp[World.setRow],fun k cur t ht hk=>?_⟩;rw[setRow_other w g k cs' ?_]
 .exact hk
 intro e;subst e;rw[h]at hk;injection hk with hk;injection hk with _ hk;exact hT (hk ▸ ht)
theorem fw{b:Nat}{T:TypeId}(h:Tv w B x cs T)(hne:Value.pointer (some ⟨b,0,none⟩)≠x)(cs':Array Value):Tv (w.setRow b cs') B x cs T:=by
 obtain⟨g,rfl,h2,h3⟩:=h;exact⟨g,rfl,h2,(setRow_other w b g cs' (fun e=>hne (by rw[e]))).trans h3⟩
theorem cv{r:Option Nat}(h:w.ownsRow base e size v n xs)(hg:w.grownBy w' r)(hne:∀k,v.ownBlock=some k->r≠some k):w'.ownsRow base e size v n xs:=by
 refine⟨h.1,?_⟩;rcases h.2 with h'|⟨g,cap,cur,rfl,hb,hh,q⟩
 .exact .inl h'
 exact .inr ⟨g,cap,cur,rfl,hb,(hg.block g (gl hh) (fun e=>hne g rfl e.symm)).trans hh,q⟩
def Lj(w:World)(B:Nat)(x y:Value)(m:Nat)(cs:List Value):Prop:=∃M,B<=M/\(∀k,x.ownBlock=some k->k<M)/\w.ownsRow M 9 1 y m cs
theorem Hz{m:Nat}{y:Value}{cs:List Value}(h:Lj w B x y m cs)(hk:Jk [9] w w'):Lj w' B x y m cs:=by
 obtain⟨M,h1,h2,h3⟩:=h;exact⟨M,h1,h2,Kg h3 hk (by simp)⟩
theorem Sf.T{T:TypeId}(h:Sf P w w')(hP:w.heap[P]?=some (.cells cs T (0,0)))(hT:T∉ts):Jk ts w w' :=
 ⟨h.size,fun g cur t ht hg=>(h.block g (gl hg) (fun e=>by
  subst e
  rw[hP]at hg
  injection hg with hg
  injection hg with _ hg
  subst hg
  exact absurd ht hT)).trans hg⟩
theorem Sf.trans{P:Nat}{a b c:World}(h:Sf P a b)(k:Sf P b c):Sf P a c:=⟨Yd h.size k.size,k.os.trans h.os,k.tape.trans h.tape,k.output.trans h.output,fun i hi hn=>(k.block i (Ye hi h.size) hn).trans (h.block i hi hn)⟩
theorem Sf.of_below(h:Below N w w')(hN:w.heap.size<=N):Sf P w w':=⟨h.size,h.os,h.tape,h.output,fun k hk _=>h.block k (Ye hk hN)⟩
theorem Lp{T:TypeId}(h:w.heap[g]?=some (.cells cs T (0,0)))(hT:T∉ts)(v:Value):Jk ts w (w.setCell ⟨g,k,none⟩ v):=by
 refine⟨by simp[World.setCell],fun j cur t ht hj=>?_⟩;rw[Zc _ _ _ _ ?_]
 .exact hj
 intro e;subst e;rw[h]at hj;injection hj with hj;injection hj with _ hj;exact hT (hj ▸ ht)
theorem oH{T:TypeId}(h:w.heap[g]?=some (.cells cs T (0,0)))(v:Value):(w.setCell ⟨g,k,none⟩ v).heap[g]?=some (.cells (cs.setIfInBounds k v) T (0,0)):=by
 simp only[World.setCell,Xz,if_true,h,Option.map_some];rfl
structure yp(w2:World)(b9:Nat)(M0:Int)(l:List Int)(v9:Value)(wz:World):Prop where
 row:wz.heap[b9]?=some (.cells #[.int .i64 M0,v9] 63 (0,0))
 own:Mp Hd 3 wz (b9+1) v9 l
 keep:Below b9 w2 wz
theorem yp.snoc{w2 wz w3 w4:World}{b9:Nat}{M0 m:Int}{l:List Int}{v9 v':Value}{css:List (List Value)}(h:yp w2 b9 M0 l v9 wz)(hb:Below wz.heap.size wz w3)(h0:w3.ownsRow (b9+1) 3 1 v9 l.length css.flatten)(h2:css.length=l.length)
  (h3:∀(i:Nat)(cs:List Value)(x:Int),css[i]?=some cs->l[i]?=some x->Hd.rep w3 (b9+1) cs x) (hm:-9223372036854775808<=m/\m<=9223372036854775807) (ho:w4.ownsRow (b9+1) 3 1 v' (l.length+1) (css.flatten++[.int .i64 m])) (hg:w3.grownBy w4 v9.ownBlock) :
  yp w2 b9 M0 (l++[m]) v' (w4.setCell ⟨b9,1,none⟩ v'):=by
 have hz:=(gl h.row);have hr3:=(hb.block b9 hz).trans h.row;have hr4:=Zs h0 hg hr3 (by decide);have hk:=Lp (ts:=[3]) (k:=1) hr4 (by decide) v';refine⟨oH hr4 v',(Mp.snoc (O:=Hd) (by simp[Hd,dg]) h0 h2 h3 ⟨rfl,hm⟩ ho hg).keep hk,?_⟩;have hb3:Below b9 w2 w3:=h.keep.trans (hb.mono (Yh hz));exact (Zr hb3 hg h0 (Yi _) (Yd (Yh hz) hb.size)).setCell (p:=⟨b9,1,none⟩) (Yb _) v'
theorem Pj.snoc{w7 wr w3 w4:World}{P:Nat}{u1 u2 v3 v' v9:Value}{l:List Jj}{r:Jj}{M0:Int}{css:List (List Value)}(h:Pj w7 P u1 u2 l v3 wr)(_hP:P<w7.heap.size)(hb:Below wr.heap.size wr w3)(h0:w3.ownsRow w7.heap.size 63 2 v3 l.length css.flatten)(h2:css.length=l.length)
  (h3:∀(i:Nat)(cs:List Value)(x:Jj),css[i]?=some cs->l[i]?=some x->Rs.rep w3 w7.heap.size cs x) (hx:Rs.rep w3 w7.heap.size [.int .i64 M0,v9] r) (ho:w4.ownsRow w7.heap.size 63 2 v' (l.length+1) (css.flatten++[.int .i64 M0,v9])) (hg:w3.grownBy w4 v3.ownBlock) :
  Pj w7 P u1 u2 (l++[r]) v' (w4.setCell ⟨P,2,none⟩ v'):=by
 have hz:=(gl h.row);have hr3:=(hb.block P hz).trans h.row;have hr4:=Zs h0 hg hr3 (by decide);have hk:=Lp (ts:=[63,3]) (k:=2) hr4 (by decide) v';refine⟨oH hr4 v',(Mp.snoc (O:=Rs) (by decide) h0 h2 h3 hx ho hg).keep hk,?_⟩;have Fb:=(w4.setCell ⟨P,2,none⟩ v').heap.size;refine⟨Yd h.keep.size (Yd hb.size (Yd hg.size (by simp[World.setCell]))),(hg.os.trans hb.os).trans h.keep.os,(hg.tape.trans hb.tape).trans h.keep.tape,(hg.output.trans hb.output).trans h.keep.output,fun k hk hn=>?_⟩;rw[Zc _ _ _ _ hn];have hkr:=Ye hk h.keep.size;refine (hg.block k (Ye hkr hb.size) fun e=>?_).trans ((hb.block k hkr).trans (h.keep.block k hk hn));have:=(h0.lt k e.symm).1;omega
theorem Zq{a b c:Value}(h:w.heap[g]?=some (.cells #[a,b,c] t fr)):w.cell? ⟨g,0,none⟩=some a/\w.cell? ⟨g,1,none⟩=some b/\w.cell? ⟨g,2,none⟩=some c:=by
 refine⟨?_,?_,?_⟩ <;> (rw[Zd _ _ _ _ _ _ h];rfl)
theorem Cf:Dg Tryz.prog 23 63 2 32 (.agg #[.int .i64 0,.slice none 0 0]):=Gh (by kernel_rfl) (by kernel_rfl) rfl (by omega)
theorem uS{fn:Func}{p:Tmp}{Q:Ending->World->Prop}(h:fn.results=#[.cell p 25]){a:Act}{c0 c1 c2:Value}(hd:a.defers=[])(hp:a.tmps.getD p undef=.pointer (some ⟨g,0,none⟩))
  (hg:w.heap[g]?=some (.cells #[c0,c1,c2] t fr)) (hq:Q (.returned (.agg #[c0,c1,c2])) w):bodyPost Tryz.prog fn Q .ret a w :=
 Zh (v:=.agg #[c0,c1,c2]) (results_cell_row h _ w g t _ fr _ hp hg Tryz.underlying25 rfl (by kernel_rfl)) hd hq
def jaW(ns ts:List Wd)(rs:List Jj)(w:World)(e:Ending)(w':World):Prop :=
 ∃u1 u2 u3,e=.returned (.agg #[u1,u2,u3])/\(∀w'':World,(∀b,w.heap.size<=b->b<w'.heap.size->w''.heap[b]?=w'.heap[b]?)->Je eW w'' w''.heap.size u1 (Uj ns)/\Je eW w'' w''.heap.size u2 (Jv ts)/\Je Vw w'' w''.heap.size u3 (oW ns ts rs))/\Below w.heap.size w w'
theorem Ha(h:w.ownsRow base e size v n xs)(hN:N<=base)(hw:∀b,N<=b->b<w.heap.size->w'.heap[b]?=w.heap[b]?):w'.ownsRow base e size v n xs:=by
 refine⟨h.1,?_⟩;rcases h.2 with h'|⟨g,cap,cur,rfl,hg,hh,r⟩
 .exact .inl h'
 exact .inr ⟨g,cap,cur,rfl,hg,(hw g (Yd hN hg) (gl hh)).trans hh,r⟩
theorem jp{xs:List Int}(h:Mp Hd t w base v xs)(hN:N<=base)(hw:∀b,N<=b->b<w.heap.size->w'.heap[b]?=w.heap[b]?):Mp Hd t w' base v xs:=by
 obtain⟨css,h1,h2,h3⟩:=h;exact⟨css,Ha h1 hN hw,h2,h3⟩
theorem zN{xs:List Jj}(h:Mp Rs t w base v xs)(hN:N<=base)(hw:∀b,N<=b->b<w.heap.size->w'.heap[b]?=w.heap[b]?):Mp Rs t w' base v xs:=by
 obtain⟨css,h1,h2,h3⟩:=h;refine⟨css,Ha h1 hN hw,h2,fun i cs x hc hx=>?_⟩;obtain⟨c1,c2,e,r1,u,e2,r2⟩:=h3 i cs x hc hx;exact⟨c1,c2,e,r1,u,e2,jp r2 hN hw⟩
theorem qbE(v1 v2 v3:Value)(ns ts:List Wd)(rs:List Jj)(w:World)(hg:Su (ns.map Jp,ts.map Jp,rs))(h1:Je Mi w w.heap.size v1 (ns.map Jp))(h2:Je Mi w w.heap.size v2 (ts.map Jp))(h3:Je Vw w w.heap.size v3 rs) :
  Calls Tryz.prog 29 #[.agg #[v1,v2,v3]] w (jaW ns ts rs w):=by
 obtain⟨A1,c1,rfl,jZ,mY⟩:=h1.form;obtain⟨A2,c2,rfl,hb1,Jd⟩:=h2.form;obtain⟨A3,c3,rfl,mW,mV⟩:=h3.form;unfold maxLen at mY Jd mV;simp only[Qk]at h1 h2 jZ hb1 |-;have gV:=Lh hg;have H1:=Lh h1;have H2:=Lh h2;have H3:=Lh h3;clear h1 h2 h3 hg;obtain⟨n,sJ⟩:=Xe ns.length;obtain⟨m,su⟩:=Xe ts.length;obtain⟨q,hqq⟩:=Xe rs.length;rw[<-sJ]at H1 jZ |-;rw[<-su]at H2 hb1 |-;rw[<-hqq]at H3 mW |-;have dZ:=Lh sJ;have aF:=Lh su;have HQQ:=Lh hqq;have hnm:n+m<=256:=by have:=gV.o.nm;simp only[Qk]at this;omega
 have hn1:1<=n:=by have:=gV.o.n1;simp only[Qk]at this;omega
 have hq4:q<=4096:=by have:=gV.o.q;simp only at this;omega
 clear sJ su hqq;obtain⟨S,hS⟩:=Xe w.heap.size;have HS:=Lh hS;have HB1:=Lh (show Below S w ((w.alloc (.cells #[.slice A1 n c1,.slice A2 m c2,.slice A3 q c3] 25)).alloc (.cells #[.slice none 0 0,.slice none 0 0,.slice none 0 0] 25))from
  ((Xr S w).alloc (Yj hS) _).alloc (by rw[Xs];omega) _)
 have HG1:=Lh (show ((w.alloc (.cells #[.slice A1 n c1,.slice A2 m c2,.slice A3 q c3] 25)).alloc (.cells #[.slice none 0 0,.slice none 0 0,.slice none 0 0] 25)).heap[S]?=some (.cells #[.slice A1 n c1,.slice A2 m c2,.slice A3 q c3] 25 (0,0)) by
  rw[Zf _ _ _ (by rw[Xs];omega),hS]
  exact Xn w _)
 have HR1:=Lh (show ((w.alloc (.cells #[.slice A1 n c1,.slice A2 m c2,.slice A3 q c3] 25)).alloc (.cells #[.slice none 0 0,.slice none 0 0,.slice none 0 0] 25)).heap[S+1]?=some (.cells #[.slice none 0 0,.slice none 0 0,.slice none 0 0] 25 (0,0)) by
  have:=Xn (w.alloc (.cells #[.slice A1 n c1,.slice A2 m c2,.slice A3 q c3] 25)) (.cells #[.slice none 0 0,.slice none 0 0,.slice none 0 0] 25)
  rwa [Xs,<-hS]at this)
 rw[<-hS]at H1 H2 H3;have qsT:=Lh (fun(W:World)(hb:Below S w W)(hs:S<=W.heap.size)=>Tp (.slice A1 n c1) (.slice A2 m c2) (.slice A3 q c3) (ns.map Jp) (ts.map Jp) rs W (by simp only[Qk];rw[<-dZ.o,<-aF.o];omega) (H1.o.fut hb (Yb _) hs) (H2.o.fut hb (Yb _) hs) (H3.o.fut hb (Yb _) hs));go_enter Tryz.func29,Tryz.ntmps29;go_wp2_with fail;rw[<-hS];clear hS;generalize (w.alloc (.cells #[.slice A1 n c1,.slice A2 m c2,.slice A3 q c3] 25)).alloc (.cells #[.slice none 0 0,.slice none 0 0,.slice none 0 0] 25)=w1 at*;have HZ1:=Lt (S+1<w1.heap.size) ((gl HR1.o));refine (qsT.o w1 HB1.o (by have:=HZ1.o;omega)).mono ?_;rintro e w2 ⟨rfl,Jd⟩;rw[(Fy _).2 gV.o];have HB2:=Lh (HB1.o.trans (Jd.mono (by have:=HZ1.o;omega)));have HG2:=Lh ((Jd.block S (by have:=HZ1.o;omega)).trans HG1.o);have HR2:=Lh ((Jd.block (S+1) HZ1.o).trans HR1.o);have HZ2:=Lh (Ye HZ1.o Jd.size);clear Jd HB1 HG1 HR1 HZ1 qsT;go_wp2_with fail;have qY:=Lt (w2.drew.heap[S]?=_) (HG2.o);have HR3:=Lt (w2.drew.heap[S+1]?=_) (HR2.o);have HB3:=Lt (Below S w w2.drew) (HB2.o.drew);have Ob:=Lt (S+1<w2.drew.heap.size) (HZ2.o);clear HG2 HR2 HB2 HZ2;refine TextU.wp_anyInv (fun L a' w'=>∃x3 x16 x17 nq x19 x20 x21 x22:Value,a'=⟨List.toArray (.agg #[.slice A1 n c1,.slice A2 m c2,.slice A3 q c3]::.pointer (some ⟨S,0,none⟩)::.pointer (some ⟨S+1,0,none⟩)::x3::undef::undef::undef::undef::undef::undef::undef::undef::.agg #[.slice A1 n c1,.slice A2 m c2,.slice A3 q c3]::.bool true::.bool false::undef::x16::x17::nq::x19::x20::x21::x22::undef::undef::undef::undef::undef::undef::undef::undef::undef::undef::undef::undef::undef::undef::undef::undef::undef::undef::undef::undef::undef::undef::undef::undef::undef::undef::undef::undef::undef::undef::undef::undef::undef::undef::undef::undef::undef::undef::undef::undef::undef::undef::undef::undef::undef::undef::undef::undef::undef::undef::undef::undef::undef::undef::undef::undef::undef::[]),[]⟩/\Hid (Below w2.drew.heap.size w2.drew w')/\(L 0=true->x16=.pointer (some ⟨S,0,none⟩))/\(L 1=true->x17=.slice A1 n c1)/\(L 2=true->w'.ownsRow w2.drew.heap.size 9 1 nq n (Zx ns))/\(L 3=true->x19=.pointer (some ⟨S,1,none⟩))/\(L 4=true->x20=.slice A2 m c2)/\(L 5=true->Lj w' w2.drew.heap.size nq x21 m (Zx ts))/\(L 6=true->x22=.agg #[nq,x21,.slice none 0 0]) /\
  (L 7=true->L 8=false->Tv w' w2.drew.heap.size x3 #[.slice none 0 0,.slice none 0 0,.slice none 0 0] 25) /\
  (L 8=true->Tv w' w2.drew.heap.size x3 #[nq,x21,.slice none 0 0] 25)/\Hid (L 6=true->L 2=true/\L 5=true)/\Hid (L 8=true->L 7=true/\L 6=true)/\Hid (L 5=true->L 2=true)) (by kernel_rfl) (by kernel_rfl) ?_ ?_ ?_
 .exact⟨undef,undef,undef,undef,undef,undef,undef,undef,rfl,Xr _ _,by simp,by simp,by simp,by simp,by simp,by simp,by simp,by simp,by simp,by simp[Hid],by simp[Hid],by simp[Hid]⟩
 .have aq:=Lh (show ∀W,Below w2.drew.heap.size w2.drew W->Calls Tryz.prog 74 #[.slice A1 n c1] W (ml W ns)from fun W hb=>by
   have h:=oU A1 c1 ns W (zD (by
    have:=H1.o.fut (HB3.o.trans (hb.mono (show S<=w2.drew.heap.size by have:=Ob.o;omega))) (Yb _) (B':=W.heap.size) (Yd (show S<=w2.drew.heap.size by have:=Ob.o;omega) hb.size)
    rwa [dZ.o]at this)) (by rw[<-dZ.o];omega)
   rwa [<-dZ.o]at h)
  have pG:=Lh (show ∀W,Below w2.drew.heap.size w2.drew W->Calls Tryz.prog 74 #[.slice A2 m c2] W (ml W ts)from fun W hb=>by
   have h:=oU A2 c2 ts W (zD (by
    have:=H2.o.fut (HB3.o.trans (hb.mono (show S<=w2.drew.heap.size by have:=Ob.o;omega))) (Yb _) (B':=W.heap.size) (Yd (show S<=w2.drew.heap.size by have:=Ob.o;omega) hb.size)
    rwa [aF.o]at this)) (by rw[<-aF.o];omega)
   rwa [<-aF.o]at h)
  generalize w2.drew=w3 at*;intro j o L a' w' hj hL hd hJ J' Q' hJ' hQ';have HJ:=Lh hJ';clear hJ';have hj9:j<9:=(Qj.1 hj).1;obtain⟨x3,x16,x17,nq,x19,x20,x21,x22,rfl,HB,f0,f1,f2,f3,f4,f5,f6,f7,f8,f9,f10,f11⟩:=hJ;obtain rfl|rfl|rfl|rfl|rfl|rfl|rfl|rfl|rfl:j=0\/j=1\/j=2\/j=3\/j=4\/j=5\/j=6\/j=7\/j=8:=by omega
  all_goals
   injection hj with hj;subst hj
  focus
   go_wp2_with fail;refine HJ.o _ _ _ ⟨_,_,_,_,_,_,_,_,rfl,HB,?_,?_,?_,?_,?_,?_,?_,?_,?_,?_,?_,?_⟩
  rotate_left 12
  focus
   obtain rfl:=f0 (hd ⟨0,.data⟩ (by simp) rfl);have hc:w'.cell? ⟨S,0,none⟩=some (.slice A1 n c1):=by rw[Zd _ _ _ _ _ _ ((HB.o.block S (by have:=Ob.o;omega)).trans qY.o)];rfl
   go_wp2_with fail;refine HJ.o _ _ _ ⟨_,_,_,_,_,_,_,_,rfl,HB,?_,?_,?_,?_,?_,?_,?_,?_,?_,?_,?_,?_⟩
  rotate_left 12
  focus
   obtain rfl:=f1 (hd ⟨1,.data⟩ (by simp) rfl);have HC:=Lh (aq.o w' HB.o);go_wp2_with fail;refine HC.o.mono ?_;rintro e w'' ⟨v,rfl,ho,hb⟩;have HBX:=Lh (HB.o.trans (hb.mono HB.o.size));have g:=Nn ho HB.o.size;rw[<-dZ.o]at g;have G:=Lh g;have f7:=fun h h'=>Ws (f7 h h') hb;have f8:=fun h=>Ws (f8 h) hb;clear ho hb g;go_wp2_with fail;refine HJ.o _ _ _ ⟨_,_,_,_,_,_,_,_,rfl,HBX.o,?_,?_,?_,?_,?_,?_,?_,?_,?_,?_,?_,?_⟩
  rotate_left 12
  focus
   go_wp2_with fail;refine HJ.o _ _ _ ⟨_,_,_,_,_,_,_,_,rfl,HB,?_,?_,?_,?_,?_,?_,?_,?_,?_,?_,?_,?_⟩
  rotate_left 12
  focus
   obtain rfl:=f3 (hd ⟨3,.data⟩ (by simp) rfl);have hc:w'.cell? ⟨S,1,none⟩=some (.slice A2 m c2):=by rw[Zd _ _ _ _ _ _ ((HB.o.block S (by have:=Ob.o;omega)).trans qY.o)];rfl
   go_wp2_with fail;refine HJ.o _ _ _ ⟨_,_,_,_,_,_,_,_,rfl,HB,?_,?_,?_,?_,?_,?_,?_,?_,?_,?_,?_,?_⟩
  rotate_left 12
  focus
   obtain rfl:=f4 (hd ⟨4,.data⟩ (by simp) rfl);have HC:=Lh (pG.o w' HB.o);go_wp2_with fail;refine HC.o.mono ?_;rintro e w'' ⟨v,rfl,ho,hb⟩;have HBX:=Lh (HB.o.trans (hb.mono HB.o.size));have l2:=hd ⟨2,.chain⟩ (by simp) rfl;have g:Lj w'' w3.heap.size nq v m (Zx ts):=⟨w'.heap.size,HB.o.size,fun k hk=>((f2 l2).lt k hk).2,by rw[<-aF.o]at ho;exact ho⟩;have G:=Lh g;have f2:=fun h=>Jc (f2 h) hb;have f7:=fun h h'=>Ws (f7 h h') hb;have f8:=fun h=>Ws (f8 h) hb;clear ho hb g;go_wp2_with fail;refine HJ.o _ _ _ ⟨_,_,_,_,_,_,_,_,rfl,HBX.o,?_,?_,?_,?_,?_,?_,?_,?_,?_,?_,?_,?_⟩
  rotate_left 12
  focus
   obtain⟨B1,e1,rfl,_⟩:=Zp (f2 (hd ⟨2,.data⟩ (by simp) rfl));obtain⟨_,_,_,o5⟩:=f5 (hd ⟨5,.data⟩ (by simp) rfl);obtain⟨B2,e2,rfl,_⟩:=Zp o5;go_wp2_with fail;have HBX:=Lh HB.o;refine HJ.o _ _ _ ⟨_,_,_,_,_,_,_,_,rfl,HBX.o,?_,?_,?_,?_,?_,?_,?_,?_,?_,?_,?_,?_⟩
  rotate_left 12
  focus
   have hb:Below w'.heap.size w' (w'.alloc (.cells #[.slice none 0 0,.slice none 0 0,.slice none 0 0] 25)):=(Xr _ _).alloc (Yb _) _;have HBX:=Lh (HB.o.trans (hb.mono HB.o.size));have f2:=fun h=>Jc (f2 h) hb;have f5:=fun h=>Hz (f5 h) (Jk.of_below hb);have Ea:=Lh (sP w' #[.slice none 0 0,.slice none 0 0,.slice none 0 0] 25 HB.o.size);clear hb;go_wp2_with fail;generalize w'.alloc (.cells #[.slice none 0 0,.slice none 0 0,.slice none 0 0] 25)=w5 at*;refine HJ.o _ _ _ ⟨_,_,_,_,_,_,_,_,rfl,HBX.o,?_,?_,?_,?_,?_,?_,?_,?_,?_,?_,?_,?_⟩
  rotate_left 12
  have l6:=hd ⟨6,.data⟩ (by simp) rfl;have l7:=hd ⟨7,.data⟩ (by simp) rfl;obtain⟨b,rfl,hbs,hbh⟩:=f7 l7 hL;obtain rfl:=f6 l6;have o2:=f2 (f9.o l6).1;obtain⟨M5,m51,m52,o5⟩:=f5 (f9.o l6).2;obtain⟨B1,e1,rfl,_⟩:=Zp o2;obtain⟨B2,e2,rfl,_⟩:=Zp o5;have yT:=Lh (Ds (ts:=[9]) (cs':=[Value.slice B1 n e1,.slice B2 m e2,.slice none 0 0].toArray) hbh (by decide));have O2:=Lh (Kg o2 yT.o (by simp));have O5:=Lh (Hz (show Lj w' w3.heap.size (.slice B1 n e1) (.slice B2 m e2) m (Zx ts)from ⟨M5,m51,m52,o5⟩) yT.o);have HST:=Lh (Fh (P:=Tryz.prog) (ty:=25) (vs:=[Value.slice B1 n e1,.slice B2 m e2,.slice none 0 0]) (v:=.agg #[.slice B1 n e1,.slice B2 m e2,.slice none 0 0]) rfl (by kernel_rfl) hbh rfl (by simp[Value.oneCell']));have HBX:=Lh (Zk HB.o hbs [Value.slice B1 n e1,.slice B2 m e2,.slice none 0 0].toArray);have HB8:=Lt (Tv (w'.setRow b [Value.slice B1 n e1,.slice B2 m e2,.slice none 0 0].toArray) w3.heap.size (.pointer (some ⟨b,0,none⟩)) #[.slice B1 n e1,.slice B2 m e2,.slice none 0 0] 25) (⟨b,rfl,hbs,Zj _ _ _ _ _ _ hbh⟩);clear o2 o5;go_wp2_with (refine Zv none rfl ?_);refine Stop.go (Zo rfl 25 rfl rfl rfl HST.o ?_);generalize w'.setRow b [Value.slice B1 n e1,.slice B2 m e2,.slice none 0 0].toArray=w5 at*;(conv in Act.put _ _ _=>simp[Act.put]);go_wp2_with fail;refine HJ.o _ _ _ ⟨_,_,_,_,_,_,_,_,rfl,HBX.o,?_,?_,?_,?_,?_,?_,?_,?_,?_,?_,?_,?_⟩
  all_goals first|exact fun _=>rfl|exact xqQ (by assumption)|exact fun h=>Xo (f11.o (Xb h))|exact fun h h'=>f7 (Xb h) (TextU.andL_off h')|exact fun h=>⟨Xo (f9.o (Xb h)).1,Xo (f9.o (Xb h)).2⟩|exact fun h=>⟨Xo (f10.o (Xb h)).1,Xo (f10.o (Xb h)).2⟩|exact fun _=>G.o|exact fun h=>absurd (f11.o (Xb h)) (by rw[hL];decide)|exact fun h=>absurd (f9.o (Xb h)).1 (by rw[hL];decide)|exact fun h=>absurd (f9.o (f10.o (Xb h)).2).1 (by rw[hL];decide)|exact fun _=>Xo l2|exact fun h=>absurd (f9.o (Xb h)).2 (by rw[hL];decide)|exact fun h=>absurd (f9.o (f10.o (Xb h)).2).2 (by rw[hL];decide)|exact fun _=>⟨Xo (hd ⟨2,.data⟩ (by simp) rfl),Xo (hd ⟨5,.data⟩ (by simp) rfl)⟩|exact fun _ _=>Ea.o|exact fun h=>absurd (f10.o (Xb h)).1 (by rw[hL];decide)|exact fun _=>O2.o|exact fun _=>O5.o|exact fun _ h'=>absurd h' (by rw[TextU.andL_self];decide)|exact fun _=>HB8.o|exact fun _=>⟨Xo l7,Xo l6⟩
 have yq:=Lt (S+1<w2.drew.heap.size) (Ob.o);generalize w2.drew=w3 at*;intro L a' w4 Wc hJ;obtain⟨x3,x16,x17,nq,x19,x20,x21,x22,rfl,HB,f0,f1,f2,f3,f4,f5,f6,f7,f8,f9,f10,f11⟩:=hJ;obtain rfl:=f0 (Wc 0 (by decide));obtain rfl:=f1 (Wc 1 (by decide));have HU:=Lh (f2 (Wc 2 (by decide)));obtain rfl:=f3 (Wc 3 (by decide));obtain rfl:=f4 (Wc 4 (by decide));obtain⟨MV,qxF,u_,hv⟩:=f5 (Wc 5 (by decide));have HV:=Lh hv;have HMV:=Lh (And.intro qxF u_);clear qxF u_ hv;obtain rfl:=f6 (Wc 6 (by decide));obtain⟨P,rfl,hPS,hP⟩:=f8 (Wc 8 (by decide));have HP:=Lh hP;clear f0 f1 f2 f3 f4 f5 f6 f7 f8 f9 f10 f11 hP Wc;obtain⟨B1,e1,rfl,wJ,Hn⟩:=Zp HU.o;obtain⟨B2,e2,rfl,hl3,hl4⟩:=Zp HV.o;unfold maxLen at Hn hl4;obtain⟨x0,xs,hns⟩:∃x0 xs,ns=x0::xs:=by
  cases hn:ns with
  |nil=>have:=dZ.o;rw[hn]at this;simp at this;omega
  |cons a b=>exact⟨a,b,rfl⟩
 have HNS:=Lh hns;have hnx:n=xs.length+1:=by have:=dZ.o;rw[hns]at this;simpa using this
 have HSO:=Lt (Calls Tryz.prog 75 #[.slice (if e1=1 then B1 else B1.map (·.add 1)) (n-1) (e1-1)] w4 (qbN w3.heap.size B1 e1 x0 xs w4)) (by
  have h:=HU.o
  rw[hns,hnx]at h
  have:=iw w3.heap.size B1 e1 x0 xs w4 h (by omega)
  rw[hnx]
  exact this)
 have Vn:w4.cell? ⟨P,0,none⟩=some (.slice B1 n e1):=Xc HP.o rfl;clear hns hnx;go_step;go_step;go_step
 go_cut [25] (fun _ wx=>Hid (qbN w3.heap.size B1 e1 x0 xs w4 (.returned (.tuple #[])) wx))
 case first =>
  rcases Nat.lt_or_ge 1 e1 with he|he
  .have h:=HSO.o;rw[if_neg (show ¬ e1=1 by omega)]at h;have HSO:=Lh h;have hne:¬ e1=1:=by omega
   clear h;go_wp2_with fail;refine HSO.o.mono ?_;rintro e w5 hT;obtain rfl:=hT.1;have HT:=Lh hT;clear hT;go_wp2_with fail
   go_meet
   exact HT.o
  obtain rfl:e1=1:=by omega
  have h:=HSO.o;rw[if_pos rfl]at h;obtain rfl:n=1:=by omega
  have HSO:=Lh h;clear h;go_wp2_with fail;refine HSO.o.mono ?_;rintro e w5 hT;obtain rfl:=hT.1;have HT:=Lh hT;clear hT;go_wp2_with fail
  go_meet
  exact HT.o
 case rest =>
  have hnx:n=xs.length+1:=by have:=dZ.o;rw[HNS.o]at this;simpa using this
  have zlP:Uj ns=x0::Jv xs:=by rw[HNS.o];rfl
  obtain⟨_,hu5,Ox⟩:=hcut.o;rw[<-zlP,<-hnx]at hu5;rw[<-hnx]at Ox;have HU5:=Lh hu5;have xZ:=Lh (cv HV.o Ox fun k hk e=>by
   have h1:=HMV.o.2 k e
   have h2:=(HV.o.lt k hk).1
   omega)
  have HP5:=Lh (Zs HU.o Ox HP.o (by decide));have HB5:=Lh (Zr HB.o Ox HU.o (Yb _) HB.o.size);clear hu5 Ox hcut HSO HU HV HP Vn hnx zlP;generalize wc=w5 at*;have Nj:w5.cell? ⟨P,1,none⟩=some (.slice B2 m e2):=Xc HP5.o rfl;have HSO:=Lt (Calls Tryz.prog 75 #[.slice B2 m e2] w5 (qsL w5 MV (.slice B2 m e2) ts)) (pb MV (.slice B2 m e2) ts w5 (by have h:=xZ.o;rw[aF.o]at h |-;exact h) (by rw[<-aF.o];omega));go_wp2_with fail;refine HSO.o.mono ?_;rintro e w6 ⟨rfl,hv6,Ox⟩;have HV6:=Lh (show w6.ownsRow MV 9 1 (.slice B2 m e2) m (Zx (Jv ts)) by rw[<-aF.o]at hv6;exact hv6);have HU6:=Lh (cv HU5.o Ox fun k hk e=>by
   have h1:=HMV.o.2 k hk
   have h2:=(xZ.o.lt k e).1
   omega)
  have HP6:=Lh (Zs xZ.o Ox HP5.o (by decide));have HB6:=Lh (Zr HB5.o Ox xZ.o HMV.o.1 HB5.o.size);clear hv6 Ox HSO HU5 xZ HP5 HB5 Nj;have HG6:=Lh ((HB6.o.block S (by have:=yq.o;omega)).trans qY.o);have HR6:=Lh ((HB6.o.block (S+1) yq.o).trans HR3.o);clear HB Ob;go_wp2_with fail;have HBW:=Lh (show ∀W,Below w6.drew.heap.size w6.drew W->Below S w W/\S<=W.heap.size/\Below w6.heap.size w6 W from fun W hb=>by
   have h1:S<=w3.heap.size:=by have:=yq.o;omega
   have h2:Below w6.heap.size w6 W:=(Xr w6.heap.size w6).drew.trans hb
   have h3:Below S w W:=(HB3.o.trans (HB6.o.mono h1)).trans (h2.mono (Yd h1 HB6.o.size))
   exact⟨h3,Yd h1 (Yd HB6.o.size h2.size),h2⟩)
  have HSN:=Lt (Je eW w S (.slice A1 n c1) ns) (zD H1.o);have HST:=Lt (Je eW w S (.slice A2 m c2) ts) (zD H2.o);have HSU:=Lt (Je eW w6 w6.heap.size (.slice B1 n e1) (Uj ns)) (by
   have hl:n=(Uj ns).length:=by rw[dZ.o,Pc]
   have h:=HU6.o
   rw[hl]at h |-
   exact Lk (fun x hx=>HSN.o.fits x ((Us ns).mem_iff.1 hx)) (Rd.of_own h) (by rw[<-hl];exact wJ) (by unfold maxLen;exact Hn))
  have HSV:=Lt (Je eW w6 w6.heap.size (.slice B2 m e2) (Jv ts)) (by
   have hl:m=(Jv ts).length:=by rw[aF.o,Fq]
   have h:=HV6.o
   rw[hl]at h |-
   exact Lk (fun x hx=>HST.o.fits x ((Vq ts).mem_iff.1 hx)) (Rd.of_own h) (by rw[<-hl];exact hl3) (by unfold maxLen;exact hl4))
  have HN1:=Lh (show ∀W,Below w6.drew.heap.size w6.drew W->Calls Tryz.prog 76 #[.slice A1 n c1,.slice B1 n e1] W (qsN ns (Uj ns) W)from fun W hb=>by
   obtain⟨k1,k2,k3⟩:=HBW.o W hb
   exact qC _ _ ns (Uj ns) W (HSN.o.fut k1 (Yb _) k2) (HSU.o.fut k3 (Yb _) k3.size) (fun x hx=>(Us ns).mem_iff.2 hx) (by rw[<-dZ.o];omega) (by rw[Pc,<-dZ.o];omega))
  have If:=Lh (show ∀W,Below w6.drew.heap.size w6.drew W->Calls Tryz.prog 76 #[.slice A2 m c2,.slice B2 m e2] W (qsN ts (Jv ts) W)from fun W hb=>by
   obtain⟨k1,k2,k3⟩:=HBW.o W hb
   exact qC _ _ ts (Jv ts) W (HST.o.fut k1 (Yb _) k2) (HSV.o.fut k3 (Yb _) k3.size) (fun x hx=>(Vq ts).mem_iff.2 hx) (by rw[<-aF.o];omega) (by rw[Fq,<-aF.o];omega))
  have HG0:=Lt (w6.drew.heap[S]?=_) (HG6.o);have HP0:=Lt (w6.drew.heap[P]?=_) (HP6.o);have HZ0:=Lt (S+1<w6.drew.heap.size) (Ye yq.o HB6.o.size);have HPZ:=Lt (P<w6.drew.heap.size) ((gl HP0.o));obtain⟨W0,hW0⟩:=Xe w6.drew;rw[<-hW0]at HN1 If HG0 HP0 HZ0 HPZ;refine TextU.wp_anyInv (fun L a' w'=>∃x4 x5 x30 x31 x32 x33 mu x35 x36 x37 x38 mr:Value,a'=⟨List.toArray (.agg #[.slice A1 n c1,.slice A2 m c2,.slice A3 q c3]::.pointer (some ⟨S,0,none⟩)::.pointer (some ⟨S+1,0,none⟩)::.pointer (some ⟨P,0,none⟩)::x4::x5::undef::undef::undef::undef::undef::undef::u12::u13::u14::u15::u16::u17::u18::u19::u20::u21::u22::u23::u24::u25::u26::.pointer (some ⟨P,1,none⟩)::.slice B2 m e2::.tuple #[]::x30::x31::x32::x33::mu::x35::x36::x37::x38::mr::u40::u41::undef::undef::undef::u45::u46::u47::u48::u49::u50::u51::u52::u53::undef::undef::undef::u57::u58::u59::u60::u61::u62::u63::u64::u65::u66::u67::u68::u69::u70::u71::u72::u73::u74::u75::u76::u77::u78::u79::[]),[]⟩/\Hid (Below W0.heap.size W0 w')/\(L 0=true->x30=.pointer (some ⟨S,0,none⟩))/\(L 1=true->x31=.slice A1 n c1)/\(L 2=true->x32=.pointer (some ⟨P,0,none⟩))/\(L 3=true->x33=.slice B1 n e1)/\(L 4=true->Mp Hd 3 w' W0.heap.size mu (ns.map fun x=>(((Uj ns).idxOf x:Nat):Int)))/\(L 5=true->x35=.pointer (some ⟨S,1,none⟩))/\(L 6=true->x36=.slice A2 m c2)/\(L 7=true->x37=.pointer (some ⟨P,1,none⟩))/\(L 8=true->x38=.slice B2 m e2)/\(L 9=true->Mp Hd 3 w' W0.heap.size mr (ts.map fun x=>(((Jv ts).idxOf x:Nat):Int)))/\(L 10=true->L 12=false->Tv w' W0.heap.size x4 #[.slice none 0 0] 61)/\(L 11=true->L 13=false->Tv w' W0.heap.size x5 #[.slice none 0 0] 61)/\(L 12=true->Tv w' W0.heap.size x4 #[mu] 61)/\(L 13=true->Tv w' W0.heap.size x5 #[mr] 61)/\Hid (L 10=true->L 11=true->x4≠x5)/\Hid (L 12=true->L 10=true/\L 4=true/\L 11=true/\L 9=true)/\Hid (L 13=true->L 12=true)) (by kernel_rfl) (by kernel_rfl) (by rw[<-hW0];exact⟨undef,undef,u30,u31,u32,u33,u34,u35,u36,u37,u38,u39,rfl,Xr _ _,by simp,by simp,by simp,by simp,by simp,by simp,by simp,by simp,by simp,by simp,by simp,by simp,by simp,by simp,by simp[Hid],by simp[Hid],by simp[Hid]⟩) ?_ ?_
  .intro j o L a' w' hj hL hd hJ J' Q' hJ' hQ';have HJ:=Lh hJ';clear hJ';have hj14:j<14:=(Qj.1 hj).1;obtain⟨x4,x5,x30,x31,x32,x33,mu,x35,x36,x37,x38,mr,rfl,HB,f0,f1,f2,f3,f4,f5,f6,f7,f8,f9,f10,f11,f12,f13,fd,fi,fj⟩:=hJ;obtain rfl|rfl|rfl|rfl|rfl|rfl|rfl|rfl|rfl|rfl|rfl|rfl|rfl|rfl:j=0\/j=1\/j=2\/j=3\/j=4\/j=5\/j=6\/j=7\/j=8\/j=9\/j=10\/j=11\/j=12\/j=13:=by omega
   all_goals
    injection hj with hj;subst hj
   focus
    have HBX:=Lh HB.o;go_wp2_with fail;refine HJ.o _ _ _ ⟨_,_,_,_,_,_,_,_,_,_,_,_,rfl,HBX.o,?_,?_,?_,?_,?_,?_,?_,?_,?_,?_,?_,?_,?_,?_,?_,?_,?_⟩
   rotate_left 17
   focus
    obtain rfl:=f0 (hd ⟨0,.data⟩ (by simp) rfl);have hc:w'.cell? ⟨S,0,none⟩=some (.slice A1 n c1):=by rw[Zd _ _ _ _ _ _ ((HB.o.block S (by have:=HZ0.o;omega)).trans HG0.o)];rfl
    have HBX:=Lh HB.o;go_wp2_with fail;refine HJ.o _ _ _ ⟨_,_,_,_,_,_,_,_,_,_,_,_,rfl,HBX.o,?_,?_,?_,?_,?_,?_,?_,?_,?_,?_,?_,?_,?_,?_,?_,?_,?_⟩
   rotate_left 17
   focus
    have HBX:=Lh HB.o;go_wp2_with fail;refine HJ.o _ _ _ ⟨_,_,_,_,_,_,_,_,_,_,_,_,rfl,HBX.o,?_,?_,?_,?_,?_,?_,?_,?_,?_,?_,?_,?_,?_,?_,?_,?_,?_⟩
   rotate_left 17
   focus
    obtain rfl:=f2 (hd ⟨2,.data⟩ (by simp) rfl);have hc:w'.cell? ⟨P,0,none⟩=some (.slice B1 n e1):=Xc ((HB.o.block P HPZ.o).trans HP0.o) rfl;have HBX:=Lh HB.o;go_wp2_with fail;refine HJ.o _ _ _ ⟨_,_,_,_,_,_,_,_,_,_,_,_,rfl,HBX.o,?_,?_,?_,?_,?_,?_,?_,?_,?_,?_,?_,?_,?_,?_,?_,?_,?_⟩
   rotate_left 17
   focus
    obtain rfl:=f1 (hd ⟨1,.data⟩ (by simp) rfl);obtain rfl:=f3 (hd ⟨3,.data⟩ (by simp) rfl);have HC:=Lh (HN1.o w' HB.o);go_wp2_with fail;refine HC.o.mono ?_;rintro e w'' ⟨v,rfl,ho,hb⟩;have HBX:=Lh (HB.o.trans (hb.mono HB.o.size));have G:=Lh (ho.more HB.o.size);have f9:=fun h=>(f9 h).below hb;have f10:=fun h h'=>Ws (f10 h h') hb;have f11:=fun h h'=>Ws (f11 h h') hb;have f12:=fun h=>Ws (f12 h) hb;have f13:=fun h=>Ws (f13 h) hb;clear ho hb;go_wp2_with fail;refine HJ.o _ _ _ ⟨_,_,_,_,_,_,_,_,_,_,_,_,rfl,HBX.o,?_,?_,?_,?_,?_,?_,?_,?_,?_,?_,?_,?_,?_,?_,?_,?_,?_⟩
   rotate_left 17
   focus
    have HBX:=Lh HB.o;go_wp2_with fail;refine HJ.o _ _ _ ⟨_,_,_,_,_,_,_,_,_,_,_,_,rfl,HBX.o,?_,?_,?_,?_,?_,?_,?_,?_,?_,?_,?_,?_,?_,?_,?_,?_,?_⟩
   rotate_left 17
   focus
    obtain rfl:=f5 (hd ⟨5,.data⟩ (by simp) rfl);have hc:w'.cell? ⟨S,1,none⟩=some (.slice A2 m c2):=by rw[Zd _ _ _ _ _ _ ((HB.o.block S (by have:=HZ0.o;omega)).trans HG0.o)];rfl
    have HBX:=Lh HB.o;go_wp2_with fail;refine HJ.o _ _ _ ⟨_,_,_,_,_,_,_,_,_,_,_,_,rfl,HBX.o,?_,?_,?_,?_,?_,?_,?_,?_,?_,?_,?_,?_,?_,?_,?_,?_,?_⟩
   rotate_left 17
   focus
    have HBX:=Lh HB.o;go_wp2_with fail;refine HJ.o _ _ _ ⟨_,_,_,_,_,_,_,_,_,_,_,_,rfl,HBX.o,?_,?_,?_,?_,?_,?_,?_,?_,?_,?_,?_,?_,?_,?_,?_,?_,?_⟩
   rotate_left 17
   focus
    obtain rfl:=f7 (hd ⟨7,.data⟩ (by simp) rfl);have hc:w'.cell? ⟨P,1,none⟩=some (.slice B2 m e2):=Xc ((HB.o.block P HPZ.o).trans HP0.o) rfl;have HBX:=Lh HB.o;go_wp2_with fail;refine HJ.o _ _ _ ⟨_,_,_,_,_,_,_,_,_,_,_,_,rfl,HBX.o,?_,?_,?_,?_,?_,?_,?_,?_,?_,?_,?_,?_,?_,?_,?_,?_,?_⟩
   rotate_left 17
   focus
    obtain rfl:=f6 (hd ⟨6,.data⟩ (by simp) rfl);obtain rfl:=f8 (hd ⟨8,.data⟩ (by simp) rfl);have HC:=Lh (If.o w' HB.o);go_wp2_with fail;refine HC.o.mono ?_;rintro e w'' ⟨v,rfl,ho,hb⟩;have HBX:=Lh (HB.o.trans (hb.mono HB.o.size));have G:=Lh (ho.more HB.o.size);have f4:=fun h=>(f4 h).below hb;have f10:=fun h h'=>Ws (f10 h h') hb;have f11:=fun h h'=>Ws (f11 h h') hb;have f12:=fun h=>Ws (f12 h) hb;have f13:=fun h=>Ws (f13 h) hb;clear ho hb;go_wp2_with fail;refine HJ.o _ _ _ ⟨_,_,_,_,_,_,_,_,_,_,_,_,rfl,HBX.o,?_,?_,?_,?_,?_,?_,?_,?_,?_,?_,?_,?_,?_,?_,?_,?_,?_⟩
   rotate_left 17
   focus
    have hb:Below w'.heap.size w' (w'.alloc (.cells #[.slice none 0 0] 61)):=(Xr _ _).alloc (Yb _) _;have HBX:=Lh (HB.o.trans (hb.mono HB.o.size));have Ea:=Lh (sP w' #[.slice none 0 0] 61 HB.o.size);have HD:=Lh (show L 11=true->Value.pointer (some ⟨w'.heap.size,0,none⟩)≠x5 from fun h=>by
     cases h13:L 13 with
     |true=>exact absurd (fi.o (fj.o h13)).1 (by rw[hL];decide)
     |false =>
      obtain⟨b,rfl,_,ng⟩:=f11 h h13
      intro e
      injection e with e
      injection e with e
      injection e with e
      have:=(gl ng)
      omega)
    have f4:=fun h=>(f4 h).below hb;have f9:=fun h=>(f9 h).below hb;have f11:=fun h h'=>Ws (f11 h h') hb;have f13:=fun h=>Ws (f13 h) hb;clear hb;go_wp2_with fail;generalize w'.alloc (.cells #[.slice none 0 0] 61)=w7 at*;refine HJ.o _ _ _ ⟨_,_,_,_,_,_,_,_,_,_,_,_,rfl,HBX.o,?_,?_,?_,?_,?_,?_,?_,?_,?_,?_,?_,?_,?_,?_,?_,?_,?_⟩
   rotate_left 17
   focus
    have hb:Below w'.heap.size w' (w'.alloc (.cells #[.slice none 0 0] 61)):=(Xr _ _).alloc (Yb _) _;have HBX:=Lh (HB.o.trans (hb.mono HB.o.size));have Ea:=Lh (sP w' #[.slice none 0 0] 61 HB.o.size);have HD:=Lh (show L 10=true->x4≠Value.pointer (some ⟨w'.heap.size,0,none⟩)from fun h=>by
     cases h13:L 12 with
     |true=>exact absurd (fi.o h13).2.2.1 (by rw[hL];decide)
     |false =>
      obtain⟨b,rfl,_,ng⟩:=f10 h h13
      intro e
      injection e with e
      injection e with e
      injection e with e
      have:=(gl ng)
      omega)
    have f4:=fun h=>(f4 h).below hb;have f9:=fun h=>(f9 h).below hb;have f10:=fun h h'=>Ws (f10 h h') hb;have f12:=fun h=>Ws (f12 h) hb;clear hb;go_wp2_with fail;generalize w'.alloc (.cells #[.slice none 0 0] 61)=w7 at*;refine HJ.o _ _ _ ⟨_,_,_,_,_,_,_,_,_,_,_,_,rfl,HBX.o,?_,?_,?_,?_,?_,?_,?_,?_,?_,?_,?_,?_,?_,?_,?_,?_,?_⟩
   rotate_left 17
   focus
    have l10:=hd ⟨10,.data⟩ (by simp) rfl;have l4:=hd ⟨4,.data⟩ (by simp) rfl;have l11:=hd ⟨11,.phase⟩ (by simp) rfl;have l9:=hd ⟨9,.chain⟩ (by simp) rfl;have hne:=fd.o l10 l11;obtain⟨b,rfl,hbs,hbh⟩:=f10 l10 hL;have hx:mu.cells=[mu].toArray/\mu.oneCell'=true:=by
     obtain⟨A,c,e,_⟩:=(f4 l4).form;rw[e];exact⟨rfl,rfl⟩
    have f11:=fun h h'=>fw (f11 h h') hne (b:=b) [mu].toArray;have HST:=Lh (Fh (P:=Tryz.prog) (ty:=61) (vs:=[mu]) (v:=mu) hx.1 (by kernel_rfl) hbh rfl (by simp[hx.2]));have jX:=Ds (ts:=[3]) (cs':=[mu].toArray) hbh (by decide);have HBX:=Lh (Zk HB.o hbs [mu].toArray);have HB8:=Lt (Tv (w'.setRow b [mu].toArray) W0.heap.size (.pointer (some ⟨b,0,none⟩)) #[mu] 61) (⟨b,rfl,hbs,Zj _ _ _ _ _ _ hbh⟩);have f4:=fun h=>(f4 h).keep jX;have f9:=fun h=>(f9 h).keep jX;clear jX;go_wp2_with (refine Zv none rfl ?_);refine Stop.go (Zo rfl 61 rfl rfl rfl HST.o ?_);generalize w'.setRow b [mu].toArray=w7 at*;(conv in Act.put _ _ _=>simp[Act.put]);go_wp2_with fail;refine HJ.o _ _ _ ⟨_,_,_,_,_,_,_,_,_,_,_,_,rfl,HBX.o,?_,?_,?_,?_,?_,?_,?_,?_,?_,?_,?_,?_,?_,?_,?_,?_,?_⟩
   rotate_left 17
   have l12:=hd ⟨12,.chain⟩ (by simp) rfl;have l11:=hd ⟨11,.data⟩ (by simp) rfl;have l9:=hd ⟨9,.data⟩ (by simp) rfl;have hne:=fd.o (fi.o l12).1 l11;obtain⟨b,rfl,hbs,hbh⟩:=f11 l11 hL;have hx:mr.cells=[mr].toArray/\mr.oneCell'=true:=by
    obtain⟨A,c,e,_⟩:=(f9 l9).form;rw[e];exact⟨rfl,rfl⟩
   have f12:=fun h=>fw (f12 h) hne.symm (b:=b) [mr].toArray;have HST:=Lh (Fh (P:=Tryz.prog) (ty:=61) (vs:=[mr]) (v:=mr) hx.1 (by kernel_rfl) hbh rfl (by simp[hx.2]));have jX:=Ds (ts:=[3]) (cs':=[mr].toArray) hbh (by decide);have HBX:=Lh (Zk HB.o hbs [mr].toArray);have HB8:=Lt (Tv (w'.setRow b [mr].toArray) W0.heap.size (.pointer (some ⟨b,0,none⟩)) #[mr] 61) (⟨b,rfl,hbs,Zj _ _ _ _ _ _ hbh⟩);have f4:=fun h=>(f4 h).keep jX;have f9:=fun h=>(f9 h).keep jX;clear jX;go_wp2_with (refine Zv none rfl ?_);refine Stop.go (Zo rfl 61 rfl rfl rfl HST.o ?_);generalize w'.setRow b [mr].toArray=w7 at*;(conv in Act.put _ _ _=>simp[Act.put]);go_wp2_with fail;refine HJ.o _ _ _ ⟨_,_,_,_,_,_,_,_,_,_,_,_,rfl,HBX.o,?_,?_,?_,?_,?_,?_,?_,?_,?_,?_,?_,?_,?_,?_,?_,?_,?_⟩
   all_goals first|exact fun _=>rfl|exact xqQ (by assumption)|exact fun h h'=>f10 (Xb h) (TextU.andL_off h')|exact fun h h'=>f11 (Xb h) (TextU.andL_off h')|exact fun h h'=>fd.o (Xb h) (Xb h')|exact fun h=>⟨Xo (fi.o (Xb h)).1,Xo (fi.o (Xb h)).2.1,Xo (fi.o (Xb h)).2.2.1,Xo (fi.o (Xb h)).2.2.2⟩|exact fun h=>Xo (fj.o (Xb h))|exact fun _=>G.o|exact fun h=>absurd (fi.o (Xb h)).2.1 (by rw[hL];decide)|exact fun h=>absurd (fi.o (fj.o (Xb h))).2.1 (by rw[hL];decide)|exact fun h=>absurd (fi.o (Xb h)).2.2.2 (by rw[hL];decide)|exact fun h=>absurd (fi.o (fj.o (Xb h))).2.2.2 (by rw[hL];decide)|exact fun _ _=>Ea.o|exact fun h=>absurd (fi.o (Xb h)).1 (by rw[hL];decide)|exact fun _ h'=>HD.o (Xb h')|exact fun h=>absurd (fi.o (fj.o (Xb h))).2.2.1 (by rw[hL];decide)|exact fun h _=>HD.o (Xb h)|exact fun _=>HB8.o|exact fun _ h'=>absurd h' (by rw[TextU.andL_self];decide)|exact fun h=>absurd (fj.o (Xb h)) (by rw[hL];decide)|exact fun _=>⟨Xo l10,Xo l4,Xo l11,Xo l9⟩|exact fun _ h'=>absurd (TextU.andL_off h') (by rw[l12];decide)|exact fun _=>Xo l12
  intro L7 a' w7 Wc hJ;obtain⟨x4,x5,x30,x31,x32,x33,mu,x35,x36,x37,x38,mr,rfl,HB7,f0,f1,f2,f3,f4,f5,f6,f7,f8,f9,f10,f11,f12,f13,fd,fi,fj⟩:=hJ;have kB:=Lh (f4 (Wc 4 (by decide)));have HTL:=Lh (f9 (Wc 9 (by decide)));obtain⟨g4,rfl,hg4,hh4⟩:=f12 (Wc 12 (by decide));obtain⟨g5,rfl,Lu,hh5⟩:=f13 (Wc 13 (by decide));have HH4:=Lh hh4;have HH5:=Lh hh5;have HGS:=Lh (And.intro hg4 Lu);clear f0 f1 f2 f3 f4 f5 f6 f7 f8 f9 f10 f11 f12 f13 fd fi fj hh4 hh5 Wc HN1 If HG0 HP0 HZ0 HPZ hg4 Lu;have HB8:=Lt (Below w6.heap.size w6 w7) (by
   have h:=HB7.o
   rw[hW0]at h
   exact (Xr w6.heap.size w6).drew.trans h)
  have yU:=Lt (w6.heap.size<=g4/\w6.heap.size<=g5) (by
   have h:=HGS.o
   rw[hW0]at h
   exact h)
  have mb:=Lh (gl HP6.o);have hP7:=(HB8.o.block P (gl HP6.o)).trans HP6.o;have HP7:=Lh hP7;have HU7:=Lh (Jc HU6.o HB8.o);have HV7:=Lh (Jc HV6.o HB8.o);have yf:=Lh (HBW.o w7 (by have h:=HB7.o;rw[hW0]at h;exact h));have HR7:=Lh ((HB8.o.block (S+1) (gl HR6.o)).trans HR6.o);have HG7:=Lh ((HB8.o.block S (gl HG6.o)).trans HG6.o);have Uw:w7.cell? ⟨S,2,none⟩=some (.slice A3 q c3):=Xc HG7.o rfl;clear HB7 HGS HU6 HV6 HP6 HG6 HR6 HB6 hP7 HSU HSV qY HR3;go_wp2_with fail;have HPL:=Lt (P<w6.heap.size/\P<w7.heap.size) (by
   have h1:=(gl HP7.o)
   refine⟨?_,h1⟩
   rcases Nat.lt_or_ge P w6.heap.size with h|h
   .exact h
   exact absurd h (by have:=mb.o;omega))
  have jaL:=Lh (show ∀(W:World)(x:Int),Sf P w7 W->Vc ns.length ts.length x->Calls Tryz.prog 77 #[.int .i64 x,.pointer (some ⟨g5,0,none⟩),.pointer (some ⟨g4,0,none⟩)] W fun e w'=>e=.returned (.int .i64 (Gr ns ts (Uj ns) (Jv ts) x))/\W=w' from fun W x hk hx=>by
   have jX:Jk [3] w7 W:=⟨hk.size,fun g cur t ht hg=>(hk.block g (gl hg) (fun e=>by
    subst e
    rw[HP7.o]at hg
    injection hg with hg
    injection hg with _ hg
    subst hg
    exact absurd ht (by decide))).trans hg⟩
   have hb4:W.heap[g4]?=some (.cells #[mu] 61 (0,0)):=(hk.block g4 (gl HH4.o) (by have:=HPL.o.1;have:=yU.o.1;omega)).trans HH4.o
   have hb5:W.heap[g5]?=some (.cells #[mr] 61 (0,0)):=(hk.block g5 (gl HH5.o) (by have:=HPL.o.1;have:=yU.o.2;omega)).trans HH5.o
   have:=qnY g5 g4 mr mu _ _ W.heap.size x W (Xc hb5 rfl) (Xc hb4 rfl) (HTL.o.keep jX).sl (kB.o.keep jX).sl (by rw[Qk];exact hx.1) (by rw[Qk];exact hx.2) (by rw[Qk,<-aF.o];omega) (by rw[Qk,<-dZ.o];omega)
   rw[qvR ns ts (Uj ns) (Jv ts) hx]at this
   exact this)
  have HLC:=Lt (Pj w7 P (.slice B1 n e1) (.slice B2 m e2) ((rs.take 0).map (Ec ns ts (Uj ns) (Jv ts))) (.slice none 0 0) w7) (⟨HP7.o,Mp.nil _ _,⟨Yb _,rfl,rfl,rfl,fun _ _ _=>rfl⟩⟩);go_loopw [44] (fun v44 wr=>∃(k:Nat)(v3:Value),k<=q/\v44=.int .i64 k/\Hid (Pj w7 P (.slice B1 n e1) (.slice B2 m e2) ((rs.take k).map (Ec ns ts (Uj ns) (Jv ts))) v3 wr)) (fun v44 _=>q-(intOf v44).toNat);exact⟨0,_,by omega,rfl,HLC.o⟩;clear HLC Uw;obtain⟨k,v3,hk,rfl,HLC⟩:=hrel;by_cases Jl:k<q
  .have Du:k<rs.length:=by rw[<-HQQ.o];exact Jl
   have HBR:=Lt (Below S w wr) (yf.o.1.trans ⟨HLC.o.keep.os,HLC.o.keep.tape,HLC.o.keep.output,HLC.o.keep.size,fun j hj=>HLC.o.keep.block j (Ye hj yf.o.2.1) (by have:=hPS;have:=yq.o;omega)⟩);have ig:=Lh (Yd yf.o.2.1 HLC.o.keep.size);obtain⟨bb,off,cs,rfl,_,iY,Ja,Zn⟩:=(H3.o.fut HBR.o (Yb _) ig.o).get Du (by decide);obtain⟨v,rfl,Mo,Ik,Si⟩:=Kn Ja;obtain⟨A5,c5,rfl,Ct,jW⟩:=Mo.form;unfold maxLen at jW;have rG:=Zn 0 _ rfl;have Sr:=Zn 1 _ rfl;simp only[show Vw.size=2 from rfl,Yq,<-Yy]at rG Sr;have jQ:=Lh (gV.o.fit rs[k] (Qg Du));have HSL:=Lh Mo;have HTK:=Lh (Qc Du);clear Zn Ja Mo;obtain⟨r,hr⟩:=Xe (rs[k]);rw[<-hr]at rG Sr jQ HSL HTK Ct Ik Si;clear hr;obtain⟨p,hpe⟩:=Xe r.2.length;rw[<-hpe]at Sr HSL Ct;have HPP:=Lh hpe;clear hpe;have HFI:=Lt ((0<=r.1/\r.1<ns.length)/\r.2.length<=64/\∀s∈r.2,Vc ns.length ts.length s) (by
    have h:=jQ.o
    simp only[Qk]at h
    exact h)
   have HFB:=Lh (show ∀s,Vc ns.length ts.length s->-9223372036854775808<=Gr ns ts (Uj ns) (Jv ts) s/\Gr ns ts (Uj ns) (Jv ts) s<=9223372036854775807 from fun s hs=>by
    have h:=Pu (Us ns) (Vq ts) hs
    unfold Vc at h
    have e1:=dZ.o
    have e2:=aF.o
    omega)
   clear jQ;have HS0:=Lt (Vc ns.length ts.length r.1) (⟨by have:=HFI.o.1.1;omega,HFI.o.1.2⟩);obtain⟨F,hF⟩:=Xe (Gr ns ts (Uj ns) (Jv ts));have HRM:=Lh (show Ec ns ts (Uj ns) (Jv ts) r=(F r.1,r.2.map F) by rw[hF];rfl);rw[<-hF]at HFB;have HCL:=Lh (show ∀(W:World)(x:Int),Sf P w7 W->Vc ns.length ts.length x->Calls Tryz.prog 77 #[.int .i64 x,.pointer (some ⟨g5,0,none⟩),.pointer (some ⟨g4,0,none⟩)] W fun e w'=>e=.returned (.int .i64 (F x))/\W=w' from fun W x h1 h2=>by rw[hF];exact jaL.o W x h1 h2);clear hF;have HKA:=Lh ((Xr wr.heap.size wr).alloc (Yb _) (.cells #[.int .i64 r.1,.slice A5 p c5] 63));have HRA:=Lh (Xn wr (.cells #[.int .i64 r.1,.slice A5 p c5] 63));have HZA:=Lh (Xs wr (.cells #[.int .i64 r.1,.slice A5 p c5] 63));have aq:=Lh (HCL.o _ r.1 (HLC.o.keep.trans (Sf.of_below HKA.o (Yb _))) HS0.o);go_wp2_with fail;refine aq.o.mono ?_;rintro e w8 ⟨rfl,rfl⟩;have HB0:=Lh (HFB.o r.1 HS0.o);generalize F r.1=M0 at*;clear aq;generalize wr.alloc (.cells #[.int .i64 r.1,.slice A5 p c5] 63)=w8 at*;obtain⟨b9,dD⟩:=Xe w8.heap.size;have HK9:=Lh ((Xr w8.heap.size w8).alloc (Yb _) (.cells #[.int .i64 M0,.slice none 0 0] 63));have HR9:=Lh (Xn w8 (.cells #[.int .i64 M0,.slice none 0 0] 63));have HA9:=Lh ((HK9.o.block wr.heap.size (by have:=HZA.o;omega)).trans HRA.o);have ca1:(w8.alloc (.cells #[.int .i64 M0,.slice none 0 0] 63)).cell? ⟨wr.heap.size,1,none⟩=some (.slice A5 p c5):=Xc HA9.o rfl;go_wp2_with fail;clear ca1;rw[<-dD]at HK9 HR9 |-;have HZ9:=Lt (wr.heap.size<b9) (by rw[dD];have:=HZA.o;omega);clear dD;generalize w8.alloc (.cells #[.int .i64 M0,.slice none 0 0] 63)=w9 at*;have HIN:=Lt (yp w8 b9 M0 ((r.2.take 0).map F) (.slice none 0 0) w9) (⟨HR9.o,Mp.nil _ _,HK9.o⟩);generalize wr=wo at*;go_loopw [56] (fun v56 wr=>∃(j:Nat)(v9:Value),j<=p/\v56=.int .i64 j/\Hid (yp w8 b9 M0 ((r.2.take j).map F) v9 wr)) (fun v56 _=>p-(intOf v56).toNat);exact⟨0,_,by omega,rfl,HIN.o⟩;clear HIN HK9 HR9;obtain⟨j,v9,hj,rfl,HIN⟩:=hrel;have HLN:=Lh (show ((r.2.take j).map F).length=j by rw[Qk,Qq];have:=HPP.o;omega);have rY:=Lt (Below wo.heap.size wo wr) (HKA.o.trans (HIN.o.keep.mono (Yh HZ9.o)));by_cases Mw:j<p
   .have jx:j<r.2.length:=by rw[<-HPP.o];exact Mw
    obtain⟨b7,o7,cs,rfl,_,_,Ja,Zn⟩:=(HSL.o.below rY.o).get jx (by decide);obtain⟨rfl,Gc,eR⟩:=Ja;have ey:=Zn 0 _ rfl;simp only[show Wg.size=1 from rfl,Ys,Yq]at ey;clear Zn;have HSY:=Lh (HFI.o.2.2 r.2[j] (Qg jx));have qsU:=Lh (show (r.2.take (j+1)).map F=(r.2.take j).map F++[F r.2[j]] by rw[Qc jx,Qt,List.map_singleton]);generalize r.2[j]=s at*;obtain⟨A9,c9,hv9,qpC,zjM⟩:=HIN.o.own.form;rw[HLN.o]at hv9 qpC;subst hv9;go_wp2_with fail;clear ey;have Nu:=HIN.o.row;have Ul:=Lt (wr.drew.cell? ⟨b9,1,none⟩=some (.slice A9 j c9)) (by rw[Zd wr.drew _ _ _ _ _ Nu];rfl);refine Ny (fun w'=>w'.cell? ⟨b9,1,none⟩=some (.slice A9 j c9)) [6] 9 (by kernel_rfl) rfl ?_;have mM:=Lt (yp w8 b9 M0 ((r.2.take j).map F) (.slice A9 j c9) wr.drew) (⟨HIN.o.row,HIN.o.own.below ((Xr wr.heap.size wr).drew),HIN.o.keep.drew⟩);have bU:=Lt (Below wo.heap.size wo wr.drew) (rY.o.drew);clear HIN rY Nu;generalize wr.drew=wd at*;refine Rh 0 (.pointer (some ⟨b9,1,none⟩)) rfl (by kernel_rfl) rfl (fun wq=>by go_simp) Ul.o ?_;(conv in Act.put _ _ _=>simp[Act.put]);refine jT 1 (.slice A9 j c9) rfl (by kernel_rfl) rfl (fun wq Ri=>Kc rfl rfl (Vs (e:=3) (by kernel_rfl) Ri)) Ul.o ?_;(conv in Act.put _ _ _=>simp[Act.put]);refine Rh 2 (.func (.func 77) #[] #[.pointer (some ⟨g5,0,none⟩),.pointer (some ⟨g4,0,none⟩)]) rfl (by kernel_rfl) rfl (fun wq=>by go_simp) Ul.o ?_;(conv in Act.put _ _ _=>simp[Act.put]);refine Rh 3 (.int .i64 s) rfl (by kernel_rfl) rfl (fun wq=>by go_simp) Ul.o ?_;(conv in Act.put _ _ _=>simp[Act.put]);refine Jf (i:=4) (by kernel_rfl) rfl (fun Q' hQ'=>?_);go_wp2_with fail;refine (HCL.o wd s (HLC.o.keep.trans (Sf.of_below bU.o (Yb _))) HSY.o).mono ?_;rintro e w10 ⟨rfl,rfl⟩;have HBM:=Lh (HFB.o s HSY.o);generalize F s=M1 at*;go_wp2_with fail;refine⟨iP Ul.o,?_⟩;have HB3:=Lh ((Xr wd.heap.size wd).alloc (Yb _) (.cells #[.int .i64 M1] 3));have Ea:=Lh (Xn wd (.cells #[.int .i64 M1] 3));have rV:=Lt (wd.heap.size+1=(wd.alloc (.cells #[.int .i64 M1] 3)).heap.size) ((Xs _ _).symm);refine Jf (i:=5) (by kernel_rfl) rfl (fun Q' hQ'=>?_);go_wp2_with fail;generalize wd.alloc (.cells #[.int .i64 M1] 3)=w3' at*;have mL:=Lh ((HB3.o.block b9 (gl mM.o.row)).trans mM.o.row);refine⟨iP (Xc mL.o rfl),?_⟩;obtain⟨css,h0,h2,h3⟩:=(mM.o.own.below HB3.o).row;rw[HLN.o]at h0 h2;have zkC:p<=64:=by rw[HPP.o];exact HFI.o.2.1
    have hbase:b9+1<=w3'.heap.size:=by have:=(gl mL.o);omega
    refine Jf (i:=6) (by kernel_rfl) rfl (fun Q' hQ'=>?_);refine Zy (m:=1) La rfl rfl rfl rfl h0 (Rd.row (B:=w3'.heap.size) Ea.o (by rw[<-rV.o];exact Yf _)) rfl (by simp[Value.oneCell']) (by simp only[maxLen];omega) (by omega) hbase ?_;intro v9' Iq Cs oG _ _;obtain⟨A8,c8,dC,_,_⟩:=Zp Cs;subst dC;have yH:=Lh (Zs h0 oG mL.o (by decide));have HNX:=Lh (yp.snoc (m:=M1) mM.o HB3.o (by rw[HLN.o];exact h0) (by rw[HLN.o];exact h2) h3 HBM.o (by rw[HLN.o];exact Cs) oG);rw[<-qsU.o]at HNX;(conv in Act.put _ _ _=>simp[Act.put]);refine hQ' _ _ ⟨Km (by kernel_rfl),?_⟩;clear h0 h2 h3 Cs oG Ea rV HB3 mL hbase Ul;refine Jf (i:=7) (by kernel_rfl) rfl (fun Q' hQ'=>?_);go_wp2_with fail;refine⟨Km (by kernel_rfl),?_⟩;have Zn:Iq.cell? ⟨b9,1,none⟩=some (.slice A9 j c9):=Xc yH.o rfl;have jy:Iq.frozen? ⟨b9,1,none⟩=false:=by simp[World.frozen?,yH.o]
    refine Jf (i:=8) (by kernel_rfl) rfl (fun Q' hQ'=>?_);go_wp2_with fail;refine⟨Km (by kernel_rfl),?_⟩;refine Gi (by kernel_rfl) ?_ _;clear Zn jy yH;go_wp2;go_roundw;exact⟨j+1,_,by omega,by go_num,HNX.o⟩;simp[intOf];omega
   obtain rfl:j=p:=by omega
   have HRX:=Lt (r.2.take j=r.2) (by rw[HPP.o];exact List.take_length);rw[HRX.o]at HIN HLN;obtain⟨A9,c9,hv9,qpC,zjM⟩:=HIN.o.own.form;rw[HLN.o]at hv9 qpC;subst hv9;have an:=Lh (show ((rs.take k).map (Ec ns ts (Uj ns) (Jv ts))).length=k by rw[Qk,Qq];have:=HQQ.o;omega);obtain⟨yN,rR,hv3,qiA,qxA⟩:=HLC.o.own.form;rw[an.o]at hv3 qiA;subst hv3;have HPR:=Lh ((rY.o.block P (gl HLC.o.row)).trans HLC.o.row);have hp2:wr.cell? ⟨P,2,none⟩=some (.slice yN k rR):=Xc HPR.o rfl;have Bf:wr.cell? ⟨b9,0,none⟩=some (.int .i64 M0):=Xc HIN.o.row rfl;have qqO:wr.cell? ⟨b9,1,none⟩=some (.slice A9 j c9):=Xc HIN.o.row rfl;have HBA:=Lh ((Xr wr.heap.size wr).alloc (Yb _) (.cells #[.int .i64 M0,.slice A9 j c9] 63));have Ea:=Lh (Xn wr (.cells #[.int .i64 M0,.slice A9 j c9] 63));have HKA2:=Lh (rY.o.trans (HBA.o.mono rY.o.size));have HW7:=Lh (HLC.o.keep.size);obtain⟨css,h0,h2,h3⟩:=(HLC.o.own.below HKA2.o).row;rw[an.o]at h0 h2;go_wp2_with (at_builtin;refine Zy (m:=1) Cf rfl rfl rfl rfl h0 (Rd.row (B:=wr.heap.size+1) Ea.o (Yf _)) rfl (by simp[Value.oneCell']) ?h63 ?hby ?hbase ?_)
   case h63=>simp only[maxLen];omega
   case hby=>omega
   case hbase=>exact Yd HW7.o HKA2.o.size
   intro v3' zb q_ zeH _ _;obtain⟨A8,c8,dC,_,_⟩:=Zp q_;subst dC;have znM:=Lh (Zs h0 zeH ((HKA2.o.block P (gl HLC.o.row)).trans HLC.o.row) (by decide));have HNX:=Lh (Pj.snoc (r:=Ec ns ts (Uj ns) (Jv ts) r) HLC.o HPL.o.2 HKA2.o (by rw[an.o];exact h0) (by rw[an.o];exact h2) h3 (by
    rw[HRM.o]
    exact⟨[.int .i64 M0],[.slice A9 j c9],rfl,⟨rfl,HB0.o⟩,_,rfl,(HIN.o.own.below HBA.o).more (by have:=HW7.o;have:=HZ9.o;omega)⟩) (by rw[an.o];exact q_) zeH)
   have Zn:zb.cell? ⟨P,2,none⟩=some (.slice yN k rR):=Xc znM.o rfl;have jy:zb.frozen? ⟨P,2,none⟩=false:=by simp[World.frozen?,znM.o]
   clear h0 h2 h3 q_ zeH;go_wp2;go_roundw;exact⟨k+1,_,by omega,by go_num,by rw[HTK.o,Qt,List.map_singleton];exact HNX.o⟩;simp[intOf];omega
  obtain rfl:k=q:=by omega
  have Io:=Lt (rs.take k=rs) (by rw[HQQ.o];exact List.take_length);rw[Io.o]at HLC;have HOK:=Lh (show ∀r∈rs.map (Ec ns ts (Uj ns) (Jv ts)),jN r from fun r hr=>by
   obtain⟨x,hx,rfl⟩:=Xa.1 hr
   intro s hs
   obtain⟨y,hy,rfl⟩:=Xa.1 (show s∈x.2.map _ from hs)
   have hf:=(gV.o.fit x hx).2.2 y hy
   simp only[Qk]at hf
   have h:=(Pu (Us ns) (Vq ts) hf).1
   have e2:=aF.o
   omega)
  have an:=Lh (show (rs.map (Ec ns ts (Uj ns) (Jv ts))).length=k by rw[Qk];exact HQQ.o.symm);obtain⟨yN,rR,hv3,qiA,qxA⟩:=HLC.o.own.form;rw[an.o]at hv3 qiA;subst hv3;have hp2:wr.cell? ⟨P,2,none⟩=some (.slice yN k rR):=Xc HLC.o.row rfl;go_wp2_with fail;refine (zC w7.heap.size (.slice yN k rR) (rs.map (Ec ns ts (Uj ns) (Jv ts))) wr HLC.o.own HOK.o (by rw[an.o];omega)).mono ?_;rintro e w13 ⟨rfl,zkH,qqA⟩;obtain⟨css,h0,_⟩:=HLC.o.own.row;have zyZ:=Lh (Zs h0 qqA HLC.o.row (by decide));have HKS:=Lh ((HLC.o.keep.T (ts:=[9]) HP7.o (by decide)).trans (Jk.of_grown h0 qqA (by decide)));have Do:=Lt (Below S w wr) (yf.o.1.trans ⟨HLC.o.keep.os,HLC.o.keep.tape,HLC.o.keep.output,HLC.o.keep.size,fun j hj=>HLC.o.keep.block j (Ye hj yf.o.2.1) (by have:=hPS;have:=yq.o;omega)⟩);have HBT:=Lh (Zr Do.o qqA h0 (by have:=yf.o.2.1;omega) (by have:=yf.o.2.1;have:=HLC.o.keep.size;omega));have qzB:=Lh zkH;have Ej:=Lt (w13.heap[S+1]?=some (.cells #[.slice none 0 0,.slice none 0 0,.slice none 0 0] 25 (0,0))) (by
   have h1:=(HLC.o.keep.block (S+1) (gl HR7.o) (by have:=hPS;have:=yq.o;omega)).trans HR7.o
   exact Zs h0 qqA h1 (by decide))
  clear zkH qqA h0 hp2;obtain⟨g0,g1,g2⟩:=Zq zyZ.o;go_wp2_with (refine Zv none rfl ?_);refine Stop.go (Zo rfl 25 rfl rfl rfl (Fh (vs:=[.slice B1 n e1,.slice B2 m e2,.slice yN k rR]) rfl (by kernel_rfl) Ej.o rfl (by intro u hu;simp at hu;rcases hu with rfl|rfl|rfl <;> rfl)) ?_);have zgM:=Lh (Zj _ _ _ _ _ _ Ej.o:(w13.setRow (S+1) [.slice B1 n e1,.slice B2 m e2,.slice yN k rR].toArray).heap[S+1]?=_);have HBN:=Lh (Zk HBT.o (Yi S) [.slice B1 n e1,.slice B2 m e2,.slice yN k rR].toArray);have HK1:=Lh (Ds (ts:=[9,63,3]) (cs':=[.slice B1 n e1,.slice B2 m e2,.slice yN k rR].toArray) Ej.o (by decide));generalize w13.setRow (S+1) [.slice B1 n e1,.slice B2 m e2,.slice yN k rR].toArray=w14 at*;(conv in Act.put _ _ _=>simp[Act.put]);go_wp2_with fail;have HFN:=Lh (show bI (Uj ns)from fun x hx=>by
   have aS:=(Us ns).mem_iff.1 hx
   exact HSN.o.fits x aS)
  have HFT:=Lh (show bI (Jv ts)from fun x hx=>by
   have aS:=(Vq ts).mem_iff.1 hx
   exact HST.o.fits x aS)
  have hU:=Kg (Kg HU7.o HKS.o (by simp)) HK1.o (by simp);have hV:=Kg (Kg HV7.o HKS.o (by simp)) HK1.o (by simp);have eU:n=(Uj ns).length:=by rw[Pc];exact dZ.o
  have eV:m=(Jv ts).length:=by rw[Fq];exact aF.o
  have hw:=qzB.o.keep (w':=w14) (HK1.o.less (by simp[Rs,qnZ,Hd,dg,oSl]));refine uS rfl rfl rfl zgM.o ⟨_,_,_,rfl,fun w'' zcZ=>⟨?_,?_,(zN hw (by have:=yf.o.2.1;have:=HS.o;omega) zcZ).sl⟩,by rw[<-HS.o];exact HBN.o⟩
  .exact Av (base:=w3.heap.size) (t:=9) HFN.o (by rw[<-eU];exact Ha hU (by have:=yq.o;have:=HS.o;omega) zcZ)
  exact Av (base:=MV) (t:=9) HFT.o (by rw[<-eV];exact Ha hV (by have:=yq.o;have:=HS.o;have:=HMV.o.1;omega) zcZ)
end Go.Proofs.YtmaojnmnbpomeaaGreatDoor
