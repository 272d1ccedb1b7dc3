/- A part. -/
import Derived.Test.YtmaojnmnbpomeaaGreatDoorVO09
set_option maxRecDepth 100000
set_option maxHeartbeats 64000000
namespace Go.Proofs.YtmaojnmnbpomeaaGreatDoor.TextU
open Go Go.RowKit Go.Proofs.YtmaojnmnbpomeaaGreatDoor.Text
variable {P:Program} {ops:Array Oper} {K:Act->World->Prop}
def gP(L:Nat->Bool)(j:Nat):Nat->Bool:=fun i=>i==j||L i
theorem andL_self(L:Nat->Bool)(j:Nat):gP L j j=true:=by simp[gP]
theorem qpQ{L:Nat->Bool}{j i:Nat}(h:L i=true):gP L j i=true:=by simp[gP,h]
theorem qcD{L:Nat->Bool}{j i:Nat}(h:i≠j):gP L j i=L i:=by simp[gP,h]
theorem qiB{L:Nat->Bool}{j i:Nat}(hn:i≠j)(h:gP L j i=true):L i=true:=by rwa [qcD hn] at h
theorem _root_.Go.Proofs.YtmaojnmnbpomeaaGreatDoor.Xb{L:Nat->Bool}{j i:Nat}(h:gP L j i=true)(hn:i≠j:=by decide):L i=true:=qiB hn h
theorem _root_.Go.Proofs.YtmaojnmnbpomeaaGreatDoor.Xo{L:Nat->Bool}{j i:Nat}(h:L i=true):gP L j i=true:=qpQ h
theorem andL_off{L:Nat->Bool}{j i:Nat}(h:gP L j i=false):L i=false:=by
 unfold gP at h;rw[Yl] at h;exact h.2
theorem zK(hb:bP ops=true){listed:Array Bool}(hs:listed.size=ops.size)(hr:Region.ready .any ops listed=[]):∀ j,j<ops.size->listed.getD j false=true:=by
 intro j
 induction j using Nat.strongRecOn with
 |_ j ih =>
  intro hj;cases hl:listed.getD j false with
  |true=>rfl
  |false =>
   have Jo:listed.getD j true=false:=by
    have Hp:j<listed.size:=by omega
    simp only[Array.getD,Hp,dif_pos] at hl |-;exact hl
   have Mq:j∈Region.ready .any ops listed:=mem_ready.2 ⟨Jo,ops[j],Array.getElem?_eq_getElem hj,fun e he hbd=>by
    have h1:=Xp.1 hb j (Xy.2 hj)
    rw[Array.getElem?_eq_getElem hj] at h1
    have h2:=Array.all_eq_true'.1 h1 e he
    rw[Ys,Yi] at h2
    rcases h2 with h2 | h2
    ·rw[hbd] at h2;cases h2
    ·exact ih e.on h2 (by omega)⟩
   rw[hr] at Mq;cases Mq
theorem qcC(J:(Nat->Bool)->Act->World->Prop)(hb:bP ops=true)
  (eJ:∀(j:Nat)(o:Oper)(L:Nat->Bool)(a:Act)(w:World),ops[j]? = some o->L j=false->(∀ e∈o.after,Region.binds .any e=true->L e.on=true)->J L a w->wpOp P ops (Q0 K) j (fun a' w'=>J (gP L j) a' w') a w)
  (qnS:∀(L:Nat->Bool)(a:Act)(w:World),(∀ j<ops.size,L j=true)->J L a w->K a w) :
  ∀(fuel:Nat)(listed:Array Bool)(a:Act)(w:World),listed.size=ops.size->listed.toList.count false<=fuel->J (fun i=>listed.getD i false) a w->wpAny P .any ops (Q0 K) fuel listed a w
 |0,listed,a,w,hs,hc,hJ=>by
  have hr:Region.ready .any ops listed=[]:=by
   apply List.eq_nil_iff_forall_not_mem.2;intro j hj;have h1:=(mem_ready.1 hj).1;have Hp:j<listed.size:=by
    rcases Nat.lt_or_ge j listed.size with h | h
    ·exact h
    ·simp only[Array.getD,show ¬ j<listed.size by omega,dif_neg,not_false_eq_true] at h1;cases h1
   have h2:listed[j]=false:=by simpa[Array.getD,Hp] using h1
   have:0<listed.toList.count false:=List.count_pos_iff.2 (by rw[<-h2];exact Array.getElem_mem_toList Hp);omega
  exact⟨hr,rfl,qnS _ _ _ (zK hb hs hr) hJ⟩
 |fuel+1,listed,a,w,hs,hc,hJ=>by
  refine⟨fun hr=>⟨rfl,qnS _ _ _ (zK hb hs hr) hJ⟩,fun j hj=>?_⟩;obtain⟨h1,o,ho,Vj⟩:=mem_ready.1 hj;have Hp:j<listed.size:=by
   rw[hs];exact (gl ho)
  have h2:listed[j]=false:=by simpa[Array.getD,Hp] using h1
  refine wpOp_mono (fun a' w' hJ'=>?_) (eJ j o _ a w ho (by simpa[Array.getD,Hp] using h2) Vj hJ);refine qcC J hb eJ qnS fuel _ a' w' (by simpa using hs) ?_ ?_
  ·rw[Array.toList_setIfInBounds,List.count_set (by simpa using Hp)];have h3:(listed.toList[j]'(by simpa using Hp)==false)=true:=by simpa using h2
   rw[h3];have:0<listed.toList.count false:=List.count_pos_iff.2 (by rw[<-h2];exact Array.getElem_mem_toList Hp);rw[if_pos rfl,if_neg (by decide)];omega
  ·have e:(fun i=>(listed.setIfInBounds j true).getD i false)=gP (fun i=>listed.getD i false) j:=by
    funext i
    by_cases hij:i=j
    ·subst hij;simp[gP,Array.getD,Hp]
    ·rw[qcD hij,getD_set_ne false (Ne.symm hij)]
   rw[e];exact hJ'
theorem wp_anyInv{id:Nat}{Q:Exit->Act->World->Prop}{a:Act}{w:World}{l:List Oper}(J:(Nat->Bool)->Act->World->Prop)(hm:P.follows .mixedOrders=true)(hb:bP l.toArray=true)(h0:J (fun _=>false) a w.drew)
  (eJ:∀(j:Nat)(o:Oper)(L:Nat->Bool)(a:Act)(w:World),l[j]? = some o->L j=false->(∀ e∈o.after,Region.binds .any e=true->L e.on=true)->J L a w->∀(J':(Nat->Bool)->Act->World->Prop)(Q':Exit->Act->World->Prop),(∀ L a w,J L a w->J' L a w)->(∀ a' w',J' (gP L j) a' w'->Q' .normal a' w')->wpList P l.toArray Q' [o] a w)
  (qnS:∀(L:Nat->Bool)(a:Act)(w:World),(∀ j<l.length,L j=true)->J L a w->Q .normal a w):(Code.region id l.toArray true).wp P Q a w:=by
 refine Code.wp_mono (Q:=Q0 fun a w=>Q .normal a w) ?_ (wp_region_any hm ?_)
 ·rintro e a w ⟨rfl,h⟩;exact h
 ·refine qcC J hb (fun j o L a w ho hL hd hJ=>node_U ho fun Q' hQ'=>eJ j o L a w (by simpa using ho) hL hd hJ J Q' (fun _ _ _ h=>h) hQ') (fun L a w Vj hJ=>qnS L a w (by simpa using Vj) hJ) _ _ _ _ (by simp) (by simp) ?_;have e:(fun i=>(Array.replicate l.toArray.size false).getD i false)=fun _=>false:=by
   funext i
   simp only[Array.getD];split <;> simp
  rw[e];exact h0
end Go.Proofs.YtmaojnmnbpomeaaGreatDoor.TextU
namespace Go.Proofs.YtmaojnmnbpomeaaGreatDoor
open Go.RowKit Go.Sort
theorem fx{w:World}{g n o:Nat}{os:Array Obj}{cur:Array Value}{e:TypeId}{fr:Nat×Nat}(d:Array (List UInt8))(hb:w.heap[g]? = some (.cells cur e fr)) :
  (Go.Sort.grow (putRow encStr (Sort.ahead w n) g o d) os).heap[g]? = some (.cells (putCells encStr o d cur) e fr):=by
 have hg:g<w.heap.size:=(gl hb);rw[heap_grow_old _ _ (by simpa using hg)];simp[putRow,mapBlock,Sort.ahead,Xx,hb,onCells]
theorem pO{w:World}{g n o:Nat}{os:Array Obj}(d:Array (List UInt8)):w.grownBy (Go.Sort.grow (putRow encStr (Sort.ahead w n) g o d) os) (some g):=by
 refine⟨rfl,rfl,rfl,by simp,fun k hk hne=>?_⟩;rw[heap_grow_old _ _ (by simpa using hk)];have:g≠k:=fun e=>hne (by rw[e]);simp[putRow,mapBlock,Sort.ahead,Xx,this]
theorem rG(cur:Array Value)(x:Wd)(xs ts:List Wd)(hl:ts.length=xs.length)(h:xs.length+1<=cur.size)(h0:cur.toList.take (xs.length+1)=Zp (x::xs)):(putCells encStr 1 ts.toArray cur).toList.take (xs.length+1)=Zp (x::ts):=by
 apply List.ext_getElem?;intro j;by_cases hj:j<xs.length+1
 ·rw[List.getElem?_take_of_lt hj,Array.getElem?_toList];have Hp:j<cur.size:=by omega
  cases j with
  |zero =>
   have h1:(cur.toList.take (xs.length+1))[0]? = (Zp (x::xs))[0]? := by rw[h0]
   rw[List.getElem?_take_of_lt (by omega),Array.getElem?_toList] at h1;simp[putCells,h1,Zp]
  |succ i =>
   have hi:i<ts.length:=by omega
   simp[putCells,Hp,Zp,hi,show 1+ts.length>i+1 by omega,encStr]
 ·rw[List.getElem?_take_eq_none (by omega),Xf (by simp[Zp];omega)]
def q_(base:Nat)(A:Option Addr)(c:Nat)(x:Wd)(xs:List Wd)(w:World)(e:Ending)(w':World):Prop :=
 e=.returned (.tuple #[])/\w'.ownsRow base 9 1 (.slice A (xs.length+1) c) (xs.length+1) (Zp (x::Jp xs))/\w.grownBy w' (Value.slice A (xs.length+1) c).ownBlock
theorem dv(base:Nat)(A:Option Addr)(c:Nat)(x:Wd)(xs:List Wd)(w:World)(h:w.ownsRow base 9 1 (.slice A (xs.length+1) c) (xs.length+1) (Zp (x::xs)))(hn:xs.length<4611686018427387904) :
  Calls Tryz.prog 75 #[.slice (if c=1 then A else A.map (·.add 1)) xs.length (c - 1)] w (q_ base A c x xs w):=by
 rcases Nat.eq_zero_or_pos xs.length with h0 | h0
 ·have hx:xs=[]:=Xv h0;subst hx;refine (Tryz.slices_Sort_string_none _ _ w).mono ?_;rintro e w' ⟨rfl,rfl⟩;exact⟨rfl,by simpa[Jp] using h,rfl,rfl,rfl,Xz _,fun _ _ _=>rfl⟩
 ·rcases h.2 with ⟨_,h1⟩ | ⟨g,cap,cur,hv,hbase,hb,h1,h2,h3,h4⟩
  ·omega
  ·injection hv with e1 e2 e3;subst e1 e3;rw[if_neg (by omega)];rw[Yq] at h3 h4;have hH:Holds encStr w g 1 xs.toArray:=by
    intro j hj;have Hp:j<xs.length:=by simpa using hj
    refine⟨?_,by simp[World.frozen?,hb]⟩;have h5:(cur.toList.take (xs.length+1))[1+j]? = (Zp (x::xs))[1+j]? := by rw[h4]
    rw[List.getElem?_take_of_lt (by omega),Array.getElem?_toList] at h5;rw[Za _ _ _ _ _ _ hb,h5,Nat.add_comm 1 j];simp[Zp,Hp,encStr]
   have:=Tryz.slices_Sort_string g 1 (c - 1) xs w hH (gl hb) hn;refine Calls.mono this ?_;rintro e w' ⟨rfl,n,os,rfl⟩;refine⟨rfl,⟨by simp[Zp,Ey],.inr ⟨g,c,_,rfl,hbase,fx _ hb,h1,h2,by simpa[putCells] using h3,?_⟩⟩,pO _⟩;rw[Yq];exact rG cur x xs _ (Ey xs) (by omega) h4
open Go.RowKit
theorem qs(l l':List Wd){i:Nat}(h:i<l.length):(l.map fun x=>((l'.idxOf x:Nat):Int)).getD i 0=((l'.idxOf (l.getD i []):Nat):Int):=by
 simp[h]
theorem qsW(ns ts xP Em:List Wd){s:Int}(h:Vz ns.length ts.length s) :
  (if s<0 then -1 - (ts.map fun x=>((Em.idxOf x:Nat):Int)).getD (-1 - s).toNat 0 else (ns.map fun x=>((xP.idxOf x:Nat):Int)).getD s.toNat 0)=Fv ns ts xP Em s:=by
 unfold Fv;obtain⟨h1,h2⟩:=h;by_cases hs:s<0
 ·rw[if_pos hs,if_pos hs,qs ts Em (by omega)]
 ·rw[if_neg hs,if_neg hs,qs ns xP (by omega)]
def zmK(ns ts:List Wd)(rs:List Jj)(w:World)(e:Ending)(w':World):Prop :=
 ∃ u1 u2 u3,e=.returned (.agg #[u1,u2,u3])/\Jb eW w' w'.heap.size u1 (Wq ns)/\Jb eW w' w'.heap.size u2 (Jp ts)/\Jb Kx w' w'.heap.size u3 (mN ns ts rs)/\Below w.heap.size w w'
theorem Ep{P:Program}{w:World}{g:Nat}{ty:TypeId}{vs:List Value}{v:Value}(hv:v.cells=vs.toArray)(hi:(P.info? ty).map (·.size)=some vs.length){cur:Array Value}{t:TypeId}(hg:w.heap[g]? = some (.cells cur t (0,0)))
  (hl:vs.length=cur.size) (h1:∀ u∈vs,u.oneCell'=true):(Instr.storeAt ty (.pointer (some ⟨g,0,none⟩)) v).run P w=.ok () (w.setRow g vs.toArray):=by
 rw[cQ hv hi hg (by omega) h1];congr 2;simp[List.drop_eq_nil_of_le (show cur.toList.length<=vs.length by simp;omega)]
structure Rj(P:Nat)(w w':World):Prop where
 size:w.heap.size<=w'.heap.size
 os:w'.os=w.os
 tape:w'.tape=w.tape
 output:w'.output=w.output
 block:∀ k<w.heap.size,k≠P->w'.heap[k]? = w.heap[k]?
structure Oe(w7:World)(P:Nat)(u1 u2:Value)(l:List Jj)(v3:Value)(wr:World):Prop where
 row:wr.heap[P]? = some (.cells #[u1,u2,v3] 25 (0,0))
 own:Mg Gv 63 wr w7.heap.size v3 l
 keep:Rj P w7 wr
def Sy(w:World)(B:Nat)(x:Value)(cs:Array Value)(T:TypeId):Prop:=∃ b,x=.pointer (some ⟨b,0,none⟩)/\B<=b/\w.heap[b]? = some (.cells cs T (0,0))
theorem Wf{w w':World}{B:Nat}{x:Value}{cs:Array Value}{T:TypeId}(h:Sy w B x cs T)(hb:Below w.heap.size w w'):Sy w' B x cs T:=by
 obtain⟨b,h1,h2,h3⟩:=h;exact⟨b,h1,h2,(hb.block b (gl h3)).trans h3⟩
theorem qJ(w:World){B:Nat}(cs:Array Value)(T:TypeId)(h:B<=w.heap.size):Sy (w.alloc (.cells cs T)) B (.pointer (some ⟨w.heap.size,0,none⟩)) cs T:=⟨_,rfl,h,Xn w _⟩
theorem Dg{ts:List TypeId}{w:World}{g:Nat}{cs cs':Array Value}{T:TypeId}(h:w.heap[g]? = some (.cells cs T (0,0)))(hT:T∉ts):Jq ts w (w.setRow g cs'):=by
 refine⟨by simp[World.setRow],fun k cur t ht hk=>?_⟩;rw[setRow_other w g k cs' ?_]
 ·exact hk
 ·intro e;subst e;rw[h] at hk;injection hk with hk;injection hk with _ hk;exact hT (hk ▸ ht)
theorem cg{w:World}{B b:Nat}{x:Value}{cs:Array Value}{T:TypeId}(h:Sy w B x cs T)(hne:Value.pointer (some ⟨b,0,none⟩)≠x)(cs':Array Value):Sy (w.setRow b cs') B x cs T:=by
 obtain⟨g,rfl,h2,h3⟩:=h;exact⟨g,rfl,h2,(setRow_other w b g cs' (fun e=>hne (by rw[e]))).trans h3⟩
theorem zN{w w':World}{base size n:Nat}{e:TypeId}{v:Value}{xs:List Value}{r:Option Nat}(h:w.ownsRow base e size v n xs)(hg:w.grownBy w' r)(hne:∀ k,v.ownBlock=some k->r≠some k):w'.ownsRow base e size v n xs:=by
 refine⟨h.1,?_⟩;rcases h.2 with h' | ⟨g,cap,cur,rfl,hb,hh,q⟩
 ·exact .inl h'
 ·exact .inr ⟨g,cap,cur,rfl,hb,(hg.block g (gl hh) (fun e=>hne g rfl e.symm)).trans hh,q⟩
def Im(w:World)(B:Nat)(x y:Value)(m:Nat)(cs:List Value):Prop:=∃ M,B<=M/\(∀ k,x.ownBlock=some k->k<M)/\w.ownsRow M 9 1 y m cs
theorem Pu{w w':World}{B m:Nat}{x y:Value}{cs:List Value}(h:Im w B x y m cs)(hk:Jq [9] w w'):Im w' B x y m cs:=by
 obtain⟨M,h1,h2,h3⟩:=h;exact⟨M,h1,h2,Vc h3 hk (by simp)⟩
theorem Rj.T{P:Nat}{w w':World}{cs:Array Value}{T:TypeId}{ts:List TypeId}(h:Rj P w w')(hP:w.heap[P]? = some (.cells cs T (0,0)))(hT:T∉ts):Jq ts w w' :=
 ⟨h.size,fun g cur t ht hg=>(h.block g (gl hg) (fun e=>by
  subst e
  rw[hP] at hg
  injection hg with hg
  injection hg with _ hg
  subst hg
  exact absurd ht hT)).trans hg⟩
theorem Rj.trans{P:Nat}{a b c:World}(h:Rj P a b)(k:Rj P b c):Rj P a c:=⟨Ya h.size k.size,k.os.trans h.os,k.tape.trans h.tape,k.output.trans h.output,fun i hi hn=>(k.block i (Yb hi h.size) hn).trans (h.block i hi hn)⟩
theorem Rj.of_below{P N:Nat}{w w':World}(h:Below N w w')(hN:w.heap.size<=N):Rj P w w':=⟨h.size,h.os,h.tape,h.output,fun k hk _=>h.block k (Yb hk hN)⟩
theorem Is{ts:List TypeId}{w:World}{g k:Nat}{cs:Array Value}{T:TypeId}(h:w.heap[g]? = some (.cells cs T (0,0)))(hT:T∉ts)(v:Value):Jq ts w (w.setCell ⟨g,k,none⟩ v):=by
 refine⟨by simp[World.setCell],fun j cur t ht hj=>?_⟩;rw[Yz _ _ _ _ ?_]
 ·exact hj
 ·intro e;subst e;rw[h] at hj;injection hj with hj;injection hj with _ hj;exact hT (hj ▸ ht)
theorem mC{w:World}{g k:Nat}{cs:Array Value}{T:TypeId}(h:w.heap[g]? = some (.cells cs T (0,0)))(v:Value):(w.setCell ⟨g,k,none⟩ v).heap[g]? = some (.cells (cs.setIfInBounds k v) T (0,0)):=by
 simp only[World.setCell,Xx,if_true,h,Option.map_some];rfl
structure ue(w2:World)(b9:Nat)(M0:Int)(l:List Int)(v9:Value)(wz:World):Prop where
 row:wz.heap[b9]? = some (.cells #[.int .i64 M0,v9] 63 (0,0))
 own:Mg Oz 3 wz (b9+1) v9 l
 keep:Below b9 w2 wz
theorem ue.snoc{w2 wz w3 w4:World}{b9:Nat}{M0 m:Int}{l:List Int}{v9 v':Value}{css:List (List Value)}(h:ue w2 b9 M0 l v9 wz)(hb:Below wz.heap.size wz w3)(h0:w3.ownsRow (b9+1) 3 1 v9 l.length css.flatten)(h2:css.length=l.length)
  (h3:∀(i:Nat)(cs:List Value)(x:Int),css[i]? = some cs->l[i]? = some x->Oz.rep w3 (b9+1) cs x) (hm:-9223372036854775808<=m/\m<=9223372036854775807) (ho:w4.ownsRow (b9+1) 3 1 v' (l.length+1) (css.flatten++[.int .i64 m])) (hg:w3.grownBy w4 v9.ownBlock) :
  ue w2 b9 M0 (l++[m]) v' (w4.setCell ⟨b9,1,none⟩ v'):=by
 have hz:=(gl h.row);have hr3:=(hb.block b9 hz).trans h.row;have hr4:=Jd h0 hg hr3 (by decide);have hk:=Is (ts:=[3]) (k:=1) hr4 (by decide) v';refine⟨mC hr4 v',(Mg.snoc (O:=Oz) (by simp[Oz,zV]) h0 h2 h3 ⟨rfl,hm⟩ ho hg).keep hk,?_⟩;have hb3:Below b9 w2 w3:=h.keep.trans (hb.mono (Yf hz));exact (Zr hb3 hg h0 (Yg _) (Ya (Yf hz) hb.size)).setCell (p:=⟨b9,1,none⟩) (Xz _) v'
theorem Oe.snoc{w7 wr w3 w4:World}{P:Nat}{u1 u2 v3 v' v9:Value}{l:List Jj}{r:Jj}{M0:Int}{css:List (List Value)}(h:Oe w7 P u1 u2 l v3 wr)(_hP:P<w7.heap.size)(hb:Below wr.heap.size wr w3)(h0:w3.ownsRow w7.heap.size 63 2 v3 l.length css.flatten)(h2:css.length=l.length)
  (h3:∀(i:Nat)(cs:List Value)(x:Jj),css[i]? = some cs->l[i]? = some x->Gv.rep w3 w7.heap.size cs x) (hx:Gv.rep w3 w7.heap.size [.int .i64 M0,v9] r) (ho:w4.ownsRow w7.heap.size 63 2 v' (l.length+1) (css.flatten++[.int .i64 M0,v9])) (hg:w3.grownBy w4 v3.ownBlock) :
  Oe w7 P u1 u2 (l++[r]) v' (w4.setCell ⟨P,2,none⟩ v'):=by
 have hz:=(gl h.row);have hr3:=(hb.block P hz).trans h.row;have hr4:=Jd h0 hg hr3 (by decide);have hk:=Is (ts:=[63,3]) (k:=2) hr4 (by decide) v';refine⟨mC hr4 v',(Mg.snoc (O:=Gv) (by decide) h0 h2 h3 hx ho hg).keep hk,?_⟩;have Fd:=(w4.setCell ⟨P,2,none⟩ v').heap.size;refine⟨Ya h.keep.size (Ya hb.size (Ya hg.size (by simp[World.setCell]))),(hg.os.trans hb.os).trans h.keep.os,(hg.tape.trans hb.tape).trans h.keep.tape,(hg.output.trans hb.output).trans h.keep.output,fun k hk hn=>?_⟩;rw[Yz _ _ _ _ hn];have hkr:=Yb hk h.keep.size;refine (hg.block k (Yb hkr hb.size) fun e=>?_).trans ((hb.block k hkr).trans (h.keep.block k hk hn));have:=(h0.lt k e.symm).1;omega
theorem Zs{w:World}{g:Nat}{a b c:Value}{t:TypeId}{fr:Nat×Nat}(h:w.heap[g]? = some (.cells #[a,b,c] t fr)):w.cell? ⟨g,0,none⟩=some a/\w.cell? ⟨g,1,none⟩=some b/\w.cell? ⟨g,2,none⟩=some c:=by
 refine⟨?_,?_,?_⟩ <;> (rw[Za _ _ _ _ _ _ h];rfl)
theorem Lk:Ev Tryz.prog 23 63 2 32 (.agg #[.int .i64 0,.slice none 0 0]):=Sv (by kernel_rfl) (by kernel_rfl) rfl (by omega)
theorem sG{fn:Func}{p:Tmp}{Q:Ending->World->Prop}(h:fn.results=#[.cell p 25]){a:Act}{w:World}{g:Nat}{c0 c1 c2:Value}{t:TypeId}{fr:Nat×Nat}(hd:a.defers=[])(hp:a.tmps.getD p undef=.pointer (some ⟨g,0,none⟩))
  (hg:w.heap[g]? = some (.cells #[c0,c1,c2] t fr)) (hq:Q (.returned (.agg #[c0,c1,c2])) w):bodyPost Tryz.prog fn Q .ret a w :=
 Ze (v:=.agg #[c0,c1,c2]) (results_cell_row h _ w g t _ fr _ hp hg Tryz.underlying25 rfl (by kernel_rfl)) hd hq
def zxR(ns ts:List Wd)(rs:List Jj)(w:World)(e:Ending)(w':World):Prop :=
 ∃ u1 u2 u3,e=.returned (.agg #[u1,u2,u3])/\(∀ w'':World,(∀ b,w.heap.size<=b->b<w'.heap.size->w''.heap[b]? = w'.heap[b]?)->Jb eW w'' w''.heap.size u1 (Wq ns)/\Jb eW w'' w''.heap.size u2 (Jp ts)/\Jb Kx w'' w''.heap.size u3 (mN ns ts rs))/\Below w.heap.size w w'
theorem Ow{w w':World}{N base:Nat}{e:TypeId}{size:Nat}{v:Value}{n:Nat}{xs:List Value}(h:w.ownsRow base e size v n xs)(hN:N<=base)(hw:∀ b,N<=b->b<w.heap.size->w'.heap[b]? = w.heap[b]?):w'.ownsRow base e size v n xs:=by
 refine⟨h.1,?_⟩;rcases h.2 with h' | ⟨g,cap,cur,rfl,hg,hh,r⟩
 ·exact .inl h'
 ·exact .inr ⟨g,cap,cur,rfl,hg,(hw g (Ya hN hg) (gl hh)).trans hh,r⟩
theorem fe{w w':World}{N base:Nat}{t:TypeId}{v:Value}{xs:List Int}(h:Mg Oz t w base v xs)(hN:N<=base)(hw:∀ b,N<=b->b<w.heap.size->w'.heap[b]? = w.heap[b]?):Mg Oz t w' base v xs:=by
 obtain⟨css,h1,h2,h3⟩:=h;exact⟨css,Ow h1 hN hw,h2,h3⟩
theorem xO{w w':World}{N base:Nat}{t:TypeId}{v:Value}{xs:List Jj}(h:Mg Gv t w base v xs)(hN:N<=base)(hw:∀ b,N<=b->b<w.heap.size->w'.heap[b]? = w.heap[b]?):Mg Gv t w' base v xs:=by
 obtain⟨css,h1,h2,h3⟩:=h;refine⟨css,Ow h1 hN hw,h2,fun i cs x hc hx=>?_⟩;obtain⟨c1,c2,e,r1,u,e2,r2⟩:=h3 i cs x hc hx;exact⟨c1,c2,e,r1,u,e2,fe r2 hN hw⟩
theorem f_(v1 v2 v3:Value)(ns ts:List Wd)(rs:List Jj)(w:World)(hg:Il (ns.map Ki,ts.map Ki,rs))(h1:Jb Mc w w.heap.size v1 (ns.map Ki))(h2:Jb Mc w w.heap.size v2 (ts.map Ki))(h3:Jb Kx w w.heap.size v3 rs) :
  Calls Tryz.prog 29 #[.agg #[v1,v2,v3]] w (zxR ns ts rs w):=by
 obtain⟨A1,c1,rfl,kP,oN⟩:=h1.form;obtain⟨A2,c2,rfl,hb1,Zy⟩:=h2.form;obtain⟨A3,c3,rfl,iB,jJ⟩:=h3.form;unfold maxLen at oN Zy jJ;simp only[Qk] at h1 h2 kP hb1 |-;have kG:=Lh hg;have H1:=Lh h1;have H2:=Lh h2;have H3:=Lh h3;clear h1 h2 h3 hg;obtain⟨n,xY⟩:=Xe ns.length;obtain⟨m,pu⟩:=Xe ts.length;obtain⟨q,hqq⟩:=Xe rs.length;rw[<-xY] at H1 kP |-;rw[<-pu] at H2 hb1 |-;rw[<-hqq] at H3 iB |-;have bY:=Lh xY;have Ha:=Lh pu;have HQQ:=Lh hqq;have hnm:n+m<=256:=by have:=kG.o.nm;simp only[Qk] at this;omega
 have hn1:1<=n:=by have:=kG.o.n1;simp only[Qk] at this;omega
 have hq4:q<=4096:=by have:=kG.o.q;simp only at this;omega
 clear xY pu hqq;obtain⟨S,hS⟩:=Xe w.heap.size;have HS:=Lh hS;have HB1:=Lh (show Below S w ((w.alloc (.cells #[.slice A1 n c1,.slice A2 m c2,.slice A3 q c3] 25)).alloc (.cells #[.slice none 0 0,.slice none 0 0,.slice none 0 0] 25)) from
  ((Xr S w).alloc (Yh hS) _).alloc (by rw[Xs];omega) _)
 have HG1:=Lh (show ((w.alloc (.cells #[.slice A1 n c1,.slice A2 m c2,.slice A3 q c3] 25)).alloc (.cells #[.slice none 0 0,.slice none 0 0,.slice none 0 0] 25)).heap[S]? = some (.cells #[.slice A1 n c1,.slice A2 m c2,.slice A3 q c3] 25 (0,0)) by
  rw[Zc _ _ _ (by rw[Xs];omega),hS]
  exact Xn w _)
 have HR1:=Lh (show ((w.alloc (.cells #[.slice A1 n c1,.slice A2 m c2,.slice A3 q c3] 25)).alloc (.cells #[.slice none 0 0,.slice none 0 0,.slice none 0 0] 25)).heap[S+1]? = some (.cells #[.slice none 0 0,.slice none 0 0,.slice none 0 0] 25 (0,0)) by
  have:=Xn (w.alloc (.cells #[.slice A1 n c1,.slice A2 m c2,.slice A3 q c3] 25)) (.cells #[.slice none 0 0,.slice none 0 0,.slice none 0 0] 25)
  rwa [Xs,<-hS] at this)
 rw[<-hS] at H1 H2 H3;have qqF:=Lh (fun(W:World)(hb:Below S w W)(hs:S<=W.heap.size)=>Sk (.slice A1 n c1) (.slice A2 m c2) (.slice A3 q c3) (ns.map Ki) (ts.map Ki) rs W (by simp only[Qk];rw[<-bY.o,<-Ha.o];omega) (H1.o.fut hb (Xz _) hs) (H2.o.fut hb (Xz _) hs) (H3.o.fut hb (Xz _) hs));go_enter Tryz.func29,Tryz.ntmps29;go_wp2_with fail;rw[<-hS];clear hS;generalize (w.alloc (.cells #[.slice A1 n c1,.slice A2 m c2,.slice A3 q c3] 25)).alloc (.cells #[.slice none 0 0,.slice none 0 0,.slice none 0 0] 25)=w1 at *;have HZ1:Hid (S+1<w1.heap.size):=(gl HR1.o);refine (qqF.o w1 HB1.o (by have:=HZ1.o;omega)).mono ?_;rintro e w2 ⟨rfl,Zy⟩;rw[(Gf _).2 kG.o];have HB2:=Lh (HB1.o.trans (Zy.mono (by have:=HZ1.o;omega)));have HG2:=Lh ((Zy.block S (by have:=HZ1.o;omega)).trans HG1.o);have HR2:=Lh ((Zy.block (S+1) HZ1.o).trans HR1.o);have HZ2:=Lh (Yb HZ1.o Zy.size);clear Zy HB1 HG1 HR1 HZ1 qqF;go_wp2_with fail;have kH:Hid (w2.drew.heap[S]? = _):=HG2.o;have HR3:Hid (w2.drew.heap[S+1]? = _):=HR2.o;have HB3:Hid (Below S w w2.drew):=HB2.o.drew;have La:Hid (S+1<w2.drew.heap.size):=HZ2.o;clear HG2 HR2 HB2 HZ2;refine TextU.wp_anyInv (fun L a' w'=>∃ x3 x16 x17 kj x19 x20 x21 x22:Value,a'=⟨List.toArray (.agg #[.slice A1 n c1,.slice A2 m c2,.slice A3 q c3]::.pointer (some ⟨S,0,none⟩)::.pointer (some ⟨S+1,0,none⟩)::x3::undef::undef::undef::undef::undef::undef::undef::undef::.agg #[.slice A1 n c1,.slice A2 m c2,.slice A3 q c3]::.bool true::.bool false::undef::x16::x17::kj::x19::x20::x21::x22::undef::undef::undef::undef::undef::undef::undef::undef::undef::undef::undef::undef::undef::undef::undef::undef::undef::undef::undef::undef::undef::undef::undef::undef::undef::undef::undef::undef::undef::undef::undef::undef::undef::undef::undef::undef::undef::undef::undef::undef::undef::undef::undef::undef::undef::undef::undef::undef::undef::undef::undef::undef::undef::undef::undef::undef::undef::[]),[]⟩/\Hid (Below w2.drew.heap.size w2.drew w')/\(L 0=true->x16=.pointer (some ⟨S,0,none⟩))/\(L 1=true->x17=.slice A1 n c1)/\(L 2=true->w'.ownsRow w2.drew.heap.size 9 1 kj n (Zp ns))/\(L 3=true->x19=.pointer (some ⟨S,1,none⟩))/\(L 4=true->x20=.slice A2 m c2)/\(L 5=true->Im w' w2.drew.heap.size kj x21 m (Zp ts))/\(L 6=true->x22=.agg #[kj,x21,.slice none 0 0]) /\
  (L 7=true->L 8=false->Sy w' w2.drew.heap.size x3 #[.slice none 0 0,.slice none 0 0,.slice none 0 0] 25) /\
  (L 8=true->Sy w' w2.drew.heap.size x3 #[kj,x21,.slice none 0 0] 25)/\Hid (L 6=true->L 2=true/\L 5=true)/\Hid (L 8=true->L 7=true/\L 6=true)/\Hid (L 5=true->L 2=true)) (by kernel_rfl) (by kernel_rfl) ?_ ?_ ?_
 ·exact⟨undef,undef,undef,undef,undef,undef,undef,undef,rfl,Xr _ _,by simp,by simp,by simp,by simp,by simp,by simp,by simp,by simp,by simp,by simp[Hid],by simp[Hid],by simp[Hid]⟩
 ·have yQ:=Lh (show ∀ W,Below w2.drew.heap.size w2.drew W->Calls Tryz.prog 74 #[.slice A1 n c1] W (jt W ns) from fun W hb=>by
   have h:=mL A1 c1 ns W (xB (by
    have:=H1.o.fut (HB3.o.trans (hb.mono (show S<=w2.drew.heap.size by have:=La.o;omega))) (Xz _) (B':=W.heap.size) (Ya (show S<=w2.drew.heap.size by have:=La.o;omega) hb.size)
    rwa [bY.o] at this)) (by rw[<-bY.o];omega)
   rwa [<-bY.o] at h)
  have nA:=Lh (show ∀ W,Below w2.drew.heap.size w2.drew W->Calls Tryz.prog 74 #[.slice A2 m c2] W (jt W ts) from fun W hb=>by
   have h:=mL A2 c2 ts W (xB (by
    have:=H2.o.fut (HB3.o.trans (hb.mono (show S<=w2.drew.heap.size by have:=La.o;omega))) (Xz _) (B':=W.heap.size) (Ya (show S<=w2.drew.heap.size by have:=La.o;omega) hb.size)
    rwa [Ha.o] at this)) (by rw[<-Ha.o];omega)
   rwa [<-Ha.o] at h)
  generalize w2.drew=w3 at *;intro j o L a' w' hj hL hd hJ J' Q' hJ' hQ';have HJ:=Lh hJ';clear hJ';have hj9:j<9:=(Qj.1 hj).1;obtain⟨x3,x16,x17,kj,x19,x20,x21,x22,rfl,HB,f0,f1,f2,f3,f4,f5,f6,f7,f8,f9,f10,f11⟩:=hJ;obtain rfl | rfl | rfl | rfl | rfl | rfl | rfl | rfl | rfl:j=0\/j=1\/j=2\/j=3\/j=4\/j=5\/j=6\/j=7\/j=8:=by omega
  all_goals
   injection hj with hj;subst hj
  ·go_wp2_with fail;refine HJ.o _ _ _ ⟨_,_,_,_,_,_,_,_,rfl,HB,?_,?_,?_,?_,?_,?_,?_,?_,?_,?_,?_,?_⟩
   all_goals first | exact fun _=>rfl | exact fun h=>Xo (f11.o (Xb h)) | (intro h;replace h:=Xb h;first | exact f0 h | exact f1 h | exact f2 h | exact f3 h | exact f4 h | exact f5 h | exact f6 h | exact f8 h) | exact fun h h'=>f7 (Xb h) (TextU.andL_off h') | exact fun h=>⟨Xo (f9.o (Xb h)).1,Xo (f9.o (Xb h)).2⟩ | exact fun h=>⟨Xo (f10.o (Xb h)).1,Xo (f10.o (Xb h)).2⟩
  ·obtain rfl:=f0 (hd ⟨0,.data⟩ (by simp) rfl);have hc:w'.cell? ⟨S,0,none⟩=some (.slice A1 n c1):=by rw[Za _ _ _ _ _ _ ((HB.o.block S (by have:=La.o;omega)).trans kH.o)];rfl
   go_wp2_with fail;refine HJ.o _ _ _ ⟨_,_,_,_,_,_,_,_,rfl,HB,?_,?_,?_,?_,?_,?_,?_,?_,?_,?_,?_,?_⟩
   all_goals first | exact fun _=>rfl | exact fun h=>Xo (f11.o (Xb h)) | (intro h;replace h:=Xb h;first | exact f0 h | exact f1 h | exact f2 h | exact f3 h | exact f4 h | exact f5 h | exact f6 h | exact f8 h) | exact fun h h'=>f7 (Xb h) (TextU.andL_off h') | exact fun h=>⟨Xo (f9.o (Xb h)).1,Xo (f9.o (Xb h)).2⟩ | exact fun h=>⟨Xo (f10.o (Xb h)).1,Xo (f10.o (Xb h)).2⟩
  ·obtain rfl:=f1 (hd ⟨1,.data⟩ (by simp) rfl);have HC:=Lh (yQ.o w' HB.o);go_wp2_with fail;refine HC.o.mono ?_;rintro e w'' ⟨v,rfl,ho,hb⟩;have HBX:=Lh (HB.o.trans (hb.mono HB.o.size));have g:=Nc ho HB.o.size;rw[<-bY.o] at g;have G:=Lh g;have f7:=fun h h'=>Wf (f7 h h') hb;have f8:=fun h=>Wf (f8 h) hb;clear ho hb g;go_wp2_with fail;refine HJ.o _ _ _ ⟨_,_,_,_,_,_,_,_,rfl,HBX.o,?_,?_,?_,?_,?_,?_,?_,?_,?_,?_,?_,?_⟩
   all_goals first | exact fun _=>rfl | exact fun h=>Xo (f11.o (Xb h)) | exact fun _=>G.o | exact fun h=>absurd (f11.o (Xb h)) (by rw[hL];decide) | exact fun h=>absurd (f9.o (Xb h)).1 (by rw[hL];decide) | exact fun h=>absurd (f9.o (f10.o (Xb h)).2).1 (by rw[hL];decide) | (intro h;replace h:=Xb h;first | exact f0 h | exact f1 h | exact f2 h | exact f3 h | exact f4 h | exact f5 h | exact f6 h | exact f8 h) | exact fun h h'=>f7 (Xb h) (TextU.andL_off h') | exact fun h=>⟨Xo (f9.o (Xb h)).1,Xo (f9.o (Xb h)).2⟩ | exact fun h=>⟨Xo (f10.o (Xb h)).1,Xo (f10.o (Xb h)).2⟩
  ·go_wp2_with fail;refine HJ.o _ _ _ ⟨_,_,_,_,_,_,_,_,rfl,HB,?_,?_,?_,?_,?_,?_,?_,?_,?_,?_,?_,?_⟩
   all_goals first | exact fun _=>rfl | exact fun h=>Xo (f11.o (Xb h)) | (intro h;replace h:=Xb h;first | exact f0 h | exact f1 h | exact f2 h | exact f3 h | exact f4 h | exact f5 h | exact f6 h | exact f8 h) | exact fun h h'=>f7 (Xb h) (TextU.andL_off h') | exact fun h=>⟨Xo (f9.o (Xb h)).1,Xo (f9.o (Xb h)).2⟩ | exact fun h=>⟨Xo (f10.o (Xb h)).1,Xo (f10.o (Xb h)).2⟩
  ·obtain rfl:=f3 (hd ⟨3,.data⟩ (by simp) rfl);have hc:w'.cell? ⟨S,1,none⟩=some (.slice A2 m c2):=by rw[Za _ _ _ _ _ _ ((HB.o.block S (by have:=La.o;omega)).trans kH.o)];rfl
   go_wp2_with fail;refine HJ.o _ _ _ ⟨_,_,_,_,_,_,_,_,rfl,HB,?_,?_,?_,?_,?_,?_,?_,?_,?_,?_,?_,?_⟩
   all_goals first | exact fun _=>rfl | exact fun h=>Xo (f11.o (Xb h)) | (intro h;replace h:=Xb h;first | exact f0 h | exact f1 h | exact f2 h | exact f3 h | exact f4 h | exact f5 h | exact f6 h | exact f8 h) | exact fun h h'=>f7 (Xb h) (TextU.andL_off h') | exact fun h=>⟨Xo (f9.o (Xb h)).1,Xo (f9.o (Xb h)).2⟩ | exact fun h=>⟨Xo (f10.o (Xb h)).1,Xo (f10.o (Xb h)).2⟩
  ·obtain rfl:=f4 (hd ⟨4,.data⟩ (by simp) rfl);have HC:=Lh (nA.o w' HB.o);go_wp2_with fail;refine HC.o.mono ?_;rintro e w'' ⟨v,rfl,ho,hb⟩;have HBX:=Lh (HB.o.trans (hb.mono HB.o.size));have l2:=hd ⟨2,.chain⟩ (by simp) rfl;have g:Im w'' w3.heap.size kj v m (Zp ts):=⟨w'.heap.size,HB.o.size,fun k hk=>((f2 l2).lt k hk).2,by rw[<-Ha.o] at ho;exact ho⟩;have G:=Lh g;have f2:=fun h=>Jk (f2 h) hb;have f7:=fun h h'=>Wf (f7 h h') hb;have f8:=fun h=>Wf (f8 h) hb;clear ho hb g;go_wp2_with fail;refine HJ.o _ _ _ ⟨_,_,_,_,_,_,_,_,rfl,HBX.o,?_,?_,?_,?_,?_,?_,?_,?_,?_,?_,?_,?_⟩
   all_goals first | exact fun _=>rfl | exact fun h=>Xo (f11.o (Xb h)) | exact fun _=>G.o | exact fun _=>Xo l2 | exact fun h=>absurd (f9.o (Xb h)).2 (by rw[hL];decide) | exact fun h=>absurd (f9.o (f10.o (Xb h)).2).2 (by rw[hL];decide) | (intro h;replace h:=Xb h;first | exact f0 h | exact f1 h | exact f2 h | exact f3 h | exact f4 h | exact f5 h | exact f6 h | exact f8 h) | exact fun h h'=>f7 (Xb h) (TextU.andL_off h') | exact fun h=>⟨Xo (f9.o (Xb h)).1,Xo (f9.o (Xb h)).2⟩ | exact fun h=>⟨Xo (f10.o (Xb h)).1,Xo (f10.o (Xb h)).2⟩
  ·obtain⟨B1,e1,rfl,_⟩:=Zk (f2 (hd ⟨2,.data⟩ (by simp) rfl));obtain⟨_,_,_,o5⟩:=f5 (hd ⟨5,.data⟩ (by simp) rfl);obtain⟨B2,e2,rfl,_⟩:=Zk o5;go_wp2_with fail;have HBX:=Lh HB.o;refine HJ.o _ _ _ ⟨_,_,_,_,_,_,_,_,rfl,HBX.o,?_,?_,?_,?_,?_,?_,?_,?_,?_,?_,?_,?_⟩
   all_goals first | exact fun _=>rfl | exact fun h=>Xo (f11.o (Xb h)) | exact fun _=>⟨Xo (hd ⟨2,.data⟩ (by simp) rfl),Xo (hd ⟨5,.data⟩ (by simp) rfl)⟩ | (intro h;replace h:=Xb h;first | exact f0 h | exact f1 h | exact f2 h | exact f3 h | exact f4 h | exact f5 h | exact f6 h | exact f8 h) | exact fun h h'=>f7 (Xb h) (TextU.andL_off h') | exact fun h=>⟨Xo (f9.o (Xb h)).1,Xo (f9.o (Xb h)).2⟩ | exact fun h=>⟨Xo (f10.o (Xb h)).1,Xo (f10.o (Xb h)).2⟩
  ·have hb:Below w'.heap.size w' (w'.alloc (.cells #[.slice none 0 0,.slice none 0 0,.slice none 0 0] 25)):=(Xr _ _).alloc (Xz _) _;have HBX:=Lh (HB.o.trans (hb.mono HB.o.size));have f2:=fun h=>Jk (f2 h) hb;have f5:=fun h=>Pu (f5 h) (Jq.of_below hb);have Ek:=Lh (qJ w' #[.slice none 0 0,.slice none 0 0,.slice none 0 0] 25 HB.o.size);clear hb;go_wp2_with fail;generalize w'.alloc (.cells #[.slice none 0 0,.slice none 0 0,.slice none 0 0] 25)=w5 at *;refine HJ.o _ _ _ ⟨_,_,_,_,_,_,_,_,rfl,HBX.o,?_,?_,?_,?_,?_,?_,?_,?_,?_,?_,?_,?_⟩
   all_goals first | exact fun _=>rfl | exact fun h=>Xo (f11.o (Xb h)) | exact fun _ _=>Ek.o | exact fun h=>absurd (f10.o (Xb h)).1 (by rw[hL];decide) | (intro h;replace h:=Xb h;first | exact f0 h | exact f1 h | exact f2 h | exact f3 h | exact f4 h | exact f5 h | exact f6 h | exact f8 h) | exact fun h h'=>f7 (Xb h) (TextU.andL_off h') | exact fun h=>⟨Xo (f9.o (Xb h)).1,Xo (f9.o (Xb h)).2⟩ | exact fun h=>⟨Xo (f10.o (Xb h)).1,Xo (f10.o (Xb h)).2⟩
  ·have l6:=hd ⟨6,.data⟩ (by simp) rfl;have l7:=hd ⟨7,.data⟩ (by simp) rfl;obtain⟨b,rfl,hbs,N_⟩:=f7 l7 hL;obtain rfl:=f6 l6;have o2:=f2 (f9.o l6).1;obtain⟨M5,m51,m52,o5⟩:=f5 (f9.o l6).2;obtain⟨B1,e1,rfl,_⟩:=Zk o2;obtain⟨B2,e2,rfl,_⟩:=Zk o5;have qS:=Lh (Dg (ts:=[9]) (cs':=[Value.slice B1 n e1,.slice B2 m e2,.slice none 0 0].toArray) N_ (by decide));have O2:=Lh (Vc o2 qS.o (by simp));have O5:=Lh (Pu (show Im w' w3.heap.size (.slice B1 n e1) (.slice B2 m e2) m (Zp ts) from ⟨M5,m51,m52,o5⟩) qS.o);have HST:=Lh (Ep (P:=Tryz.prog) (ty:=25) (vs:=[Value.slice B1 n e1,.slice B2 m e2,.slice none 0 0]) (v:=.agg #[.slice B1 n e1,.slice B2 m e2,.slice none 0 0]) rfl (by kernel_rfl) N_ rfl (by simp[Value.oneCell']));have HBX:=Lh (Zg HB.o hbs [Value.slice B1 n e1,.slice B2 m e2,.slice none 0 0].toArray);have HB8:Hid (Sy (w'.setRow b [Value.slice B1 n e1,.slice B2 m e2,.slice none 0 0].toArray) w3.heap.size (.pointer (some ⟨b,0,none⟩)) #[.slice B1 n e1,.slice B2 m e2,.slice none 0 0] 25):=⟨b,rfl,hbs,Zf _ _ _ _ _ _ N_⟩;clear o2 o5;go_wp2_with (refine Jc none rfl ?_);refine Stop.go (Zo rfl 25 rfl rfl rfl HST.o ?_);generalize w'.setRow b [Value.slice B1 n e1,.slice B2 m e2,.slice none 0 0].toArray=w5 at *;generalize ha:Act.put _ _ _=z9;simp[Act.put] at ha;subst ha;go_wp2_with fail;refine HJ.o _ _ _ ⟨_,_,_,_,_,_,_,_,rfl,HBX.o,?_,?_,?_,?_,?_,?_,?_,?_,?_,?_,?_,?_⟩
   all_goals first | exact fun _=>rfl | exact fun h=>Xo (f11.o (Xb h)) | exact fun _=>O2.o | exact fun _=>O5.o | exact fun _ h'=>absurd h' (by rw[TextU.andL_self];decide) | exact fun _=>HB8.o | exact fun _=>⟨Xo l7,Xo l6⟩ | (intro h;replace h:=Xb h;first | exact f0 h | exact f1 h | exact f3 h | exact f4 h) | exact fun h=>⟨Xo (f9.o (Xb h)).1,Xo (f9.o (Xb h)).2⟩
 ·have uf:Hid (S+1<w2.drew.heap.size):=La.o;generalize w2.drew=w3 at *;intro L a' w4 Vj hJ;obtain⟨x3,x16,x17,kj,x19,x20,x21,x22,rfl,HB,f0,f1,f2,f3,f4,f5,f6,f7,f8,f9,f10,f11⟩:=hJ;obtain rfl:=f0 (Vj 0 (by decide));obtain rfl:=f1 (Vj 1 (by decide));have HU:=Lh (f2 (Vj 2 (by decide)));obtain rfl:=f3 (Vj 3 (by decide));obtain rfl:=f4 (Vj 4 (by decide));obtain⟨MV,quK,quJ,hv⟩:=f5 (Vj 5 (by decide));have HV:=Lh hv;have HMV:=Lh (And.intro quK quJ);clear quK quJ hv;obtain rfl:=f6 (Vj 6 (by decide));obtain⟨P,rfl,hPS,hP⟩:=f8 (Vj 8 (by decide));have HP:=Lh hP;clear f0 f1 f2 f3 f4 f5 f6 f7 f8 f9 f10 f11 hP Vj;obtain⟨B1,e1,rfl,tT,Pj⟩:=Zk HU.o;obtain⟨B2,e2,rfl,hl3,hl4⟩:=Zk HV.o;unfold maxLen at Pj hl4;obtain⟨x0,xs,hns⟩:∃ x0 xs,ns=x0::xs:=by
   cases hn:ns with
   |nil=>have:=bY.o;rw[hn] at this;simp at this;omega
   |cons a b=>exact⟨a,b,rfl⟩
  have HNS:=Lh hns;have hnx:n=xs.length+1:=by have:=bY.o;rw[hns] at this;simpa using this
  have HSO:=Lt (Calls Tryz.prog 75 #[.slice (if e1=1 then B1 else B1.map (·.add 1)) (n - 1) (e1 - 1)] w4 (q_ w3.heap.size B1 e1 x0 xs w4)) (by
   have h:=HU.o
   rw[hns,hnx] at h
   have:=dv w3.heap.size B1 e1 x0 xs w4 h (by omega)
   rw[hnx]
   exact this)
  have Vi:w4.cell? ⟨P,0,none⟩=some (.slice B1 n e1):=Xc HP.o rfl;clear hns hnx;go_step;go_step;go_step
  go_cut [25] (fun _ wx=>Hid (q_ w3.heap.size B1 e1 x0 xs w4 (.returned (.tuple #[])) wx))
  case first =>
   rcases Nat.lt_or_ge 1 e1 with he | he
   ·have h:=HSO.o;rw[if_neg (show ¬ e1=1 by omega)] at h;have HSO:=Lh h;have hne:¬ e1=1:=by omega
    clear h;go_wp2_with fail;refine HSO.o.mono ?_;rintro e w5 hT;obtain rfl:=hT.1;have HT:=Lh hT;clear hT;go_wp2_with fail
    go_meet
    exact HT.o
   ·obtain rfl:e1=1:=by omega
    have h:=HSO.o;rw[if_pos rfl] at h;obtain rfl:n=1:=by omega
    have HSO:=Lh h;clear h;go_wp2_with fail;refine HSO.o.mono ?_;rintro e w5 hT;obtain rfl:=hT.1;have HT:=Lh hT;clear hT;go_wp2_with fail
    go_meet
    exact HT.o
  case rest =>
   have hnx:n=xs.length+1:=by have:=bY.o;rw[HNS.o] at this;simpa using this
   have ziO:Wq ns=x0::Jp xs:=by rw[HNS.o];rfl
   obtain⟨_,hu5,Co⟩:=hcut.o;rw[<-ziO,<-hnx] at hu5;rw[<-hnx] at Co;have HU5:=Lh hu5;have vU:=Lh (zN HV.o Co fun k hk e=>by
    have h1:=HMV.o.2 k e
    have h2:=(HV.o.lt k hk).1
    omega)
   have HP5:=Lh (Jd HU.o Co HP.o (by decide));have HB5:=Lh (Zr HB.o Co HU.o (Xz _) HB.o.size);clear hu5 Co hcut HSO HU HV HP Vi hnx ziO;generalize wc=w5 at *;have hc1:w5.cell? ⟨P,1,none⟩=some (.slice B2 m e2):=Xc HP5.o rfl;have HSO:Hid (Calls Tryz.prog 75 #[.slice B2 m e2] w5 (qpX w5 MV (.slice B2 m e2) ts)):=lp MV (.slice B2 m e2) ts w5 (by have h:=vU.o;rw[Ha.o] at h |-;exact h) (by rw[<-Ha.o];omega);go_wp2_with fail;refine HSO.o.mono ?_;rintro e w6 ⟨rfl,hv6,Co⟩;have HV6:=Lh (show w6.ownsRow MV 9 1 (.slice B2 m e2) m (Zp (Jp ts)) by rw[<-Ha.o] at hv6;exact hv6);have HU6:=Lh (zN HU5.o Co fun k hk e=>by
    have h1:=HMV.o.2 k hk
    have h2:=(vU.o.lt k e).1
    omega)
   have HP6:=Lh (Jd vU.o Co HP5.o (by decide));have HB6:=Lh (Zr HB5.o Co vU.o HMV.o.1 HB5.o.size);clear hv6 Co HSO HU5 vU HP5 HB5 hc1;have HG6:=Lh ((HB6.o.block S (by have:=uf.o;omega)).trans kH.o);have HR6:=Lh ((HB6.o.block (S+1) uf.o).trans HR3.o);clear HB La;go_wp2_with fail;have HBW:=Lh (show ∀ W,Below w6.drew.heap.size w6.drew W->Below S w W/\S<=W.heap.size/\Below w6.heap.size w6 W from fun W hb=>by
    have h1:S<=w3.heap.size:=by have:=uf.o;omega
    have h2:Below w6.heap.size w6 W:=(Xr w6.heap.size w6).drew.trans hb
    have h3:Below S w W:=(HB3.o.trans (HB6.o.mono h1)).trans (h2.mono (Ya h1 HB6.o.size))
    exact⟨h3,Ya h1 (Ya HB6.o.size h2.size),h2⟩)
   have HSN:Hid (Jb eW w S (.slice A1 n c1) ns):=xB H1.o;have HST:Hid (Jb eW w S (.slice A2 m c2) ts):=xB H2.o;have HSU:=Lt (Jb eW w6 w6.heap.size (.slice B1 n e1) (Wq ns)) (by
    have hl:n=(Wq ns).length:=by rw[bY.o,Lv]
    have h:=HU6.o
    rw[hl] at h |-
    exact In (fun x hx=>HSN.o.fits x ((Uf ns).mem_iff.1 hx)) (Rd.of_own h) (by rw[<-hl];exact tT) (by unfold maxLen;exact Pj))
   have HSV:=Lt (Jb eW w6 w6.heap.size (.slice B2 m e2) (Jp ts)) (by
    have hl:m=(Jp ts).length:=by rw[Ha.o,Ey]
    have h:=HV6.o
    rw[hl] at h |-
    exact In (fun x hx=>HST.o.fits x ((Vl ts).mem_iff.1 hx)) (Rd.of_own h) (by rw[<-hl];exact hl3) (by unfold maxLen;exact hl4))
   have HN1:=Lh (show ∀ W,Below w6.drew.heap.size w6.drew W->Calls Tryz.prog 76 #[.slice A1 n c1,.slice B1 n e1] W (qpY ns (Wq ns) W) from fun W hb=>by
    obtain⟨k1,k2,k3⟩:=HBW.o W hb
    exact nX _ _ ns (Wq ns) W (HSN.o.fut k1 (Xz _) k2) (HSU.o.fut k3 (Xz _) k3.size) (fun x hx=>(Uf ns).mem_iff.2 hx) (by rw[<-bY.o];omega) (by rw[Lv,<-bY.o];omega))
   have Ci:=Lh (show ∀ W,Below w6.drew.heap.size w6.drew W->Calls Tryz.prog 76 #[.slice A2 m c2,.slice B2 m e2] W (qpY ts (Jp ts) W) from fun W hb=>by
    obtain⟨k1,k2,k3⟩:=HBW.o W hb
    exact nX _ _ ts (Jp ts) W (HST.o.fut k1 (Xz _) k2) (HSV.o.fut k3 (Xz _) k3.size) (fun x hx=>(Vl ts).mem_iff.2 hx) (by rw[<-Ha.o];omega) (by rw[Ey,<-Ha.o];omega))
   have HG0:Hid (w6.drew.heap[S]? = _):=HG6.o;have HP0:Hid (w6.drew.heap[P]? = _):=HP6.o;have HZ0:Hid (S+1<w6.drew.heap.size):=Yb uf.o HB6.o.size;have HPZ:Hid (P<w6.drew.heap.size):=(gl HP0.o);obtain⟨W0,hW0⟩:=Xe w6.drew;rw[<-hW0] at HN1 Ci HG0 HP0 HZ0 HPZ;refine TextU.wp_anyInv (fun L a' w'=>∃ x4 x5 x30 x31 x32 x33 jy x35 x36 x37 x38 jx:Value,a'=⟨List.toArray (.agg #[.slice A1 n c1,.slice A2 m c2,.slice A3 q c3]::.pointer (some ⟨S,0,none⟩)::.pointer (some ⟨S+1,0,none⟩)::.pointer (some ⟨P,0,none⟩)::x4::x5::undef::undef::undef::undef::undef::undef::u12::u13::u14::u15::u16::u17::u18::u19::u20::u21::u22::u23::u24::u25::u26::.pointer (some ⟨P,1,none⟩)::.slice B2 m e2::.tuple #[]::x30::x31::x32::x33::jy::x35::x36::x37::x38::jx::u40::u41::undef::undef::undef::u45::u46::u47::u48::u49::u50::u51::u52::u53::undef::undef::undef::u57::u58::u59::u60::u61::u62::u63::u64::u65::u66::u67::u68::u69::u70::u71::u72::u73::u74::u75::u76::u77::u78::u79::[]),[]⟩/\Hid (Below W0.heap.size W0 w')/\(L 0=true->x30=.pointer (some ⟨S,0,none⟩))/\(L 1=true->x31=.slice A1 n c1)/\(L 2=true->x32=.pointer (some ⟨P,0,none⟩))/\(L 3=true->x33=.slice B1 n e1)/\(L 4=true->Mg Oz 3 w' W0.heap.size jy (ns.map fun x=>(((Wq ns).idxOf x:Nat):Int)))/\(L 5=true->x35=.pointer (some ⟨S,1,none⟩))/\(L 6=true->x36=.slice A2 m c2)/\(L 7=true->x37=.pointer (some ⟨P,1,none⟩))/\(L 8=true->x38=.slice B2 m e2)/\(L 9=true->Mg Oz 3 w' W0.heap.size jx (ts.map fun x=>(((Jp ts).idxOf x:Nat):Int)))/\(L 10=true->L 12=false->Sy w' W0.heap.size x4 #[.slice none 0 0] 61)/\(L 11=true->L 13=false->Sy w' W0.heap.size x5 #[.slice none 0 0] 61)/\(L 12=true->Sy w' W0.heap.size x4 #[jy] 61)/\(L 13=true->Sy w' W0.heap.size x5 #[jx] 61)/\Hid (L 10=true->L 11=true->x4≠x5)/\Hid (L 12=true->L 10=true/\L 4=true/\L 11=true/\L 9=true)/\Hid (L 13=true->L 12=true)) (by kernel_rfl) (by kernel_rfl) (by rw[<-hW0];exact⟨undef,undef,u30,u31,u32,u33,u34,u35,u36,u37,u38,u39,rfl,Xr _ _,by simp,by simp,by simp,by simp,by simp,by simp,by simp,by simp,by simp,by simp,by simp,by simp,by simp,by simp,by simp[Hid],by simp[Hid],by simp[Hid]⟩) ?_ ?_
   ·intro j o L a' w' hj hL hd hJ J' Q' hJ' hQ';have HJ:=Lh hJ';clear hJ';have hj14:j<14:=(Qj.1 hj).1;obtain⟨x4,x5,x30,x31,x32,x33,jy,x35,x36,x37,x38,jx,rfl,HB,f0,f1,f2,f3,f4,f5,f6,f7,f8,f9,f10,f11,f12,f13,fd,fi,fj⟩:=hJ;obtain rfl | rfl | rfl | rfl | rfl | rfl | rfl | rfl | rfl | rfl | rfl | rfl | rfl | rfl:j=0\/j=1\/j=2\/j=3\/j=4\/j=5\/j=6\/j=7\/j=8\/j=9\/j=10\/j=11\/j=12\/j=13:=by omega
    all_goals
     injection hj with hj;subst hj
    ·skip
     have HBX:=Lh HB.o;go_wp2_with fail;refine HJ.o _ _ _ ⟨_,_,_,_,_,_,_,_,_,_,_,_,rfl,HBX.o,?_,?_,?_,?_,?_,?_,?_,?_,?_,?_,?_,?_,?_,?_,?_,?_,?_⟩
     all_goals first | exact fun _=>rfl | (intro h;replace h:=Xb h;first | exact f0 h | exact f1 h | exact f2 h | exact f3 h | exact f4 h | exact f5 h | exact f6 h | exact f7 h | exact f8 h | exact f9 h | exact f12 h | exact f13 h) | exact fun h h'=>f10 (Xb h) (TextU.andL_off h') | exact fun h h'=>f11 (Xb h) (TextU.andL_off h') | exact fun h h'=>fd.o (Xb h) (Xb h') | exact fun h=>⟨Xo (fi.o (Xb h)).1,Xo (fi.o (Xb h)).2.1,Xo (fi.o (Xb h)).2.2.1,Xo (fi.o (Xb h)).2.2.2⟩ | exact fun h=>Xo (fj.o (Xb h))
    ·obtain rfl:=f0 (hd ⟨0,.data⟩ (by simp) rfl);have hc:w'.cell? ⟨S,0,none⟩=some (.slice A1 n c1):=by rw[Za _ _ _ _ _ _ ((HB.o.block S (by have:=HZ0.o;omega)).trans HG0.o)];rfl
     have HBX:=Lh HB.o;go_wp2_with fail;refine HJ.o _ _ _ ⟨_,_,_,_,_,_,_,_,_,_,_,_,rfl,HBX.o,?_,?_,?_,?_,?_,?_,?_,?_,?_,?_,?_,?_,?_,?_,?_,?_,?_⟩
     all_goals first | exact fun _=>rfl | (intro h;replace h:=Xb h;first | exact f0 h | exact f1 h | exact f2 h | exact f3 h | exact f4 h | exact f5 h | exact f6 h | exact f7 h | exact f8 h | exact f9 h | exact f12 h | exact f13 h) | exact fun h h'=>f10 (Xb h) (TextU.andL_off h') | exact fun h h'=>f11 (Xb h) (TextU.andL_off h') | exact fun h h'=>fd.o (Xb h) (Xb h') | exact fun h=>⟨Xo (fi.o (Xb h)).1,Xo (fi.o (Xb h)).2.1,Xo (fi.o (Xb h)).2.2.1,Xo (fi.o (Xb h)).2.2.2⟩ | exact fun h=>Xo (fj.o (Xb h))
    ·skip
     have HBX:=Lh HB.o;go_wp2_with fail;refine HJ.o _ _ _ ⟨_,_,_,_,_,_,_,_,_,_,_,_,rfl,HBX.o,?_,?_,?_,?_,?_,?_,?_,?_,?_,?_,?_,?_,?_,?_,?_,?_,?_⟩
     all_goals first | exact fun _=>rfl | (intro h;replace h:=Xb h;first | exact f0 h | exact f1 h | exact f2 h | exact f3 h | exact f4 h | exact f5 h | exact f6 h | exact f7 h | exact f8 h | exact f9 h | exact f12 h | exact f13 h) | exact fun h h'=>f10 (Xb h) (TextU.andL_off h') | exact fun h h'=>f11 (Xb h) (TextU.andL_off h') | exact fun h h'=>fd.o (Xb h) (Xb h') | exact fun h=>⟨Xo (fi.o (Xb h)).1,Xo (fi.o (Xb h)).2.1,Xo (fi.o (Xb h)).2.2.1,Xo (fi.o (Xb h)).2.2.2⟩ | exact fun h=>Xo (fj.o (Xb h))
    ·obtain rfl:=f2 (hd ⟨2,.data⟩ (by simp) rfl);have hc:w'.cell? ⟨P,0,none⟩=some (.slice B1 n e1):=Xc ((HB.o.block P HPZ.o).trans HP0.o) rfl;have HBX:=Lh HB.o;go_wp2_with fail;refine HJ.o _ _ _ ⟨_,_,_,_,_,_,_,_,_,_,_,_,rfl,HBX.o,?_,?_,?_,?_,?_,?_,?_,?_,?_,?_,?_,?_,?_,?_,?_,?_,?_⟩
     all_goals first | exact fun _=>rfl | (intro h;replace h:=Xb h;first | exact f0 h | exact f1 h | exact f2 h | exact f3 h | exact f4 h | exact f5 h | exact f6 h | exact f7 h | exact f8 h | exact f9 h | exact f12 h | exact f13 h) | exact fun h h'=>f10 (Xb h) (TextU.andL_off h') | exact fun h h'=>f11 (Xb h) (TextU.andL_off h') | exact fun h h'=>fd.o (Xb h) (Xb h') | exact fun h=>⟨Xo (fi.o (Xb h)).1,Xo (fi.o (Xb h)).2.1,Xo (fi.o (Xb h)).2.2.1,Xo (fi.o (Xb h)).2.2.2⟩ | exact fun h=>Xo (fj.o (Xb h))
    ·obtain rfl:=f1 (hd ⟨1,.data⟩ (by simp) rfl);obtain rfl:=f3 (hd ⟨3,.data⟩ (by simp) rfl);have HC:=Lh (HN1.o w' HB.o);go_wp2_with fail;refine HC.o.mono ?_;rintro e w'' ⟨v,rfl,ho,hb⟩;have HBX:=Lh (HB.o.trans (hb.mono HB.o.size));have G:=Lh (ho.more HB.o.size);have f9:=fun h=>(f9 h).below hb;have f10:=fun h h'=>Wf (f10 h h') hb;have f11:=fun h h'=>Wf (f11 h h') hb;have f12:=fun h=>Wf (f12 h) hb;have f13:=fun h=>Wf (f13 h) hb;clear ho hb;go_wp2_with fail;refine HJ.o _ _ _ ⟨_,_,_,_,_,_,_,_,_,_,_,_,rfl,HBX.o,?_,?_,?_,?_,?_,?_,?_,?_,?_,?_,?_,?_,?_,?_,?_,?_,?_⟩
     all_goals first | exact fun _=>rfl | exact fun _=>G.o | exact fun h=>absurd (fi.o (Xb h)).2.1 (by rw[hL];decide) | exact fun h=>absurd (fi.o (fj.o (Xb h))).2.1 (by rw[hL];decide) | (intro h;replace h:=Xb h;first | exact f0 h | exact f1 h | exact f2 h | exact f3 h | exact f4 h | exact f5 h | exact f6 h | exact f7 h | exact f8 h | exact f9 h | exact f12 h | exact f13 h) | exact fun h h'=>f10 (Xb h) (TextU.andL_off h') | exact fun h h'=>f11 (Xb h) (TextU.andL_off h') | exact fun h h'=>fd.o (Xb h) (Xb h') | exact fun h=>⟨Xo (fi.o (Xb h)).1,Xo (fi.o (Xb h)).2.1,Xo (fi.o (Xb h)).2.2.1,Xo (fi.o (Xb h)).2.2.2⟩ | exact fun h=>Xo (fj.o (Xb h))
    ·skip
     have HBX:=Lh HB.o;go_wp2_with fail;refine HJ.o _ _ _ ⟨_,_,_,_,_,_,_,_,_,_,_,_,rfl,HBX.o,?_,?_,?_,?_,?_,?_,?_,?_,?_,?_,?_,?_,?_,?_,?_,?_,?_⟩
     all_goals first | exact fun _=>rfl | (intro h;replace h:=Xb h;first | exact f0 h | exact f1 h | exact f2 h | exact f3 h | exact f4 h | exact f5 h | exact f6 h | exact f7 h | exact f8 h | exact f9 h | exact f12 h | exact f13 h) | exact fun h h'=>f10 (Xb h) (TextU.andL_off h') | exact fun h h'=>f11 (Xb h) (TextU.andL_off h') | exact fun h h'=>fd.o (Xb h) (Xb h') | exact fun h=>⟨Xo (fi.o (Xb h)).1,Xo (fi.o (Xb h)).2.1,Xo (fi.o (Xb h)).2.2.1,Xo (fi.o (Xb h)).2.2.2⟩ | exact fun h=>Xo (fj.o (Xb h))
    ·obtain rfl:=f5 (hd ⟨5,.data⟩ (by simp) rfl);have hc:w'.cell? ⟨S,1,none⟩=some (.slice A2 m c2):=by rw[Za _ _ _ _ _ _ ((HB.o.block S (by have:=HZ0.o;omega)).trans HG0.o)];rfl
     have HBX:=Lh HB.o;go_wp2_with fail;refine HJ.o _ _ _ ⟨_,_,_,_,_,_,_,_,_,_,_,_,rfl,HBX.o,?_,?_,?_,?_,?_,?_,?_,?_,?_,?_,?_,?_,?_,?_,?_,?_,?_⟩
     all_goals first | exact fun _=>rfl | (intro h;replace h:=Xb h;first | exact f0 h | exact f1 h | exact f2 h | exact f3 h | exact f4 h | exact f5 h | exact f6 h | exact f7 h | exact f8 h | exact f9 h | exact f12 h | exact f13 h) | exact fun h h'=>f10 (Xb h) (TextU.andL_off h') | exact fun h h'=>f11 (Xb h) (TextU.andL_off h') | exact fun h h'=>fd.o (Xb h) (Xb h') | exact fun h=>⟨Xo (fi.o (Xb h)).1,Xo (fi.o (Xb h)).2.1,Xo (fi.o (Xb h)).2.2.1,Xo (fi.o (Xb h)).2.2.2⟩ | exact fun h=>Xo (fj.o (Xb h))
    ·skip
     have HBX:=Lh HB.o;go_wp2_with fail;refine HJ.o _ _ _ ⟨_,_,_,_,_,_,_,_,_,_,_,_,rfl,HBX.o,?_,?_,?_,?_,?_,?_,?_,?_,?_,?_,?_,?_,?_,?_,?_,?_,?_⟩
     all_goals first | exact fun _=>rfl | (intro h;replace h:=Xb h;first | exact f0 h | exact f1 h | exact f2 h | exact f3 h | exact f4 h | exact f5 h | exact f6 h | exact f7 h | exact f8 h | exact f9 h | exact f12 h | exact f13 h) | exact fun h h'=>f10 (Xb h) (TextU.andL_off h') | exact fun h h'=>f11 (Xb h) (TextU.andL_off h') | exact fun h h'=>fd.o (Xb h) (Xb h') | exact fun h=>⟨Xo (fi.o (Xb h)).1,Xo (fi.o (Xb h)).2.1,Xo (fi.o (Xb h)).2.2.1,Xo (fi.o (Xb h)).2.2.2⟩ | exact fun h=>Xo (fj.o (Xb h))
    ·obtain rfl:=f7 (hd ⟨7,.data⟩ (by simp) rfl);have hc:w'.cell? ⟨P,1,none⟩=some (.slice B2 m e2):=Xc ((HB.o.block P HPZ.o).trans HP0.o) rfl;have HBX:=Lh HB.o;go_wp2_with fail;refine HJ.o _ _ _ ⟨_,_,_,_,_,_,_,_,_,_,_,_,rfl,HBX.o,?_,?_,?_,?_,?_,?_,?_,?_,?_,?_,?_,?_,?_,?_,?_,?_,?_⟩
     all_goals first | exact fun _=>rfl | (intro h;replace h:=Xb h;first | exact f0 h | exact f1 h | exact f2 h | exact f3 h | exact f4 h | exact f5 h | exact f6 h | exact f7 h | exact f8 h | exact f9 h | exact f12 h | exact f13 h) | exact fun h h'=>f10 (Xb h) (TextU.andL_off h') | exact fun h h'=>f11 (Xb h) (TextU.andL_off h') | exact fun h h'=>fd.o (Xb h) (Xb h') | exact fun h=>⟨Xo (fi.o (Xb h)).1,Xo (fi.o (Xb h)).2.1,Xo (fi.o (Xb h)).2.2.1,Xo (fi.o (Xb h)).2.2.2⟩ | exact fun h=>Xo (fj.o (Xb h))
    ·obtain rfl:=f6 (hd ⟨6,.data⟩ (by simp) rfl);obtain rfl:=f8 (hd ⟨8,.data⟩ (by simp) rfl);have HC:=Lh (Ci.o w' HB.o);go_wp2_with fail;refine HC.o.mono ?_;rintro e w'' ⟨v,rfl,ho,hb⟩;have HBX:=Lh (HB.o.trans (hb.mono HB.o.size));have G:=Lh (ho.more HB.o.size);have f4:=fun h=>(f4 h).below hb;have f10:=fun h h'=>Wf (f10 h h') hb;have f11:=fun h h'=>Wf (f11 h h') hb;have f12:=fun h=>Wf (f12 h) hb;have f13:=fun h=>Wf (f13 h) hb;clear ho hb;go_wp2_with fail;refine HJ.o _ _ _ ⟨_,_,_,_,_,_,_,_,_,_,_,_,rfl,HBX.o,?_,?_,?_,?_,?_,?_,?_,?_,?_,?_,?_,?_,?_,?_,?_,?_,?_⟩
     all_goals first | exact fun _=>rfl | exact fun _=>G.o | exact fun h=>absurd (fi.o (Xb h)).2.2.2 (by rw[hL];decide) | exact fun h=>absurd (fi.o (fj.o (Xb h))).2.2.2 (by rw[hL];decide) | (intro h;replace h:=Xb h;first | exact f0 h | exact f1 h | exact f2 h | exact f3 h | exact f4 h | exact f5 h | exact f6 h | exact f7 h | exact f8 h | exact f9 h | exact f12 h | exact f13 h) | exact fun h h'=>f10 (Xb h) (TextU.andL_off h') | exact fun h h'=>f11 (Xb h) (TextU.andL_off h') | exact fun h h'=>fd.o (Xb h) (Xb h') | exact fun h=>⟨Xo (fi.o (Xb h)).1,Xo (fi.o (Xb h)).2.1,Xo (fi.o (Xb h)).2.2.1,Xo (fi.o (Xb h)).2.2.2⟩ | exact fun h=>Xo (fj.o (Xb h))
    ·have hb:Below w'.heap.size w' (w'.alloc (.cells #[.slice none 0 0] 61)):=(Xr _ _).alloc (Xz _) _;have HBX:=Lh (HB.o.trans (hb.mono HB.o.size));have Ek:=Lh (qJ w' #[.slice none 0 0] 61 HB.o.size);have HD:=Lh (show L 11=true->Value.pointer (some ⟨w'.heap.size,0,none⟩)≠x5 from fun h=>by
      cases h13:L 13 with
      |true=>exact absurd (fi.o (fj.o h13)).1 (by rw[hL];decide)
      |false =>
       obtain⟨b,rfl,_,kO⟩:=f11 h h13
       intro e
       injection e with e
       injection e with e
       injection e with e
       have:=(gl kO)
       omega)
     have f4:=fun h=>(f4 h).below hb;have f9:=fun h=>(f9 h).below hb;have f11:=fun h h'=>Wf (f11 h h') hb;have f13:=fun h=>Wf (f13 h) hb;clear hb;go_wp2_with fail;generalize w'.alloc (.cells #[.slice none 0 0] 61)=w7 at *;refine HJ.o _ _ _ ⟨_,_,_,_,_,_,_,_,_,_,_,_,rfl,HBX.o,?_,?_,?_,?_,?_,?_,?_,?_,?_,?_,?_,?_,?_,?_,?_,?_,?_⟩
     all_goals first | exact fun _=>rfl | exact fun _ _=>Ek.o | exact fun h=>absurd (fi.o (Xb h)).1 (by rw[hL];decide) | exact fun _ h'=>HD.o (Xb h') | (intro h;replace h:=Xb h;first | exact f0 h | exact f1 h | exact f2 h | exact f3 h | exact f4 h | exact f5 h | exact f6 h | exact f7 h | exact f8 h | exact f9 h | exact f12 h | exact f13 h) | exact fun h h'=>f10 (Xb h) (TextU.andL_off h') | exact fun h h'=>f11 (Xb h) (TextU.andL_off h') | exact fun h h'=>fd.o (Xb h) (Xb h') | exact fun h=>⟨Xo (fi.o (Xb h)).1,Xo (fi.o (Xb h)).2.1,Xo (fi.o (Xb h)).2.2.1,Xo (fi.o (Xb h)).2.2.2⟩ | exact fun h=>Xo (fj.o (Xb h))
    ·have hb:Below w'.heap.size w' (w'.alloc (.cells #[.slice none 0 0] 61)):=(Xr _ _).alloc (Xz _) _;have HBX:=Lh (HB.o.trans (hb.mono HB.o.size));have Ek:=Lh (qJ w' #[.slice none 0 0] 61 HB.o.size);have HD:=Lh (show L 10=true->x4≠Value.pointer (some ⟨w'.heap.size,0,none⟩) from fun h=>by
      cases h13:L 12 with
      |true=>exact absurd (fi.o h13).2.2.1 (by rw[hL];decide)
      |false =>
       obtain⟨b,rfl,_,kO⟩:=f10 h h13
       intro e
       injection e with e
       injection e with e
       injection e with e
       have:=(gl kO)
       omega)
     have f4:=fun h=>(f4 h).below hb;have f9:=fun h=>(f9 h).below hb;have f10:=fun h h'=>Wf (f10 h h') hb;have f12:=fun h=>Wf (f12 h) hb;clear hb;go_wp2_with fail;generalize w'.alloc (.cells #[.slice none 0 0] 61)=w7 at *;refine HJ.o _ _ _ ⟨_,_,_,_,_,_,_,_,_,_,_,_,rfl,HBX.o,?_,?_,?_,?_,?_,?_,?_,?_,?_,?_,?_,?_,?_,?_,?_,?_,?_⟩
     all_goals first | exact fun _=>rfl | exact fun _ _=>Ek.o | exact fun h=>absurd (fi.o (fj.o (Xb h))).2.2.1 (by rw[hL];decide) | exact fun h _=>HD.o (Xb h) | (intro h;replace h:=Xb h;first | exact f0 h | exact f1 h | exact f2 h | exact f3 h | exact f4 h | exact f5 h | exact f6 h | exact f7 h | exact f8 h | exact f9 h | exact f12 h | exact f13 h) | exact fun h h'=>f10 (Xb h) (TextU.andL_off h') | exact fun h h'=>f11 (Xb h) (TextU.andL_off h') | exact fun h h'=>fd.o (Xb h) (Xb h') | exact fun h=>⟨Xo (fi.o (Xb h)).1,Xo (fi.o (Xb h)).2.1,Xo (fi.o (Xb h)).2.2.1,Xo (fi.o (Xb h)).2.2.2⟩ | exact fun h=>Xo (fj.o (Xb h))
    ·
     have l10:=hd ⟨10,.data⟩ (by simp) rfl;have l4:=hd ⟨4,.data⟩ (by simp) rfl;have l11:=hd ⟨11,.phase⟩ (by simp) rfl;have l9:=hd ⟨9,.chain⟩ (by simp) rfl;have hne:=fd.o l10 l11;obtain⟨b,rfl,hbs,N_⟩:=f10 l10 hL;have hx:jy.cells=[jy].toArray/\jy.oneCell'=true:=by
      obtain⟨A,c,e,_⟩:=(f4 l4).form;rw[e];exact⟨rfl,rfl⟩
     have f11:=fun h h'=>cg (f11 h h') hne (b:=b) [jy].toArray;have HST:=Lh (Ep (P:=Tryz.prog) (ty:=61) (vs:=[jy]) (v:=jy) hx.1 (by kernel_rfl) N_ rfl (by simp[hx.2]));have iA:=Dg (ts:=[3]) (cs':=[jy].toArray) N_ (by decide);have HBX:=Lh (Zg HB.o hbs [jy].toArray);have HB8:Hid (Sy (w'.setRow b [jy].toArray) W0.heap.size (.pointer (some ⟨b,0,none⟩)) #[jy] 61):=⟨b,rfl,hbs,Zf _ _ _ _ _ _ N_⟩;have f4:=fun h=>(f4 h).keep iA;have f9:=fun h=>(f9 h).keep iA;clear iA;go_wp2_with (refine Jc none rfl ?_);refine Stop.go (Zo rfl 61 rfl rfl rfl HST.o ?_);generalize w'.setRow b [jy].toArray=w7 at *;generalize ha:Act.put _ _ _=z9;simp[Act.put] at ha;subst ha;go_wp2_with fail;refine HJ.o _ _ _ ⟨_,_,_,_,_,_,_,_,_,_,_,_,rfl,HBX.o,?_,?_,?_,?_,?_,?_,?_,?_,?_,?_,?_,?_,?_,?_,?_,?_,?_⟩
     all_goals first | exact fun _=>rfl | exact fun _=>HB8.o | exact fun _ h'=>absurd h' (by rw[TextU.andL_self];decide) | exact fun h=>absurd (fj.o (Xb h)) (by rw[hL];decide) | exact fun _=>⟨Xo l10,Xo l4,Xo l11,Xo l9⟩ | (intro h;replace h:=Xb h;first | exact f0 h | exact f1 h | exact f2 h | exact f3 h | exact f4 h | exact f5 h | exact f6 h | exact f7 h | exact f8 h | exact f9 h | exact f12 h | exact f13 h) | exact fun h h'=>f10 (Xb h) (TextU.andL_off h') | exact fun h h'=>f11 (Xb h) (TextU.andL_off h') | exact fun h h'=>fd.o (Xb h) (Xb h') | exact fun h=>⟨Xo (fi.o (Xb h)).1,Xo (fi.o (Xb h)).2.1,Xo (fi.o (Xb h)).2.2.1,Xo (fi.o (Xb h)).2.2.2⟩ | exact fun h=>Xo (fj.o (Xb h))
    ·
     have l12:=hd ⟨12,.chain⟩ (by simp) rfl;have l11:=hd ⟨11,.data⟩ (by simp) rfl;have l9:=hd ⟨9,.data⟩ (by simp) rfl;have hne:=fd.o (fi.o l12).1 l11;obtain⟨b,rfl,hbs,N_⟩:=f11 l11 hL;have hx:jx.cells=[jx].toArray/\jx.oneCell'=true:=by
      obtain⟨A,c,e,_⟩:=(f9 l9).form;rw[e];exact⟨rfl,rfl⟩
     have f12:=fun h=>cg (f12 h) hne.symm (b:=b) [jx].toArray;have HST:=Lh (Ep (P:=Tryz.prog) (ty:=61) (vs:=[jx]) (v:=jx) hx.1 (by kernel_rfl) N_ rfl (by simp[hx.2]));have iA:=Dg (ts:=[3]) (cs':=[jx].toArray) N_ (by decide);have HBX:=Lh (Zg HB.o hbs [jx].toArray);have HB8:Hid (Sy (w'.setRow b [jx].toArray) W0.heap.size (.pointer (some ⟨b,0,none⟩)) #[jx] 61):=⟨b,rfl,hbs,Zf _ _ _ _ _ _ N_⟩;have f4:=fun h=>(f4 h).keep iA;have f9:=fun h=>(f9 h).keep iA;clear iA;go_wp2_with (refine Jc none rfl ?_);refine Stop.go (Zo rfl 61 rfl rfl rfl HST.o ?_);generalize w'.setRow b [jx].toArray=w7 at *;generalize ha:Act.put _ _ _=z9;simp[Act.put] at ha;subst ha;go_wp2_with fail;refine HJ.o _ _ _ ⟨_,_,_,_,_,_,_,_,_,_,_,_,rfl,HBX.o,?_,?_,?_,?_,?_,?_,?_,?_,?_,?_,?_,?_,?_,?_,?_,?_,?_⟩
     all_goals first | exact fun _=>rfl | exact fun _=>HB8.o | exact fun _ h'=>absurd h' (by rw[TextU.andL_self];decide) | exact fun _ h'=>absurd (TextU.andL_off h') (by rw[l12];decide) | exact fun _=>Xo l12 | (intro h;replace h:=Xb h;first | exact f0 h | exact f1 h | exact f2 h | exact f3 h | exact f4 h | exact f5 h | exact f6 h | exact f7 h | exact f8 h | exact f9 h | exact f12 h | exact f13 h) | exact fun h h'=>f10 (Xb h) (TextU.andL_off h') | exact fun h h'=>f11 (Xb h) (TextU.andL_off h') | exact fun h h'=>fd.o (Xb h) (Xb h') | exact fun h=>⟨Xo (fi.o (Xb h)).1,Xo (fi.o (Xb h)).2.1,Xo (fi.o (Xb h)).2.2.1,Xo (fi.o (Xb h)).2.2.2⟩ | exact fun h=>Xo (fj.o (Xb h))
   ·intro L7 a' w7 Vj hJ;obtain⟨x4,x5,x30,x31,x32,x33,jy,x35,x36,x37,x38,jx,rfl,HB7,f0,f1,f2,f3,f4,f5,f6,f7,f8,f9,f10,f11,f12,f13,fd,fi,fj⟩:=hJ;have wC:=Lh (f4 (Vj 4 (by decide)));have HTL:=Lh (f9 (Vj 9 (by decide)));obtain⟨g4,rfl,hg4,hh4⟩:=f12 (Vj 12 (by decide));obtain⟨g5,rfl,fZ,hh5⟩:=f13 (Vj 13 (by decide));have HH4:=Lh hh4;have HH5:=Lh hh5;have HGS:=Lh (And.intro hg4 fZ);clear f0 f1 f2 f3 f4 f5 f6 f7 f8 f9 f10 f11 f12 f13 fd fi fj hh4 hh5 Vj HN1 Ci HG0 HP0 HZ0 HPZ hg4 fZ;have HB8:=Lt (Below w6.heap.size w6 w7) (by
     have h:=HB7.o
     rw[hW0] at h
     exact (Xr w6.heap.size w6).drew.trans h)
    have HGE:=Lt (w6.heap.size<=g4/\w6.heap.size<=g5) (by
     have h:=HGS.o
     rw[hW0] at h
     exact h)
    have jk:=Lh (gl HP6.o);have hP7:=(HB8.o.block P (gl HP6.o)).trans HP6.o;have HP7:=Lh hP7;have HU7:=Lh (Jk HU6.o HB8.o);have HV7:=Lh (Jk HV6.o HB8.o);have th:=Lh (HBW.o w7 (by have h:=HB7.o;rw[hW0] at h;exact h));have HR7:=Lh ((HB8.o.block (S+1) (gl HR6.o)).trans HR6.o);have HG7:=Lh ((HB8.o.block S (gl HG6.o)).trans HG6.o);have hc2:w7.cell? ⟨S,2,none⟩=some (.slice A3 q c3):=Xc HG7.o rfl;clear HB7 HGS HU6 HV6 HP6 HG6 HR6 HB6 hP7 HSU HSV kH HR3;go_wp2_with fail;have dc:=Lt (P<w6.heap.size/\P<w7.heap.size) (by
     have h1:=(gl HP7.o)
     refine⟨?_,h1⟩
     rcases Nat.lt_or_ge P w6.heap.size with h | h
     ·exact h
     ·exact absurd h (by have:=jk.o;omega))
    have zxH:=Lh (show ∀(W:World)(x:Int),Rj P w7 W->Vz ns.length ts.length x->Calls Tryz.prog 77 #[.int .i64 x,.pointer (some ⟨g5,0,none⟩),.pointer (some ⟨g4,0,none⟩)] W fun e w'=>e=.returned (.int .i64 (Fv ns ts (Wq ns) (Jp ts) x))/\W=w' from fun W x hk hx=>by
     have iA:Jq [3] w7 W:=⟨hk.size,fun g cur t ht hg=>(hk.block g (gl hg) (fun e=>by
      subst e
      rw[HP7.o] at hg
      injection hg with hg
      injection hg with _ hg
      subst hg
      exact absurd ht (by decide))).trans hg⟩
     have hb4:W.heap[g4]? = some (.cells #[jy] 61 (0,0)):=(hk.block g4 (gl HH4.o) (by have:=dc.o.1;have:=HGE.o.1;omega)).trans HH4.o
     have hb5:W.heap[g5]? = some (.cells #[jx] 61 (0,0)):=(hk.block g5 (gl HH5.o) (by have:=dc.o.1;have:=HGE.o.2;omega)).trans HH5.o
     have:=qlN g5 g4 jx jy _ _ W.heap.size x W (Xc hb5 rfl) (Xc hb4 rfl) (HTL.o.keep iA).sl (wC.o.keep iA).sl (by rw[Qk];exact hx.1) (by rw[Qk];exact hx.2) (by rw[Qk,<-Ha.o];omega) (by rw[Qk,<-bY.o];omega)
     rw[qsW ns ts (Wq ns) (Jp ts) hx] at this
     exact this)
    have HLC:Hid (Oe w7 P (.slice B1 n e1) (.slice B2 m e2) ((rs.take 0).map (Dn ns ts (Wq ns) (Jp ts))) (.slice none 0 0) w7):=⟨HP7.o,Mg.nil _ _,⟨Xz _,rfl,rfl,rfl,fun _ _ _=>rfl⟩⟩;go_loopw [44] (fun v44 wr=>∃(k:Nat)(v3:Value),k<=q/\v44=.int .i64 k/\Hid (Oe w7 P (.slice B1 n e1) (.slice B2 m e2) ((rs.take k).map (Dn ns ts (Wq ns) (Jp ts))) v3 wr)) (fun v44 _=>q - (intOf v44).toNat);exact⟨0,_,by omega,rfl,HLC.o⟩;clear HLC hc2;obtain⟨k,v3,hk,rfl,HLC⟩:=hrel;by_cases Jo:k<q
    ·have Dl:k<rs.length:=by rw[<-HQQ.o];exact Jo
     have HBR:Hid (Below S w wr):=th.o.1.trans ⟨HLC.o.keep.os,HLC.o.keep.tape,HLC.o.keep.output,HLC.o.keep.size,fun j hj=>HLC.o.keep.block j (Yb hj th.o.2.1) (by have:=hPS;have:=uf.o;omega)⟩;have yL:=Lh (Ya th.o.2.1 HLC.o.keep.size);obtain⟨bb,off,cs,rfl,_,cX,Zt,Zj⟩:=(H3.o.fut HBR.o (Xz _) yL.o).get Dl (by decide);obtain⟨v,rfl,Uv,Sr,Fn⟩:=Jv Zt;obtain⟨A5,c5,rfl,Tc,fY⟩:=Uv.form;unfold maxLen at fY;have xT:=Zj 0 _ rfl;have Oi:=Zj 1 _ rfl;simp only[show Kx.size=2 from rfl,Yo,<-Yv] at xT Oi;have Az:=Lh (kG.o.fit rs[k] (Qg Dl));have HSL:=Lh Uv;have HTK:=Lh (Qc Dl);clear Zj Zt Uv;obtain⟨r,hr⟩:=Xe (rs[k]);rw[<-hr] at xT Oi Az HSL HTK Tc Sr Fn;clear hr;obtain⟨p,hpe⟩:=Xe r.2.length;rw[<-hpe] at Oi HSL Tc;have HPP:=Lh hpe;clear hpe;have yP:=Lt ((0<=r.1/\r.1<ns.length)/\r.2.length<=64/\∀ s∈r.2,Vz ns.length ts.length s) (by
      have h:=Az.o
      simp only[Qk] at h
      exact h)
     have HFB:=Lh (show ∀ s,Vz ns.length ts.length s->-9223372036854775808<=Fv ns ts (Wq ns) (Jp ts) s/\Fv ns ts (Wq ns) (Jp ts) s<=9223372036854775807 from fun s hs=>by
      have h:=On (Uf ns) (Vl ts) hs
      unfold Vz at h
      have e1:=bY.o
      have e2:=Ha.o
      omega)
     clear Az;have HS0:Hid (Vz ns.length ts.length r.1):=⟨by have:=yP.o.1.1;omega,yP.o.1.2⟩;obtain⟨F,hF⟩:=Xe (Fv ns ts (Wq ns) (Jp ts));have HRM:=Lh (show Dn ns ts (Wq ns) (Jp ts) r=(F r.1,r.2.map F) by rw[hF];rfl);rw[<-hF] at HFB;have HCL:=Lh (show ∀(W:World)(x:Int),Rj P w7 W->Vz ns.length ts.length x->Calls Tryz.prog 77 #[.int .i64 x,.pointer (some ⟨g5,0,none⟩),.pointer (some ⟨g4,0,none⟩)] W fun e w'=>e=.returned (.int .i64 (F x))/\W=w' from fun W x h1 h2=>by rw[hF];exact zxH.o W x h1 h2);clear hF;have HKA:=Lh ((Xr wr.heap.size wr).alloc (Xz _) (.cells #[.int .i64 r.1,.slice A5 p c5] 63));have HRA:=Lh (Xn wr (.cells #[.int .i64 r.1,.slice A5 p c5] 63));have HZA:=Lh (Xs wr (.cells #[.int .i64 r.1,.slice A5 p c5] 63));have yQ:=Lh (HCL.o _ r.1 (HLC.o.keep.trans (Rj.of_below HKA.o (Xz _))) HS0.o);go_wp2_with fail;refine yQ.o.mono ?_;rintro e w8 ⟨rfl,rfl⟩;have HB0:=Lh (HFB.o r.1 HS0.o);generalize F r.1=M0 at *;clear yQ;generalize wr.alloc (.cells #[.int .i64 r.1,.slice A5 p c5] 63)=w8 at *;obtain⟨b9,bh⟩:=Xe w8.heap.size;have HK9:=Lh ((Xr w8.heap.size w8).alloc (Xz _) (.cells #[.int .i64 M0,.slice none 0 0] 63));have HR9:=Lh (Xn w8 (.cells #[.int .i64 M0,.slice none 0 0] 63));have HA9:=Lh ((HK9.o.block wr.heap.size (by have:=HZA.o;omega)).trans HRA.o);have ca1:(w8.alloc (.cells #[.int .i64 M0,.slice none 0 0] 63)).cell? ⟨wr.heap.size,1,none⟩=some (.slice A5 p c5):=Xc HA9.o rfl;go_wp2_with fail;clear ca1;rw[<-bh] at HK9 HR9 |-;have HZ9:=Lt (wr.heap.size<b9) (by rw[bh];have:=HZA.o;omega);clear bh;generalize w8.alloc (.cells #[.int .i64 M0,.slice none 0 0] 63)=w9 at *;have HIN:Hid (ue w8 b9 M0 ((r.2.take 0).map F) (.slice none 0 0) w9):=⟨HR9.o,Mg.nil _ _,HK9.o⟩;generalize wr=wo at *;go_loopw [56] (fun v56 wr=>∃(j:Nat)(v9:Value),j<=p/\v56=.int .i64 j/\Hid (ue w8 b9 M0 ((r.2.take j).map F) v9 wr)) (fun v56 _=>p - (intOf v56).toNat);exact⟨0,_,by omega,rfl,HIN.o⟩;clear HIN HK9 HR9;obtain⟨j,v9,hj,rfl,HIN⟩:=hrel;have HLN:=Lh (show ((r.2.take j).map F).length=j by rw[Qk,Qq];have:=HPP.o;omega);have dL:Hid (Below wo.heap.size wo wr):=HKA.o.trans (HIN.o.keep.mono (Yf HZ9.o));by_cases Uh:j<p
     ·have fu:j<r.2.length:=by rw[<-HPP.o];exact Uh
      obtain⟨b7,o7,cs,rfl,_,_,Zt,Zj⟩:=(HSL.o.below dL.o).get fu (by decide);obtain⟨rfl,Ea,Le⟩:=Zt;have hc7:=Zj 0 _ rfl;simp only[show Vh.size=1 from rfl,Yq,Yo] at hc7;clear Zj;have HSY:=Lh (yP.o.2.2 r.2[j] (Qg fu));have qqG:=Lh (show (r.2.take (j+1)).map F=(r.2.take j).map F++[F r.2[j]] by rw[Qc fu,Qt,List.map_singleton]);generalize r.2[j]=s at *;obtain⟨A9,c9,hv9,qmS,zgH⟩:=HIN.o.own.form;rw[HLN.o] at hv9 qmS;subst hv9;go_wp2_with fail;clear hc7;have Nk:=HIN.o.row;have Ws:=Lt (wr.drew.cell? ⟨b9,1,none⟩=some (.slice A9 j c9)) (by rw[Za wr.drew _ _ _ _ _ Nk];rfl);refine Nn (fun w'=>w'.cell? ⟨b9,1,none⟩=some (.slice A9 j c9)) [6] 9 (by kernel_rfl) rfl ?_;have kF:Hid (ue w8 b9 M0 ((r.2.take j).map F) (.slice A9 j c9) wr.drew):=⟨HIN.o.row,HIN.o.own.below ((Xr wr.heap.size wr).drew),HIN.o.keep.drew⟩;have aH:Hid (Below wo.heap.size wo wr.drew):=dL.o.drew;clear HIN dL Nk;generalize wr.drew=wd at *;refine Gm 0 (.pointer (some ⟨b9,1,none⟩)) rfl (by kernel_rfl) rfl (fun wq=>by go_simp) Ws.o ?_;generalize ha:Act.put _ _ _=z9;simp[Act.put] at ha;subst ha;refine gY 1 (.slice A9 j c9) rfl (by kernel_rfl) rfl (fun wq Gk=>Jy rfl rfl (Vw (e:=3) (by kernel_rfl) Gk)) Ws.o ?_;generalize ha:Act.put _ _ _=z9;simp[Act.put] at ha;subst ha;refine Gm 2 (.func (.func 77) #[] #[.pointer (some ⟨g5,0,none⟩),.pointer (some ⟨g4,0,none⟩)]) rfl (by kernel_rfl) rfl (fun wq=>by go_simp) Ws.o ?_;generalize ha:Act.put _ _ _=z9;simp[Act.put] at ha;subst ha;refine Gm 3 (.int .i64 s) rfl (by kernel_rfl) rfl (fun wq=>by go_simp) Ws.o ?_;generalize ha:Act.put _ _ _=z9;simp[Act.put] at ha;subst ha;refine Zw (i:=4) (by kernel_rfl) rfl (fun Q' hQ'=>?_);go_wp2_with fail;refine (HCL.o wd s (HLC.o.keep.trans (Rj.of_below aH.o (Xz _))) HSY.o).mono ?_;rintro e wU ⟨rfl,rfl⟩;have HBM:=Lh (HFB.o s HSY.o);generalize F s=M1 at *;go_wp2_with fail;refine⟨cU Ws.o,?_⟩;have HB3:=Lh ((Xr wd.heap.size wd).alloc (Xz _) (.cells #[.int .i64 M1] 3));have Ek:=Lh (Xn wd (.cells #[.int .i64 M1] 3));have wQ:Hid (wd.heap.size+1=(wd.alloc (.cells #[.int .i64 M1] 3)).heap.size):=(Xs _ _).symm;refine Zw (i:=5) (by kernel_rfl) rfl (fun Q' hQ'=>?_);go_wp2_with fail;generalize wd.alloc (.cells #[.int .i64 M1] 3)=w3' at *;have kE:=Lh ((HB3.o.block b9 (gl kF.o.row)).trans kF.o.row);refine⟨cU (Xc kE.o rfl),?_⟩;obtain⟨css,h0,h2,h3⟩:=(kF.o.own.below HB3.o).row;rw[HLN.o] at h0 h2;have zgZ:p<=64:=by rw[HPP.o];exact yP.o.2.1
      have hbase:b9+1<=w3'.heap.size:=by have:=(gl kE.o);omega
      refine Zw (i:=6) (by kernel_rfl) rfl (fun Q' hQ'=>?_);refine Ja (m:=1) jC rfl rfl rfl rfl h0 (Rd.row (B:=w3'.heap.size) Ek.o (by rw[<-wQ.o];exact Yd _)) rfl (by simp[Value.oneCell']) (by simp only[maxLen];omega) (by omega) hbase ?_;intro v9' Cn Bx mB _ _;obtain⟨A8,c8,lY,_,_⟩:=Zk Bx;subst lY;have wB:=Lh (Jd h0 mB kE.o (by decide));have HNX:=Lh (ue.snoc (m:=M1) kF.o HB3.o (by rw[HLN.o];exact h0) (by rw[HLN.o];exact h2) h3 HBM.o (by rw[HLN.o];exact Bx) mB);rw[<-qqG.o] at HNX;generalize ha:Act.put _ _ _=z9;simp[Act.put] at ha;subst ha;refine hQ' _ _ ⟨Kk (by kernel_rfl),?_⟩;clear h0 h2 h3 Bx mB Ek wQ HB3 kE hbase Ws;refine Zw (i:=7) (by kernel_rfl) rfl (fun Q' hQ'=>?_);go_wp2_with fail;refine⟨Kk (by kernel_rfl),?_⟩;have Zj:Cn.cell? ⟨b9,1,none⟩=some (.slice A9 j c9):=Xc wB.o rfl;have wN:Cn.frozen? ⟨b9,1,none⟩=false:=by simp[World.frozen?,wB.o]
      refine Zw (i:=8) (by kernel_rfl) rfl (fun Q' hQ'=>?_);go_wp2_with fail;refine⟨Kk (by kernel_rfl),?_⟩;refine Ew (by kernel_rfl) ?_ _;clear Zj wN wB;go_wp2_with fail;go_roundw;exact⟨j+1,_,by omega,by go_num,HNX.o⟩;simp[intOf];omega
     ·obtain rfl:j=p:=by omega
      have HRX:=Lt (r.2.take j=r.2) (by rw[HPP.o];exact List.take_length);rw[HRX.o] at HIN HLN;obtain⟨A9,c9,hv9,qmS,zgH⟩:=HIN.o.own.form;rw[HLN.o] at hv9 qmS;subst hv9;have yO:=Lh (show ((rs.take k).map (Dn ns ts (Wq ns) (Jp ts))).length=k by rw[Qk,Qq];have:=HQQ.o;omega);obtain⟨wH,pQ,zu,qfZ,quE⟩:=HLC.o.own.form;rw[yO.o] at zu qfZ;subst zu;have HPR:=Lh ((dL.o.block P (gl HLC.o.row)).trans HLC.o.row);have hp2:wr.cell? ⟨P,2,none⟩=some (.slice wH k pQ):=Xc HPR.o rfl;have Cq:wr.cell? ⟨b9,0,none⟩=some (.int .i64 M0):=Xc HIN.o.row rfl;have qoD:wr.cell? ⟨b9,1,none⟩=some (.slice A9 j c9):=Xc HIN.o.row rfl;have HBA:=Lh ((Xr wr.heap.size wr).alloc (Xz _) (.cells #[.int .i64 M0,.slice A9 j c9] 63));have Ek:=Lh (Xn wr (.cells #[.int .i64 M0,.slice A9 j c9] 63));have HKA2:=Lh (dL.o.trans (HBA.o.mono dL.o.size));have HW7:=Lh (HLC.o.keep.size);obtain⟨css,h0,h2,h3⟩:=(HLC.o.own.below HKA2.o).row;rw[yO.o] at h0 h2;go_wp2_with (at_builtin;refine Ja (m:=1) Lk rfl rfl rfl rfl h0 (Rd.row (B:=wr.heap.size+1) Ek.o (Yd _)) rfl (by simp[Value.oneCell']) ?h63 ?hby ?hbase ?_)
      case h63=>simp only[maxLen];omega
      case hby=>omega
      case hbase=>exact Ya HW7.o HKA2.o.size
      intro v3' w12 zw zbA _ _;obtain⟨A8,c8,lY,_,_⟩:=Zk zw;subst lY;have zkP:=Lh (Jd h0 zbA ((HKA2.o.block P (gl HLC.o.row)).trans HLC.o.row) (by decide));have HNX:=Lh (Oe.snoc (r:=Dn ns ts (Wq ns) (Jp ts) r) HLC.o dc.o.2 HKA2.o (by rw[yO.o];exact h0) (by rw[yO.o];exact h2) h3 (by
       rw[HRM.o]
       exact⟨[.int .i64 M0],[.slice A9 j c9],rfl,⟨rfl,HB0.o⟩,_,rfl,(HIN.o.own.below HBA.o).more (by have:=HW7.o;have:=HZ9.o;omega)⟩) (by rw[yO.o];exact zw) zbA)
      have Zj:w12.cell? ⟨P,2,none⟩=some (.slice wH k pQ):=Xc zkP.o rfl;have wN:w12.frozen? ⟨P,2,none⟩=false:=by simp[World.frozen?,zkP.o]
      clear h0 h2 h3 zw zbA;go_wp2_with fail;go_roundw;exact⟨k+1,_,by omega,by go_num,by rw[HTK.o,Qt,List.map_singleton];exact HNX.o⟩;simp[intOf];omega
    ·obtain rfl:k=q:=by omega
     have Hb:=Lt (rs.take k=rs) (by rw[HQQ.o];exact List.take_length);rw[Hb.o] at HLC;have HOK:=Lh (show ∀ r∈rs.map (Dn ns ts (Wq ns) (Jp ts)),gV r from fun r hr=>by
      obtain⟨x,hx,rfl⟩:=Xa.1 hr
      intro s hs
      obtain⟨y,hy,rfl⟩:=Xa.1 (show s∈x.2.map _ from hs)
      have hf:=(kG.o.fit x hx).2.2 y hy
      simp only[Qk] at hf
      have h:=(On (Uf ns) (Vl ts) hf).1
      have e2:=Ha.o
      omega)
     have yO:=Lh (show (rs.map (Dn ns ts (Wq ns) (Jp ts))).length=k by rw[Qk];exact HQQ.o.symm);obtain⟨wH,pQ,zu,qfZ,quE⟩:=HLC.o.own.form;rw[yO.o] at zu qfZ;subst zu;have hp2:wr.cell? ⟨P,2,none⟩=some (.slice wH k pQ):=Xc HLC.o.row rfl;go_wp2_with fail;refine (xA w7.heap.size (.slice wH k pQ) (rs.map (Dn ns ts (Wq ns) (Jp ts))) wr HLC.o.own HOK.o (by rw[yO.o];omega)).mono ?_;rintro e w13 ⟨rfl,zhF,qnQ⟩;obtain⟨css,h0,_⟩:=HLC.o.own.row;have zwC:=Lh (Jd h0 qnQ HLC.o.row (by decide));have HKS:=Lh ((HLC.o.keep.T (ts:=[9]) HP7.o (by decide)).trans (Jq.of_grown h0 qnQ (by decide)));have Te:Hid (Below S w wr):=th.o.1.trans ⟨HLC.o.keep.os,HLC.o.keep.tape,HLC.o.keep.output,HLC.o.keep.size,fun j hj=>HLC.o.keep.block j (Yb hj th.o.2.1) (by have:=hPS;have:=uf.o;omega)⟩;have HBT:=Lh (Zr Te.o qnQ h0 (by have:=th.o.2.1;omega) (by have:=th.o.2.1;have:=HLC.o.keep.size;omega));have qwL:=Lh zhF;have Ch:=Lt (w13.heap[S+1]? = some (.cells #[.slice none 0 0,.slice none 0 0,.slice none 0 0] 25 (0,0))) (by
      have h1:=(HLC.o.keep.block (S+1) (gl HR7.o) (by have:=hPS;have:=uf.o;omega)).trans HR7.o
      exact Jd h0 qnQ h1 (by decide))
     clear zhF qnQ h0 hp2;obtain⟨g0,g1,g2⟩:=Zs zwC.o;go_wp2_with (refine Jc none rfl ?_);refine Stop.go (Zo rfl 25 rfl rfl rfl (Ep (vs:=[.slice B1 n e1,.slice B2 m e2,.slice wH k pQ]) rfl (by kernel_rfl) Ch.o rfl (by intro u hu;simp at hu;rcases hu with rfl | rfl | rfl <;> rfl)) ?_);have zdF:=Lh (Zf _ _ _ _ _ _ Ch.o:(w13.setRow (S+1) [.slice B1 n e1,.slice B2 m e2,.slice wH k pQ].toArray).heap[S+1]? = _);have HBN:=Lh (Zg HBT.o (Yg S) [.slice B1 n e1,.slice B2 m e2,.slice wH k pQ].toArray);have HK1:=Lh (Dg (ts:=[9,63,3]) (cs':=[.slice B1 n e1,.slice B2 m e2,.slice wH k pQ].toArray) Ch.o (by decide));generalize w13.setRow (S+1) [.slice B1 n e1,.slice B2 m e2,.slice wH k pQ].toArray=w14 at *;generalize ha:Act.put _ _ _=z9;simp[Act.put] at ha;subst ha;go_wp2_with fail;have HFN:=Lh (show aB (Wq ns) from fun x hx=>by
      have Ho:=(Uf ns).mem_iff.1 hx
      exact HSN.o.fits x Ho)
     have HFT:=Lh (show aB (Jp ts) from fun x hx=>by
      have Ho:=(Vl ts).mem_iff.1 hx
      exact HST.o.fits x Ho)
     have hU:=Vc (Vc HU7.o HKS.o (by simp)) HK1.o (by simp);have hV:=Vc (Vc HV7.o HKS.o (by simp)) HK1.o (by simp);have eU:n=(Wq ns).length:=by rw[Lv];exact bY.o
     have eV:m=(Jp ts).length:=by rw[Ey];exact Ha.o
     have hw:=qwL.o.keep (w':=w14) (HK1.o.less (by simp[Gv,qlO,Oz,zV,oSl]));refine sG rfl rfl rfl zdF.o ⟨_,_,_,rfl,fun w'' qzX=>⟨?_,?_,(xO hw (by have:=th.o.2.1;have:=HS.o;omega) qzX).sl⟩,by rw[<-HS.o];exact HBN.o⟩
     ·exact Tz (base:=w3.heap.size) (t:=9) HFN.o (by rw[<-eU];exact Ow hU (by have:=uf.o;have:=HS.o;omega) qzX)
     ·exact Tz (base:=MV) (t:=9) HFT.o (by rw[<-eV];exact Ow hV (by have:=uf.o;have:=HS.o;have:=HMV.o.1;omega) qzX)
end Go.Proofs.YtmaojnmnbpomeaaGreatDoor
