/- A part. -/
import Derived.Test.YtmaojnmnbpomeaaGreatDoorVM08
import Derived.Shelf.SlSortCmp.NoneTotal
set_option maxRecDepth 100000
set_option maxHeartbeats 64000000
namespace Go.Proofs.YtmaojnmnbpomeaaGreatDoor
open Go.RowKit
abbrev Eb(w:World)(x:Nat)(L:List Int):Prop:=w.heap[x]? = some (.cells (L.map (Value.int .i64)).toArray 3 (0,0))
def Ge(n:Nat)(f:Nat->Int):List Int:=(List.range n).map f
theorem tU(n:Nat)(f:Nat->Int):(Ge n f).length=n:=by simp[Ge]
theorem tV{n k:Nat}{f:Nat->Int}(h:k<n):(Ge n f)[k]? = some (f k):=by
 unfold Ge;rw[Qv,List.getElem?_range h];rfl
theorem od{n:Nat}{f g:Nat->Int}(h:∀ k<n,f k=g k):Ge n f=Ge n g:=List.map_congr_left fun k hk=>h k (Xz.1 hk)
theorem qlE{n i:Nat}{f:Nat->Int}{b:Int}:(Ge n f).set i b=Ge n (fun k=>if k=i then b else f k):=by
 apply List.ext_getElem?;intro k;by_cases hn:k<n
 ·rw[tV hn,Xv,tV hn,tU];by_cases hk:i=k
  ·subst hk;simp[hn]
  ·have:¬ k=i:=fun e=>hk e.symm;simp[hk,this]
 ·rw[Xf (by rw[Qm,tU];omega),Xf (by rw[tU];omega)]
theorem xp(n:Nat)(v:Int):Ge n (fun _=>v)=List.replicate n v:=by
 unfold Ge;rw[List.map_const',List.length_range]
theorem Eb.at_{w:World}{x n k:Nat}{f:Nat->Int}(h:Eb w x (Ge n f))(hk:k<n):w.cell? ⟨x,k,none⟩=some (.int .i64 (f k))/\w.frozen? ⟨x,k,none⟩=false:=by
 refine⟨?_,by simp[World.frozen?,h]⟩;rw[Zc w x k _ _ _ h,List.getElem?_toArray,Qv,tV hk];rfl
theorem Eb.set{w:World}{x n:Nat}{f:Nat->Int}(h:Eb w x (Ge n f))(k:Nat)(b:Int):Eb (w.setCell ⟨x,k,none⟩ (.int .i64 b)) x (Ge n (fun j=>if j=k then b else f j)):=by
 show _=_;rw[Mu h,<-qlE,List.map_set,List.setIfInBounds_toArray]
theorem Eb.below{w w':World}{x:Nat}{L:List Int}(h:Eb w x L)(hb:Below w.heap.size w w'):Eb w' x L:=(hb.block x (gl h)).trans h
theorem qeD(n:Nat)(hn:n<=2199023255552)(w:World):(Instr.makeSlice 61 (.int .i64 (n:Int)) (.int .i64 (n:Int))).run Tryz.prog w=.ok (.slice (some ⟨w.heap.size,0,none⟩) n n) (w.alloc (.cells ((Ge n fun _=>0).map (Value.int .i64)).toArray 3)):=by
 rw[xp,List.map_replicate,<-zT];exact run_make_row' 61 3 (.int .i64 0) 8 Tryz.underlying61 (by kernel_rfl) rfl .i64 .i64 n (by omega) (by omega) w
theorem fx{α:Type}[DecidableEq α]{l:List (α×Value)}{k:α}(h:Ni l k=none)(v:Value):Wv l k v=l++[(k,v)]:=by
 induction l with
 |nil=>rfl
 |cons a r ih =>
  unfold Ni at h ih;rw[List.find?_cons] at h;by_cases hk:a.1=k
  ·simp[hk] at h
  ·simp only[hk,decide_false] at h;unfold Wv;rw[if_neg hk,ih h];rfl
def Nn(W:World)(g:Nat)(S:List dO):Prop:=∃ l,Up wv W g l/\l.length=S.length/\∀ t,Ni l t=if t∈S then some (.int .i64 (S.idxOf t)) else none
theorem Nn.made(w:World):Nn (w.alloc (.map #[] 0)) w.heap.size []:=⟨[],Up.made w,rfl,fun t=>by simp[Ni]⟩
theorem Nn.below{W W':World}{g:Nat}{S:List dO}(h:Nn W g S)(hb:Below W.heap.size W W'):Nn W' g S:=by
 obtain⟨l,h1,h2,h3⟩:=h;exact⟨l,h1.below hb h1.lt,h2,h3⟩
theorem Nn.setCell{W:World}{g x k:Nat}{S:List dO}(h:Nn W g S)(hx:g≠x)(v:Value):Nn (W.setCell ⟨x,k,none⟩ v) g S:=by
 obtain⟨l,h1,h2,h3⟩:=h;exact⟨l,h1.setCell hx,h2,h3⟩
theorem Nn.look{W:World}{g:Nat}{S:List dO}(h:Nn W g S){mt kt et:TypeId}{P:Program}(K:Sf P mt kt et wv)(hz:∀ w:World,(zeroValue et).run P w=.ok (.int .i64 0) w)(t:dO) :
  (Instr.lookup mt (.map (some g)) (wv t) true).run P W=.ok (.tuple #[if t∈S then .int .i64 (S.idxOf t) else .int .i64 0,.bool (decide (t∈S))]) W /\
  (t∈S->(Instr.lookup mt (.map (some g)) (wv t) false).run P W=.ok (.int .i64 (S.idxOf t)) W):=by
 obtain⟨l,h1,h2,h3⟩:=h;constructor
 ·rw[h1.lookup_ok K hz t,h3];by_cases ht:t∈S <;> simp[ht]
 ·intro ht;rw[h1.lookup K hz t,h3,if_pos ht];rfl
theorem Nn.len{W:World}{g:Nat}{S:List dO}(h:Nn W g S){mt kt et ty:TypeId}{P:Program}(K:Sf P mt kt et wv):(Builtin.len_ #[mt] ty #[.map (some g)]).run P W=.ok (.int .i64 S.length) W:=by
 obtain⟨l,⟨es,c,hh,he⟩,h2,h3⟩:=h;have Ek:es.size=S.length:=by
  have:=congrArg List.length he;simp at this;omega
 simp[Builtin.len_,run_underlying K.und,getObj,Sem.run,hh,Result.andThen,Ek,goInt]
theorem Nn.put{W:World}{g:Nat}{S:List dO}(h:Nn W g S){mt kt et:TypeId}{P:Program}(K:Sf P mt kt et wv){t:dO}(ht:t∉S) :
  ∃ W',(Instr.mapUpdate mt (.map (some g)) (wv t) (.int .i64 S.length)).run P W=.ok () W'/\Nn W' g (S++[t])/\W.grownBy W' (some g)/\W'.heap.size=W.heap.size:=by
 obtain⟨l,h1,h2,h3⟩:=h;obtain⟨W1,iG,jO,Cn,Ft⟩:=h1.update K t (.int .i64 S.length);refine⟨W1,iG,⟨_,jO,?_,fun u=>?_⟩,Cn,Ft⟩
 ·rw[fx (by rw[h3,if_neg ht]),Qe,Qe,h2];rfl
 ·rw[Ha,h3];by_cases hu:u=t
  ·subst hu;rw[if_pos rfl,if_pos (by simp),List.idxOf_append,if_neg ht];simp
  ·rw[if_neg hu];by_cases hS:u∈S
   ·rw[if_pos hS,if_pos (List.mem_append_left _ hS),List.idxOf_append,if_pos hS]
   ·rw[if_neg hS,if_neg];simp[hS,hu]
def dX (w : World) : Prop := Lib.TabIs Tryz.prog w "internal/strconv.uint64pow10" .u64 Lib.pow10Tab
theorem dX.below{w w':World}(h:dX w)(hb:Below w.heap.size w w'):dX w':=qbP h hb
theorem dB(n:Int)(w:World)(h0:-9223372036854775808<=n)(h1:n<=9223372036854775807)(ht:dX w):Calls Tryz.prog 164 #[.int .i64 n] w fun e w'=>e=.returned (wv (Lib.itoa n))/\Below w.heap.size w w':=by
 refine (Tryz.strconv_Itoa n h0 h1 w ht).mono ?_;rintro e w' ⟨rfl,k,os,rfl⟩;exact⟨rfl,Y_ w k os⟩
def mu(m:Kf)(use:Nat->Bool)(c:Nat->Int)(i k:Nat):Int:=if k<i then Tk m use c i k else 0
theorem qkG{m:Kf}{use:Nat->Bool}{c:Nat->Int}{i:Nat}(hu:use i=false)(k:Nat):(if k=i then -1 else mu m use c i k)=mu m use c (i+1) k:=by
 unfold mu;by_cases hk:k=i
 ·subst hk;rw[if_pos rfl,if_pos (by omega),qaB hu]
 ·rw[if_neg hk];by_cases Ji:k<i
  ·rw[if_pos Ji,if_pos (by omega),zR Ji]
  ·rw[if_neg Ji,if_neg (by omega)]
theorem qaA{m:Kf}{use:Nat->Bool}{c:Nat->Int}{i:Nat}(k:Nat):(if k=i then Tk m use c (i+1) i else if k=i then -1 else mu m use c i k)=mu m use c (i+1) k:=by
 unfold mu;by_cases hk:k=i
 ·subst hk;rw[if_pos rfl,if_pos (by omega)]
 ·rw[if_neg hk,if_neg hk];by_cases Ji:k<i
  ·rw[if_pos Ji,if_pos (by omega),zR Ji]
  ·rw[if_neg Ji,if_neg (by omega)]
theorem qkF(m:Kf)(use:Nat->Bool)(c:Nat->Int):mu m use c 0=fun _=>0:=by
 funext k
 unfold mu;rw[if_neg (by omega)]
theorem qaC(m:Kf)(use:Nat->Bool)(c:Nat->Int)(i k:Nat):-1<=Tk m use c i k/\Tk m use c i k<=i:=by
 unfold Tk;split
 ·have h1:=List.idxOf_le_length (l:=Ti m use c i) (a:=Ip m use c k);have h2:=o_ m use c i;omega
 ·omega
structure La(w W:World)(g xo xn n:Nat)(c:Nat->Int)(S:List dO)(f:Nat->Int):Prop where
 map:Nn W g S
 old:Eb W xo (Ge n c)
 new:Eb W xn (Ge n f)
 bel:Below w.heap.size w W
 lo:w.heap.size<=g/\w.heap.size<=xo/\w.heap.size<=xn/\xo≠xn
section
variable {w W W':World} {g xo xn n:Nat} {c f:Nat->Int} {S:List dO}
theorem La.below(h:La w W g xo xn n c S f)(hb:Below W.heap.size W W'):La w W' g xo xn n c S f:=⟨h.map.below hb,h.old.below hb,h.new.below hb,h.bel.trans (hb.mono h.bel.size),h.lo⟩
theorem La.alloc(h:La w W g xo xn n c S f)(o:Obj):La w (W.alloc o) g xo xn n c S f:=h.below ((Xr _ _).alloc (Ya _) _)
theorem La.drew(h:La w W g xo xn n c S f):La w W.drew g xo xn n c S f:=h.below (Xr _ _).drew
theorem Nn.ne{x:Nat}{cs:Array Value}{t:TypeId}{fr:Nat×Nat}(h:Nn W g S)(hx:W.heap[x]? = some (.cells cs t fr)):g≠x:=by
 obtain⟨l,⟨es,c,hh,_⟩,_⟩:=h;rintro rfl;rw[hh] at hx;cases hx
theorem La.set(h:La w W g xo xn n c S f)(k:Nat)(b:Int):La w (W.setCell ⟨xn,k,none⟩ (.int .i64 b)) g xo xn n c S (fun j=>if j=k then b else f j) :=
 ⟨h.map.setCell (h.map.ne h.new) _,(Zb _ _ _ _ h.lo.2.2.2).trans h.old,h.new.set k b,h.bel.setCell h.lo.2.2.1 _,h.lo⟩
theorem La.put(h:La w W g xo xn n c S f){mt kt et:TypeId}{P:Program}(K:Sf P mt kt et wv){t:dO}(ht:t∉S) :
  ∃ W',(Instr.mapUpdate mt (.map (some g)) (wv t) (.int .i64 S.length)).run P W=.ok () W'/\La w W' g xo xn n c (S++[t]) f/\W'.heap.size=W.heap.size:=by
 obtain⟨W1,iG,jO,Cn,Ft⟩:=h.map.put K ht;refine⟨W1,iG,⟨jO,(Cn.block xo (gl h.old) fun e=>?_).trans h.old,(Cn.block xn (gl h.new) fun e=>?_).trans h.new,?_,h.lo⟩,Ft⟩
 ·injection e with e;exact h.map.ne h.old e.symm
 ·injection e with e;exact h.map.ne h.new e.symm
 ·exact h.bel.trans ((Xr _ _).grown Cn h.bel.size fun k e=>by injection e with e;have:=h.lo.1;omega)
end
def qvB(m:Kf)(w:World)(n:Nat)(e:Ending)(w':World):Prop:=∃(y:Nat)(C:Nat->Int),e=.returned (.slice (some ⟨y,0,none⟩) n n)/\Eb w' y (Ge n C)/\w.heap.size<=y/\Below w.heap.size w w'/\(∀ k,-1<=C k/\C k<=n) /\
 ∀ i<n,∀ j<n,Ka m i=true->Ka m j=true->(C i=C j↔Gs m i j)
def Gv:aD Jo:=qiU qrD (uSl qrD 3)
structure Dk(w:World)(P Q gn gt:Nat)(vN vT vR:Value)(B0 B1:Nat)(ns ts:List Wd)(rs:List Jo)(css:List (List Value)):Prop where
 box:w.heap[Q]? = some (.cells #[.map (some gn),.map (some gt),vN,vT,vR] 224 (0,0))
 mn:Nn w gn ns
 mt:Nn w gt ts
 names:Tn dQ 9 w B0 vN (ns.map Jp)
 terms:w.ownsRow B0 9 1 vT ts.length (ts.map wv)
 rules:w.ownsRow B0 63 2 vR rs.length css.flatten
 rrows:Vj Gv w B1 css rs
 lo:P<=gn/\P<=gt/\P<=Q/\P<=B0/\gn≠gt
 b0:B0<=w.heap.size
 b1:B1<=w.heap.size
theorem mD{w:World}{g:Nat}{S:List dO}(h:Nn w g S):∃ es c,w.heap[g]? = some (.map es c):=by
 obtain⟨l,⟨es,c,hh,_⟩,_⟩:=h;exact⟨es,c,hh⟩
theorem Jg.of_map{ts:List TypeId}{w w':World}{g:Nat}{S:List dO}(h:Nn w g S)(hg:w.grownBy w' (some g)):Jg ts w w':=by
 obtain⟨es,c,hh⟩:=mD h;refine⟨hg.size,fun k cur t _ hk=>(hg.block k (gl hk) fun e=>?_).trans hk⟩;injection e with e;subst e;rw[hh] at hk;cases hk
theorem Nn.other{w w':World}{g g':Nat}{S:List dO}(h:Nn w g S)(hg:w.grownBy w' (some g'))(hne:g≠g'):Nn w' g S:=by
 obtain⟨l,h1,h2⟩:=h;exact⟨l,h1.grown hg (fun e=>hne (by injection e)),h2⟩
theorem Nn.row{w w':World}{g base:Nat}{e:TypeId}{size n:Nat}{v:Value}{xs:List Value}{S:List dO}(h:Nn w g S)(ho:w.ownsRow base e size v n xs)(hg:w.grownBy w' v.ownBlock):Nn w' g S:=by
 obtain⟨es,c,hh⟩:=mD h;obtain⟨l,h1,h2⟩:=h;refine⟨l,h1.grown hg (fun e=>?_),h2⟩;rcases ho.2 with ⟨rfl,_⟩ | ⟨g',cap,cur,rfl,hb,hr,_⟩
 ·simp[Value.ownBlock] at e
 ·have:g=g':=by simpa[Value.ownBlock] using e
  subst this;rw[hh] at hr;cases hr
theorem Nn.cell{w:World}{g x k:Nat}{S:List dO}{cs:Array Value}{t:TypeId}(h:Nn w g S)(hx:w.heap[x]? = some (.cells cs t (0,0)))(v:Value):Nn (w.setCell ⟨x,k,none⟩ v) g S:=by
 refine h.setCell (fun e=>?_) v;subst e;obtain⟨es,c,hh⟩:=mD h;rw[hh] at hx;cases hx
section
variable {w w':World} {P Q gn gt:Nat} {vN vT vR:Value} {B0 B1:Nat} {ns ts:List Wd} {rs:List Jo} {css:List (List Value)}
theorem Dk.below(h:Dk w P Q gn gt vN vT vR B0 B1 ns ts rs css)(hb:Below w.heap.size w w'):Dk w' P Q gn gt vN vT vR B0 B1 ns ts rs css :=
 ⟨(hb.block Q (gl h.box)).trans h.box,h.mn.below hb,h.mt.below hb,h.names.keep (.of_below hb),Zy h.terms hb,Zy h.rules hb,h.rrows.below hb,h.lo,Yb h.b0 hb.size,Yb h.b1 hb.size⟩
theorem Dk.drew(h:Dk w P Q gn gt vN vT vR B0 B1 ns ts rs css):Dk w.drew P Q gn gt vN vT vR B0 B1 ns ts rs css:=h.below ((Xr _ _).drew)
end
structure T_(w:World)(P Q gn gt:Nat)(vN vT vR:Value)(B0 B1:Nat)(ns ts:List Wd)(T:Wd)(rs:List Jo)(css:List (List Value)):Prop where
 box:w.heap[Q]? = some (.cells #[.map (some gn),.map (some gt),vN,vT,vR] 224 (0,0))
 mn:Nn w gn ns
 mt:Nn w gt (ts++[T])
 names:Tn dQ 9 w B0 vN (ns.map Jp)
 terms:w.ownsRow B0 9 1 vT ts.length (ts.map wv)
 rules:w.ownsRow B0 63 2 vR rs.length css.flatten
 rrows:Vj Gv w B1 css rs
 lo:P<=gn/\P<=gt/\P<=Q/\P<=B0/\gn≠gt
 b0:B0<=w.heap.size
 b1:B1<=w.heap.size
section
variable {w w':World} {P Q gn gt:Nat} {vN vT aH vR:Value} {B0 B1:Nat} {ns ts:List Wd} {T:Wd} {rs:List Jo} {css:List (List Value)}
theorem T_.below(h:T_ w P Q gn gt vN vT vR B0 B1 ns ts T rs css)(hb:Below w.heap.size w w'):T_ w' P Q gn gt vN vT vR B0 B1 ns ts T rs css :=
 ⟨(hb.block Q (gl h.box)).trans h.box,h.mn.below hb,h.mt.below hb,h.names.keep (.of_below hb),Zy h.terms hb,Zy h.rules hb,h.rrows.below hb,h.lo,Yb h.b0 hb.size,Yb h.b1 hb.size⟩
theorem Dk.half(h:Dk w P Q gn gt vN vT vR B0 B1 ns ts rs css)(hm:Nn w' gt (ts++[T]))(hg:w.grownBy w' (some gt)):T_ w' P Q gn gt vN vT vR B0 B1 ns ts T rs css:=by
 have hk:∀ us,Jg us w w':=fun us=>Jg.of_map h.mt hg;exact⟨(hk [224]).2 Q _ _ (by simp) h.box,h.mn.other hg h.lo.2.2.2.2,hm,h.names.keep (.of_keepT (hk _)),Vi h.terms (hk [9]) (by simp),Vi h.rules (hk [63]) (by simp),h.rrows.keep (.of_keepT (hk _)),h.lo,Yb h.b0 hg.size,Yb h.b1 hg.size⟩
theorem T_.whole(h:T_ w P Q gn gt vN vT vR B0 B1 ns ts T rs css)(ho:w'.ownsRow B0 9 1 aH (ts.length+1) (ts.map wv++[wv T]))(hg:w.grownBy w' vT.ownBlock):Dk (w'.setCell ⟨Q,3,none⟩ aH) P Q gn gt vN aH vR B0 B1 ns (ts++[T]) rs css:=by
 have We:=Zq h.terms hg h.box (by decide);have hb:=Kj (k:=3) We aH;have hQ0:aH.ownBlock≠some Q:=by
  rcases ho.2 with ⟨rfl,_⟩ | ⟨g',cap,cur,rfl,_,hr,_⟩
  ·simp[Value.ownBlock]
  ·intro e;have e:g'=Q:=by simpa[Value.ownBlock] using e
   subst e;rw[We] at hr;injection hr with hr;injection hr with _ hr;exact absurd hr (by decide)
 have hR:=Vr h.rules h.terms (by decide) hg;have hQ1:vR.ownBlock≠some Q:=by
  rcases hR.2 with ⟨rfl,_⟩ | ⟨g',cap,cur,rfl,_,hr,_⟩
  ·simp[Value.ownBlock]
  ·intro e;have e:g'=Q:=by simpa[Value.ownBlock] using e
   subst e;rw[We] at hr;injection hr with hr;injection hr with _ hr;exact absurd hr (by decide)
 refine⟨hb,(h.mn.row h.terms hg).cell We aH,(h.mt.row h.terms hg).cell We aH,(h.names.keep (.of_grown h.terms hg (Ya _))).keep (.of_setT We (by decide) aH),?_,ownsRow_setCell_other hR hQ1 aH,((h.rrows.keep (.of_keepT (Jg.of_grown h.terms hg (by decide)))).keep (.of_setT We (by decide) aH)),h.lo,by rw[Za];exact Yb h.b0 hg.size,by rw[Za];exact Yb h.b1 hg.size⟩;have:=ownsRow_setCell_other ho (a:=⟨Q,3,none⟩) hQ0 aH;rw[Qt,Qe,Qf];exact this
end
def vS(w:World)(P Q gn gt:Nat)(vN vR:Value)(B0 B1:Nat)(ns ts:List Wd)(rs:List Jo)(css:List (List Value))(it:Vw)(e:Ending)(w':World):Prop :=
 (Lm ns ts it=none/\e=.returned (.tuple #[.int .i64 0,.bool false])/\Below P w w') \/
 ∃ s ts' aH,Lm ns ts it=some (s,ts')/\e=.returned (.tuple #[.int .i64 s,.bool true])/\Dk w' P Q gn gt vN aH vR B0 B1 ns ts' rs css/\Below P w w'/\Jg [3,63,277] w w'
theorem iS:Dc Tryz.prog 22 9 1 16 (.string ⟨#[]⟩):=Gq (by kernel_rfl) (by kernel_rfl) rfl (by omega)
theorem qcB{ns ts:List Wd}{T:Wd}:Lm ns ts (false,Jp T)=if T∈ns then some ((ns.idxOf T:Int),ts) else none:=rfl
theorem qcA{ns ts:List Wd}{T:Wd}:Lm ns ts (true,Jp T)=if T∈ts then some (-1 - (ts.idxOf T:Int),ts) else some (-1 - (ts.length:Int),ts++[T]):=rfl
theorem vS.ok{w w':World}{P Q gn gt:Nat}{vN aH vR:Value}{B0 B1:Nat}{ns ts ts':List Wd}{rs:List Jo}{css:List (List Value)}{it:Vw}{s:Int}(h:Lm ns ts it=some (s,ts'))(hm:Dk w' P Q gn gt vN aH vR B0 B1 ns ts' rs css)(hb:Below P w w')(hk:Jg [3,63,277] w w') :
  vS w P Q gn gt vN vR B0 B1 ns ts rs css it (.returned (.tuple #[.int .i64 s,.bool true])) w':=.inr ⟨s,ts',aH,h,rfl,hm,hb,hk⟩
theorem Uu{w:World}{g:Nat}{a b c d e:Value}{t:TypeId}{fr:Nat×Nat}(h:w.heap[g]? = some (.cells #[a,b,c,d,e] t fr)):w.cell? ⟨g,0,none⟩=some a/\w.cell? ⟨g,1,none⟩=some b/\w.cell? ⟨g,2,none⟩=some c/\w.cell? ⟨g,3,none⟩=some d/\w.cell? ⟨g,4,none⟩=some e:=by
 refine⟨?_,?_,?_,?_,?_⟩ <;> (rw[Zc _ _ _ _ _ _ h];rfl)
theorem Kn{w:World}{g:Nat}{a b:Value}{t:TypeId}{fr:Nat×Nat}(h:w.heap[g]? = some (.cells #[a,b] t fr)):w.cell? ⟨g,0,none⟩=some a/\w.cell? ⟨g,1,none⟩=some b:=by
 refine⟨?_,?_⟩ <;> (rw[Zc _ _ _ _ _ _ h];rfl)
theorem tl(bo:Bool)(T:Wd)(w:World)(P Q gn gt:Nat)(vN vT vR:Value)(B0 B1:Nat)(ns ts:List Wd)(rs:List Jo)(css:List (List Value))(h:Dk w P Q gn gt vN vT vR B0 B1 ns ts rs css)(hts:ts.length<=1048576) :
  Calls Tryz.prog 240 #[.pointer (some ⟨Q,0,none⟩),.agg #[.bool bo,.string (Jp T)]] w (vS w P Q gn gt vN vR B0 B1 ns ts rs css (bo,Jp T)):=by
 have hQw:=(gl h.box);have hPQ:=h.lo.2.2.1;have Ag:Below w.heap.size w (w.alloc (.cells #[.bool bo,.string (Jp T)] 277)):=(Xr _ _).alloc (Ya _) _;have HM:=Lh (h.below Ag);have HB:=Lh (Ag.mono (show P<=w.heap.size by omega));have HK:=Lh (Jg.of_below (ts:=[3,63,277]) Ag);have HI:=Lh (Xn w (.cells #[.bool bo,.string (Jp T)] 277));obtain⟨K0,jU⟩:=Xe w.heap.size;rw[<-jU] at HI;obtain⟨AT,cT,hvT,hT1,hT2⟩:=Zo h.terms;subst hvT;unfold maxLen at hT2;have zfR:=List.idxOf_le_length (l:=ns) (a:=T);have qvW:=List.idxOf_le_length (l:=ts) (a:=T);obtain⟨m,hm⟩:=Xe ts.length;rw[<-hm] at hts hT1 qvW;have nK:=Lh hm;clear h Ag hPQ hm hQw;cases bo with
 |false =>
  have HSY:=Lh (qcB (ns:=ns) (ts:=ts) (T:=T));go_enter Tryz.func240,Tryz.ntmps240;go_wp2_with fail;rw[<-jU];clear jU;generalize w.alloc (.cells #[.bool false,.string (Jp T)] 277)=w1 at *;obtain⟨q0,q1,q2,q3,q4⟩:=Uu HM.o.box;obtain⟨k0,k1⟩:=Kn HI.o;go_wp2_with fail;have fH:=Lh HM.o.drew;have HBD:=Lh HB.o.drew;have wV:=Lh (HK.o.trans (Jg.of_below ((Xr w1.heap.size w1).drew)));have hq0:w1.drew.cell? ⟨Q,0,none⟩=some (.map (some gn)):=q0;have Iu:w1.drew.cell? ⟨K0,1,none⟩=some (.string (Jp T)):=k1;have Ku:=(fH.o.mn.look Kd iN T).1;refine Text.wt (by kernel_rfl) fun Q' hQ'=>?_;clear q0 q1 q2 q3 q4 k0 k1;generalize w1.drew=wd at *;by_cases Ua:T∈ns
  ·have wR:(Instr.lookup 147 (.map (some gn)) (.string (Jp T)) true).run Tryz.prog wd=.ok (.tuple #[.int .i64 (ns.idxOf T),.bool true]) wd:=by
    have oz:=Ku;rw[if_pos Ua,Yv Ua] at oz;exact oz
   have HR:=Lh (HSY.o.trans (if_pos Ua));clear Ku Ua;generalize ns.idxOf T=ix at *;go_wp2_with fail;refine⟨by rfl,?_⟩;go_wp2_with fail;refine Zg (results_tmp2 rfl _ _ _) rfl ?_;exact vS.ok HR.o fH.o HBD.o wV.o
  ·have wR:(Instr.lookup 147 (.map (some gn)) (.string (Jp T)) true).run Tryz.prog wd=.ok (.tuple #[.int .i64 0,.bool false]) wd:=by
    have oz:=Ku;rw[if_neg Ua,Yw Ua] at oz;exact oz
   have HR:=Lh (HSY.o.trans (if_neg Ua));clear Ku Ua;go_wp2_with fail;refine⟨by rfl,?_⟩;go_wp2_with fail;refine Zg (results_tmp2 rfl _ _ _) rfl ?_;exact .inl ⟨HR.o,rfl,HBD.o⟩
 |true =>
  have HSY:=Lh (qcA (ns:=ns) (ts:=ts) (T:=T));go_enter Tryz.func240,Tryz.ntmps240;go_wp2_with fail;rw[<-jU];clear jU;generalize w.alloc (.cells #[.bool true,.string (Jp T)] 277)=w1 at *;obtain⟨q0,q1,q2,q3,q4⟩:=Uu HM.o.box;obtain⟨k0,k1⟩:=Kn HI.o;go_wp2_with fail;have fH:=Lh HM.o.drew;have HBD:=Lh HB.o.drew;have wV:=Lh (HK.o.trans (Jg.of_below ((Xr w1.heap.size w1).drew)));have HID:=Lt (w1.drew.heap[K0]? = some (.cells #[.bool true,.string (Jp T)] 277 (0,0))) (HI.o);have hq1:w1.drew.cell? ⟨Q,1,none⟩=some (.map (some gt)):=q1;have Iu:w1.drew.cell? ⟨K0,1,none⟩=some (.string (Jp T)):=k1;have Ku:=(fH.o.mt.look Kd iN T).1;refine Text.wt (by kernel_rfl) fun Q' hQ'=>?_;clear q0 q1 q2 q3 q4 k0 k1;generalize w1.drew=wd at *;by_cases Ua:T∈ts
  ·have wR:(Instr.lookup 147 (.map (some gt)) (.string (Jp T)) true).run Tryz.prog wd=.ok (.tuple #[.int .i64 (ts.idxOf T),.bool true]) wd:=by
    have oz:=Ku;rw[if_pos Ua,Yv Ua] at oz;exact oz
   have HR:=Lh (HSY.o.trans (if_pos Ua));clear Ku Ua;generalize ts.idxOf T=ix at *;go_wp2_with fail;refine⟨by rfl,?_⟩;go_wp2_with fail;refine Zg (results_tmp2 rfl _ _ _) rfl ?_;exact vS.ok HR.o fH.o HBD.o wV.o
  ·have wR:(Instr.lookup 147 (.map (some gt)) (.string (Jp T)) true).run Tryz.prog wd=.ok (.tuple #[.int .i64 0,.bool false]) wd:=by
    have oz:=Ku;rw[if_neg Ua,Yw Ua] at oz;exact oz
   have HR:=Lh (HSY.o.trans (if_neg Ua));have hq3:wd.cell? ⟨Q,3,none⟩=some (.slice AT m cT):=by rw[nK.o];exact (Uu fH.o.box).2.2.2.1
   go_wp2_with fail;refine⟨by rfl,?_⟩;go_wp2_with fail;have P_:=Lh fH.o.drew;obtain⟨W',qeN,hmn,Lz,Ek⟩:=P_.o.mt.put Kd Ua;have HMH:=Lh (Dk.half P_.o hmn Lz);have HBH:=Lh (HBD.o.drew.grown Lz (by have:=P_.o.b0;have:=P_.o.lo;omega) (fun k hk=>by injection hk with hk;have:=P_.o.lo;omega));have HKH:=Lh ((wV.o.trans (Jg.of_below ((Xr wd.heap.size wd).drew))).trans (Jg.of_map P_.o.mt Lz));have HIH:=Lh ((Jg.of_map (ts:=[277]) P_.o.mt Lz).2 K0 _ _ (by simp) (show wd.drew.heap[K0]? = _ from HID.o));have iG:(Instr.mapUpdate 147 (.map (some gt)) (.string (Jp T)) (.int .i64 m)).run Tryz.prog wd.drew=.ok () W':=by rw[nK.o];exact qeN
   have znZ:wd.drew.cell? ⟨Q,1,none⟩=some (.map (some gt)):=hq1;have zoZ:wd.drew.cell? ⟨K0,1,none⟩=some (.string (Jp T)):=Iu;clear Ku Ua qeN hmn Lz Ek wR hq1 Iu hq3 fH HBD wV HID;refine Text.wt (by kernel_rfl) fun Q' hQ'=>?_;generalize wd.drew=we at *;go_wp2_with fail;refine⟨by rfl,?_⟩;clear iG znZ zoZ;have fI:=Lt (∀ W:World,W.heap[Q]? = some (.cells #[.map (some gn),.map (some gt),vN,.slice AT ts.length cT,vR] 224 (0,0))->W.heap[K0]? = some (.cells #[.bool true,.string (Jp T)] 277 (0,0))->W.cell? ⟨Q,3,none⟩=some (.slice AT m cT)/\W.cell? ⟨K0,1,none⟩=some (.string (Jp T))) (fun W h1 h2=>⟨by rw[nK.o];exact (Uu h1).2.2.2.1,(Kn h2).2⟩);go_wp2_with fail;have Ei:=Lh (fI.o W'.drew HMH.o.box HIH.o);refine Gi (fun w'=>w'.cell? ⟨Q,3,none⟩=some (.slice AT m cT)/\w'.cell? ⟨K0,1,none⟩=some (.string (Jp T))) [10] 14 (by kernel_rfl) rfl ?_;have HM2:=Lh (HMH.o.below ((Xr W'.heap.size W').drew));have HB2:=Lh (HBH.o.drew);have HK2:=Lh (HKH.o.trans (Jg.of_below ((Xr W'.heap.size W').drew)));have HI2:=Lt (W'.drew.heap[K0]? = some (.cells #[.bool true,.string (Jp T)] 277 (0,0))) (HIH.o);clear HMH HBH HKH HIH;generalize W'.drew=w2 at *;refine Lg 0 (.pointer (some ⟨Q,0,none⟩)) rfl (by kernel_rfl) rfl (fun wq=>by go_simp) Ei.o ?_;generalize ha:Act.put _ _ _=z9;simp[Act.put] at ha;subst ha;refine Lg 1 (.pointer (some ⟨Q,0,none⟩)) rfl (by kernel_rfl) rfl (fun wq=>by go_simp) Ei.o ?_;generalize ha:Act.put _ _ _=z9;simp[Act.put] at ha;subst ha;refine Lg 2 (.pointer (some ⟨Q,0,none⟩)) rfl (by kernel_rfl) rfl (fun wq=>by go_simp) Ei.o ?_;generalize ha:Act.put _ _ _=z9;simp[Act.put] at ha;subst ha;refine Lg 3 (.pointer (some ⟨Q,2,none⟩)) rfl (by kernel_rfl) rfl (fun wq=>by go_simp) Ei.o ?_;generalize ha:Act.put _ _ _=z9;simp[Act.put] at ha;subst ha;refine Lg 4 (.pointer (some ⟨Q,3,none⟩)) rfl (by kernel_rfl) rfl (fun wq=>by go_simp) Ei.o ?_;generalize ha:Act.put _ _ _=z9;simp[Act.put] at ha;subst ha;refine jp 5 (.slice AT m cT) rfl (by kernel_rfl) rfl (fun wq dW=>Wi rfl rfl (Et (e:=9) (by kernel_rfl) dW.1)) Ei.o ?_;generalize ha:Act.put _ _ _=z9;simp[Act.put] at ha;subst ha;refine Lg 6 (.pointer (some ⟨K0,1,none⟩)) rfl (by kernel_rfl) rfl (fun wq=>by go_simp) Ei.o ?_;generalize ha:Act.put _ _ _=z9;simp[Act.put] at ha;subst ha;refine jp 7 (.string (Jp T)) rfl (by kernel_rfl) rfl (fun wq dW=>Wi rfl rfl (Bd (by kernel_rfl) dW.2)) Ei.o ?_;generalize ha:Act.put _ _ _=z9;simp[Act.put] at ha;subst ha;have HB3:=Lh ((Xr w2.heap.size w2).alloc (Ya _) (.cells #[.string (Jp T)] 9));have Ss:=Lh (Xn w2 (.cells #[.string (Jp T)] 9));have ij:=Lt (w2.heap.size+1=(w2.alloc (.cells #[.string (Jp T)] 9)).heap.size) ((Xs _ _).symm);refine Jz (i:=8) (by kernel_rfl) rfl (fun Q' hQ'=>?_);go_wp2_with fail;generalize w2.alloc (.cells #[.string (Jp T)] 9)=w3 at *;have HM3:=Lh (HM2.o.below HB3.o);have HI3:=Lh ((HB3.o.block K0 (gl HI2.o)).trans HI2.o);have dZ:=Lh (HB2.o.trans (HB3.o.mono (by have:=HM2.o.b0;have:=HM2.o.lo;omega)));have lC:=Lh (HK2.o.trans (Jg.of_below HB3.o));refine⟨dv (fI.o w3 HM3.o.box HI3.o),?_⟩;have Tf:=HM3.o.terms;rw[<-nK.o] at Tf;refine Jz (i:=9) (by kernel_rfl) rfl (fun Q' hQ'=>?_);refine Zz (m:=1) iS rfl rfl rfl rfl Tf (Rd.row (B:=w3.heap.size) Ss.o (by rw[<-ij.o];exact Ye _)) rfl (by simp[Value.oneCell']) (by simp only[maxLen];omega) (by omega) HM3.o.b0 ?_;intro aH iO hown hg _ _;obtain⟨A8,c8,mL,_,_⟩:=Zo hown;subst mL;have Lc:=Lh (T_.whole HM3.o (by rw[<-nK.o];exact hown) (by rw[<-nK.o];exact hg));have Cj:=Lh (Zq Tf hg HM3.o.box (by decide));have HI4:=Lh (Zq Tf hg HI3.o (by decide));have HB4:=Lh (Zt dZ.o hg Tf HM3.o.lo.2.2.2.1 (by have:=HM3.o.b0;have:=HM3.o.lo;omega));have HK4:=Lh (lC.o.trans (Jg.of_grown Tf hg (by decide)));clear hown hg Tf;generalize ha:Act.put _ _ _=z9;simp[Act.put] at ha;subst ha;refine hQ' _ _ ⟨dv (fI.o iO Cj.o HI4.o),?_⟩;have q3:=(Uu Cj.o).2.2.2.1;have f3:iO.frozen? ⟨Q,3,none⟩=false:=by simp[World.frozen?,Cj.o]
   refine Jz (i:=10) (by kernel_rfl) rfl (fun Q' hQ'=>?_);go_wp2_with fail;refine⟨Vg (by kernel_rfl),?_⟩;refine Jz (i:=11) (by kernel_rfl) rfl (fun Q' hQ'=>?_);go_wp2_with fail;refine⟨Vg (by kernel_rfl),?_⟩;refine Jz (i:=12) (by kernel_rfl) rfl (fun Q' hQ'=>?_);go_wp2_with fail;refine⟨Vg (by kernel_rfl),?_⟩;refine Jz (i:=13) (by kernel_rfl) rfl (fun Q' hQ'=>?_);go_wp2_with fail;refine⟨Vg (by kernel_rfl),?_⟩;refine Cs (by kernel_rfl) ?_ _;go_wp2_with fail;refine Zg (results_tmp2 rfl _ _ _) rfl ?_;rw[<-nK.o] at HR;exact vS.ok HR.o Lc.o (HB4.o.setCell (p:=⟨Q,3,none⟩) HM3.o.lo.2.2.1 _) (HK4.o.trans (Vm (k:=3) Cj.o (by decide) _))
def Ty(a b:Int):Int:=Lib.compareInt (Si a) (Si b)
theorem Oe(a b c d:Int)(h:a<b↔c<d)(k:b<a↔d<c):Lib.compareInt a b=Lib.compareInt c d:=by
 unfold Lib.compareInt;by_cases h1:a<b
 ·rw[if_pos h1,if_pos (h.1 h1)]
 ·rw[if_neg h1,if_neg (fun e=>h1 (h.2 e))];by_cases h2:b<a
  ·rw[if_pos h2,if_pos (k.1 h2)]
  ·rw[if_neg h2,if_neg (fun e=>h2 (k.2 e))]
theorem qrZ{a b:Int}(ha:a<0)(hb:b<0):Ty a b=Lib.compareInt b a:=by
 unfold Ty Si;rw[if_pos ha,if_pos hb];exact Oe _ _ _ _ (by omega) (by omega)
theorem qsA{a b:Int}(ha:a<0)(hb:¬ b<0)(h:-1000<=a):Ty a b=-1:=by
 unfold Ty Si Lib.compareInt;rw[if_pos ha,if_neg hb,if_pos (by omega)]
theorem qsB{a b:Int}(ha:¬ a<0)(hb:b<0)(h:-1000<=b):Ty a b=1:=by
 unfold Ty Si Lib.compareInt;rw[if_neg ha,if_pos hb,if_neg (by omega),if_pos (by omega)]
theorem qsC{a b:Int}(ha:¬ a<0)(hb:¬ b<0):Ty a b=Lib.compareInt a b:=by
 unfold Ty Si;rw[if_neg ha,if_neg hb];exact Oe _ _ _ _ (by omega) (by omega)
theorem uv(a b:Int)(w:World)(ha:-1000<=a)(hb:-1000<=b):Calls Tryz.prog 83 #[.int .i64 a,.int .i64 b] w fun e w'=>e=.returned (.int .i64 (Ty a b))/\w=w':=by
 by_cases h1:a<0
 ·have d1:decide (a<0)=true:=by simpa using h1
  by_cases h2:b<0
  ·have d2:decide (b<0)=true:=by simpa using h2
   have HO:=Lh (qrZ h1 h2);clear h1 h2;go_enter Tryz.func83,Tryz.ntmps83;go_wp2_with fail;refine (Jd _ _).mono ?_;rintro e w' ⟨rfl,rfl⟩;go_wp2_with fail;refine (Jd _ _).mono ?_;rintro e w' ⟨rfl,rfl⟩;go_wp2_with fail;refine (Tryz.cmp_Compare_int _ _ _).mono ?_;rintro e w' ⟨rfl,rfl⟩;go_wp2_with fail;go_ret;exact⟨Kx (Gu HO.o.symm),rfl⟩
  ·have d2:decide (b<0)=false:=by simpa using h2
   have HO:=Lh (qsA h1 h2 ha);clear h1 h2;go_enter Tryz.func83,Tryz.ntmps83;go_wp2_with fail;refine (Jd _ _).mono ?_;rintro e w' ⟨rfl,rfl⟩;go_wp2_with fail;refine (Jd _ _).mono ?_;rintro e w' ⟨rfl,rfl⟩;go_wp2_with fail;refine (Jd _ _).mono ?_;rintro e w' ⟨rfl,rfl⟩;go_wp2_with fail;go_ret;exact⟨Kx (Gu HO.o.symm),rfl⟩
 ·have d1:decide (a<0)=false:=by simpa using h1
  by_cases h2:b<0
  ·have d2:decide (b<0)=true:=by simpa using h2
   have HO:=Lh (qsB h1 h2 hb);clear h1 h2;go_enter Tryz.func83,Tryz.ntmps83;go_wp2_with fail;refine (Jd _ _).mono ?_;rintro e w' ⟨rfl,rfl⟩;go_wp2_with fail;refine (Jd _ _).mono ?_;rintro e w' ⟨rfl,rfl⟩;go_wp2_with fail;refine (Jd _ _).mono ?_;rintro e w' ⟨rfl,rfl⟩;go_wp2_with fail;go_ret;exact⟨Kx (Gu HO.o.symm),rfl⟩
  ·have d2:decide (b<0)=false:=by simpa using h2
   have HO:=Lh (qsC h1 h2);clear h1 h2;go_enter Tryz.func83,Tryz.ntmps83;go_wp2_with fail;refine (Jd _ _).mono ?_;rintro e w' ⟨rfl,rfl⟩;go_wp2_with fail;refine (Jd _ _).mono ?_;rintro e w' ⟨rfl,rfl⟩;go_wp2_with fail;refine (Jd _ _).mono ?_;rintro e w' ⟨rfl,rfl⟩;go_wp2_with fail;refine (Tryz.cmp_Compare_int _ _ _).mono ?_;rintro e w' ⟨rfl,rfl⟩;go_wp2_with fail;go_ret;exact⟨Kx (Gu HO.o.symm),rfl⟩
def Lr:List Int->List Int->Int
 |[],[]=>0
 |[],_::_=>-1
 |_::_,[]=>1
 |a::x,b::y=>if Ty a b=0 then Lr x y else Ty a b
theorem zK(a b:Int):Ty a b=0↔Si a=Si b:=by
 unfold Ty Lib.compareInt;split
 ·omega
 ·split <;> omega
theorem qsD(a b:Int):Ty a b<0↔Si a<Si b:=by
 unfold Ty Lib.compareInt;split
 ·omega
 ·split <;> omega
theorem u_:∀ x y:List Int,Lr x y<0↔Fd x y
 |[],[]=>by simp[Lr,Fd]
 |[],_::_=>by simp[Lr,Fd]
 |_::_,[]=>by simp[Lr,Fd]
 |a::x,b::y=>by
  unfold Lr Fd;rw[List.map_cons,List.map_cons,List.cons_lt_cons_iff];by_cases h:Ty a b=0
  ·rw[if_pos h];have h2:=(zK a b).1 h;rw[u_ x y];unfold Fd;simp[h2]
  ·rw[if_neg h,qsD];have:Si a≠Si b:=fun e=>h ((zK a b).2 e);simp[this]
def tD(a b:Jo):Int:=if a.1=b.1 then Lr a.2 b.2 else Lib.compareInt a.1 b.1
theorem qrY(a b:Jo):tD a b<0↔Mc a b:=by
 unfold tD Mc;by_cases h:a.1=b.1
 ·rw[if_pos h,u_];constructor
  ·exact fun h2=>.inr ⟨h,h2⟩
  ·rintro (h2 | ⟨_,h2⟩)
   ·omega
   ·exact h2
 ·rw[if_neg h];unfold Lib.compareInt;constructor
  ·intro h2;split at h2
   ·exact .inl (by assumption)
   ·split at h2 <;> omega
  ·rintro (h2 | ⟨h2,_⟩)
   ·rw[if_pos h2];omega
   ·exact absurd h2 h
theorem qdB{a b:Int}{x y:List Int}(h:Ty a b=0):Lr (a::x) (b::y)=Lr x y:=by
 show (if Ty a b=0 then _ else _)=_
 rw[if_pos h]
theorem qdA{a b:Int}{x y:List Int}(h:Ty a b≠0):Lr (a::x) (b::y)=Ty a b:=by
 show (if Ty a b=0 then _ else _)=_
 rw[if_neg h]
theorem qnO(v1 v2:Value)(x y:List Int)(M:Nat)(w:World)(h1:Je Wo w M v1 x)(h2:Je Wo w M v2 y)(hx:∀ a∈x,(-1000:Int)<=a)(hy:∀ a∈y,(-1000:Int)<=a) :
  Calls Tryz.prog 82 #[v1,v2,.func (.func 83) #[] #[]] w fun e w'=>e=.returned (.int .i64 (Lr x y))/\w=w':=by
 obtain⟨A1,c1,rfl,uD,wT⟩:=h1.form;obtain⟨A2,c2,rfl,hb1,Ja⟩:=h2.form;unfold maxLen at wT Ja;have H1:=Lh h1;have H2:=Lh h2;have HX:=Lh hx;have HY:=Lh hy;clear h1 h2 hx hy;obtain⟨n,hn⟩:=Xe x.length;obtain⟨m,hm⟩:=Xe y.length;rw[<-hn] at H1 uD |-;rw[<-hm] at H2 hb1 |-;have HN:=Lh hn;have HM:=Lh hm;clear hn hm;go_enter Tryz.func82,Tryz.ntmps82;go_wp2_with fail;go_loopw [13] (fun v13 wr=>∃ i:Nat,i<=n/\i<=m/\v13=.int .i64 i/\Hid (Lr x y=Lr (x.drop i) (y.drop i))/\wr=w) (fun v13 _=>n - (intOf v13).toNat);exact⟨0,by omega,by omega,rfl,by simp[Hid],rfl⟩;obtain⟨i,hi,pb,rfl,HE,rfl⟩:=hrel;by_cases Ua:i<n
 ·have Fv:i<x.length:=by rw[<-HN.o];exact Ua
  obtain⟨b1,o1,cs1,rfl,_,_,Fm,Kt⟩:=H1.o.get Fv (by decide);obtain⟨rfl,Pr,gM⟩:=Fm;have Nj:=Kt 0 _ rfl;clear Kt;simp only[show Wo.size=1 from rfl,Yr,Yp] at Nj;by_cases hjm:i<m
  ·have Gt:i<y.length:=by rw[<-HM.o];exact hjm
   obtain⟨b2,o2,cs2,rfl,_,_,Mz,Jr⟩:=H2.o.get Gt (by decide);obtain⟨rfl,tX,wM⟩:=Mz;have Uy:=Jr 0 _ rfl;clear Jr;simp only[show Wo.size=1 from rfl,Yr,Yp] at Uy;have HDX:=Lh (Ql Fv);have HDY:=Lh (Ql Gt);have HOR:=Lh (uv x[i] y[i] wr (HX.o _ (Qg Fv)) (HY.o _ (Qg Gt)));generalize x[i]=a at *;generalize y[i]=b at *;by_cases hz:Ty a b=0
   ·have HZ:=Lh hz;have HNE:=Lh (show Lr x y=Lr (x.drop (i+1)) (y.drop (i+1)) by rw[HE.o,HDX.o,HDY.o,qdB hz]);clear hz;go_wp2_with fail;refine HOR.o.mono ?_;rintro e w1 ⟨rfl,rfl⟩;rw[HZ.o];go_wp2_with fail;go_roundw;exact⟨i+1,by omega,by omega,by go_num,HNE.o,trivial⟩;simp[intOf];omega
   ·have HNE:=Lh (show Lr x y=Ty a b by rw[HE.o,HDX.o,HDY.o,qdA hz]);have d0:(Ty a b != 0)=true:=by simpa using hz
    clear hz;go_wp2_with fail;refine HOR.o.mono ?_;rintro e w1 ⟨rfl,rfl⟩;go_wp2_with fail;go_ret;exact⟨Kx (Gu HNE.o.symm),rfl⟩
  ·have HNE:=Lh (show Lr x y=1 by
    rw[HE.o,Xl (l:=y) (by rw[<-HM.o];omega),Ql Fv]
    rfl)
   go_wp2_with fail;go_ret;exact⟨Kx (Gu HNE.o.symm),rfl⟩
 ·obtain rfl:i=n:=by omega
  have hdx:x.drop i=[]:=Xl (by rw[<-HN.o];exact Ya _);by_cases hjm:i<m
  ·have Gt:i<y.length:=by rw[<-HM.o];exact hjm
   have HNE:=Lh (show Lr x y=-1 by
    rw[HE.o,hdx,Ql Gt]
    rfl)
   clear hdx;go_wp2_with fail;go_ret;exact⟨Kx (Gu HNE.o.symm),rfl⟩
  ·have HNE:=Lh (show Lr x y=0 by
    rw[HE.o,hdx,Xl (l:=y) (by rw[<-HM.o];omega)]
    rfl)
   clear hdx;go_wp2_with fail;go_ret;exact⟨Kx (Gu HNE.o.symm),rfl⟩
theorem qsK(v1 v2:Value)(l1 l2:Int)(x y:List Int)(M:Nat)(w:World)(h1:Je Wo w M v1 x)(h2:Je Wo w M v2 y)(hM:M<=w.heap.size)(hx:∀ a∈x,(-1000:Int)<=a)(hy:∀ a∈y,(-1000:Int)<=a) :
  Calls Tryz.prog 80 #[.agg #[.int .i64 l1,v1],.agg #[.int .i64 l2,v2]] w fun e w'=>e=.returned (.int .i64 (tD (l1,x) (l2,y)))/\Below w.heap.size w w'/\w.drawn<=w'.drawn:=by
 obtain⟨A1,c1,rfl,uD,wT⟩:=h1.form;obtain⟨A2,c2,rfl,hb1,Ja⟩:=h2.form;have hB:Below w.heap.size w ((w.alloc (.cells #[.int .i64 l1,.slice A1 x.length c1] 63)).alloc (.cells #[.int .i64 l2,.slice A2 y.length c2] 63)):=((Xr _ _).alloc (Ya _) _).alloc (by rw[Xs];omega) _;have HB:=Lh hB;have HC:=Lh (qnO (.slice A1 x.length c1) (.slice A2 y.length c2) x y M _ (h1.below (hB.mono hM)) (h2.below (hB.mono hM)) hx hy);clear h1 h2 hx hy hB;generalize x.length=n at *;generalize y.length=m at *;by_cases h:l1=l2
 ·have d0:(l1 != l2)=false:=by simp[h]
  have HO:=Lh (show tD (l1,x) (l2,y)=Lr x y by unfold tD;rw[if_pos h]);clear h;go_enter Tryz.func80,Tryz.ntmps80;go_wp2_with fail;refine HC.o.mono ?_;rintro e w' ⟨rfl,rfl⟩;go_wp2_with fail;go_ret;exact⟨Kx (Gu HO.o.symm),HB.o,Ya _⟩
 ·have d0:(l1 != l2)=true:=by simp[h]
  have HO:=Lh (show tD (l1,x) (l2,y)=Lib.compareInt l1 l2 by unfold tD;rw[if_neg h]);clear h;go_enter Tryz.func80,Tryz.ntmps80;go_wp2_with fail;refine (Tryz.cmp_Compare_int _ _ _).mono ?_;rintro e w' ⟨rfl,rfl⟩;go_wp2_with fail;go_ret;exact⟨Kx (Gu HO.o.symm),HB.o,Ya _⟩
open Go.RowKit Go.Sort
def Bz{α:Type}(enc:α->List Value)(ks:List α):List Value:=(ks.map enc).flatten
section
variable {α:Type} [Inhabited α] {enc:α->List Value} {k:Nat}
omit [Inhabited α] in
theorem gS(hk:∀ x,(enc x).length=k):∀ ks:List α,(Bz enc ks).length=ks.length*k
 |[]=>by simp[Bz]
 |x::r=>by
  have ih:=gS hk r;unfold Bz at *;rw[List.map_cons,List.flatten_cons,Qe,ih,hk,Qu,Nat.add_mul];omega
theorem uS(hk:∀ x,(enc x).length=k)(k0:0<k):∀(ks:List α)(t:Nat),t<ks.length*k->(Bz enc ks)[t]? = some ((enc (ks.toArray[t/k]!))[t%k]!)
 |[],t,h=>by simp at h
 |x::r,t,h=>by
  unfold Bz;rw[List.map_cons,List.flatten_cons];by_cases ht:t<k
  ·rw[Qo (by rw[hk];exact ht),Nat.div_eq_of_lt ht,Nat.mod_eq_of_lt ht];have hl:t<(enc x).length:=by rw[hk];exact ht
   rw[Qa hl];simp only[List.getElem!_toArray,List.getElem!_cons_zero];rw[getElem!_pos (enc x) t hl]
  ·rw[Qn (by rw[hk];omega)];have ih:=uS hk k0 r (t - k) (by rw[Qu,Nat.add_mul] at h;omega);unfold Bz at ih;rw[hk,ih];have e0:t=(t - k)+k:=by omega
   have e1:t/k=(t - k)/k+1:=by
    conv=>lhs;rw[e0]
    exact Nat.add_div_right _ k0
   have e2:t%k=(t - k)%k:=by
    conv=>lhs;rw[e0]
    exact Nat.add_mod_right _ _
   rw[e1,e2];have Ji:(t - k)/k<r.length:=by
    rw[Qu,Nat.add_mul] at h;exact Nat.div_lt_of_lt_mul (by rw[Nat.mul_comm];omega)
   simp[Ji]
theorem uO(hk:∀ x,(enc x).length=k)(k0:0<k)(ks:List α):(flatK enc k ks.toArray).toList=Bz enc ks:=by
 apply List.ext_getElem?;intro t;by_cases h:t<ks.length*k
 ·rw[uS hk k0 ks t h,Array.getElem?_toList];have h':t<ks.toArray.size*k:=by simpa using h
  have hs:t<(flatK enc k ks.toArray).size:=by rw[size_flatK];exact h'
  have:=get_flatK enc k ks.toArray t h';rw[getElem!_pos _ t hs] at this;rw[Array.getElem?_eq_getElem hs,this]
 ·rw[Xf (by rw[Array.length_toList,size_flatK];simpa using h),Xf (by rw[gS hk];omega)]
theorem ee(hk:∀ x,(enc x).length=k)(k0:0<k){w:World}{g:Nat}{cur:Array Value}{e:TypeId}{ks:List α}(hb:w.heap[g]? = some (.cells cur e (0,0)))(ht:cur.toList.take (ks.length*k)=Bz enc ks):HoldsK enc k w g 0 ks.toArray:=by
 intro j hj;have Hs:j<ks.length*k:=by simpa using hj
 refine⟨?_,by simp[World.frozen?,hb]⟩;have h1:(cur.toList.take (ks.length*k))[j]? = (flatK enc k ks.toArray).toList[j]? := by rw[ht,uO hk k0]
 rw[List.getElem?_take_of_lt Hs,Array.getElem?_toList,Array.getElem?_toList,Array.getElem?_eq_getElem hj] at h1;rw[getElem!_pos _ j hj];simp only[World.cell?,hb,Yq];simp only[Option.isSome_none,Bool.false_eq_true,if_false];rw[h1];rfl
end
theorem ep{w:World}{g n:Nat}{os:Array Obj}{cur:Array Value}{e:TypeId}{fr:Nat×Nat}(F:Array Value)(hb:w.heap[g]? = some (.cells cur e fr)) :
  (Go.Sort.grow (putRow id (Sort.ahead w n) g 0 F) os).heap[g]? = some (.cells (putCells id 0 F cur) e fr):=by
 have hg:g<w.heap.size:=(gl hb);rw[heap_grow_old _ _ (by simpa using hg)];simp[putRow,mapBlock,Sort.ahead,Xy,hb,onCells]
theorem Hu{w:World}{g n:Nat}{os:Array Obj}(F:Array Value):w.grownBy (Go.Sort.grow (putRow id (Sort.ahead w n) g 0 F) os) (some g):=by
 refine⟨rfl,rfl,rfl,by simp,fun k hk hne=>?_⟩;rw[heap_grow_old _ _ (by simpa using hk)];have:g≠k:=fun e=>hne (by rw[e]);simp[putRow,mapBlock,Sort.ahead,Xy,this]
theorem rP(cur F:Array Value)(h:F.size<=cur.size):(putCells id 0 F cur).toList.take F.size=F.toList:=by
 apply List.ext_getElem?;intro j;by_cases hj:j<F.size
 ·rw[List.getElem?_take_of_lt hj,Array.getElem?_toList];simp[putCells,hj,show j<cur.size by omega]
 ·rw[List.getElem?_take_eq_none (by omega),Xf (by simp;omega)]
def aY:pW Jo:=qvF aA (oSl aA 3)
def yC(w:World)(N:Nat):Type:={ p:Int×Value×List Int // (-9223372036854775808<=p.1/\p.1<=9223372036854775807)/\Nl aA 3 w N p.2.1 p.2.2/\∀ a∈p.2.2,(-1000:Int)<=a }
instance {w:World}{N:Nat}:Inhabited (yC w N):=⟨⟨(0,.slice none 0 0,[]),⟨by decide,by decide⟩,Nl.nil w N,by simp⟩⟩
def Hv{w:World}{N:Nat}(p:yC w N):List Value:=[.int .i64 p.1.1,p.1.2.1]
def Tg{w:World}{N:Nat}(p:yC w N):Jo:=(p.1.1,p.1.2.2)
theorem qaH{w:World}{N:Nat}:∀(css:List (List Value))(rs:List Jo),css.length=rs.length->(∀(i:Nat)(cs:List Value)(x:Jo),css[i]? = some cs->rs[i]? = some x->aY.rep w N cs x)->(∀ r∈rs,vU r) ->
  ∃ ks:List (yC w N),Bz Hv ks=css.flatten/\ks.map Tg=rs
 |[],[],_,_,_=>⟨[],rfl,rfl⟩
 |[],_::_,h,_,_=>by simp at h
 |_::_,[],h,_,_=>by simp at h
 |cs::css,r::rs,hl,h,ho=>by
  obtain⟨ks,e1,e2⟩:=qaH css rs (by simpa using hl) (fun i cs x hc hx=>h (i+1) cs x hc hx) fun r hr=>ho r (Xi _ hr);obtain⟨c1,c2,hc,⟨h1,h2⟩,v,h3,h4⟩:=h 0 cs r rfl rfl;obtain⟨p,hp1,hp2⟩:∃ p:yC w N,Hv p=[.int .i64 r.1,v]/\Tg p=r:=⟨⟨(r.1,v,r.2),h2,h4,ho r (Xh ..)⟩,rfl,rfl⟩;refine⟨p::ks,?_,?_⟩
  ·unfold Bz at e1 |-;rw[List.map_cons,List.flatten_cons,List.flatten_cons,e1,hc,h1,h3,hp1];rfl
  ·rw[List.map_cons,e2,hp2]
theorem qrU{w w':World}{N:Nat}(hk:Jg [3] w w')(ks:List (yC w N)):∀(i:Nat)(cs:List Value)(x:Jo),(ks.map Hv)[i]? = some cs->(ks.map Tg)[i]? = some x->aY.rep w' N cs x:=by
 intro i cs x hc hx;rw[Qv] at hc hx;cases hki:ks[i]? with
 |none=>rw[hki] at hc;cases hc
 |some p =>
  rw[hki] at hc hx;injection hc with hc;injection hx with hx;subst hc hx;exact⟨[.int .i64 p.1.1],[p.1.2.1],rfl,⟨rfl,p.2.1⟩,p.1.2.1,rfl,p.2.2.1.keep hk⟩
theorem zW{w:World}{N:Nat}(x y:yC w N):ltOf (fun a b=>tD (Tg a) (Tg b)) x y=true↔Mc (Tg x) (Tg y):=by
 unfold ltOf;rw[Yj];exact qrY _ _
theorem gK{w:World}{N:Nat}(x y:yC w N):ltOf (fun a b=>tD (Tg a) (Tg b)) x y=false↔¬ Mc (Tg x) (Tg y):=by
 rw[<-zW,Bool.not_eq_true]
theorem zmT{w:World}{N:Nat}:SWO (ltOf fun a b:yC w N=>tD (Tg a) (Tg b)) where
 irrefl:=fun x=>by rw[gK];exact eI _
 trans:=fun x y z h1 h2=>by rw[zW] at *;exact Pb h1 h2
 ntrans:=fun x y z h1 h2=>by rw[gK] at *;exact iY _ _ _ h2 h1
theorem xh(w:World):(isAgg 63).run Tryz.prog w=.ok true w:=by kernel_rfl
theorem kn(w:World):(Go.sizeOf 63).run Tryz.prog w=.ok 2 w:=by kernel_rfl
theorem qrV{w:World}{N:Nat}{v:Value}{xs:List Int}(h:Nl aA 3 w N v xs):v.oneCell'=true:=by
 obtain⟨A,c,rfl,_⟩:=h.form;rfl
theorem xD(N:Nat)(v:Value)(rs:List Jo)(w:World)(h:Nl aY 63 w N v rs)(ho:∀ r∈rs,vU r)(hn:rs.length<4611686018427387904) :
  Calls Tryz.prog 79 #[v,.func (.func 80) #[] #[]] w fun e w'=>e=.returned (.tuple #[])/\Nl aY 63 w' N v (nS rs)/\w.grownBy w' v.ownBlock:=by
 have eg:∀ args w,(callFunc 80 args).run Tryz.prog w=.ok (.enter 80 args) w:=enters_of Tryz.func80 (by kernel_rfl) rfl;obtain⟨css,hown,Oa,Zx⟩:=h;obtain⟨ks,hf,hks⟩:=qaH css rs Oa Zx ho;have Eu:ks.length=rs.length:=by rw[<-hks,Qk]
 rcases hown.2 with ⟨xR,h0⟩ | ⟨g,cap,cur,hv,hbase,hb,h1,h2,h3,h4⟩
 ·subst xR;have hr:rs=[]:=Xw h0;subst hr;refine (AnyF.slices_SortFunc_none { Tryz.sortLayR with } none 0 _ w).mono fun e w' ⟨he,hw⟩=>⟨he,?_,?_⟩
  ·subst hw;rw[show nS []=[] by simp[nS]];exact Nl.nil _ _
  ·subst hw;exact⟨rfl,rfl,rfl,Ya _,fun _ _ _=>rfl⟩
 ·subst hv;rw[<-Eu] at h1 h4 hn |-;have hlen:∀ x:yC w N,(Hv x).length=2:=fun _=>rfl;have hH:HoldsK Hv 2 w g 0 ks.toArray:=ee hlen (by decide) hb (by rw[hf];exact h4);have hgl:g<w.heap.size:=(gl hb);have oO:∀(F:Array Value)(m:Nat)(os:Array Obj),Jg [3] w (Go.Sort.grow (putRow id (Sort.ahead w m) g 0 F) os):=fun F m os=>by
   have Lz:=Hu (w:=w) (g:=g) (n:=m) (os:=os) F;refine⟨Lz.size,fun j cu t ht hj=>(Lz.block j (gl hj) ?_).trans hj⟩;intro e;injection e with e;subst e;rw[hb] at hj;injection hj with hj;injection hj with _ hj;subst hj;exact absurd ht (by decide)
  have:=AnyQ.slices_SortFunc Tryz.sortLayR 2 xh kn Hv hlen (fun p u hu=>by simp only[Hv,List.mem_cons,List.not_mem_nil,or_false] at hu;rcases hu with rfl | rfl;rfl;exact qrV p.2.2.1) (fun a b=>tD (Tg a) (Tg b)) zmT 80 #[] g 0 cap ks.toArray w eg (fun m os dk hdk x y=>(qsK x.1.2.1 y.1.2.1 x.1.1 y.1.1 x.1.2.2 y.1.2.2 _ _ (x.2.2.1.keep (oO _ m os)).sl (y.2.2.1.keep (oO _ m os)).sl (Ya _) x.2.2.2 y.2.2.2).mono fun e w' ⟨he,hb,hd⟩=>⟨he,uG hb hd⟩) hH hgl (by simpa using hn);simp only[List.size_toArray] at this;refine Calls.mono this fun e w' ⟨he,d',n,os,hp,hs,hw⟩=>⟨he,?_,?_⟩
  ·have oN:(d'.toList.map Tg).Perm rs:=by
    rw[<-hks];refine List.Perm.map _ ?_;obtain⟨p1,_,p3⟩:=hp;have e1:d'.extract 0 ks.length=d':=by
     apply Array.extract_eq_self_of_le;rw[p1];simp
    have e2:ks.toArray.extract 0 ks.length=ks.toArray:=by
     apply Array.extract_eq_self_of_le;simp
    rw[e1,e2] at p3;simpa using p3
   have zeL:(d'.toList.map Tg).Pairwise fun a b=>¬ Mc b a:=by
    rw[List.pairwise_map,List.pairwise_iff_getElem];intro i j hi hj hij;have Ek:d'.size=ks.length:=by rw[hp.1];simp
    have:=hs i j (Yf _) hij (by rw[<-Ek];simpa using hj);rw[gK] at this;have Hs:j<d'.size:=by simpa using hj
    have hi':i<d'.size:=by simpa using hi
    rw[getElem!_pos d' j Hs,getElem!_pos d' i hi'] at this;simpa using this
   rw[<-Oz ho oN zeL];have Ek:d'.toList.length=ks.length:=by rw[Array.length_toList,hp.1];simp
   have hF:(flatK Hv 2 d')=(flatK Hv 2 d'.toList.toArray):=by simp
   subst hw;refine⟨d'.toList.map Hv,⟨by rw[<-Bz,gS hlen,Qk];rfl,.inr ⟨g,cap,_,by rw[Qk,Ek],hbase,ep _ hb,by rw[Qk,Ek];exact h1,h2,by simpa[putCells] using h3,?_⟩⟩,by simp,qrU (oO _ n os) d'.toList⟩;have hfs:(flatK Hv 2 d').size=ks.length*2:=by rw[size_flatK,hp.1];simp
   have:=rP cur (flatK Hv 2 d') (by rw[hfs,h3];exact Nat.mul_le_mul_right 2 h1);rw[Qk,Ek];rw[hfs] at this;show List.take (ks.length*2) _=_;rw[this,hF,uO hlen (by decide)];rfl
  ·subst hw;exact Hu _
theorem qrQ{w:World}{B:Nat}{v:Value}{ns:List Wd}(h:Je Nk w B v (ns.map Jp)):Je eW w B v ns:=by
 obtain⟨A,c,css,e,h1,h2,h3,h4,h5⟩:=h;rw[Qk] at e h1 h3;exact⟨A,c,css,e,h1,h2,h3,h4,fun i cs x hc hx=>h5 i cs _ hc (by rw[Qv,hx];rfl)⟩
theorem qeI(ms:List Wd)(x:Wd)(hx:x∈ms):Lib.idxOfS (ms.map Jp) (Jp x)=((ms.idxOf x:Nat):Int):=by
 have hl:=List.idxOf_lt_length_of_mem hx;unfold Lib.idxOfS;rw[Lib.idxFromS_hit (Jp x) (ms.map Jp) (ms.idxOf x) 0 (by rw[Qk];exact hl) ?_ ?_]
 ·rw[Yq]
 ·rw[Qb,Qv,Qa hl,List.getElem_idxOf];rfl
 ·intro j hj;have Hs:j<ms.length:=by omega
  rw[Qb,Qv,Qa Hs];intro e;have e2:ms[j]=x:=by
   have:=congrArg Wp e
   rwa [show Wp ((Option.map Jp (some ms[j])).getD ByteArray.empty)=ms[j] from rfl,Rc] at this
  have:=List.not_of_lt_findIdx (p:=(·==x)) (xs:=ms) (i:=j) hj;simp[e2] at this
theorem qeF(v:Value)(ms:List Wd)(x:Wd)(B:Nat)(w:World)(h:Je eW w B v ms)(hx:x∈ms) :
  Calls Tryz.prog 138 #[v,wv x] w fun e w'=>e=.returned (.int .i64 ((ms.idxOf x:Nat):Int))/\w=w':=by
 obtain⟨A,c,rfl,h1,h2⟩:=h.form;unfold maxLen at h2;have hp:0<ms.length:=List.length_pos_of_mem hx;obtain⟨b,off,rfl,-,-,-⟩:=h.wd (k:=0) hp;have:=Tryz.slices_Index_string b off ms.length c (ms.map Jp) (Jp x) w (by simp) (by omega) (fun j hj=>by
  have Hs:j<ms.length:=by simpa using hj
  obtain⟨b',zmZ,e,_,_,hc⟩:=h.wd Hs
  injection e with e
  injection e with e1 e2
  subst e1 e2
  rw[hc,Qb,Qv,Qa Hs]
  rfl)
 refine Calls.mono this ?_;rintro e w' ⟨rfl,rfl⟩;rw[Qd (by simp),qeI ms x hx];exact⟨rfl,rfl⟩
def Pi(f:Nat->Int)(n k:Nat):List Int:=(List.range n).map fun i=>if i<k then f i else 0
theorem aZ(f:Nat->Int)(n k:Nat):(Pi f n k).length=n:=by simp[Pi]
theorem tJ(f:Nat->Int){n k j:Nat}(h:j<n):(Pi f n k)[j]? = some (if j<k then f j else 0):=by simp[Pi,h]
theorem mA(f:Nat->Int)(n:Nat):Pi f n 0=List.replicate n 0:=by
 unfold Pi;simp only[Nat.not_lt_zero,if_false];rw[List.map_const',List.length_range]
theorem qkI(f:Nat->Int)(n:Nat):Pi f n n=(List.range n).map f:=by
 unfold Pi;refine List.map_congr_left fun i hi=>?_;rw[if_pos (Xz.1 hi)]
theorem qkH(f:Nat->Int){n k:Nat}:(Pi f n k).set k (f k)=Pi f n (k+1):=by
 apply List.ext_getElem?;intro j;by_cases hj:j<n
 ·rw[Xv,tJ f hj,tJ f hj,aZ];by_cases e:k=j
  ·subst e;simp[hj]
  ·rw[if_neg e];by_cases h2:j<k
   ·rw[if_pos h2,if_pos (by omega)]
   ·rw[if_neg h2,if_neg (by omega)]
 ·rw[Xf (by rw[Qm,aZ];omega),Xf (by rw[aZ];omega)]
theorem qjQ(z:Value)(n:Nat):madeCells #[z] n=(List.replicate n z).toArray:=by
 apply Array.ext
 ·simp[madeCells]
 ·intro i h1 h2;simp[madeCells,Nat.mod_one]
theorem qeE(n:Nat)(hn:n<=1048576)(w:World):(Instr.makeSlice 61 (.int .i64 (n:Int)) (.int .i64 (n:Int))).run Tryz.prog w=.ok (.slice (some ⟨w.heap.size,0,none⟩) n n) (w.alloc (.cells (Kl (Pi (fun _=>0) n 0)).toArray 3)):=by
 rw[mA,Kl,List.map_replicate,<-qjQ];exact run_make_row' 61 3 (.int .i64 0) 8 Tryz.underlying61 (by kernel_rfl) rfl .i64 .i64 n (by omega) (by omega) w
def qoQ(ns ms:List Wd)(w:World)(e:Ending)(w':World):Prop:=∃ v,e=.returned v/\Nl aA 3 w' w.heap.size v (ns.map fun n=>((ms.idxOf n:Nat):Int))/\Below w.heap.size w w'
theorem pv:∀ xs:List Int,(xs.map fun x=>[Value.int .i64 x]).flatten=Kl xs
 |[]=>rfl
 |x::l=>by rw[List.map_cons,List.flatten_cons,pv l];rfl
theorem qrX{w:World}{N g:Nat}{xs:List Int}(h:w.heap[g]? = some (.cells (Kl xs).toArray 3 (0,0)))(hN:N<=g)(hl:xs.length<=1048576)(hb:∀ x∈xs,-9223372036854775808<=x/\x<=9223372036854775807):Nl aA 3 w N (.slice (some ⟨g,0,none⟩) xs.length xs.length) xs:=by
 have hf:=pv xs;refine⟨xs.map fun x=>[.int .i64 x],?_,by simp,fun i cs x hc hx=>?_⟩
 ·rw[hf];refine⟨by simp[Kl,aA,mr,Wo],.inr ⟨g,xs.length,_,rfl,hN,h,Ya _,by unfold maxLen;omega,by simp[Kl,aA,mr,Wo],?_⟩⟩;show List.take (xs.length*1) _=_;rw[Yr];exact Qd (by simp[Kl])
 ·rw[Qv,hx] at hc;injection hc with hc;exact⟨hc.symm,hb x (Qp hx)⟩
theorem oF(v1 v2:Value)(ns ms:List Wd)(w:World)(h1:Je eW w w.heap.size v1 ns)(h2:Je eW w w.heap.size v2 ms)(hm:∀ n∈ns,n∈ms)(hn:ns.length<=1048576)(hml:ms.length<=1048576) :
  Calls Tryz.prog 76 #[v1,v2] w (qoQ ns ms w):=by
 obtain⟨A1,c1,rfl,uD,wT⟩:=h1.form;unfold maxLen at wT;have H1:=Lh h1;have H2:=Lh h2;have HM:=Lh hm;clear h1 h2 hm;obtain⟨n,yf⟩:=Xe ns.length;rw[<-yf] at H1 uD hn |-;have HN:=Lh yf;obtain⟨F,hF⟩:∃ F:Nat->Int,F=fun i=>((ms.idxOf (ns.getD i []):Nat):Int):=⟨_,rfl⟩;have HF:=Lh hF;clear yf hF;have qL:=qeE n hn w;rw[show Pi (fun _=>0) n 0=Pi F n 0 by rw[mA,mA]] at qL;have HB0:=Lh ((Xr w.heap.size w).alloc (Ya _) (.cells (Kl (Pi F n 0)).toArray 3));have HG0:=Lh (Xn w (.cells (Kl (Pi F n 0)).toArray 3));go_enter Tryz.func76,Tryz.ntmps76;go_wp2_with fail;generalize w.alloc (.cells (Kl (Pi F n 0)).toArray 3)=w1 at *;go_loopw [12] (fun v12 wr=>∃ k:Nat,k<=n/\v12=.int .i64 k/\Hid (wr.heap[w.heap.size]? = some (.cells (Kl (Pi F n k)).toArray 3 (0,0)))/\Hid (Below w.heap.size w wr)) (fun v12 _=>n - (intOf v12).toNat);exact⟨0,by omega,rfl,HG0.o,HB0.o⟩;clear HG0 HB0 qL;obtain⟨k,hk,rfl,HG,HB⟩:=hrel;by_cases Ji:k<n
 ·have oP:k<ns.length:=by rw[<-HN.o];exact Ji
  obtain⟨b,off,rfl,_,hb,hcw⟩:=(H1.o.below HB.o).wd oP;have HIX:=Lh (qeF v2 ms ns[k] w.heap.size wr (H2.o.below HB.o) (HM.o _ (Qg oP)));have HFK:=Lh (show F k=((ms.idxOf ns[k]:Nat):Int) by rw[HF.o];simp[oP]);generalize ns[k]=x at *;rw[<-HFK.o] at HIX;have Zm:wr.cell? ⟨w.heap.size,k,none⟩=some (.int .i64 0):=by
   rw[Zc _ _ _ _ _ _ HG.o,List.getElem?_toArray,Kl,Qv,tJ F Ji];simp
  have sk:wr.frozen? ⟨w.heap.size,k,none⟩=false:=by simp[World.frozen?,HG.o]
  have HG1:=Lh (show (wr.setCell ⟨w.heap.size,k,none⟩ (.int .i64 (F k))).heap[w.heap.size]? = some (.cells (Kl (Pi F n (k+1))).toArray 3 (0,0)) by
   simp only[World.setCell,Xy,if_true,HG.o,Option.map_some]
   rw[<-qkH,Kl,Kl,List.map_set,List.setIfInBounds_toArray]
   rfl)
  have HB1:=Lh (HB.o.setCell (p:=⟨w.heap.size,k,none⟩) (Ya _) (.int .i64 (F k)));generalize F k=fk at *;go_wp2_with fail;refine HIX.o.mono ?_;rintro e w' ⟨rfl,rfl⟩;go_wp2_with fail;go_roundw;exact⟨k+1,by omega,by go_num,HG1.o,HB1.o⟩;simp[intOf];omega
 ·obtain rfl:k=n:=by omega
  have Ju:=Lh (show Nl aA 3 wr w.heap.size (.slice (some ⟨w.heap.size,0,none⟩) k k) (ns.map fun n=>((ms.idxOf n:Nat):Int)) by
   have e:ns.map (fun n=>((ms.idxOf n:Nat):Int))=Pi F k k:=by
    rw[qkI,HF.o]
    apply List.ext_getElem?
    intro j
    rw[Qv,Qv]
    by_cases hj:j<k
    ·have Hs:j<ns.length:=by rw[<-HN.o];exact hj
     simp[hj,Hs]
    ·rw[Xf (by rw[<-HN.o];omega),Xf (by simp;omega)]
     rfl
   have:=qrX (N:=w.heap.size) HG.o (Ya _) (by rw[aZ];exact hn) (fun x hx=>by
    rw[<-e] at hx
    obtain⟨y,hy,rfl⟩:=Xa.1 hx
    have:=List.idxOf_lt_length_of_mem (HM.o y hy)
    omega)
   rw[aZ] at this
   rw[e]
   exact this)
  go_wp2_with fail;go_ret;exact⟨_,rfl,Ju.o,HB.o⟩
theorem qkE(Pt Pn:Nat)(vt vn:Value)(ts ns:List Int)(M:Nat)(s:Int)(w:World)(hct:w.cell? ⟨Pt,0,none⟩=some vt)(sm:w.cell? ⟨Pn,0,none⟩=some vn)(ht:Je Wo w M vt ts)(hn:Je Wo w M vn ns)(h1:-(ts.length:Int)<=s)(h2:s<ns.length)(_hl:ts.length<=1048576)(_hl2:ns.length<=1048576) :
  Calls Tryz.prog 77 #[.int .i64 s,.pointer (some ⟨Pt,0,none⟩),.pointer (some ⟨Pn,0,none⟩)] w fun e w'=>e=.returned (.int .i64 (if s<0 then -1 - ts.getD (-1 - s).toNat 0 else ns.getD s.toNat 0))/\w=w':=by
 obtain⟨A1,c1,rfl,uD,wT⟩:=ht.form;obtain⟨A2,c2,rfl,hb1,Ja⟩:=hn.form;unfold maxLen at wT Ja;have HT:=Lh ht;have HN:=Lh hn;clear ht hn;by_cases hs:s<0
 ·rw[if_pos hs];obtain⟨k,hk⟩:∃ k:Nat,s=-1 - (k:Int):=⟨(-1 - s).toNat,by omega⟩;have Eu:k<ts.length:=by omega
  obtain⟨b,off,cs,rfl,_,_,Zx,Zm⟩:=HT.o.get Eu (by decide);obtain⟨rfl,Pr,gM⟩:=Zx;have hc:=Zm 0 _ rfl;clear Zm;simp only[show Wo.size=1 from rfl,Yr,Yp] at hc;have HE:=Lh (show ts.getD (-1 - s).toNat 0=ts[k] by rw[show (-1 - s).toNat=k by omega];simp[Eu]);rw[HE.o];generalize ts[k]=x at *;have d0:decide (s<0)=true:=by rw[Yj];exact hs
  have e1:-1 - s=(k:Int):=by omega
  clear hs hk h1 h2;go_enter Tryz.func77,Tryz.ntmps77;go_wp2_with fail;refine (Jd _ _).mono ?_;rintro e w' ⟨rfl,rfl⟩;go_wp2_with fail;go_ret;exact⟨rfl,rfl⟩
 ·rw[if_neg hs];obtain⟨k,hk⟩:∃ k:Nat,s=(k:Int):=⟨s.toNat,by omega⟩;have Eu:k<ns.length:=by omega
  obtain⟨b,off,cs,rfl,_,_,Zx,Zm⟩:=HN.o.get Eu (by decide);obtain⟨rfl,Pr,gM⟩:=Zx;have hc:=Zm 0 _ rfl;clear Zm;simp only[show Wo.size=1 from rfl,Yr,Yp] at hc;have HE:=Lh (show ns.getD s.toNat 0=ns[k] by rw[show s.toNat=k by omega];simp[Eu]);rw[HE.o];generalize ns[k]=x at *;have d0:decide (s<0)=false:=by rw[Yk];exact hs
  subst hk;clear hs h1 h2;go_enter Tryz.func77,Tryz.ntmps77;go_wp2_with fail;refine (Jd _ _).mono ?_;rintro e w' ⟨rfl,rfl⟩;go_wp2_with fail;go_ret;exact⟨rfl,rfl⟩
end Go.Proofs.YtmaojnmnbpomeaaGreatDoor
namespace Go.Proofs.YtmaojnmnbpomeaaGreatDoor.TextU
open Go Go.RowKit Go.Proofs.YtmaojnmnbpomeaaGreatDoor.Text
variable {P:Program} {ops:Array Oper} {K:Act->World->Prop}
def gX(L:Nat->Bool)(j:Nat):Nat->Bool:=fun i=>i==j||L i
theorem andL_self(L:Nat->Bool)(j:Nat):gX L j j=true:=by simp[gX]
theorem qoI{L:Nat->Bool}{j i:Nat}(h:L i=true):gX L j i=true:=by simp[gX,h]
theorem qbC{L:Nat->Bool}{j i:Nat}(h:i≠j):gX L j i=L i:=by simp[gX,h]
theorem qgP{L:Nat->Bool}{j i:Nat}(hn:i≠j)(h:gX L j i=true):L i=true:=by rwa [qbC hn] at h
theorem _root_.Go.Proofs.YtmaojnmnbpomeaaGreatDoor.Xb{L:Nat->Bool}{j i:Nat}(h:gX L j i=true)(hn:i≠j:=by decide):L i=true:=qgP hn h
theorem _root_.Go.Proofs.YtmaojnmnbpomeaaGreatDoor.Xo{L:Nat->Bool}{j i:Nat}(h:L i=true):gX L j i=true:=qoI h
theorem andL_off{L:Nat->Bool}{j i:Nat}(h:gX L j i=false):L i=false:=by
 unfold gX at h;rw[Ym] at h;exact h.2
theorem zD(hb:bW ops=true){listed:Array Bool}(hs:listed.size=ops.size)(hr:Region.ready .any ops listed=[]):∀ j,j<ops.size->listed.getD j false=true:=by
 intro j
 induction j using Nat.strongRecOn with
 |_ j ih =>
  intro hj;cases hl:listed.getD j false with
  |true=>rfl
  |false =>
   have Ji:listed.getD j true=false:=by
    have Hs:j<listed.size:=by omega
    simp only[Array.getD,Hs,dif_pos] at hl |-;exact hl
   have Ua:j∈Region.ready .any ops listed:=mem_ready.2 ⟨Ji,ops[j],Array.getElem?_eq_getElem hj,fun e he hbd=>by
    have h1:=Xp.1 hb j (Xz.2 hj)
    rw[Array.getElem?_eq_getElem hj] at h1
    have h2:=Array.all_eq_true'.1 h1 e he
    rw[Yt,Yj] at h2
    rcases h2 with h2 | h2
    ·rw[hbd] at h2;cases h2
    ·exact ih e.on h2 (by omega)⟩
   rw[hr] at Ua;cases Ua
theorem qbB(J:(Nat->Bool)->Act->World->Prop)(hb:bW ops=true)
  (eT:∀(j:Nat)(o:Oper)(L:Nat->Bool)(a:Act)(w:World),ops[j]? = some o->L j=false->(∀ e∈o.after,Region.binds .any e=true->L e.on=true)->J L a w->wpOp P ops (Q0 K) j (fun a' w'=>J (gX L j) a' w') a w)
  (qmJ:∀(L:Nat->Bool)(a:Act)(w:World),(∀ j<ops.size,L j=true)->J L a w->K a w) :
  ∀(fuel:Nat)(listed:Array Bool)(a:Act)(w:World),listed.size=ops.size->listed.toList.count false<=fuel->J (fun i=>listed.getD i false) a w->wpAny P .any ops (Q0 K) fuel listed a w
 |0,listed,a,w,hs,hc,hJ=>by
  have hr:Region.ready .any ops listed=[]:=by
   apply List.eq_nil_iff_forall_not_mem.2;intro j hj;have h1:=(mem_ready.1 hj).1;have Hs:j<listed.size:=by
    rcases Nat.lt_or_ge j listed.size with h | h
    ·exact h
    ·simp only[Array.getD,show ¬ j<listed.size by omega,dif_neg,not_false_eq_true] at h1;cases h1
   have h2:listed[j]=false:=by simpa[Array.getD,Hs] using h1
   have:0<listed.toList.count false:=List.count_pos_iff.2 (by rw[<-h2];exact Array.getElem_mem_toList Hs);omega
  exact⟨hr,rfl,qmJ _ _ _ (zD hb hs hr) hJ⟩
 |fuel+1,listed,a,w,hs,hc,hJ=>by
  refine⟨fun hr=>⟨rfl,qmJ _ _ _ (zD hb hs hr) hJ⟩,fun j hj=>?_⟩;obtain⟨h1,o,ho,Uc⟩:=mem_ready.1 hj;have Hs:j<listed.size:=by
   rw[hs];exact (gl ho)
  have h2:listed[j]=false:=by simpa[Array.getD,Hs] using h1
  refine wpOp_mono (fun a' w' hJ'=>?_) (eT j o _ a w ho (by simpa[Array.getD,Hs] using h2) Uc hJ);refine qbB J hb eT qmJ fuel _ a' w' (by simpa using hs) ?_ ?_
  ·rw[Array.toList_setIfInBounds,List.count_set (by simpa using Hs)];have h3:(listed.toList[j]'(by simpa using Hs)==false)=true:=by simpa using h2
   rw[h3];have:0<listed.toList.count false:=List.count_pos_iff.2 (by rw[<-h2];exact Array.getElem_mem_toList Hs);rw[if_pos rfl,if_neg (by decide)];omega
  ·have e:(fun i=>(listed.setIfInBounds j true).getD i false)=gX (fun i=>listed.getD i false) j:=by
    funext i
    by_cases hij:i=j
    ·subst hij;simp[gX,Array.getD,Hs]
    ·rw[qbC hij,getD_set_ne false (Ne.symm hij)]
   rw[e];exact hJ'
theorem wp_anyInv{id:Nat}{Q:Exit->Act->World->Prop}{a:Act}{w:World}{l:List Oper}(J:(Nat->Bool)->Act->World->Prop)(hm:P.follows .mixedOrders=true)(hb:bW l.toArray=true)(h0:J (fun _=>false) a w.drew)
  (eT:∀(j:Nat)(o:Oper)(L:Nat->Bool)(a:Act)(w:World),l[j]? = some o->L j=false->(∀ e∈o.after,Region.binds .any e=true->L e.on=true)->J L a w->∀(J':(Nat->Bool)->Act->World->Prop)(Q':Exit->Act->World->Prop),(∀ L a w,J L a w->J' L a w)->(∀ a' w',J' (gX L j) a' w'->Q' .normal a' w')->wpList P l.toArray Q' [o] a w)
  (qmJ:∀(L:Nat->Bool)(a:Act)(w:World),(∀ j<l.length,L j=true)->J L a w->Q .normal a w):(Code.region id l.toArray true).wp P Q a w:=by
 refine Code.wp_mono (Q:=Q0 fun a w=>Q .normal a w) ?_ (wp_region_any hm ?_)
 ·rintro e a w ⟨rfl,h⟩;exact h
 ·refine qbB J hb (fun j o L a w ho hL hd hJ=>node_U ho fun Q' hQ'=>eT j o L a w (by simpa using ho) hL hd hJ J Q' (fun _ _ _ h=>h) hQ') (fun L a w Uc hJ=>qmJ L a w (by simpa using Uc) hJ) _ _ _ _ (by simp) (by simp) ?_;have e:(fun i=>(Array.replicate l.toArray.size false).getD i false)=fun _=>false:=by
   funext i
   simp only[Array.getD];split <;> simp
  rw[e];exact h0
end Go.Proofs.YtmaojnmnbpomeaaGreatDoor.TextU
namespace Go.Proofs.YtmaojnmnbpomeaaGreatDoor
open Go.RowKit Go.Sort
theorem ek{w:World}{g n o:Nat}{os:Array Obj}{cur:Array Value}{e:TypeId}{fr:Nat×Nat}(d:Array (List UInt8))(hb:w.heap[g]? = some (.cells cur e fr)) :
  (Go.Sort.grow (putRow encStr (Sort.ahead w n) g o d) os).heap[g]? = some (.cells (putCells encStr o d cur) e fr):=by
 have hg:g<w.heap.size:=(gl hb);rw[heap_grow_old _ _ (by simpa using hg)];simp[putRow,mapBlock,Sort.ahead,Xy,hb,onCells]
theorem pP{w:World}{g n o:Nat}{os:Array Obj}(d:Array (List UInt8)):w.grownBy (Go.Sort.grow (putRow encStr (Sort.ahead w n) g o d) os) (some g):=by
 refine⟨rfl,rfl,rfl,by simp,fun k hk hne=>?_⟩;rw[heap_grow_old _ _ (by simpa using hk)];have:g≠k:=fun e=>hne (by rw[e]);simp[putRow,mapBlock,Sort.ahead,Xy,this]
theorem rO(cur:Array Value)(x:Wd)(xs ts:List Wd)(hl:ts.length=xs.length)(h:xs.length+1<=cur.size)(h0:cur.toList.take (xs.length+1)=Jf (x::xs)):(putCells encStr 1 ts.toArray cur).toList.take (xs.length+1)=Jf (x::ts):=by
 apply List.ext_getElem?;intro j;by_cases hj:j<xs.length+1
 ·rw[List.getElem?_take_of_lt hj,Array.getElem?_toList];have Hs:j<cur.size:=by omega
  cases j with
  |zero =>
   have h1:(cur.toList.take (xs.length+1))[0]? = (Jf (x::xs))[0]? := by rw[h0]
   rw[List.getElem?_take_of_lt (by omega),Array.getElem?_toList] at h1;simp[putCells,h1,Jf]
  |succ i =>
   have hi:i<ts.length:=by omega
   simp[putCells,Hs,Jf,hi,show 1+ts.length>i+1 by omega,encStr]
 ·rw[List.getElem?_take_eq_none (by omega),Xf (by simp[Jf];omega)]
def D_(base:Nat)(A:Option Addr)(c:Nat)(x:Wd)(xs:List Wd)(w:World)(e:Ending)(w':World):Prop :=
 e=.returned (.tuple #[])/\w'.ownsRow base 9 1 (.slice A (xs.length+1) c) (xs.length+1) (Jf (x::Ky xs))/\w.grownBy w' (Value.slice A (xs.length+1) c).ownBlock
theorem dc(base:Nat)(A:Option Addr)(c:Nat)(x:Wd)(xs:List Wd)(w:World)(h:w.ownsRow base 9 1 (.slice A (xs.length+1) c) (xs.length+1) (Jf (x::xs)))(hn:xs.length<4611686018427387904) :
  Calls Tryz.prog 75 #[.slice (if c=1 then A else A.map (·.add 1)) xs.length (c - 1)] w (D_ base A c x xs w):=by
 rcases Nat.eq_zero_or_pos xs.length with h0 | h0
 ·have hx:xs=[]:=Xw h0;subst hx;refine (Tryz.slices_Sort_string_none _ _ w).mono ?_;rintro e w' ⟨rfl,rfl⟩;exact⟨rfl,by simpa[Ky] using h,rfl,rfl,rfl,Ya _,fun _ _ _=>rfl⟩
 ·rcases h.2 with ⟨_,h1⟩ | ⟨g,cap,cur,hv,hbase,hb,h1,h2,h3,h4⟩
  ·omega
  ·injection hv with e1 e2 e3;subst e1 e3;rw[if_neg (by omega)];rw[Yr] at h3 h4;have hH:Holds encStr w g 1 xs.toArray:=by
    intro j hj;have Hs:j<xs.length:=by simpa using hj
    refine⟨?_,by simp[World.frozen?,hb]⟩;have h5:(cur.toList.take (xs.length+1))[1+j]? = (Jf (x::xs))[1+j]? := by rw[h4]
    rw[List.getElem?_take_of_lt (by omega),Array.getElem?_toList] at h5;rw[Zc _ _ _ _ _ _ hb,h5,Nat.add_comm 1 j];simp[Jf,Hs,encStr]
   have:=Tryz.slices_Sort_string g 1 (c - 1) xs w hH (gl hb) hn;refine Calls.mono this ?_;rintro e w' ⟨rfl,n,os,rfl⟩;refine⟨rfl,⟨by simp[Jf,Ba],.inr ⟨g,c,_,rfl,hbase,ek _ hb,h1,h2,by simpa[putCells] using h3,?_⟩⟩,pP _⟩;rw[Yr];exact rO cur x xs _ (Ba xs) (by omega) h4
open Go.RowKit
theorem pq(l l':List Wd){i:Nat}(h:i<l.length):(l.map fun x=>((l'.idxOf x:Nat):Int)).getD i 0=((l'.idxOf (l.getD i []):Nat):Int):=by
 simp[h]
theorem qrK(ns ts xN ts':List Wd){s:Int}(h:Vp ns.length ts.length s) :
  (if s<0 then -1 - (ts.map fun x=>((ts'.idxOf x:Nat):Int)).getD (-1 - s).toNat 0 else (ns.map fun x=>((xN.idxOf x:Nat):Int)).getD s.toNat 0)=Rt ns ts xN ts' s:=by
 unfold Rt;obtain⟨h1,h2⟩:=h;by_cases hs:s<0
 ·rw[if_pos hs,if_pos hs,pq ts ts' (by omega)]
 ·rw[if_neg hs,if_neg hs,pq ns xN (by omega)]
def zzZ(ns ts:List Wd)(rs:List Jo)(w:World)(e:Ending)(w':World):Prop :=
 ∃ u1 u2 u3,e=.returned (.agg #[u1,u2,u3])/\Je eW w' w'.heap.size u1 (Di ns)/\Je eW w' w'.heap.size u2 (Ky ts)/\Je Vv w' w'.heap.size u3 (pT ns ts rs)/\Below w.heap.size w w'
theorem Ox{P:Program}{w:World}{g:Nat}{ty:TypeId}{vs:List Value}{v:Value}(hv:v.cells=vs.toArray)(hi:(P.info? ty).map (·.size)=some vs.length){cur:Array Value}{t:TypeId}(hg:w.heap[g]? = some (.cells cur t (0,0)))
  (hl:vs.length=cur.size) (h1:∀ u∈vs,u.oneCell'=true):(Instr.storeAt ty (.pointer (some ⟨g,0,none⟩)) v).run P w=.ok () (w.setRow g vs.toArray):=by
 rw[Az hv hi hg (by omega) h1];congr 2;simp[List.drop_eq_nil_of_le (show cur.toList.length<=vs.length by simp;omega)]
structure Ol(P:Nat)(w w':World):Prop where
 size:w.heap.size<=w'.heap.size
 os:w'.os=w.os
 tape:w'.tape=w.tape
 output:w'.output=w.output
 block:∀ k<w.heap.size,k≠P->w'.heap[k]? = w.heap[k]?
structure ce(w7:World)(P:Nat)(u1 u2:Value)(l:List Jo)(v3:Value)(wr:World):Prop where
 row:wr.heap[P]? = some (.cells #[u1,u2,v3] 25 (0,0))
 own:Nl aY 63 wr w7.heap.size v3 l
 keep:Ol P w7 wr
def Il(w:World)(B:Nat)(x:Value)(cs:Array Value)(T:TypeId):Prop:=∃ b,x=.pointer (some ⟨b,0,none⟩)/\B<=b/\w.heap[b]? = some (.cells cs T (0,0))
theorem Uz{w w':World}{B:Nat}{x:Value}{cs:Array Value}{T:TypeId}(h:Il w B x cs T)(hb:Below w.heap.size w w'):Il w' B x cs T:=by
 obtain⟨b,h1,h2,h3⟩:=h;exact⟨b,h1,h2,(hb.block b (gl h3)).trans h3⟩
theorem fu(w:World){B:Nat}(cs:Array Value)(T:TypeId)(h:B<=w.heap.size):Il (w.alloc (.cells cs T)) B (.pointer (some ⟨w.heap.size,0,none⟩)) cs T:=⟨_,rfl,h,Xn w _⟩
theorem Rg{ts:List TypeId}{w:World}{g:Nat}{cs cs':Array Value}{T:TypeId}(h:w.heap[g]? = some (.cells cs T (0,0)))(hT:T∉ts):Jg ts w (w.setRow g cs'):=by
 refine⟨by simp[World.setRow],fun k cur t ht hk=>?_⟩;rw[setRow_other w g k cs' ?_]
 ·exact hk
 ·intro e;subst e;rw[h] at hk;injection hk with hk;injection hk with _ hk;exact hT (hk ▸ ht)
theorem bp{w:World}{B b:Nat}{x:Value}{cs:Array Value}{T:TypeId}(h:Il w B x cs T)(hne:Value.pointer (some ⟨b,0,none⟩)≠x)(cs':Array Value):Il (w.setRow b cs') B x cs T:=by
 obtain⟨g,rfl,h2,h3⟩:=h;exact⟨g,rfl,h2,(setRow_other w b g cs' (fun e=>hne (by rw[e]))).trans h3⟩
theorem zH{w w':World}{base size n:Nat}{e:TypeId}{v:Value}{xs:List Value}{r:Option Nat}(h:w.ownsRow base e size v n xs)(hg:w.grownBy w' r)(hne:∀ k,v.ownBlock=some k->r≠some k):w'.ownsRow base e size v n xs:=by
 refine⟨h.1,?_⟩;rcases h.2 with h' | ⟨g,cap,cur,rfl,hb,hh,q⟩
 ·exact .inl h'
 ·exact .inr ⟨g,cap,cur,rfl,hb,(hg.block g (gl hh) (fun e=>hne g rfl e.symm)).trans hh,q⟩
def kV(w:World)(B:Nat)(x y:Value)(m:Nat)(cs:List Value):Prop:=∃ M,B<=M/\(∀ k,x.ownBlock=some k->k<M)/\w.ownsRow M 9 1 y m cs
theorem vM{w w':World}{B m:Nat}{x y:Value}{cs:List Value}(h:kV w B x y m cs)(hk:Jg [9] w w'):kV w' B x y m cs:=by
 obtain⟨M,h1,h2,h3⟩:=h;exact⟨M,h1,h2,Vi h3 hk (by simp)⟩
theorem Ol.T{P:Nat}{w w':World}{cs:Array Value}{T:TypeId}{ts:List TypeId}(h:Ol P w w')(hP:w.heap[P]? = some (.cells cs T (0,0)))(hT:T∉ts):Jg ts w w' :=
 ⟨h.size,fun g cur t ht hg=>(h.block g (gl hg) (fun e=>by
  subst e
  rw[hP] at hg
  injection hg with hg
  injection hg with _ hg
  subst hg
  exact absurd ht hT)).trans hg⟩
theorem Ol.trans{P:Nat}{a b c:World}(h:Ol P a b)(k:Ol P b c):Ol P a c:=⟨Yb h.size k.size,k.os.trans h.os,k.tape.trans h.tape,k.output.trans h.output,fun i hi hn=>(k.block i (Yd hi h.size) hn).trans (h.block i hi hn)⟩
theorem Ol.of_below{P N:Nat}{w w':World}(h:Below N w w')(hN:w.heap.size<=N):Ol P w w':=⟨h.size,h.os,h.tape,h.output,fun k hk _=>h.block k (Yd hk hN)⟩
theorem eR{ts:List TypeId}{w:World}{g k:Nat}{cs:Array Value}{T:TypeId}(h:w.heap[g]? = some (.cells cs T (0,0)))(hT:T∉ts)(v:Value):Jg ts w (w.setCell ⟨g,k,none⟩ v):=by
 refine⟨by simp[World.setCell],fun j cur t ht hj=>?_⟩;rw[Zb _ _ _ _ ?_]
 ·exact hj
 ·intro e;subst e;rw[h] at hj;injection hj with hj;injection hj with _ hj;exact hT (hj ▸ ht)
theorem au{w:World}{g k:Nat}{cs:Array Value}{T:TypeId}(h:w.heap[g]? = some (.cells cs T (0,0)))(v:Value):(w.setCell ⟨g,k,none⟩ v).heap[g]? = some (.cells (cs.setIfInBounds k v) T (0,0)):=by
 simp only[World.setCell,Xy,if_true,h,Option.map_some];rfl
structure InC(w2:World)(b9:Nat)(M0:Int)(l:List Int)(v9:Value)(wz:World):Prop where
 row:wz.heap[b9]? = some (.cells #[.int .i64 M0,v9] 63 (0,0))
 own:Nl aA 3 wz (b9+1) v9 l
 keep:Below b9 w2 wz
theorem InC.snoc{w2 wz w3 w4:World}{b9:Nat}{M0 m:Int}{l:List Int}{v9 v':Value}{css:List (List Value)}(h:InC w2 b9 M0 l v9 wz)(hb:Below wz.heap.size wz w3)(h0:w3.ownsRow (b9+1) 3 1 v9 l.length css.flatten)(h2:css.length=l.length)
  (h3:∀(i:Nat)(cs:List Value)(x:Int),css[i]? = some cs->l[i]? = some x->aA.rep w3 (b9+1) cs x) (hm:-9223372036854775808<=m/\m<=9223372036854775807) (ho:w4.ownsRow (b9+1) 3 1 v' (l.length+1) (css.flatten++[.int .i64 m])) (hg:w3.grownBy w4 v9.ownBlock) :
  InC w2 b9 M0 (l++[m]) v' (w4.setCell ⟨b9,1,none⟩ v'):=by
 have hz:=(gl h.row);have hr3:=(hb.block b9 hz).trans h.row;have hr4:=Zq h0 hg hr3 (by decide);have hk:=eR (ts:=[3]) (k:=1) hr4 (by decide) v';refine⟨au hr4 v',(Nl.snoc (O:=aA) (by simp[aA,mr]) h0 h2 h3 ⟨rfl,hm⟩ ho hg).keep hk,?_⟩;have hb3:Below b9 w2 w3:=h.keep.trans (hb.mono (Yg hz));exact (Zt hb3 hg h0 (Yh _) (Yb (Yg hz) hb.size)).setCell (p:=⟨b9,1,none⟩) (Ya _) v'
theorem ce.snoc{w7 wr w3 w4:World}{P:Nat}{u1 u2 v3 v' v9:Value}{l:List Jo}{r:Jo}{M0:Int}{css:List (List Value)}(h:ce w7 P u1 u2 l v3 wr)(_hP:P<w7.heap.size)(hb:Below wr.heap.size wr w3)(h0:w3.ownsRow w7.heap.size 63 2 v3 l.length css.flatten)(h2:css.length=l.length)
  (h3:∀(i:Nat)(cs:List Value)(x:Jo),css[i]? = some cs->l[i]? = some x->aY.rep w3 w7.heap.size cs x) (hx:aY.rep w3 w7.heap.size [.int .i64 M0,v9] r) (ho:w4.ownsRow w7.heap.size 63 2 v' (l.length+1) (css.flatten++[.int .i64 M0,v9])) (hg:w3.grownBy w4 v3.ownBlock) :
  ce w7 P u1 u2 (l++[r]) v' (w4.setCell ⟨P,2,none⟩ v'):=by
 have hz:=(gl h.row);have hr3:=(hb.block P hz).trans h.row;have hr4:=Zq h0 hg hr3 (by decide);have hk:=eR (ts:=[63,3]) (k:=2) hr4 (by decide) v';refine⟨au hr4 v',(Nl.snoc (O:=aY) (by decide) h0 h2 h3 hx ho hg).keep hk,?_⟩;have Ek:=(w4.setCell ⟨P,2,none⟩ v').heap.size;refine⟨Yb h.keep.size (Yb hb.size (Yb hg.size (by simp[World.setCell]))),(hg.os.trans hb.os).trans h.keep.os,(hg.tape.trans hb.tape).trans h.keep.tape,(hg.output.trans hb.output).trans h.keep.output,fun k hk hn=>?_⟩;rw[Zb _ _ _ _ hn];have hkr:=Yd hk h.keep.size;refine (hg.block k (Yd hkr hb.size) fun e=>?_).trans ((hb.block k hkr).trans (h.keep.block k hk hn));have:=(h0.lt k e.symm).1;omega
end Go.Proofs.YtmaojnmnbpomeaaGreatDoor
