/- A part. -/
import Derived.Test.YtmaojnmnbpomeaaGreatDoorVM00
import Derived.WalkSpells
import Derived.WalkLawsBesides
import Derived.Handy
import Derived.Lib.Hide
set_option maxRecDepth 100000
set_option maxHeartbeats 64000000
namespace Go.Proofs.YtmaojnmnbpomeaaGreatDoor
open Go.RowKit
theorem Kx{a a':Value}(h:a=a'):Ending.returned a=.returned a':=by rw[h]
theorem Gu{k:IntKind}{a b:Int}(h:a=b):Value.int k a=.int k b:=by rw[h]
theorem Zv{a b:Bool}(h:a=b):Value.bool a=.bool b:=by rw[h]
theorem qxM{a b:ByteArray}(h:a=b):Value.string a=.string b:=by rw[h]
def Rd(w:World)(B:Nat)(A:Option Addr)(xs:List Value):Prop :=
 xs≠[]->∃ b off,A=some ⟨b,off,none⟩/\b<B/\∀ j u,xs[j]? = some u->w.cell? ⟨b,off+j,none⟩=some u
section
variable {w w':World} {B B':Nat} {A:Option Addr} {xs:List Value}
theorem Rd.nil_:Rd w B A []:=fun h=>absurd rfl h
theorem Rd.at_(h:Rd w B A xs){k:Nat}(hk:k<xs.length):∃ b off,A=some ⟨b,off,none⟩/\b<B/\w.cell? ⟨b,off+k,none⟩=some xs[k]:=by
 obtain⟨b,off,e,hb,hc⟩:=h (by intro e;subst e;simp at hk);exact⟨b,off,e,hb,hc k _ (Qa hk)⟩
theorem Rd.keep(h:Rd w B A xs)(hk:∀ p:Addr,p.block<B->w'.cell? p=w.cell? p):Rd w' B A xs:=fun hn=>by
 obtain⟨b,off,e,hb,hc⟩:=h hn;exact⟨b,off,e,hb,fun j u hu=>(hk _ hb).trans (hc j u hu)⟩
theorem Rd.more(h:Rd w B A xs)(hB:B<=B'):Rd w B' A xs:=fun hn=>by
 obtain⟨b,off,e,hb,hc⟩:=h hn;exact⟨b,off,e,by omega,hc⟩
theorem Rd.drop_(h:Rd w B A xs)(k:Nat){cap:Nat}(hc:k<xs.length->k≠cap) :
  Rd w B (if cap=k then A else A.map (·.add k)) (xs.drop k):=fun hn=>by
 have hl:k<xs.length:=by
  rcases Nat.lt_or_ge k xs.length with h' | h'
  ·exact h'
  ·exact absurd (List.drop_eq_nil_of_le h') hn
 obtain⟨b,off,rfl,hb,Zm⟩:=h (by intro e;subst e;simp at hl);have:=hc hl;rw[if_neg (by omega)];refine⟨b,off+k,by simp[Addr.add_lit],hb,fun j u hu=>?_⟩;rw[Yx];exact Zm _ u (by rw[<-hu,List.getElem?_drop])
theorem Rd.of_own{base:Nat}{e:TypeId}{size n c:Nat}(h:w.ownsRow base e size (.slice A n c) n xs):Rd w w.heap.size A xs:=fun hn=>by
 rcases h.2 with ⟨hv,h0⟩ | ⟨g,cap,cur,hv,_,hg,_⟩
 ·have h1:=h.1;rw[h0] at h1;exact absurd (Xw (by omega)) hn
 ·have hA:A=some ⟨g,0,none⟩:=by injection hv
  subst hA;refine⟨g,0,rfl,(gl hg),fun j u hu=>?_⟩;have:=h.cells (g:=g) rfl j u hu
  rwa [Addr.add_lit] at this
end
theorem Zo{w:World}{base:Nat}{e:TypeId}{size:Nat}{v:Value}{n:Nat}{xs:List Value}(h:w.ownsRow base e size v n xs) :
  ∃ A c,v=.slice A n c/\n<=c/\c<=maxLen:=by
 rcases h.2 with ⟨rfl,rfl⟩ | ⟨g,cap,cur,rfl,_,_,h1,h2,_⟩
 ·exact⟨none,0,rfl,by omega,by simp[maxLen]⟩
 ·exact⟨_,cap,rfl,h1,h2⟩
theorem Fr{w:World}{base qwM:Nat}{e:TypeId}{size:Nat}{v:Value}{n:Nat}{xs:List Value}(h:w.ownsRow base e size v n xs)(hb:qwM<=base) :
  w.ownsRow qwM e size v n xs:=by
 refine⟨h.1,?_⟩;rcases h.2 with h' | ⟨g,cap,cur,rfl,hg,r⟩
 ·exact .inl h'
 ·exact .inr ⟨g,cap,cur,rfl,by omega,r⟩
theorem Zy{w w':World}{base:Nat}{e:TypeId}{size:Nat}{v:Value}{n:Nat}{xs:List Value}(h:w.ownsRow base e size v n xs)(hb:Below w.heap.size w w') :
  w'.ownsRow base e size v n xs:=by
 refine⟨h.1,?_⟩;rcases h.2 with h' | ⟨g,cap,cur,rfl,hg,hh,r⟩
 ·exact .inl h'
 ·exact .inr ⟨g,cap,cur,rfl,hg,(hb.block g (gl hh)).trans hh,r⟩
theorem jr{a b:World}(h:a.heap=b.heap)(h2:a.tape=b.tape)(h3:a.drawn=b.drawn)(h4:a.os=b.os)(h5:a.output=b.output):a=b:=by
 cases a;cases b;simp only at *;subst h h2 h3 h4 h5;rfl
theorem di(w:World)(cur cs:Array Value)(e:TypeId):(w.alloc (.cells cur e)).setRow w.heap.size cs=w.alloc (.cells cs e):=by
 refine jr ?_ rfl rfl rfl rfl;apply Array.ext_getElem?;intro i;by_cases hi:i=w.heap.size
 ·subst hi;rw[Zi _ _ cur cs e (0,0) (Xn w _),Xn w _]
 ·rw[setRow_other _ _ _ _ hi];show (w.heap.push _)[i]? = (w.heap.push _)[i]?;rw[Array.getElem?_push,Array.getElem?_push,if_neg hi,if_neg hi]
theorem Rd.row{w:World}{B g:Nat}{e:TypeId}{fr:Nat×Nat}{cs:Array Value}(h:w.heap[g]? = some (.cells cs e fr))(hB:g<B):Rd w B (some ⟨g,0,none⟩) cs.toList:=fun _ =>
 ⟨g,0,rfl,hB,fun j u hu=>by
  rw[Yq,Zc w g j cs e fr h,<-Array.getElem?_toList]
  exact hu⟩
theorem Fu(w:World)(o o':Obj):((w.alloc o).alloc o').heap[w.heap.size+1]? = some o':=by
 have:=Xn (w.alloc o) o'
 rwa [Xs] at this
structure Dc(P:Program)(t e:TypeId)(size bytes:Nat)(z:Value):Prop where
 und:P.underlying t=some (.slice e)
 info:∃ i,P.info? e=some i/\i.zero=some z/\i.size=size/\i.bytes=bytes
 cells:z.cells.size=size
 pos:0<size
theorem Gq{P:Program}{t e:TypeId}{size bytes:Nat}{z:Value}(h1:P.underlying t=some (.slice e))(h2:(P.info? e).map (fun i=>(i.zero,i.size,i.bytes))=some (some z,size,bytes))
  (h3:z.cells.size=size) (h4:0<size):Dc P t e size bytes z:=⟨h1,info_parts h2,h3,h4⟩
section
variable {P:Program} {w:World}
theorem qrR{t ty e:TypeId}{size bytes:Nat}{z:Value}(T:Dc P t e size bytes z){base:Nat}{v:Value}{n:Nat}{xs:List Value}(hown:w.ownsRow base e size v n xs)
  {B:Nat} {A:Option Addr} {m c:Nat} {news:List Value} (hr:Rd w B A news) (hl:news.length=m*size) (h1:∀ u∈news,u.oneCell'=true)
  (h63:n+m<=maxLen) (Iv:(n+m)*bytes<=140737488355328) (hbase:base<=w.heap.size) :
  ∃ v' w',(Builtin.append_ #[t,t] ty #[v,.slice A m c]).run P w=.ok v' w'/\w'.ownsRow base e size v' (n+m) (xs++news)/\w.grownBy w' v.ownBlock /\
   (v'.ownBlock=v.ownBlock\/v'.ownBlock=some w.heap.size)/\(v'=.slice none 0 0↔v=.slice none 0 0/\m=0):=by
 obtain⟨i,hi,hz,hs,hby⟩:=T.info;by_cases hm:m=0
 ·subst hm;have hn:news=[]:=Xw (by simpa using hl);subst hn;rcases A with _ | ad
  ·refine⟨v,w,?_,by simpa using hown,⟨rfl,rfl,rfl,Ya _,fun _ _ _=>rfl⟩,.inl rfl,by simp⟩;rcases hown.2 with ⟨rfl,rfl⟩ | ⟨g,cap,cur,rfl,_,_,hnc,_⟩
   ·simp[Builtin.append_,run_underlying T.und,sizeOf,typeInfo,hi,Builtin.lenOf,Builtin.firstCells]
   ·simp[Builtin.append_,run_underlying T.und,sizeOf,typeInfo,hi,Builtin.lenOf,Builtin.firstCells,hnc,storeCells]
  ·obtain⟨v',w',g1,g2,g3,g4,g5⟩:=run_append_own_at (P:=P) w base t ty e i z size bytes T.und hi hz hs hby T.cells T.pos v n xs hown ad 0 c [] (by simp) (by simp) (by simp) h63 Iv hbase;exact⟨v',w',g1,g2,g3,g5,g4⟩
 ·have hne:news≠[]:=by
   intro e;subst e;simp only[Xt] at hl;have:=Nat.mul_pos (Nat.pos_of_ne_zero hm) T.pos;omega
  obtain⟨b,off,rfl,_,hc⟩:=hr hne;obtain⟨v',w',g1,g2,g3,g4,g5⟩:=run_append_own_at (P:=P) w base t ty e i z size bytes T.und hi hz hs hby T.cells T.pos v n xs hown ⟨b,off,none⟩ m c news hl (fun j u hu=>by rw[Addr.add_lit];exact hc j u hu) h1 h63 Iv hbase;exact⟨v',w',g1,g2,g3,g5,g4⟩
theorem qiK{o:Oper}{a:Act}{K:Act->World->Prop}{Q:Exit->Act->World->Prop}{s x:Operand}{t e:TypeId}{size bytes:Nat}{z:Value}(T:Dc P t e size bytes z)
  (ho:o.op=.call { callee:=.builtin .append,args:=#[s,x],argTypes:=#[t,t] })
  {v:Value} {A:Option Addr} {m c:Nat} (hs:a.eval s=v) (hx:a.eval x=.slice A m c)
  {base:Nat} {n:Nat} {xs:List Value} (hown:w.ownsRow base e size v n xs)
  {B:Nat} {news:List Value} (hr:Rd w B A news) (hl:news.length=m*size) (h1:∀ u∈news,u.oneCell'=true)
  (h63:n+m<=maxLen) (Iv:(n+m)*bytes<=140737488355328) (hbase:base<=w.heap.size)
  (h:∀ v' w',w'.ownsRow base e size v' (n+m) (xs++news)->w.grownBy w' v.ownBlock->(v'.ownBlock=v.ownBlock\/v'.ownBlock=some w.heap.size)->(v'=.slice none 0 0↔v=.slice none 0 0/\m=0)->K (a.put o.dst v') w'):o.wp P a w K Q:=by
 obtain⟨v',w',dU,h2,h3,h4,h5⟩:=qrR (ty:=o.type) T hown (c:=c) hr hl h1 h63 Iv hbase;unfold Oper.wp execOp;simp only[ho,resolve,invoke,builtin,Zf,Sem.run_pure,Result.andThen_ok,List.map_toArray,List.map_cons,List.map_nil,hs,hx,dU];exact h v' w' h2 h3 h4 h5
theorem Zz{ops:Array Oper}{rest:List Oper}{o:Oper}{a:Act}{Q:Exit->Act->World->Prop}{s x:Operand}{t e:TypeId}{size bytes:Nat}{z:Value}(T:Dc P t e size bytes z)
  (hgd:o.guard=none) (ho:o.op=.call { callee:=.builtin .append,args:=#[s,x],argTypes:=#[t,t] })
  {v:Value} {A:Option Addr} {m c:Nat} (hs:a.eval s=v) (hx:a.eval x=.slice A m c)
  {base:Nat} {n:Nat} {xs:List Value} (hown:w.ownsRow base e size v n xs)
  {B:Nat} {news:List Value} (hr:Rd w B A news) (hl:news.length=m*size) (h1:∀ u∈news,u.oneCell'=true)
  (h63:n+m<=maxLen) (Iv:(n+m)*bytes<=140737488355328) (hbase:base<=w.heap.size)
  (h:∀ v' w',w'.ownsRow base e size v' (n+m) (xs++news)->w.grownBy w' v.ownBlock->(v'.ownBlock=v.ownBlock\/v'.ownBlock=some w.heap.size)->(v'=.slice none 0 0↔v=.slice none 0 0/\m=0)->wpList P ops Q rest (a.put o.dst v') w') :
  wpList P ops Q (o::rest) a w :=
 wpList_plain hgd fun _ hK=>qiK T ho hs hx hown hr hl h1 h63 Iv hbase fun v' w' h2 h3 h4 h5=>hK _ _ (h v' w' h2 h3 h4 h5)
end
theorem Zt{w0 w w':World}{B base:Nat}{e:TypeId}{size n:Nat}{v:Value}{xs:List Value}(hb:Below B w0 w)(hg:w.grownBy w' v.ownBlock)(hown:w.ownsRow base e size v n xs)(h1:B<=base)(h2:B<=w.heap.size):Below B w0 w' :=
 hb.grown hg h2 fun k hk=>by have:=(hown.lt k hk).1;omega
theorem Zq{w w':World}{base:Nat}{e e':TypeId}{size n:Nat}{v:Value}{xs:List Value}{g:Nat}{cs:Array Value}{fr:Nat×Nat}(hown:w.ownsRow base e size v n xs)(hg:w.grownBy w' v.ownBlock)
  (h:w.heap[g]? = some (.cells cs e' fr)) (hne:e'≠e):w'.heap[g]? = some (.cells cs e' fr):=by
 refine (hg.block g (gl h) fun he=>?_).trans h;rcases hown.2 with ⟨rfl,_⟩ | ⟨g',cap,cur,rfl,_,hh,_⟩
 ·simp[Value.ownBlock] at he
 ·have:g=g':=by simpa[Value.ownBlock] using he
  subst this;rw[h] at hh;injection hh with hh;injection hh with _ h2;exact hne h2
def ri(b:UInt8):Value:=.int .u8 (b.toNat:Int)
def Rl(l:List UInt8):List Value:=l.map ri
theorem fF(l:List UInt8):(Rl l).length=l.length:=by simp[Rl]
theorem J_(l:List UInt8)(k:Nat)(h:k<(Rl l).length):(Rl l)[k]=.int .u8 ((l[k]'(by simpa[Rl] using h)).toNat:Int):=by simp[Rl,ri]
theorem Rd.byte{w:World}{B:Nat}{A:Option Addr}{l:List UInt8}(h:Rd w B A (Rl l)){k:Nat}(hk:k<l.length) :
  ∃ b off,A=some ⟨b,off,none⟩/\b<B/\w.cell? ⟨b,off+k,none⟩=some (.int .u8 (l[k].toNat:Int)):=by
 obtain⟨b,off,e,hb,hc⟩:=h.at_ (k:=k) (by rw[fF];exact hk);exact⟨b,off,e,hb,by rw[hc,J_]⟩
def Mp(s:ByteArray)(k:Nat):Int:=if h:k<s.size then ((s[k]'h).toNat:Int) else 0
theorem dN(s:ByteArray):∀(n:Nat)(h:n<s.size),((s[n]'h).toNat:Int)=Mp s n:=fun n h=>by unfold Mp;rw[dif_pos h]
theorem Ey(s:ByteArray)(k:Nat)(h:k<s.data.toList.length):Mp s k=(s.data.toList[k].toNat:Int):=by
 have h':k<s.size:=by simpa using h
 unfold Mp;rw[dif_pos h'];simp[ByteArray.getElem_eq_getElem_data]
theorem zr{P:Program}{w:World}{B:Nat}{A:Option Addr}{l:List UInt8}(h:Rd w B A (Rl l)){src dst e:TypeId}(hs:P.underlying src=some (.slice e))(he:P.underlying e=some (.int .u8))(hd:P.underlying dst=some .string)
  (n:Nat) (hn:n=l.length) (c:Nat):(convert src dst (.slice A n c)).run P w=.ok (.string ⟨l.toArray⟩) w:=by
 subst hn;cases A with
 |some ad => 
  refine run_convert_bytes_back w src dst e ad c l hs he hd fun j hj=>?_;obtain⟨b,off,e',_,hc⟩:=h.byte hj;injection e' with e';subst e';rw[Addr.add_lit];exact hc
 |none =>
  have hl:l=[]:=by
   cases l with
   |nil=>rfl
   |cons b r=>obtain⟨_,_,e',_⟩:=h.byte (k:=0) (by simp);cases e'
  subst hl;exact run_convert_bytes_nil w src e hs he _ c dst hd
open Go.ChangeShapes Go.WideShapes Go.ChangeAt Go.RowKit
section
variable {H:Type} {enc:TypeId×Value->H} {P:Program}
theorem eA(hl:laidOutB P=true){W W':World}(hb:Below W.heap.size W W'):∀(ts:List TypeId)(vs:List Value)(ds:List (DataW H))(ps:List MemPlace),
  ts.all (fun t=>P.readableRec t&&decide (t<P.types.size))=true->DataW.TrodAll enc P W 0 (fun _=>true) true ts vs ds ps->(∀ x∈ps,x.block<W.heap.size) ->
  DataW.TrodAll enc P W' 0 (fun b=>decide (b<W.heap.size)) true ts vs ds ps
 |[],vs,ds,ps,_,h,_=>by
  obtain⟨rfl,rfl,rfl⟩:=trodAll_nil h;exact trodAll_mk0
 |t::ts,vs,ds,ps,hp,h,Ji=>by
  obtain⟨v,vs',d,ds',p,q,rfl,rfl,rfl,hd,hr⟩:=trodAll_cons h;rw[List.all_cons,Yl,Yl,Yj] at hp;exact trodAll_cons_mk (Below.trod hl hp.1.1 hp.1.2 hd hb fun x hx=>Ji x (List.mem_append_left _ hx)) (eA hl hb ts vs' ds' q hp.2 hr fun x hx=>Ji x (List.mem_append_right _ hx))
theorem qlA{f:Func}{s:ChangeSpec}{W W':World}{args:Array Value}{ds gs:List (DataW H)}{before:List MemPlace}{tb:TypeId}(hl:laidOutB P=true)
  (hp:f.params.toList.all (fun t=>P.readableRec t&&decide (t<P.types.size))=true) (qvJ:s.vars=[]) (jN:f.resultTypes=#[tb]) (htb:P.underlying tb=some .bool)
  (hfn:s.fn H (ds++gs)={ results:=[.lit (.bool true)],args:=ds }) (hW:DataW.Whole enc P f.params.toList s.vars false W args.toList ds gs before) (hb:Below W.heap.size W W') :
  s.post enc P f false true false false W args (.bool true) W':=by
 have Ji:=hW.lt;have hW':=hW;obtain⟨p,q,hA,hV,rfl,hfz,So⟩:=hW';rw[qvJ] at hV;obtain⟨rfl,rfl⟩:=trodVars_none hV;refine⟨ds,[],p++[],[],p,[],hW,?_,?_,?_,?_,fun h=>by cases h⟩
 ·rw[hfn,jN];exact trodAll_mk1 (shut_bool htb true)
 ·rw[hfn];exact eA hl hb _ _ _ _ hp hA fun x hx=>Ji x (List.mem_append_left _ hx)
 ·rw[hfn,qvJ];rfl
 ·exact hb.frame _
end
structure fJ(α:Type) where
 size:Nat
 rep:World->Nat->List Value->α->Prop
 len:∀{w B cs x},rep w B cs x->cs.length=size
 keep:∀{w w' B cs x},rep w B cs x->(∀ p:Addr,p.block<B->w'.cell? p=w.cell? p)->rep w' B cs x
 more:∀{w B B' cs x},rep w B cs x->B<=B'->rep w B' cs x
 one:∀{w B cs x},rep w B cs x->∀ u∈cs,u.oneCell'=true
def Wo:fJ Int where
 size:=1
 rep:=fun _ _ cs x=>cs=[.int .i64 x]/\-9223372036854775808<=x/\x<=9223372036854775807
 len:=fun h=>by rw[h.1];rfl
 keep:=fun h _=>h
 more:=fun h _=>h
 one:=fun h=>by rw[h.1];simp[Value.oneCell']
def Nk:fJ ByteArray where
 size:=1
 rep:=fun _ _ cs x=>cs=[.string x]/\x.size<=maxLen
 len:=fun h=>by rw[h.1];rfl
 keep:=fun h _=>h
 more:=fun h _=>h
 one:=fun h=>by rw[h.1];simp[Value.oneCell']
def bh:fJ Bool where
 size:=1
 rep:=fun _ _ cs x=>cs=[.bool x]
 len:=fun h=>by rw[h];rfl
 keep:=fun h _=>h
 more:=fun h _=>h
 one:=fun h=>by rw[h];simp[Value.oneCell']
def Je{α:Type}(E:fJ α)(w:World)(B:Nat)(v:Value)(xs:List α):Prop :=
 ∃(A:Option Addr)(c:Nat)(css:List (List Value)),v=.slice A xs.length c/\xs.length<=c/\c<=maxLen/\css.length=xs.length/\Rd w B A css.flatten /\
  ∀(i:Nat)(cs:List Value)(x:α),css[i]? = some cs->xs[i]? = some x->E.rep w B cs x
section
variable {α:Type} {E:fJ α} {w w':World} {B B':Nat} {v:Value} {xs:List α}
theorem Je.keep(h:Je E w B v xs)(hk:∀ p:Addr,p.block<B->w'.cell? p=w.cell? p):Je E w' B v xs:=by
 obtain⟨A,c,css,e,h1,h2,h3,h4,h5⟩:=h;exact⟨A,c,css,e,h1,h2,h3,h4.keep hk,fun i cs x hc hx=>E.keep (h5 i cs x hc hx) hk⟩
theorem Je.below(h:Je E w B v xs)(hb:Below B w w'):Je E w' B v xs:=h.keep fun _ hp=>hb.cell hp
theorem Je.more(h:Je E w B v xs)(hB:B<=B'):Je E w B' v xs:=by
 obtain⟨A,c,css,e,h1,h2,h3,h4,h5⟩:=h;exact⟨A,c,css,e,h1,h2,h3,h4.more hB,fun i cs x hc hx=>E.more (h5 i cs x hc hx) hB⟩
theorem Je.next(h:Je E w B v xs)(hb:Below B w w')(hB:B<=B'):Je E w' B' v xs:=(h.below hb).more hB
theorem Je.fut{N:Nat}(h:Je E w B v xs)(hb:Below N w w')(h1:B<=N)(h2:B<=B'):Je E w' B' v xs:=(h.below (hb.mono h1)).more h2
theorem Je.nil_:Je E w B (.slice none 0 0) []:=⟨none,0,[],rfl,Ya _,by simp[maxLen],rfl,Rd.nil_,fun i cs x hc=>by simp at hc⟩
theorem Je.form(h:Je E w B v xs):∃ A c,v=.slice A xs.length c/\xs.length<=c/\c<=maxLen:=by
 obtain⟨A,c,css,e,h1,h2,_⟩:=h;exact⟨A,c,e,h1,h2⟩
end
theorem Ob{α:Type}(n:Nat):∀(css:List (List α)),(∀ cs∈css,cs.length=n)->∀(i j:Nat)(cs:List α)(u:α),css[i]? = some cs->cs[j]? = some u->css.flatten[i*n+j]? = some u
 |[],_,i,j,cs,u,h,_=>by simp at h
 |c::css,hl,0,j,cs,u,h,hu=>by
  simp only[List.getElem?_cons_zero,Option.some.injEq] at h;subst h;rw[Nat.zero_mul,Yq,List.flatten_cons,Qo (Qj.1 hu).1];exact hu
 |c::css,hl,i+1,j,cs,u,h,hu=>by
  have hc:=hl c (by simp);rw[List.flatten_cons,Qn (by rw[hc,Nat.add_mul];omega),hc,show (i+1)*n+j - n=i*n+j by rw[Nat.add_mul];omega];exact Ob n css (fun cs hcs=>hl cs (by simp[hcs])) i j cs u (by simpa using h) hu
section
variable {α:Type} {E:fJ α} {w w':World} {B B':Nat} {v:Value} {xs:List α}
theorem Je.lens{css:List (List Value)}(h3:css.length=xs.length)(h5:∀(i:Nat)(cs:List Value)(x:α),css[i]? = some cs->xs[i]? = some x->E.rep w B cs x):∀ cs∈css,cs.length=E.size:=by
 intro cs hcs;obtain⟨i,hi,rfl⟩:=Qz hcs;exact E.len (h5 i _ _ (Qa hi) (Qa (by omega)))
theorem Je.at_(h:Je E w B v xs){k:Nat}(hk:k<xs.length)(Dg:0<E.size):∃ b off c cs,v=.slice (some ⟨b,off,none⟩) xs.length c/\xs.length<=c/\b<B/\E.rep w B cs xs[k] /\
  ∀ j u,cs[j]? = some u->w.cell? ⟨b,off+(k*E.size+j),none⟩=some u:=by
 obtain⟨A,c,css,rfl,h1,h2,h3,h4,h5⟩:=h;have hkc:k<css.length:=by omega
 have hr:=h5 k _ _ (Qa hkc) (Qa hk);have aq:=Je.lens h3 h5;have hne:css.flatten≠[]:=by
  intro e;have hl:=aq css[k] (Qg hkc);have h0:0<css[k].length:=by omega
  have:=Ob E.size css aq k 0 css[k] css[k][0] (Qa hkc) (Qa h0);rw[e] at this;simp at this
 obtain⟨b,off,rfl,hb,hc⟩:=h4 hne;exact⟨b,off,c,css[k],rfl,h1,hb,hr,fun j u hu=>hc _ _ (Ob E.size css aq k j _ u (Qa hkc) hu)⟩
theorem Je.get{A:Option Addr}{n c:Nat}(h:Je E w B (.slice A n c) xs){k:Nat}(hk:k<xs.length)(Dg:0<E.size):∃ b off cs,A=some ⟨b,off,none⟩/\n<=c/\b<B/\E.rep w B cs xs[k] /\
  ∀ j u,cs[j]? = some u->w.cell? ⟨b,off+(k*E.size+j),none⟩=some u:=by
 obtain⟨b,off,c',cs,e,h1,h2,h3,h4⟩:=h.at_ hk Dg;injection e with e1 e2 e3;subst e2;exact⟨b,off,cs,e1,by omega,h2,h3,h4⟩
theorem Je.n_eq{A:Option Addr}{n c:Nat}(h:Je E w B (.slice A n c) xs):n=xs.length:=by
 obtain⟨_,_,e,_⟩:=h.form;injection e
theorem Je.n_le{A:Option Addr}{n c:Nat}(h:Je E w B (.slice A n c) xs):n<=c/\c<=9223372036854775807:=by
 obtain⟨_,_,e,h1,h2⟩:=h.form;injection e with _ e2 e3;subst e2 e3;exact⟨h1,by simpa[maxLen] using h2⟩
theorem Je.take_{A:Option Addr}{n c:Nat}(h:Je E w B (.slice A n c) xs)(k:Nat){n':Nat}(hn:n'=(xs.take k).length):Je E w B (.slice A n' c) (xs.take k):=by
 obtain⟨A,c,css,e,h1,h2,h3,h4,h5⟩:=h;injection e with e1 e2 e3;subst e1 e2 e3 hn;refine⟨_,_,css.take k,rfl,by rw[Qq];omega,h2,by rw[Qq,Qq,h3],?_,fun i cs x hc hx=>?_⟩
 ·intro hne;obtain⟨b,off,e,hb,hc⟩:=h4 (by
   intro e
   apply hne
   have hz:∀ cs∈css,cs=[]:=List.flatten_eq_nil_iff.1 e
   exact List.flatten_eq_nil_iff.2 fun cs hcs=>hz cs (List.mem_of_mem_take hcs))
  refine⟨b,off,e,hb,fun j u hu=>hc j u ?_⟩;have hd:css.flatten=(css.take k).flatten++(css.drop k).flatten:=by rw[<-Qs,Xm]
  rw[hd,Qo (Qj.1 hu).1];exact hu
 ·rw[List.getElem?_take] at hc hx;split at hc
  ·rename_i hik;rw[if_pos hik] at hx;exact h5 i cs x hc hx
  ·cases hc
end
def Th{α:Type}(E:fJ α):fJ (List α) where
 size:=1
 rep:=fun w B cs xs=>∃ v,cs=[v]/\Je E w B v xs
 len:=fun⟨v,h,_⟩=>by rw[h];rfl
 keep:=fun⟨v,h,hs⟩ hk=>⟨v,h,hs.keep hk⟩
 more:=fun⟨v,h,hs⟩ hB=>⟨v,h,hs.more hB⟩
 one:=fun⟨v,h,hs⟩ u hu=>by
  rw[h,Qi] at hu;obtain⟨A,c,e,_⟩:=hs.form;subst hu;rw[e];rfl
def Ca{α β:Type}(E:fJ α)(F:fJ β):fJ (α×β) where
 size:=E.size+F.size
 rep:=fun w B cs x=>∃ c1 c2,cs=c1++c2/\E.rep w B c1 x.1/\F.rep w B c2 x.2
 len:=fun⟨c1,c2,h,h1,h2⟩=>by rw[h,Qe,E.len h1,F.len h2]
 keep:=fun⟨c1,c2,h,h1,h2⟩ hk=>⟨c1,c2,h,E.keep h1 hk,F.keep h2 hk⟩
 more:=fun⟨c1,c2,h,h1,h2⟩ hB=>⟨c1,c2,h,E.more h1 hB,F.more h2 hB⟩
 one:=fun⟨c1,c2,h,h1,h2⟩ u hu=>by
  rw[h,Qh] at hu;rcases hu with hu | hu
  ·exact E.one h1 u hu
  ·exact F.one h2 u hu
def zqZ{α β:Type}(E:fJ β)(f:α->β):fJ α where
 size:=E.size
 rep:=fun w B cs x=>E.rep w B cs (f x)
 len:=fun h=>E.len h
 keep:=fun h hk=>E.keep h hk
 more:=fun h hB=>E.more h hB
 one:=fun h=>E.one h
section
variable {H:Type}
variable {enc:TypeId×Value->H} {P:Program}
end
def jc(w w':World)(B:Nat)(r:Option Nat):Prop:=∀ p:Addr,p.block<B->some p.block≠r->w'.cell? p=w.cell? p
theorem jc.refl(w:World)(B:Nat)(r:Option Nat):jc w w B r:=fun _ _ _=>rfl
def dY{α:Type}(E:fJ α)(w:World)(base:Nat)(t:TypeId)(v:Value)(xs:List α):Prop :=
 ∃ css:List (List Value),w.ownsRow base t E.size v xs.length css.flatten/\css.length=xs.length/\∀(i:Nat)(cs:List Value)(x:α),css[i]? = some cs->xs[i]? = some x->∀ w',jc w w' w.heap.size v.ownBlock->E.rep w' w.heap.size cs x
section
variable {α:Type} {E:fJ α} {w w' w1:World} {base:Nat} {t:TypeId} {v v1:Value} {xs:List α}
theorem dY.nil(w:World)(base:Nat)(t:TypeId):dY E w base t (.slice none 0 0) []:=⟨[],Yz _ _ _ _,rfl,fun i cs x h=>by simp at h⟩
theorem dY.form(h:dY E w base t v xs):∃ A c,v=.slice A xs.length c/\xs.length<=c/\c<=maxLen:=by
 obtain⟨css,h1,_⟩:=h;exact Zo h1
theorem dY.sl(h:dY E w base t v xs):Je E w w.heap.size v xs:=by
 obtain⟨css,h1,h2,h3⟩:=h;obtain⟨A,c,rfl,ha,hb⟩:=Zo h1;exact⟨A,c,css,rfl,ha,hb,h2,Rd.of_own h1,fun i cs x hc hx=>h3 i cs x hc hx w (jc.refl _ _ _)⟩
theorem dY.later(h:dY E w base t v xs)(hb:Below w.heap.size w w1):dY E w1 base t v xs:=by
 obtain⟨css,h1,h2,h3⟩:=h;refine⟨css,Zy h1 hb,h2,fun i cs x hc hx w' ha=>E.more (h3 i cs x hc hx w' fun p hp hn=>?_) hb.size⟩;rw[ha p (Yd hp hb.size) hn,hb.cell hp]
theorem dY.snoc{css:List (List Value)}{cs:List Value}{x:α}(h2:css.length=xs.length)(h3:∀(i:Nat)(cs:List Value)(x:α),css[i]? = some cs->xs[i]? = some x->∀ w',jc w w' w.heap.size v.ownBlock->E.rep w' w.heap.size cs x)
  (hx:∀ w',jc w w' w.heap.size v.ownBlock->E.rep w' w.heap.size cs x) (ho:w1.ownsRow base t E.size v1 (xs.length+1) (css.flatten++cs)) (hg:w.grownBy w1 v.ownBlock) (hv:v1.ownBlock=v.ownBlock\/v1.ownBlock=some w.heap.size) :
  dY E w1 base t v1 (xs++[x]):=by
 have key:∀ w',jc w1 w' w1.heap.size v1.ownBlock->jc w w' w.heap.size v.ownBlock:=fun w' ha p hp hn=>by
  rw[ha p (Yd hp hg.size) ?_]
  ·have hb:=hg.block p.block hp hn;exact World.cell?_of_block (w:=w) hb
  ·rcases hv with e | e
   ·rw[e];exact hn
   ·rw[e];intro e2;injection e2 with e2;omega
 refine⟨css++[cs],?_,by simp[h2],fun i cs' x' hc mK w' ha=>?_⟩
 ·rw[Qs,Qe];simpa using ho
 ·by_cases hi:i<xs.length
  ·rw[Qo (by omega)] at hc mK;exact E.more (h3 i cs' x' hc mK w' (key w' ha)) hg.size
  ·have Wt:i=xs.length:=by
    have h4:=(Qj.1 mK).1;rw[Qe,Qf] at h4;omega
   subst Wt;rw[<-h2,Qn (Ya _),Nat.sub_self] at hc;rw[Qn (Ya _),Nat.sub_self] at mK;injection hc with hc;injection mK with mK;subst hc mK;exact E.more (hx w' (key w' ha)) hg.size
end
theorem Vr{w w':World}{base qoB:Nat}{e e2:TypeId}{size qjJ:Nat}{v v2:Value}{n n2:Nat}{xs ys:List Value}(h:w.ownsRow base e size v n xs)(h2:w.ownsRow qoB e2 qjJ v2 n2 ys)(hne:e≠e2)(hg:w.grownBy w' v2.ownBlock):w'.ownsRow base e size v n xs:=by
 refine⟨h.1,?_⟩;rcases h.2 with h' | ⟨g,cap,cur,rfl,hb,hh,r⟩
 ·exact .inl h'
 ·exact .inr ⟨g,cap,cur,rfl,hb,Zq h2 hg hh hne,r⟩
theorem tB{w:World}{base:Nat}{e e':TypeId}{size n:Nat}{v:Value}{xs:List Value}{g:Nat}{cs:Array Value}{fr:Nat×Nat}(h:w.ownsRow base e size v n xs)(hg:w.heap[g]? = some (.cells cs e' fr))(hne:e'≠e):v.ownBlock≠some g:=by
 rcases h.2 with ⟨rfl,_⟩ | ⟨g',cap,cur,rfl,_,hh,_⟩
 ·simp[Value.ownBlock]
 ·intro he;have:g'=g:=by simpa[Value.ownBlock] using he
  subst this;rw[hg] at hh;injection hh with hh;injection hh with _ h2;exact hne h2
theorem zG{w:World}{base:Nat}{e:TypeId}{size:Nat}{v:Value}{n:Nat}{xs:List Value}(h:w.ownsRow base e size v n xs)(hn:0<n):∃ g cap,v=.slice (some ⟨g,0,none⟩) n cap:=by
 rcases h.2 with ⟨_,h0⟩ | ⟨g,cap,cur,hv,_⟩
 ·omega
 ·exact⟨g,cap,hv⟩
theorem qjX{w:World}{base:Nat}{e:TypeId}{size n c g:Nat}{xs:List Value}(h:w.ownsRow base e size (.slice (some ⟨g,0,none⟩) n c) n xs):∃ cur,w.heap[g]? = some (.cells cur e (0,0)):=by
 rcases h.2 with ⟨h',_⟩ | ⟨g',zgU,cur,h',_,hg,_⟩
 ·simp at h'
 ·simp only[Value.slice.injEq,Option.some.injEq,Addr.mk.injEq,and_true,true_and] at h';obtain⟨rfl,rfl⟩:=h';exact⟨cur,hg⟩
theorem Fq{w:World}{base qoB:Nat}{e e2:TypeId}{size qjJ:Nat}{v:Value}{n n2 c2 g j:Nat}{xs ys:List Value}(h:w.ownsRow base e size v n xs)(h2:w.ownsRow qoB e2 qjJ (.slice (some ⟨g,0,none⟩) n2 c2) n2 ys)(hne:e≠e2)(u:Value):(w.setCell ⟨g,j,none⟩ u).ownsRow base e size v n xs:=by
 obtain⟨cur2,aI⟩:=qjX h2;refine⟨h.1,?_⟩;rcases h.2 with h' | ⟨g',cap,cur,rfl,hb,hh,r⟩
 ·exact .inl h'
 ·refine .inr ⟨g',cap,cur,rfl,hb,?_,r⟩;rw[Zb _ _ _ _ ?_]
  ·exact hh
  ·rintro rfl;rw[aI] at hh;injection hh with hh;injection hh with _ h3;exact hne h3.symm
def Jg(ts:List TypeId)(w w':World):Prop:=w.heap.size<=w'.heap.size/\∀(g:Nat)(cur:Array Value)(t:TypeId),t∈ts->w.heap[g]? = some (.cells cur t (0,0))->w'.heap[g]? = some (.cells cur t (0,0))
theorem Jg.trans{ts:List TypeId}{w w1 w2:World}(h:Jg ts w w1)(k:Jg ts w1 w2):Jg ts w w2:=⟨Yb h.1 k.1,fun g c t ht hg=>k.2 g c t ht (h.2 g c t ht hg)⟩
theorem Jg.of_below{ts:List TypeId}{w w':World}(h:Below w.heap.size w w'):Jg ts w w':=⟨h.size,fun g _ _ _ hg=>(h.block g (gl hg)).trans hg⟩
theorem Jg.of_grown{ts:List TypeId}{w w':World}{base:Nat}{e:TypeId}{size n:Nat}{v:Value}{xs:List Value}(ho:w.ownsRow base e size v n xs)(hg:w.grownBy w' v.ownBlock)(he:e∉ts):Jg ts w w' :=
 ⟨hg.size,fun _ _ _ ht hh=>Zq ho hg hh (fun e'=>he (e' ▸ ht))⟩
theorem Jg.less{ts us:List TypeId}{w w':World}(h:Jg ts w w')(hs:∀ t∈us,t∈ts):Jg us w w':=⟨h.1,fun g c t ht hg=>h.2 g c t (hs t ht) hg⟩
theorem Vi{ts:List TypeId}{w w':World}{base:Nat}{e:TypeId}{size n:Nat}{v:Value}{xs:List Value}(h:w.ownsRow base e size v n xs)(hk:Jg ts w w')(he:e∈ts):w'.ownsRow base e size v n xs:=by
 refine⟨h.1,?_⟩;rcases h.2 with h' | ⟨g,cap,cur,rfl,hg,hh,r⟩
 ·exact .inl h'
 ·exact .inr ⟨g,cap,cur,rfl,hg,hk.2 g cur e he hh,r⟩
structure pW(α:Type) where
 E:fJ α
 ts:List TypeId
 rep:World->Nat->List Value->α->Prop
 elt:∀{w N cs x},rep w N cs x->E.rep w w.heap.size cs x
 keep:∀{w w' N cs x},rep w N cs x->Jg ts w w'->rep w' N cs x
 more:∀{w N N' cs x},rep w N cs x->N'<=N->rep w N' cs x
def mr{α:Type}(E:fJ α)(hE:∀{w w' B B' cs x},E.rep w B cs x->E.rep w' B' cs x):pW α where
 E:=E
 ts:=[]
 rep:=fun w _ cs x=>E.rep w w.heap.size cs x
 elt:=fun h=>h
 keep:=fun h _=>hE h
 more:=fun h _=>h
def aA:pW Int:=mr Wo fun h=>h
def qvF{α β:Type}(O:pW α)(P:pW β):pW (α×β) where
 E:=Ca O.E P.E
 ts:=O.ts++P.ts
 rep:=fun w N cs x=>∃ c1 c2,cs=c1++c2/\O.rep w N c1 x.1/\P.rep w N c2 x.2
 elt:=fun⟨c1,c2,h,h1,h2⟩=>⟨c1,c2,h,O.elt h1,P.elt h2⟩
 keep:=fun⟨c1,c2,h,h1,h2⟩ hk=>⟨c1,c2,h,O.keep h1 (hk.less fun _ ht=>List.mem_append_left _ ht),P.keep h2 (hk.less fun _ ht=>List.mem_append_right _ ht)⟩
 more:=fun⟨c1,c2,h,h1,h2⟩ hN=>⟨c1,c2,h,O.more h1 hN,P.more h2 hN⟩
def Nl{α:Type}(O:pW α)(t:TypeId)(w:World)(N:Nat)(v:Value)(xs:List α):Prop :=
 ∃ css:List (List Value),w.ownsRow N t O.E.size v xs.length css.flatten/\css.length=xs.length/\∀(i:Nat)(cs:List Value)(x:α),css[i]? = some cs->xs[i]? = some x->O.rep w N cs x
section
variable {α:Type} {O:pW α} {t:TypeId} {w w' w1:World} {N N':Nat} {v v1:Value} {xs:List α}
theorem Nl.nil(w:World)(N:Nat):Nl O t w N (.slice none 0 0) []:=⟨[],Yz _ _ _ _,rfl,fun i cs x h=>by simp at h⟩
theorem Nl.form(h:Nl O t w N v xs):∃ A c,v=.slice A xs.length c/\xs.length<=c/\c<=maxLen:=by
 obtain⟨css,h1,_⟩:=h;exact Zo h1
theorem Nl.sl(h:Nl O t w N v xs):Je O.E w w.heap.size v xs:=by
 obtain⟨css,h1,h2,h3⟩:=h;obtain⟨A,c,rfl,ha,hb⟩:=Zo h1;exact⟨A,c,css,rfl,ha,hb,h2,Rd.of_own h1,fun i cs x hc hx=>O.elt (h3 i cs x hc hx)⟩
theorem Nl.keep(h:Nl O t w N v xs)(hk:Jg (t::O.ts) w w'):Nl O t w' N v xs:=by
 obtain⟨css,h1,h2,h3⟩:=h;exact⟨css,Vi h1 hk (Xh ..),h2,fun i cs x hc hx=>O.keep (h3 i cs x hc hx) (hk.less fun t ht=>Xi _ ht)⟩
theorem Nl.below(h:Nl O t w N v xs)(hb:Below w.heap.size w w'):Nl O t w' N v xs:=h.keep (.of_below hb)
theorem Nl.more(h:Nl O t w N v xs)(hN:N'<=N):Nl O t w N' v xs:=by
 obtain⟨css,h1,h2,h3⟩:=h;exact⟨css,Fr h1 hN,h2,fun i cs x hc hx=>O.more (h3 i cs x hc hx) hN⟩
theorem Nl.row(h:Nl O t w N v xs):∃ css:List (List Value),w.ownsRow N t O.E.size v xs.length css.flatten/\css.length=xs.length/\∀(i:Nat)(cs:List Value)(x:α),css[i]? = some cs->xs[i]? = some x->O.rep w N cs x:=h
theorem Nl.snoc{css:List (List Value)}{cs:List Value}{x:α}(hn:t∉O.ts)(h0:w.ownsRow N t O.E.size v xs.length css.flatten)(h2:css.length=xs.length)(h3:∀(i:Nat)(cs:List Value)(x:α),css[i]? = some cs->xs[i]? = some x->O.rep w N cs x)
  (hx:O.rep w N cs x) (ho:w1.ownsRow N t O.E.size v1 (xs.length+1) (css.flatten++cs)) (hg:w.grownBy w1 v.ownBlock):Nl O t w1 N v1 (xs++[x]):=by
 have hk:=Jg.of_grown h0 hg hn;refine⟨css++[cs],by rw[Qs,Qe];simpa using ho,by simp[h2],fun i cs' x' hc mK=>?_⟩;by_cases hi:i<xs.length
 ·rw[Qo (by omega)] at hc mK;exact O.keep (h3 i cs' x' hc mK) hk
 ·have Wt:i=xs.length:=by
   have h4:=(Qj.1 mK).1;rw[Qe,Qf] at h4;omega
  subst Wt;rw[<-h2,Qn (Ya _),Nat.sub_self] at hc;rw[Qn (Ya _),Nat.sub_self] at mK;injection hc with hc;injection mK with mK;subst hc mK;exact O.keep hx hk
end
def oSl{α:Type}(O:pW α)(t:TypeId):pW (List α) where
 E:=Th O.E
 ts:=t::O.ts
 rep:=fun w N cs xs=>∃ v,cs=[v]/\Nl O t w N v xs
 elt:=fun⟨v,h,hs⟩=>⟨v,h,hs.sl⟩
 keep:=fun⟨v,h,hs⟩ hk=>⟨v,h,hs.keep hk⟩
 more:=fun⟨v,h,hs⟩ hN=>⟨v,h,hs.more hN⟩
def Eh(ts:List TypeId)(U:Nat)(w w':World):Prop:=w.heap.size<=w'.heap.size/\∀(g:Nat)(cur:Array Value)(t:TypeId),g<U->t∈ts->w.heap[g]? = some (.cells cur t (0,0))->w'.heap[g]? = some (.cells cur t (0,0))
section
variable {ts us:List TypeId} {U V:Nat} {w w1 w2:World}
theorem Eh.trans(h:Eh ts U w w1)(k:Eh ts U w1 w2):Eh ts U w w2:=⟨Yb h.1 k.1,fun g c t hg ht hh=>k.2 g c t hg ht (h.2 g c t hg ht hh)⟩
theorem Eh.of_below(h:Below w.heap.size w w1):Eh ts U w w1:=⟨h.size,fun g _ _ _ _ hg=>(h.block g (gl hg)).trans hg⟩
theorem Eh.less(h:Eh ts U w w1)(hs:∀ t∈us,t∈ts)(hU:V<=U):Eh us V w w1:=⟨h.1,fun g c t hg ht=>h.2 g c t (by omega) (hs t ht)⟩
theorem Eh.of_keepT(h:Jg ts w w1):Eh ts U w w1:=⟨h.1,fun g c t _=>h.2 g c t⟩
theorem Eh.of_grown{base:Nat}{e:TypeId}{size n:Nat}{v:Value}{xs:List Value}(ho:w.ownsRow base e size v n xs)(hg:w.grownBy w1 v.ownBlock)(hU:U<=base):Eh ts U w w1:=by
 refine⟨hg.size,fun g c t hgU _ hh=>(hg.block g (gl hh) fun he=>?_).trans hh⟩;rcases ho.2 with ⟨rfl,_⟩ | ⟨g',cap,cur,rfl,hb,_⟩
 ·simp[Value.ownBlock] at he
 ·have:g=g':=by simpa[Value.ownBlock] using he
  omega
theorem Eh.of_set{g k:Nat}(hU:U<=g)(v:Value):Eh ts U w (w.setCell ⟨g,k,none⟩ v):=by
 refine⟨by simp[World.setCell],fun j c t hj _ hh=>?_⟩;rw[Zb _ _ _ _ (by intro e;subst e;omega)];exact hh
theorem Eh.of_setT{g k:Nat}{cs:Array Value}{T:TypeId}(h:w.heap[g]? = some (.cells cs T (0,0)))(hT:T∉ts)(v:Value):Eh ts U w (w.setCell ⟨g,k,none⟩ v):=by
 refine⟨by simp[World.setCell],fun j cur t _ ht hj=>?_⟩;rw[Zb _ _ _ _ ?_]
 ·exact hj
 ·intro e;subst e;rw[h] at hj;injection hj with hj;injection hj with _ hj;exact hT (hj ▸ ht)
end
structure aD(α:Type) where
 E:fJ α
 ts:List TypeId
 rep:World->Nat->List Value->α->Prop
 elt:∀{w U cs x},rep w U cs x->E.rep w U cs x
 keep:∀{w w' U cs x},rep w U cs x->Eh ts U w w'->rep w' U cs x
 more:∀{w U U' cs x},rep w U cs x->U<=U'->rep w U' cs x
def qiT{α:Type}(E:fJ α)(hE:∀{w w' B B' cs x},E.rep w B cs x->E.rep w' B' cs x):aD α where
 E:=E
 ts:=[]
 rep:=fun w U cs x=>E.rep w U cs x
 elt:=fun h=>h
 keep:=fun h _=>hE h
 more:=fun h _=>hE h
def qrD:aD Int:=qiT Wo fun h=>h
def dQ:aD ByteArray:=qiT Nk fun h=>h
def zdF:aD Bool:=qiT bh fun h=>h
def qiU{α β:Type}(O:aD α)(P:aD β):aD (α×β) where
 E:=Ca O.E P.E
 ts:=O.ts++P.ts
 rep:=fun w N cs x=>∃ c1 c2,cs=c1++c2/\O.rep w N c1 x.1/\P.rep w N c2 x.2
 elt:=fun⟨c1,c2,h,h1,h2⟩=>⟨c1,c2,h,O.elt h1,P.elt h2⟩
 keep:=fun⟨c1,c2,h,h1,h2⟩ hk=>⟨c1,c2,h,O.keep h1 (hk.less (fun _ ht=>List.mem_append_left _ ht) (Ya _)),P.keep h2 (hk.less (fun _ ht=>List.mem_append_right _ ht) (Ya _))⟩
 more:=fun⟨c1,c2,h,h1,h2⟩ hN=>⟨c1,c2,h,O.more h1 hN,P.more h2 hN⟩
structure Vj{α:Type}(O:aD α)(w:World)(U:Nat)(css:List (List Value))(xs:List α):Prop where
 len:css.length=xs.length
 rep:∀(i:Nat)(cs:List Value)(x:α),css[i]? = some cs->xs[i]? = some x->O.rep w U cs x
section
variable {α:Type} {O:aD α} {t:TypeId} {w w':World} {U V:Nat} {css:List (List Value)} {xs:List α} {v:Value}
theorem Vj.nil(O:aD α)(w:World)(U:Nat):Vj O w U [] []:=⟨rfl,fun i cs x h=>by simp at h⟩
theorem Vj.keep(h:Vj O w U css xs)(hk:Eh O.ts U w w'):Vj O w' U css xs:=⟨h.len,fun i cs x hc hx=>O.keep (h.rep i cs x hc hx) hk⟩
theorem Vj.more(h:Vj O w U css xs)(hU:U<=V):Vj O w V css xs:=⟨h.len,fun i cs x hc hx=>O.more (h.rep i cs x hc hx) hU⟩
theorem Vj.below(h:Vj O w U css xs)(hb:Below w.heap.size w w'):Vj O w' U css xs:=h.keep (.of_below hb)
theorem Vj.snoc(h:Vj O w U css xs){cs:List Value}{x:α}(hx:O.rep w U cs x):Vj O w U (css++[cs]) (xs++[x]):=by
 refine⟨by simp[h.len],fun i cs' x' hc mK=>?_⟩;by_cases hi:i<xs.length
 ·rw[Qo (by rw[h.len];exact hi)] at hc;rw[Qo hi] at mK;exact h.rep i cs' x' hc mK
 ·have Wt:i=xs.length:=by
   have h4:=(Qj.1 mK).1;rw[Qe,Qf] at h4;omega
  subst Wt;rw[<-h.len,Qn (Ya _),Nat.sub_self] at hc;rw[Qn (Ya _),Nat.sub_self] at mK;injection hc with hc;injection mK with mK;subst hc mK;exact hx
def Tn(O:aD α)(t:TypeId)(w:World)(U:Nat)(v:Value)(xs:List α):Prop :=
 ∃ css:List (List Value),w.ownsRow 0 t O.E.size v xs.length css.flatten/\(∀ g,v.ownBlock=some g->g<U)/\Vj O w U css xs
theorem Tn.sl(h:Tn O t w U v xs):Je O.E w U v xs:=by
 obtain⟨css,h1,h2,h3⟩:=h;obtain⟨A,c,rfl,ha,hb⟩:=Zo h1;refine⟨A,c,css,rfl,ha,hb,h3.len,fun hne=>?_,fun i cs x hc hx=>O.elt (h3.rep i cs x hc hx)⟩;obtain⟨b,off,e,_,hc⟩:=Rd.of_own h1 hne;subst e;exact⟨b,off,rfl,h2 b rfl,hc⟩
theorem Tn.keep(h:Tn O t w U v xs)(hk:Eh (t::O.ts) U w w'):Tn O t w' U v xs:=by
 obtain⟨css,h1,h2,h3⟩:=h;refine⟨css,⟨h1.1,?_⟩,h2,h3.keep (hk.less (fun _ ht=>Xi _ ht) (Ya _))⟩;rcases h1.2 with h' | ⟨g,cap,cur,rfl,hg,hh,r⟩
 ·exact .inl h'
 ·exact .inr ⟨g,cap,cur,rfl,hg,hk.2 g cur t (h2 g rfl) (Xh ..) hh,r⟩
theorem Tn.more(h:Tn O t w U v xs)(hU:U<=V):Tn O t w V v xs:=by
 obtain⟨css,h1,h2,h3⟩:=h;exact⟨css,h1,fun g hg=>Yd (h2 g hg) hU,h3.more hU⟩
theorem Tn.of_row{base:Nat}(h1:w.ownsRow base t O.E.size v xs.length css.flatten)(h3:Vj O w w.heap.size css xs):Tn O t w w.heap.size v xs :=
 ⟨css,Fr h1 (Yf _),fun g hg=>by
  rcases h1.2 with ⟨rfl,_⟩ | ⟨g',cap,cur,rfl,hb,hh,_⟩
  ·simp[Value.ownBlock] at hg
  ·have:g'=g:=by simpa[Value.ownBlock] using hg
   subst this
   exact (gl hh),h3⟩
end
def uSl{α:Type}(O:aD α)(t:TypeId):aD (List α) where
 E:=Th O.E
 ts:=t::O.ts
 rep:=fun w U cs xs=>∃ v,cs=[v]/\Tn O t w U v xs
 elt:=fun⟨v,h,hs⟩=>⟨v,h,hs.sl⟩
 keep:=fun⟨v,h,hs⟩ hk=>⟨v,h,hs.keep hk⟩
 more:=fun⟨v,h,hs⟩ hU=>⟨v,h,hs.more hU⟩
theorem sZ{w:World}{base:Nat}{e:TypeId}{size n c g:Nat}{xs:List Value}(h:w.ownsRow base e size (.slice (some ⟨g,0,none⟩) n c) n xs)(k:Nat)(u:Value) :
  (w.setCell ⟨g,k,none⟩ u).ownsRow base e size (.slice (some ⟨g,0,none⟩) n c) n (xs.set k u):=by
 have hl:=h.1;refine⟨by rw[Qm];exact hl,.inr ?_⟩;rcases h.2 with ⟨h0,_⟩ | ⟨g',cap,cur,hv,h1,h2,h3,h4,h5,h6⟩
 ·cases h0
 ·injection hv with e1 e2 e3;injection e1 with e1;injection e1 with e1;subst e1 e3;refine⟨g,c,cur.setIfInBounds k u,rfl,h1,?_,h3,h4,by simpa using h5,?_⟩
  ·simp only[World.setCell,Xy,if_true,h2,Option.map_some];rfl
  ·rw[Array.toList_setIfInBounds,List.take_set,h6]
theorem Ks{w:World}{base:Nat}{e:TypeId}{size n:Nat}{v:Value}{xs:List Value}(h:w.ownsRow base e size v (n+1) xs):∃ g c,v=.slice (some ⟨g,0,none⟩) (n+1) c/\base<=g/\g<w.heap.size/\n+1<=c/\c<=maxLen/\(∃ cur,w.heap[g]? = some (.cells cur e (0,0)))/\(∀ k u,xs[k]? = some u->w.cell? ⟨g,k,none⟩=some u)/\∀ k,w.frozen? ⟨g,k,none⟩=false:=by
 obtain⟨A,c,rfl,Nj,Uy⟩:=Zo h;rcases h.2 with ⟨_,h0⟩ | ⟨g,cap,cur,hv,h1,h2,h3,h4,h5,h6⟩
 ·omega
 ·injection hv with e1 e2 e3;subst e1 e3;refine⟨g,c,rfl,h1,(gl h2),Nj,Uy,⟨cur,h2⟩,fun k u hk=>?_,fun k=>by simp[World.frozen?,h2]⟩;rw[Zc _ _ _ _ _ _ h2];have Ji:=(Qj.1 hk).1;rw[<-h6,List.getElem?_take] at hk;split at hk
  ·rw[<-hk];simp
  ·cases hk
end Go.Proofs.YtmaojnmnbpomeaaGreatDoor
namespace Go.Proofs.YtmaojnmnbpomeaaGreatDoor.Text
open Go
def Ig(P:Program){α:Type}(s:Sem α):Prop:=∀ w a w',s.run P w=.ok a w'->w'=w/\∀ w2,s.run P w2=.ok a w2
def Rdr(P:Program){α:Type}(s:Sem α):Prop:=∀ w a w',s.run P w=.ok a w'->w'=w
def ie(P:Program){α:Type}(s:Sem α):Prop:=∀ w a w',s.run P w≠.ok a w'
variable {P:Program}
section
variable {α β:Type}
theorem Ig.rdr{s:Sem α}(h:Ig P s):Rdr P s:=fun w a w' hr=>(h w a w' hr).1
theorem Jv(a:α):Ig P (pure a:Sem α):=fun w b w' h=>by
 simp only[Sem.run_pure] at h;injection h with h1 h2;subst h1 h2;exact⟨rfl,fun w2=>rfl⟩
theorem mB(h:Halt):ie P (Sem.halt h:Sem α):=fun w a w' hr=>by
 unfold Sem.run at hr;cases hr
theorem Zr{s:Sem α}(h:ie P s):Ig P s:=fun w a w' hr=>absurd hr (h w a w')
theorem Jm(m:String):ie P (stuck m:Sem α):=mB _
theorem Jw(u:Unsupported):ie P (unsupported u:Sem α):=mB _
theorem Pj(v:Value):ie P (goPanic v:Sem α):=mB _
theorem Ff{s:Sem α}{f:α->Sem β}{w w':World}{b:β}(h:(s >>= f).run P w=.ok b w'):∃ a w1,s.run P w=.ok a w1/\(f a).run P w1=.ok b w':=by
 rw[Zf] at h;cases hs:s.run P w with
 |ok a w1=>rw[hs] at h;exact⟨a,w1,rfl,h⟩
 |halt x w1=>rw[hs] at h;cases h
theorem Ls{s:Sem α}{f:α->Sem β}(h:∀ a,ie P (f a)):ie P (s >>= f):=fun w b w' hr=>by
 obtain⟨a,w1,_,h2⟩:=Ff hr;exact h a w1 b w' h2
theorem Kh{s:Sem α}{f:α->Sem β}(h:Ig P s)(hf:∀ a,Ig P (f a)):Ig P (s >>= f):=fun w b w' hr=>by
 obtain⟨a,w1,h1,h2⟩:=Ff hr;obtain⟨e1,g1⟩:=h w a w1 h1;subst e1;obtain⟨e2,g2⟩:=hf a w1 b w' h2;subst e2;refine⟨rfl,fun w2=>?_⟩;rw[Zf,g1 w2];exact g2 w2
theorem fY{s:Sem α}{f:α->Sem β}(h:Ig P s)(hf:∀ a w w',s.run P w=.ok a w'->Ig P (f a)):Ig P (s >>= f):=fun w b w' hr=>by
 obtain⟨a,w1,h1,h2⟩:=Ff hr;obtain⟨e1,g1⟩:=h w a w1 h1;subst e1;obtain⟨e2,g2⟩:=hf a _ _ h1 w1 b w' h2;subst e2;refine⟨rfl,fun w2=>?_⟩;rw[Zf,g1 w2];exact g2 w2
theorem aW{s:Sem α}{f:α->Sem β}(h:Rdr P s)(hf:∀ a,Rdr P (f a)):Rdr P (s >>= f):=fun w b w' hr=>by
 obtain⟨a,w1,h1,h2⟩:=Ff hr;have e1:=h w a w1 h1;subst e1;exact hf a w1 b w' h2
theorem Vl:Ig P program:=fun w a w' h=>by
 simp only[program,Sem.run] at h;injection h with h1 h2;subst h1 h2;exact⟨rfl,fun w2=>rfl⟩
theorem lu(a:Addr)(m:Mode):Rdr P (load a m):=fun w v w' h=>by
 simp only[load,Sem.run] at h;split at h
 ·injection h with _ h2;exact h2.symm
 ·split at h
  ·injection h with _ h2;exact h2.symm
  ·cases h
end
theorem Jl(t:TypeId):Ig P (underlying t):=by
 unfold underlying;refine Kh Vl fun p=>?_;split
 ·exact Jv _
 ·exact Zr (Jm _)
theorem Kv(t:TypeId):Ig P (typeInfo t):=by
 unfold typeInfo;refine Kh Vl fun p=>?_;split
 ·exact Jv _
 ·exact Zr (Jm _)
theorem Vc(t:TypeId):Ig P (sizeOf t):=Kh (Kv t) fun _=>Jv _
theorem Ww(t:TypeId):Ig P (isAgg t):=by
 unfold isAgg;refine Kh (Jl t) fun d=>?_;split <;> exact Jv _
theorem Va(t:TypeId):Ig P (zeroValue t):=by
 unfold zeroValue;refine Kh (Kv t) fun d=>?_;split
 ·exact Jv _
 ·exact Zr (Jw _)
theorem Vu(v:Value):Ig P (asIntOf v):=by
 unfold asIntOf;split
 ·exact Jv _
 ·exact Zr (Jw _)
 ·exact Zr (Jm _)
theorem Wq(v:Value):Ig P (asBool v):=by
 unfold asBool;split
 ·exact Jv _
 ·exact Zr (Jm _)
theorem Mf(v:Value):Ig P (asAgg v):=by
 unfold asAgg;split
 ·exact Jv _
 ·exact Zr (Jm _)
theorem Jj{α:Type}(e:RuntimeError):ie P (runtimePanic e:Sem α):=by
 unfold runtimePanic;refine Ls fun p=>?_;cases e <;> first | exact Pj _ | exact Ls fun _=>Pj _ | exact Ls fun _=>Ls fun _=>Pj _
theorem Jy{α:Type}(k:IntKind)(x y:Int)(code:BoundsCode):ie P (boundsPanic k x y code:Sem α):=by
 unfold boundsPanic;dsimp only;split <;> exact Ls fun _=>Jj _
theorem Mx(t:TypeId)(cs:Array Value)(off:Nat):Ig P (part t cs off):=by
 unfold part;refine Kh (Ww t) fun b=>?_;split
 ·exact Kh (Vc t) fun _=>Jv _
 ·split
  ·exact Jv _
  ·exact Zr (Jm _)
theorem Kw(v:Value):Ig P (Instr.sureAddr v):=by
 unfold Instr.sureAddr;split
 ·exact Jv _
 ·exact Zr (Jm _)
theorem Ui(v:Value):Ig P (asAddr v):=by
 unfold asAddr;split
 ·exact Jv _
 ·exact Zr (Jj _)
 ·exact Zr (Jm _)
theorem qcQ(t:TypeId)(x i:Value):Ig P (Instr.index t x i):=by
 unfold Instr.index;refine Kh (Vu i) fun ki=>Kh (Jl t) fun d=>?_;split
 ·split
  ·exact Kh (Vc _) fun _=>Mx _ _ _
  ·exact Zr (Jy _ _ _ _)
 ·split
  ·exact Jv _
  ·exact Zr (Jy _ _ _ _)
 ·exact Zr (Jm _)
theorem sT(x:Value)(y:Nat)(c:BoundsCode):Ig P (Instr.sliceBound x y c):=by
 unfold Instr.sliceBound
 repeat' (first
  |exact Jv _ | exact Zr (Jm _) | exact Zr (Jw _) | exact Zr (Jj _) | exact Zr (Jy _ _ _ _)
  |exact Vc _ | exact Jl _ | exact Kv _ | exact Ww _ | exact Va _ | exact Vu _ | exact Wq _ | exact Mf _ | exact Ui _ | exact Mx _ _ _ | exact Kw _ | exact Vl
  |(refine Kh ?_ fun _=>?_) | split | dsimp only)
theorem Hn(b:Bool)(l c:Nat)(lo hi mx:Option Value):Ig P (Instr.sliceBounds b l c lo hi mx):=by
 unfold Instr.sliceBounds
 repeat' (first
  |exact Jv _ | exact Zr (Jm _) | exact Zr (Jw _) | exact Zr (Jj _) | exact Zr (Jy _ _ _ _)
  |exact Vc _ | exact Jl _ | exact Kv _ | exact Ww _ | exact Va _ | exact Vu _ | exact Wq _ | exact Mf _ | exact Ui _ | exact Mx _ _ _ | exact Kw _ | exact Vl | exact sT _ _ _
  |(refine Kh ?_ fun _=>?_) | split | dsimp only)
theorem mb(t:TypeId)(x i:Value):Ig P (Instr.indexAt t x i):=by
 unfold Instr.indexAt
 repeat' (first
  |exact Jv _ | exact Zr (Jm _) | exact Zr (Jw _) | exact Zr (Jj _) | exact Zr (Jy _ _ _ _)
  |exact Vc _ | exact Jl _ | exact Kv _ | exact Ww _ | exact Va _ | exact Vu _ | exact Wq _ | exact Mf _ | exact Ui _ | exact Mx _ _ _ | exact Kw _ | exact Vl
  |(refine Kh ?_ fun _=>?_) | split | dsimp only)
theorem qcO(t:TypeId)(x:Value)(lo hi mx:Option Value):Ig P (Instr.slice t x lo hi mx):=by
 unfold Instr.slice
 repeat' (first
  |exact Jv _ | exact Zr (Jm _) | exact Zr (Jw _) | exact Zr (Jj _) | exact Zr (Jy _ _ _ _)
  |exact Vc _ | exact Jl _ | exact Kv _ | exact Ww _ | exact Va _ | exact Vu _ | exact Wq _ | exact Mf _ | exact Ui _ | exact Mx _ _ _ | exact Kw _ | exact Vl | exact Hn _ _ _ _ _ _
  |(refine Kh ?_ fun _=>?_) | split | dsimp only)
theorem ma(t:TypeId)(x:Value)(lo hi mx:Option Value):Ig P (Instr.sliceAt t x lo hi mx):=by
 unfold Instr.sliceAt
 repeat' (first
  |exact Jv _ | exact Zr (Jm _) | exact Zr (Jw _) | exact Zr (Jj _) | exact Zr (Jy _ _ _ _)
  |exact Vc _ | exact Jl _ | exact Kv _ | exact Ww _ | exact Va _ | exact Vu _ | exact Wq _ | exact Mf _ | exact Ui _ | exact Mx _ _ _ | exact Kw _ | exact Vl | exact Hn _ _ _ _ _ _ | exact qcO _ _ _ _ _
  |(refine Kh ?_ fun _=>?_) | split | dsimp only)
theorem qcR(t:TypeId)(x:Value)(f:Nat):Ig P (Instr.field t x f):=by
 unfold Instr.field
 repeat' (first
  |exact Jv _ | exact Zr (Jm _) | exact Zr (Jw _) | exact Zr (Jj _) | exact Zr (Jy _ _ _ _)
  |exact Vc _ | exact Jl _ | exact Kv _ | exact Ww _ | exact Va _ | exact Vu _ | exact Wq _ | exact Mf _ | exact Ui _ | exact Mx _ _ _ | exact Kw _ | exact Vl
  |(refine Kh ?_ fun _=>?_) | split | dsimp only)
def qP(P:Program)(t:TypeId)(f:Nat):Bool :=
 match P.underlying t with
 |some (.struct fs)=>match fs[f]? with
  |some fd=>match P.info? fd.type with
   |some i=>i.size != 0
   |none=>true
  |none=>true
 |_=>true
theorem mc(t:TypeId)(x:Value)(f:Nat)(hok:qP P t f=true):Ig P (Instr.fieldAt t x f):=by
 have hu:∀ w d w',(underlying t).run P w=.ok d w'->P.underlying t=some d:=by
  intro w d w' h;cases hd:P.underlying t with
  |none=>simp[underlying,hd,program,Sem.run,stuck,bind,Sem.bind] at h
  |some d'=>rw[run_underlying hd] at h;injection h with h1 _;rw[h1]
 have hi:∀(e:TypeId) w n w',(sizeOf e).run P w=.ok n w'->∃ i,P.info? e=some i/\i.size=n:=by
  intro e w n w' h;cases hd:P.info? e with
  |none=>simp[sizeOf,typeInfo,hd,program,Sem.run,stuck,bind,Sem.bind] at h
  |some i=>simp[sizeOf,typeInfo,hd,program,Sem.run,bind,Sem.bind,pure] at h;exact⟨i,rfl,h.1⟩
 unfold Instr.fieldAt;refine fY (Jl t) fun d w w' hd=>?_;have hd':=hu _ _ _ hd;split
 ·rename_i fs;split
  ·rename_i fd hfd;refine Kh (Kw _) fun ad=>Kh ?_ fun _=>Jv _;unfold fieldPlace;refine fY (Vc _) fun n w1 w1' hn=>?_;obtain⟨i,hi1,hi2⟩:=hi _ _ _ _ hn;unfold qP at hok;rw[hd'] at hok;simp only[hfd,hi1] at hok;rw[if_neg (by subst hi2;simpa using hok)];exact Jv _
  ·exact Zr (Jm _)
 ·exact Zr (Jm _)
theorem md(x:Value)(f:Nat):Ig P (Instr.extract x f):=by
 unfold Instr.extract
 repeat' (first
  |exact Jv _ | exact Zr (Jm _) | exact Zr (Jw _) | exact Zr (Jj _) | exact Zr (Jy _ _ _ _)
  |exact Vc _ | exact Jl _ | exact Kv _ | exact Ww _ | exact Va _ | exact Vu _ | exact Wq _ | exact Mf _ | exact Ui _ | exact Mx _ _ _ | exact Kw _ | exact Vl
  |(refine Kh ?_ fun _=>?_) | split | dsimp only)
theorem jE(op:BinOp)(k:IntKind)(x y:Int):Ig P (Op.intArith op k x y):=by
 unfold Op.intArith
 repeat' (first
  |exact Jv _ | exact Zr (Jm _) | exact Zr (Jw _) | exact Zr (Jj _) | exact Zr (Jy _ _ _ _)
  |exact Vc _ | exact Jl _ | exact Kv _ | exact Ww _ | exact Va _ | exact Vu _ | exact Wq _ | exact Mf _ | exact Ui _ | exact Mx _ _ _ | exact Kw _ | exact Vl
  |(refine Kh ?_ fun _=>?_) | split | dsimp only)
theorem uh(op:BinOp)(k:IntKind)(x y:Int):Ig P (Op.intDiv op k x y):=by
 unfold Op.intDiv
 repeat' (first
  |exact Jv _ | exact Zr (Jm _) | exact Zr (Jw _) | exact Zr (Jj _) | exact Zr (Jy _ _ _ _)
  |exact Vc _ | exact Jl _ | exact Kv _ | exact Ww _ | exact Va _ | exact Vu _ | exact Wq _ | exact Mf _ | exact Ui _ | exact Mx _ _ _ | exact Kw _ | exact Vl
  |(refine Kh ?_ fun _=>?_) | split | dsimp only)
theorem oC(op:BinOp)(k:IntKind)(x y:Int):Ig P (Op.intBits op k x y):=by
 unfold Op.intBits
 repeat' (first
  |exact Jv _ | exact Zr (Jm _) | exact Zr (Jw _) | exact Zr (Jj _) | exact Zr (Jy _ _ _ _)
  |exact Vc _ | exact Jl _ | exact Kv _ | exact Ww _ | exact Va _ | exact Vu _ | exact Wq _ | exact Mf _ | exact Ui _ | exact Mx _ _ _ | exact Kw _ | exact Vl
  |(refine Kh ?_ fun _=>?_) | split | dsimp only)
theorem ul(op:BinOp)(x y:Int):Ig P (Op.intCmp op x y):=by
 unfold Op.intCmp
 repeat' (first
  |exact Jv _ | exact Zr (Jm _) | exact Zr (Jw _) | exact Zr (Jj _) | exact Zr (Jy _ _ _ _)
  |exact Vc _ | exact Jl _ | exact Kv _ | exact Ww _ | exact Va _ | exact Vu _ | exact Wq _ | exact Mf _ | exact Ui _ | exact Mx _ _ _ | exact Kw _ | exact Vl
  |(refine Kh ?_ fun _=>?_) | split | dsimp only)
theorem qcP(op:BinOp)(k:IntKind)(x:Int)(yk:IntKind)(y:Int):Ig P (Op.shift op k x yk y):=by
 unfold Op.shift
 repeat' (first
  |exact Jv _ | exact Zr (Jm _) | exact Zr (Jw _) | exact Zr (Jj _) | exact Zr (Jy _ _ _ _)
  |exact Vc _ | exact Jl _ | exact Kv _ | exact Ww _ | exact Va _ | exact Vu _ | exact Wq _ | exact Mf _ | exact Ui _ | exact Mx _ _ _ | exact Kw _ | exact Vl
  |(refine Kh ?_ fun _=>?_) | split | dsimp only)
theorem dq(op:BinOp)(x y:ByteArray):Ig P (Op.stringOp op x y):=by
 unfold Op.stringOp
 repeat' (first
  |exact Jv _ | exact Zr (Jm _) | exact Zr (Jw _) | exact Zr (Jj _) | exact Zr (Jy _ _ _ _)
  |exact Vc _ | exact Jl _ | exact Kv _ | exact Ww _ | exact Va _ | exact Vu _ | exact Wq _ | exact Mf _ | exact Ui _ | exact Mx _ _ _ | exact Kw _ | exact Vl
  |(refine Kh ?_ fun _=>?_) | split | dsimp only)
theorem Cz(a:Addr):∀(n i:Nat)(acc:Array Value),Rdr P (loadCellsFrom a i n acc)
 |0,i,acc=>(Jv _).rdr
 |n+1,i,acc=>by
  unfold loadCellsFrom;exact aW (lu _ _) fun v=>Cz a n (i+1) _
theorem ls(t:TypeId)(a:Addr):Rdr P (loadVar t a):=by
 unfold loadVar;refine aW (Ww t).rdr fun b=>?_;split
 ·exact aW (Vc t).rdr fun n=>aW (Cz _ _ _ _) fun _=>(Jv _).rdr
 ·exact lu _ _
theorem sP(t:TypeId)(v:Value):Rdr P (Instr.loadAt t v):=aW (Kw v).rdr fun a=>ls t a
def Value.flat:Value->Bool
 |.int _ _ | .bool _ | .string _=>true
 |_=>false
def Value.isInt:Value->Bool
 |.int _ _=>true
 |_=>false
def Value.isPtr:Value->Bool
 |.pointer _=>true
 |_=>false
def Value.hasLen:Value->Bool
 |.string _ | .slice _ _ _=>true
 |_=>false
theorem lR(op:BinOp)(t:TypeId)(x y:Operand)(a b:Value)(ha:Value.flat a=true):Ig P (eqGuard op t x y a b):=by
 have h:eqGuard op t x y a b=pure ():=by
  cases a <;> simp[Value.flat] at ha
  ·exact eqGuard_at_bool op t x y b _
  ·exact eqGuard_at_int op t x y b _ _
  ·exact eqGuard_at_string op t x y b _
 rw[h];exact Jv _
theorem lQ(d:Nat)(t:TypeId)(a b:Value)(ha:Value.flat a=true)(hb:Value.flat b=true):Ig P (Op.equalIn (d+1) t a b):=by
 unfold Op.equalIn;refine Kh (Jl t) fun u=>?_;cases a <;> simp only[Value.flat,Bool.false_eq_true] at ha <;> cases b <;> simp only[Value.flat,Bool.false_eq_true] at hb <;> cases u <;> dsimp only <;>
  first | exact Jv _ | exact Zr (Jm _) | (split <;> first | exact Jv _ | exact Zr (Jm _))
theorem sU(op:BinOp)(t:TypeId)(a b:Value)(ha:Value.flat a=true)(hb:Value.flat b=true):Ig P (binOp op t a b):=by
 have heq:Ig P (Op.equal t a b):=lQ 9999 t a b ha hb;cases a <;> simp only[Value.flat,Bool.false_eq_true] at ha <;> cases b <;> simp only[Value.flat,Bool.false_eq_true] at hb <;> cases op <;> simp only[binOp] <;>
  first
  |exact Zr (Jm _) | exact dq _ _ _ | exact qcP _ _ _ _ _
  |exact Kh heq fun _=>Jv _
  |(split <;> first | exact Zr (Jm _) | exact jE _ _ _ _ | exact uh _ _ _ _ | exact oC _ _ _ _ | exact ul _ _ _)
end Go.Proofs.YtmaojnmnbpomeaaGreatDoor.Text
namespace Go.Proofs.YtmaojnmnbpomeaaGreatDoor.Text
open Go
variable {P:Program}
def ag(c:Call):Bool:=match c.callee with | .builtin .len=>true | _=>false
def jY(P:Program)(o:Oper):Nat :=
 match o.op with
 |.move _ | .assign _ | .pick .. | .extract .. | .field .. | .index .. | .indexAddr .. | .slice .. | .binOp .. | .unOp .. | .nilCheck _=>0
 |.fieldAddr s _ f=>if qP P s f then 0 else 2
 |.convert _ dst _=>match P.underlying dst with
  |some (.int _)=>0
  |_=>2
 |.load ..=>1
 |.call c=>if ag c then 0 else 2
 |_=>2
def Hw(ρ:Operand->Value)(o:Oper):Bool :=
 match o.op with
 |.binOp _ _ x y _=>Value.flat (ρ x)&&Value.flat (ρ y)
 |.unOp _ _ x=>Value.flat (ρ x)
 |.nilCheck x=>Value.isPtr (ρ x)
 |.convert _ _ x=>Value.isInt (ρ x)
 |.call c=>match c.args.toList with
  |[x]=>!ag c||Value.hasLen (ρ x)
  |_=>!ag c
 |_=>true
def Es(o:Oper):Bool :=
 match o.op with
 |.binOp .. | .unOp .. | .nilCheck _ | .convert .. | .call _=>true
 |_=>false
def qgU(P:Program)(s:Sem Next):Prop:=∀ w n w',s.run P w=.ok n w'->w'=w/\∃ v,n=.value v/\∀ w2,s.run P w2=.ok (.value v) w2
def zaF(P:Program)(s:Sem Next):Prop:=∀ w n w',s.run P w=.ok n w'->w'=w/\∃ v,n=.value v
theorem Sz{s:Sem Value}(h:Ig P s):qgU P (do pure (.value (<-s))):=fun w n w' hr=>by
 obtain⟨v,w1,h1,h2⟩:=Ff hr;obtain⟨e,g⟩:=h w v w1 h1;subst e;simp only[Sem.run_pure] at h2;injection h2 with h3 h4;subst h3 h4;refine⟨rfl,v,rfl,fun w2=>?_⟩;rw[Zf,g w2];rfl
theorem s_{s:Sem Value}(h:Rdr P s):zaF P (do pure (.value (<-s))):=fun w n w' hr=>by
 obtain⟨v,w1,h1,h2⟩:=Ff hr;have e:=h w v w1 h1;subst e;simp only[Sem.run_pure] at h2;injection h2 with h3 h4;subst h3 h4;exact⟨rfl,v,rfl⟩
theorem lT(v:Value):qgU P (pure (.value v)):=fun w n w' hr=>by
 simp only[Sem.run_pure] at hr;injection hr with h3 h4;subst h3 h4;exact⟨rfl,v,rfl,fun _=>rfl⟩
theorem sS(op:UnOp)(x:Value)(h:Value.flat x=true):Ig P (Op.unary op x):=by
 cases x <;> simp only[Value.flat,Bool.false_eq_true] at h <;> cases op <;> simp only[Op.unary] <;>
  first | exact Jv _ | exact jE _ _ _ _ | exact oC _ _ _ _ | exact Zr (Jm _)
theorem uZ{ρ:Operand->Value}{o:Oper}(h:jY P o=0)(hd:Hw ρ o=true):qgU P (execOp ρ o):=by
 obtain⟨dst,op,type,pos,after,guard⟩:=o;cases op <;> simp only[jY] at h <;> simp only[execOp] <;> try (exact absurd h (by decide))
 case move x=>exact lT _
 case assign x=>exact lT _
 case pick c a b =>
  intro w n w' hr;obtain⟨v,w1,h1,h2⟩:=Ff hr;obtain⟨e,g⟩:=Wq (P:=P) _ w v w1 h1;subst e;simp only[Sem.run_pure] at h2;injection h2 with h3 h4;subst h3 h4;refine⟨rfl,_,rfl,fun w2=>?_⟩;rw[Zf,g w2];rfl
 case nilCheck x =>
  simp only[Hw] at hd;cases hx:ρ x <;> rw[hx] at hd <;> simp only[Value.isPtr,Bool.false_eq_true] at hd;rename_i a;cases a with
  |none=>exact fun w n w' hr=>absurd hr (Jj _ w n w')
  |some a=>exact lT _
 case binOp op t x y yt =>
  simp only[Hw,Yl] at hd;exact Sz (Kh (lR _ _ _ _ _ _ hd.1) fun _=>sU _ _ _ _ hd.1 hd.2)
 case unOp op t x=>exact Sz (sS _ _ hd)
 case convert src dst x =>
  simp only[Hw] at hd;cases hx:ρ x <;> rw[hx] at hd <;> simp only[Value.isInt,Bool.false_eq_true] at hd;rename_i k n;refine Sz ?_;cases hu:P.underlying dst with
  |none=>rw[hu] at h;exact absurd h (by decide)
  |some d =>
   rw[hu] at h;have jQ:∃ kd,d=.int kd:=by cases d <;> first | exact⟨_,rfl⟩ | (exfalso;simp at h)
   obtain⟨kd,rfl⟩:=jQ;unfold convert;refine Kh (Jl src) fun ds=>fY (Jl dst) fun dd w w' hdd=>?_;rw[run_underlying hu] at hdd;injection hdd with h1 _;subst h1;exact Jv _
 case field t x f=>exact Sz (qcR _ _ _)
 case fieldAddr t x f =>
  by_cases hok:qP P t f=true
  ·exact Sz (mc _ _ _ hok)
  ·rw[if_neg hok] at h;exact absurd h (by decide)
 case index t x i=>exact Sz (qcQ _ _ _)
 case indexAddr t x i=>exact Sz (mb _ _ _)
 case slice t x lo hi mx=>exact Sz (ma _ _ _ _ _)
 case extract x i=>exact Sz (md _ _)
 case call c =>
  have hc:ag c=true:=by
   rcases Yn (ag c) with hc | hc
   ·exact hc
   ·rw[hc] at h;exact absurd h (by decide)
  obtain⟨callee,args,argTypes⟩:=c;have qmN:callee=.builtin .len:=by
   unfold ag at hc;dsimp only at hc;split at hc
   ·rfl
   ·cases hc
  subst qmN;simp only[Hw,hc,Bool.not_true,Ys] at hd;obtain⟨l⟩:=args
  match l,hd with
  |[x],hd =>
   simp only at hd;have hl:Ig P (Builtin.len_ argTypes type #[ρ x]):=by
    unfold Builtin.len_;cases hx:ρ x <;> rw[hx] at hd <;> simp only[Value.hasLen,Bool.false_eq_true] at hd <;>
     repeat' (first
      |exact Jv _ | exact Zr (Jm _) | exact Jl _
      |(exfalso;rename_i heq;simp at heq;done)
      |(refine Kh ?_ fun _=>?_) | split | dsimp only)
   have he:(do let d <-resolve ρ { callee:=.builtin .len,args:=[x].toArray,argTypes:=argTypes } type;invoke d.target d.args:Sem Next)=(do pure (.value (<-Builtin.len_ argTypes type #[ρ x]))):=by
    simp[resolve,invoke,builtin]
   rw[he];exact Sz hl
end Go.Proofs.YtmaojnmnbpomeaaGreatDoor.Text
namespace Go.Proofs.YtmaojnmnbpomeaaGreatDoor.Text
open Go
variable {P:Program} {ops:Array Oper}
def Co(a a':Act)(d:Option Tmp):Prop:=∃ u ds,a'=({ a with defers:=ds }:Act).put d u
theorem Jh(a:Act)(d:Option Tmp)(u:Value):Co a (a.put d u) d:=⟨u,a.defers,rfl⟩
def Y1(P:Program)(ops:Array Oper)(o:Oper)(v:Value)(a:Act)(w:World):Prop :=
 (Region.wanted o (yielded ops a.tmps)=true/\(execOp a.eval o).run P w=.ok (.value v) w)\/(Region.wanted o (yielded ops a.tmps)=false/\v=undef)
def rr:Exit->Act->World->Prop:=fun _ _ _=>False
def pD(P:Program)(ops:Array Oper)(c:Nat)(o:Oper)(K:Act->World->Prop)(a:Act)(w:World):Prop :=
 match c with
 |0=>∃ v,Yields P ops o v a/\K (a.put o.dst v) w
 |1=>∃ v,Y1 P ops o v a w/\K (a.put o.dst v) w
 |_=>if Region.wanted o (yielded ops a.tmps)=true then o.wp P a w K rr else K (a.put o.dst undef) w
theorem Aw{o:Oper}{a:Act}{w:World}{K:Act->World->Prop}{Q:Exit->Act->World->Prop}(hQ:∀ e a w,e≠.normal->¬ Q e a w)(h:o.wp P a w K Q):∃ a' w',Co a a' o.dst/\K a' w':=by
 unfold Oper.wp at h;generalize (execOp a.eval o).run P w=r at h;cases r with
 |ok n w' =>
  cases n <;> simp only[Oper.upon] at h
  case value v=>exact⟨_,w',Jh _ _ _,h⟩
  case skip=>exact⟨_,w',Jh _ _ _,h⟩
  case defer d=>exact⟨_,w',⟨undef,_,rfl⟩,h⟩
  case enter f args =>
   obtain⟨e,w'',fr,he,_⟩:=h [];cases e with
   |returned v=>exact⟨_,w'',Jh _ _ _,he⟩
   |panicked c=>exact absurd he (hQ _ _ _ (by simp))
   |outgrown=>obtain⟨a2,w2,h2⟩:=(he:LetsOut Q);exact absurd h2 (hQ _ _ _ (by simp))
  case row row args =>
   obtain⟨v,w'',he,_⟩:=h default [];exact⟨_,w'',Jh _ _ _,he⟩
 |halt x w' =>
  cases x <;> simp only[Oper.upon] at h
  case panic v=>exact absurd h (hQ _ _ _ (by simp))
theorem jH:∀(e:Exit)(a:Act)(w:World),e≠.normal->¬ rr e a w:=fun _ _ _ _ h=>h
theorem bA:¬ LetsOut rr:=fun⟨_,_,h⟩=>h
theorem lE{o:Oper}{a:Act}{w:World}{K K':Act->World->Prop}{dst:Option Tmp}{v:Value}
  (Wz:∀ cs b,o.op≠.select cs b) (h1:∀ d,dst=some d->d∉o.looksAt ops) (h2:∀ d,dst=some d->o.dst≠some d)
  (hK:∀ a' w',Co a a' o.dst->K a' w'->K' (a'.put dst v) w') (h:o.wp P a w K rr):o.wp P (a.put dst v) w K' rr:=by
 unfold Oper.wp at *;rw[execOp_put (ops:=ops) o Wz a dst v h1];generalize (execOp a.eval o).run P w=r at *;cases r with
 |ok n w' =>
  cases n <;> simp only[Oper.upon] at h |-
  case value u=>rw[Act.put_comm a v u h2];exact hK _ _ (Jh _ _ _) h
  case skip=>rw[Act.put_comm a v undef h2];exact hK _ _ (Jh _ _ _) h
  case defer d =>
   rw[Act.put_defers,Act.put_comm _ v undef h2];exact hK _ _ ⟨undef,_,rfl⟩ h
  case enter f args =>
   refine Calls.mono h fun e w'' he=>?_;cases e with
   |returned u=>simp only at he |-;rw[Act.put_comm a v u h2];exact hK _ _ (Jh _ _ _) he
   |panicked c=>exact he
   |outgrown=>exact he
  case row row args=>exact Rows.mono h fun u w'' he=>by rw[Act.put_comm a v u h2];exact hK _ _ (Jh _ _ _) he
 |halt x w'=>cases x <;> simp only[Oper.upon] at h |- <;> exact h
theorem fQ{o:Oper}{a:Act}{w:World}{K K':Act->World->Prop}{dst:Option Tmp}{v:Value}
  (Wz:∀ cs b,o.op≠.select cs b) (h1:∀ d,dst=some d->d∉o.looksAt ops) (h2:∀ d,dst=some d->o.dst≠some d)
  (hK:∀ a' w',Co a a' o.dst->K (a'.put dst v) w'->K' a' w') (h:o.wp P (a.put dst v) w K rr):o.wp P a w K' rr:=by
 unfold Oper.wp at *;rw[execOp_put (ops:=ops) o Wz a dst v h1] at h;generalize (execOp a.eval o).run P w=r at *;cases r with
 |ok n w' =>
  cases n <;> simp only[Oper.upon] at h |-
  case value u=>rw[Act.put_comm a v u h2] at h;exact hK _ _ (Jh _ _ _) h
  case skip=>rw[Act.put_comm a v undef h2] at h;exact hK _ _ (Jh _ _ _) h
  case defer d =>
   rw[Act.put_defers,Act.put_comm _ v undef h2] at h;exact hK _ _ ⟨undef,_,rfl⟩ h
  case enter f args =>
   refine Calls.mono h fun e w'' he=>?_;cases e with
   |returned u=>simp only at he |-;rw[Act.put_comm a v u h2] at he;exact hK _ _ (Jh _ _ _) he
   |panicked c=>exact he
   |outgrown=>exact he
  case row row args=>exact Rows.mono h fun u w'' he=>by rw[Act.put_comm a v u h2] at he;exact hK _ _ (Jh _ _ _) he
 |halt x w'=>cases x <;> simp only[Oper.upon] at h |- <;> exact h
theorem Eo{o:Oper}{v:Value}{a a':Act}{d:Option Tmp}(Wz:∀ cs b,o.op≠.select cs b)(h1:∀ t,d=some t->t∉o.looksAt ops)(hs:Co a a' d) :
  Yields P ops o v a↔Yields P ops o v a':=by
 obtain⟨u,ds,rfl⟩:=hs;have e1:execOp (({ a with defers:=ds }:Act).put d u).eval o=execOp a.eval o:=(execOp_put (ops:=ops) o Wz _ d u h1).trans rfl;have e2:Region.wanted o (yielded ops (({ a with defers:=ds }:Act).put d u).tmps)=Region.wanted o (yielded ops a.tmps):=wanted_put o _ d u h1;exact⟨fun h=>h.of_same e1 e2,fun h=>h.of_same e1.symm e2.symm⟩
theorem fM{o:Oper}{v v':Value}{a:Act}(w:World)(h:Yields P ops o v a)(h':Yields P ops o v' a):v=v':=by
 rcases h with ⟨hw,h⟩ | ⟨hw,rfl⟩ <;> rcases h' with ⟨aj,h'⟩ | ⟨aj,rfl⟩
 ·have:=(h w).symm.trans (h' w);injection this with h1 _;injection h1
 ·rw[hw] at aj;cases aj
 ·rw[hw] at aj;cases aj
 ·rfl
theorem cg{o:Oper}{v:Value}{a:Act}{w:World}{d:Option Tmp}{u:Value}(Wz:∀ cs b,o.op≠.select cs b)(h1:∀ t,d=some t->t∉o.looksAt ops) :
  Y1 P ops o v (a.put d u) w↔Y1 P ops o v a w:=by
 unfold Y1;rw[execOp_put (ops:=ops) o Wz a d u h1,wanted_put o a d u h1]
theorem rU{c:Nat}{o:Oper}{K K':Act->World->Prop}{a:Act}{w:World}(h:∀ a w,K a w->K' a w)(hh:pD P ops c o K a w):pD P ops c o K' a w:=by
 unfold pD at *;split at hh
 ·obtain⟨v,h1,h2⟩:=hh;exact⟨v,h1,h _ _ h2⟩
 ·obtain⟨v,h1,h2⟩:=hh;exact⟨v,h1,h _ _ h2⟩
 ·split at hh
  ·rename_i hw;rw[if_pos hw];exact Oper.wp_mono h hh
  ·rename_i hw;rw[if_neg hw];exact h _ _ hh
theorem qjI{c:Nat}{o:Oper}{K:Act->World->Prop}{a:Act}{w:World}(hh:pD P ops c o K a w):∃ a' w',Co a a' o.dst/\K a' w':=by
 unfold pD at hh;split at hh
 ·obtain⟨v,_,h⟩:=hh;exact⟨_,_,Jh _ _ _,h⟩
 ·obtain⟨v,_,h⟩:=hh;exact⟨_,_,Jh _ _ _,h⟩
 ·split at hh
  ·exact Aw jH hh
  ·exact⟨_,_,Jh _ _ _,hh⟩
theorem qrO{c:Nat}{o:Oper}{K K':Act->World->Prop}{a:Act}{w:World}{dst:Option Tmp}{v:Value}
  (Wz:∀ cs b,o.op≠.select cs b) (h1:∀ d,dst=some d->d∉o.looksAt ops) (h2:∀ d,dst=some d->o.dst≠some d)
  (hK:∀ a' w',Co a a' o.dst->K a' w'->K' (a'.put dst v) w') (hh:pD P ops c o K a w):pD P ops c o K' (a.put dst v) w:=by
 unfold pD at *;split at hh
 ·obtain⟨u,hy,h⟩:=hh;refine⟨u,(Eo Wz h1 (Jh a dst v)).1 hy,?_⟩;rw[Act.put_comm a v u h2];exact hK _ _ (Jh _ _ _) h
 ·obtain⟨u,hy,h⟩:=hh;refine⟨u,(cg Wz h1).2 hy,?_⟩;rw[Act.put_comm a v u h2];exact hK _ _ (Jh _ _ _) h
 ·rw[wanted_put o a dst v h1];split at hh
  ·rename_i hw;rw[if_pos hw];exact lE Wz h1 h2 hK hh
  ·rename_i hw;rw[if_neg hw,Act.put_comm a v undef h2];exact hK _ _ (Jh _ _ _) hh
theorem qcF{c:Nat}{o:Oper}{K K':Act->World->Prop}{a:Act}{w:World}{dst:Option Tmp}{v:Value}
  (Wz:∀ cs b,o.op≠.select cs b) (h1:∀ d,dst=some d->d∉o.looksAt ops) (h2:∀ d,dst=some d->o.dst≠some d)
  (hK:∀ a' w',Co a a' o.dst->K (a'.put dst v) w'->K' a' w') (hh:pD P ops c o K (a.put dst v) w):pD P ops c o K' a w:=by
 unfold pD at *;split at hh
 ·obtain⟨u,hy,h⟩:=hh;refine⟨u,(Eo Wz h1 (Jh a dst v)).2 hy,?_⟩;rw[Act.put_comm a v u h2] at h;exact hK _ _ (Jh _ _ _) h
 ·obtain⟨u,hy,h⟩:=hh;refine⟨u,(cg Wz h1).1 hy,?_⟩;rw[Act.put_comm a v u h2] at h;exact hK _ _ (Jh _ _ _) h
 ·rw[wanted_put o a dst v h1] at hh;split at hh
  ·rename_i hw;rw[if_pos hw];exact fQ Wz h1 h2 hK hh
  ·rename_i hw;rw[if_neg hw];rw[Act.put_comm a v undef h2] at hh;exact hK _ _ (Jh _ _ _) hh
theorem swap{cx cy:Nat}{x y:Oper}{K:Act->World->Prop}{a:Act}{w:World}(Ab:∀ cs b,x.op≠.select cs b)(hsy:∀ cs b,y.op≠.select cs b)
  (hap:x.apart ops y=true) (hc:cx=0\/cy=0\/(cx=1/\cy=1)) (h:pD P ops cx x (pD P ops cy y K) a w):pD P ops cy y (pD P ops cx x K) a w:=by
 obtain⟨p1,p2,p3⟩:=Oper.apart_spec hap;have p2':∀ d,y.dst=some d->x.dst≠some d:=fun d hd hx=>p2 d hx hd;rcases hc with rfl | rfl | ⟨rfl,rfl⟩
 ·obtain⟨v,hy,h2⟩:=h;exact qcF hsy p1 p2 (fun a' w' hs hk=>⟨v,(Eo Ab p3 hs).1 hy,hk⟩) h2
 ·obtain⟨a1,w1,hs,v,hy,_⟩:=qjI h;have hy0:=(Eo hsy p1 hs).2 hy;refine⟨v,hy0,qrO Ab p3 p2' (fun a' w' hs' hk=>?_) h⟩;obtain⟨v',hy',hk⟩:=hk;have:=fM w' hy' ((Eo hsy p1 hs').1 hy0);subst this;exact hk
 ·obtain⟨v,hy,u,hu,hk⟩:=h;refine⟨u,(cg hsy p1).1 hu,v,(cg Ab p3).2 hy,?_⟩;rw[<-Act.put_comm a v u p2];exact hk
def qE(P:Program)(ops:Array Oper)(cl:Nat->Nat)(Q:Act->World->Prop):List Nat->Act->World->Prop
 |[],a,w=>Q a w
 |i::r,a,w=>match ops[i]? with
  |none=>qE P ops cl Q r a w
  |some o=>pD P ops (cl i) o (qE P ops cl Q r) a w
def fg(ops:Array Oper)(cl:Nat->Nat)(i j:Nat):Bool :=
 match ops[i]?,ops[j]? with
 |some x,some y=>x.apart ops y&&(cl i==0||cl j==0||(cl i==1&&cl j==1))
 |_,_=>true
theorem qaS{cl:Nat->Nat}{Q:Act->World->Prop}(Wz:Region.noSelect ops=true)(i:Nat)(l2:List Nat):∀(l1:List Nat)(a:Act)(w:World),(∀ x∈l1,fg ops cl x i=true) ->
  qE P ops cl Q (l1++i::l2) a w->qE P ops cl Q (i::(l1++l2)) a w
 |[],_,_,_,h=>h
 |x::l1,a,w,hc,h=>by
  have hx:=hc x (by simp);have ih:=fun a w=>qaS (cl:=cl) (Q:=Q) Wz i l2 l1 a w (fun y hy=>hc y (by simp[hy]));cases hox:ops[x]? with
  |none =>
   have h':qE P ops cl Q (l1++i::l2) a w:=by simpa[qE,hox] using h
   have:=ih a w h';unfold qE at this |-;split at this
   ·simpa[qE,hox] using this
   ·exact rU (fun a w hh=>by simpa[qE,hox] using hh) this
  |some ox =>
   have h1:pD P ops (cl x) ox (qE P ops cl Q (l1++i::l2)) a w:=by simpa[qE,hox] using h
   have h2:=rU ih h1;cases hoi:ops[i]? with
   |none=>simpa[qE,hox,hoi] using h2
   |some oi =>
    simp only[fg,hox,hoi,Yl,Yt,beq_iff_eq] at hx;have h3:pD P ops (cl x) ox (pD P ops (cl i) oi (qE P ops cl Q (l1++l2))) a w:=by simpa[qE,hoi] using h2
    have h4:=swap (fun cs b=>Region.noSelect_spec Wz x ox cs b hox) (fun cs b=>Region.noSelect_spec Wz i oi cs b hoi) hx.1 (by rcases hx.2 with (h | h) | h;exact .inl h;exact .inr (.inl h);exact .inr (.inr h)) h3;have h5:pD P ops (cl i) oi (qE P ops cl Q (x::(l1++l2))) a w:=rU (fun a w hh=>by simpa[qE,hox] using hh) h4;simpa[qE,hoi] using h5
end Go.Proofs.YtmaojnmnbpomeaaGreatDoor.Text
namespace Go.Proofs.YtmaojnmnbpomeaaGreatDoor.Text
open Go
variable {P:Program} {ops:Array Oper}
inductive Dep(ops:Array Oper):Nat->Nat->Prop
 |here {i:Nat} {o:Oper} {e:Edge} (ho:ops[i]? = some o) (he:e∈o.after) (hb:Region.binds .any e=true):Dep ops i e.on
 |there {i x:Nat} {o:Oper} {e:Edge} (ho:ops[i]? = some o) (he:e∈o.after) (hb:Region.binds .any e=true) (h:Dep ops e.on x):Dep ops i x
def qkQ(acc:List Nat)(o:Oper):Nat:=o.after.toList.foldl (fun s e=>if Region.binds .any e then s ||| (2 ^ e.on ||| acc.getD e.on 0) else s) 0
def zS:List Oper->List Nat->List Nat
 |[],acc=>acc
 |o::r,acc=>zS r (acc++[qkQ acc o])
theorem ax(acc:List Nat)(x:Nat):∀(l:List Edge)(s:Nat),(l.foldl (fun s e=>if Region.binds .any e then s ||| (2 ^ e.on ||| acc.getD e.on 0) else s) s).testBit x=true ->
  s.testBit x=true\/∃ e∈l,Region.binds .any e=true/\(e.on=x\/(acc.getD e.on 0).testBit x=true)
 |[],s,h=>.inl h
 |e::l,s,h=>by
  rw[List.foldl_cons] at h;rcases ax acc x l _ h with h1 | ⟨e',wS,hb,h1⟩
  ·split at h1
   ·rename_i hb;rw[Nat.testBit_or,Nat.testBit_or,Yt,Yt] at h1;rcases h1 with h1 | h1 | h1
    ·exact .inl h1
    ·refine .inr ⟨e,by simp,hb,.inl ?_⟩;rw[Nat.testBit_two_pow] at h1;simpa using h1
    ·exact .inr ⟨e,by simp,hb,.inr h1⟩
   ·exact .inl h1
  ·exact .inr ⟨e',by simp[wS],hb,h1⟩
theorem Pm:∀(l:List Oper)(acc:List Nat),(∀ j,l[j]? = ops[acc.length+j]?)->(∀ i x,i<acc.length->(acc.getD i 0).testBit x=true->Dep ops i x) ->
  ∀ i x,((zS l acc).getD i 0).testBit x=true->Dep ops i x
 |[],acc,_,h,i,x,hb=>by
  rcases Nat.lt_or_ge i acc.length with hi | hi
  ·exact h i x hi hb
  ·simp[zS,Xf hi] at hb
 |o::r,acc,hl,h,i,x,hb=>by
  refine Pm r (acc++[qkQ acc o]) (fun j=>?_) (fun i x hi hb=>?_) i x hb
  ·have:=hl (j+1);simp only[List.getElem?_cons_succ] at this;rw[this,Qe,Qf];congr 1;omega
  ·rw[Qe,Qf] at hi;by_cases hia:i<acc.length
   ·rw[Qb,Qo hia,<-Qb] at hb;exact h i x hia hb
   ·have yv:i=acc.length:=by omega
    subst yv;rw[Qb,Qn (Ya _)] at hb;simp only[Nat.sub_self,List.getElem?_cons_zero,Option.getD_some] at hb;have ho:ops[acc.length]? = some o:=by simpa using (hl 0).symm
    rcases ax acc x _ _ hb with h1 | ⟨e,he,hbi,h1⟩
    ·simp at h1
    ·rcases h1 with rfl | h1
     ·exact .here ho (by simpa using he) hbi
     ·rcases Nat.lt_or_ge e.on acc.length with Ji | hge
      ·exact .there ho (by simpa using he) hbi (h _ _ Ji h1)
      ·simp[Xf hge] at h1
def bW(ops:Array Oper):Bool:=(List.range ops.size).all fun i=>match ops[i]? with
 |some o=>o.after.all fun e=>!Region.binds .any e||decide (e.on<i)
 |none=>true
def uq(ops:Array Oper)(cl:Nat->Nat):Bool :=
 let m:=zS ops.toList []
 (List.range ops.size).all fun i=>(List.range i).all fun x=>(m.getD i 0).testBit x||fg ops cl x i
theorem un{cl:Nat->Nat}(h:uq ops cl=true){i x:Nat}(hi:i<ops.size)(hx:x<i):Dep ops i x\/fg ops cl x i=true:=by
 have h1:=Xp.1 h i (Xz.2 hi);have h2:=Xp.1 h1 x (Xz.2 hx);rw[Yt] at h2;rcases h2 with h2 | h2
 ·exact .inl (Pm ops.toList [] (by simp) (fun i x hi=>absurd hi (by simp)) i x h2)
 ·exact .inr h2
def iz(ops:Array Oper)(listed:Array Bool):Prop:=∀ j o,ops[j]? = some o->listed.getD j false=true->∀ e∈o.after,Region.binds .any e=true->listed.getD e.on false=true
theorem Cb{listed:Array Bool}(hc:iz ops listed){i x:Nat}(h:Dep ops i x) :
  (∀ o,ops[i]? = some o->∀ e∈o.after,Region.binds .any e=true->listed.getD e.on false=true)->listed.getD x false=true:=by
 induction h with
 |here ho he hb=>intro h;exact h _ ho _ he hb
 |there ho he hb _ ih=>intro h;exact ih fun o' wQ=>hc _ o' wQ (h _ ho _ he hb)
theorem Fk{listed:Array Bool}{n i:Nat}(hn:listed.size=n)(hi:i<n):listed.getD i true=listed.getD i false:=by
 subst hn;simp[hi]
theorem jq{i c:Nat}{o:Oper}{K:Act->World->Prop}{Q:Exit->Act->World->Prop}{a:Act}{w:World}(ho:ops[i]? = some o)(h:pD P ops c o K a w):wpOp P ops Q i K a w:=by
 unfold wpOp;simp only[ho];unfold pD at h;split at h
 ·obtain⟨v,hy,hk⟩:=h;rcases hy with ⟨hw,hv⟩ | ⟨hw,rfl⟩
  ·rw[if_pos hw];left;unfold Oper.wp;rw[hv w];exact hk
  ·rw[if_neg (by simp[hw])];exact hk
 ·obtain⟨v,hy,hk⟩:=h;rcases hy with ⟨hw,hv⟩ | ⟨hw,rfl⟩
  ·rw[if_pos hw];left;unfold Oper.wp;rw[hv];exact hk
  ·rw[if_neg (by simp[hw])];exact hk
 ·split at h
  ·rename_i hw;rw[if_pos hw];left;unfold Oper.wp at *;generalize (execOp a.eval o).run P w=r at *;cases r with
   |ok n w' =>
    cases n <;> simp only[Oper.upon] at h |- <;> first
     |exact h
     |exact Calls.mono h fun e w'' he=>by
       cases e with
       |returned u=>exact he
       |panicked c=>exact absurd he id
       |outgrown=>exact absurd he bA
   |halt x w'=>cases x <;> simp only[Oper.upon] at h |- <;> first | exact h | exact absurd h id
  ·rename_i hw;rw[if_neg hw];exact h
theorem qoH{cl:Nat->Nat}{Q:Exit->Act->World->Prop}(Wz:Region.noSelect ops=true)(Bx:bW ops=true)(hp:uq ops cl=true) :
  ∀(rem:List Nat)(listed:Array Bool)(a:Act)(w:World),listed.size=ops.size->rem.Pairwise (·<·)->(∀ j,j∈rem↔j<ops.size/\listed.getD j false=false)->iz ops listed ->
   qE P ops cl (fun a w=>Q .normal a w) rem a w->wpAny P .any ops Q rem.length listed a w:=by
 intro rem
 induction hn:rem.length generalizing rem with
 |zero =>
  intro listed a w hs _ hm _ h;have he:rem=[]:=Xw hn;subst he;refine⟨?_,h⟩;apply List.eq_nil_iff_forall_not_mem.2;intro j hj;obtain⟨h0,o,ho,_⟩:=mem_ready.1 hj;have Ji:j<ops.size:=(gl ho);rw[Fk hs Ji] at h0;exact absurd ((hm j).2 ⟨Ji,h0⟩) (by simp)
 |succ n ih =>
  intro listed a w hs wO hm hc h;have tY:Region.ready .any ops listed≠[]:=by
   cases hr:rem with
   |nil=>rw[hr] at hn;cases hn
   |cons i0 r =>
    have pc:=(hm i0).1 (by rw[hr];simp);intro xR;have Ux:i0∈Region.ready .any ops listed:=by
     refine mem_ready.2 ⟨by rw[Fk hs pc.1];exact pc.2,ops[i0],Array.getElem?_eq_getElem pc.1,fun e he hb=>?_⟩;have h1:=Xp.1 Bx i0 (Xz.2 pc.1);simp only[Array.getElem?_eq_getElem pc.1] at h1;have h2:=Array.all_eq_true_iff_forall_mem.1 h1 e he;simp only[hb,Bool.not_true,Ys,Yj] at h2;rcases Yn (listed.getD e.on false) with h3 | h3
     ·exact h3
     ·have h4:=(hm e.on).2 ⟨by omega,h3⟩;rw[hr] at h4 wO;rcases List.mem_cons.1 h4 with h5 | h5
      ·omega
      ·have:=(Qx.1 wO).1 _ h5;omega
    rw[xR] at Ux;cases Ux
  refine⟨fun h0=>absurd h0 tY,fun i hi=>?_⟩;obtain⟨h0,o,ho,Uc⟩:=mem_ready.1 hi;have Ji:i<ops.size:=(gl ho);rw[Fk hs Ji] at h0;have hir:i∈rem:=(hm i).2 ⟨Ji,h0⟩;obtain⟨l1,l2,hl⟩:=List.append_of_mem hir;subst hl;rw[List.pairwise_append] at wO;obtain⟨pw1,pw2,pw3⟩:=wO;have lz:=Qx.1 pw2;have hf:=qaS Wz i l2 l1 a w (fun x hx=>by
   have hxi:x<i:=pw3 x hx i (by simp)
   rcases un hp Ji hxi with hd | hcp
   ·have:=Cb hc hd (fun o' wQ e he hb=>by rw[ho] at wQ;injection wQ with e2;subst e2;exact Uc e he hb)
    have h2:=((hm x).1 (by simp[hx])).2
    rw[this] at h2
    cases h2
   ·exact hcp) h
  have hst:pD P ops (cl i) o (qE P ops cl (fun a w=>Q .normal a w) (l1++l2)) a w:=by simpa[qE,ho] using hf
  refine wpOp_mono (fun a' w' hh=>?_) (jq (Q:=Q) ho hst);have hlen:(l1++l2).length=n:=by simp at hn |-;omega
  refine ih (l1++l2) hlen (listed.setIfInBounds i true) a' w' (by simpa using hs) ?_ (fun j=>?_) ?_ hh
  ·rw[List.pairwise_append];exact⟨pw1,lz.2,fun x hx y hy=>pw3 x hx y (by simp[hy])⟩
  ·by_cases Ad:j=i
   ·subst Ad;constructor
    ·intro hj;rcases Qh.1 hj with h5 | h5
     ·have:=pw3 j h5 j (by simp);omega
     ·have:=lz.1 j h5;omega
    ·intro ⟨_,h5⟩;have:j<listed.size:=by omega
     simp[this] at h5
   ·rw[getD_set_ne false (Ne.symm Ad),<-hm j];simp[Ad]
  ·intro j oj wP hj e he hb;by_cases Ad:j=i
   ·subst Ad;rw[ho] at wP;injection wP with e2;subst e2;exact getD_set_true (Uc e he hb)
   ·rw[getD_set_ne false (Ne.symm Ad)] at hj;exact getD_set_true (hc j oj wP hj e he hb)
end Go.Proofs.YtmaojnmnbpomeaaGreatDoor.Text
namespace Go.Proofs.YtmaojnmnbpomeaaGreatDoor.Text
open Go
variable {P:Program} {ops:Array Oper}
def Ed(ops:Array Oper)(i:Nat)(o:Oper):Bool:=(o.looksAt ops).all fun t=>(List.range ops.size).all fun j=>decide (j<i)||match ops[j]? with
 |some oj=>oj.dst != some t
 |none=>true
def qgF(P:Program)(ops:Array Oper)(ex:List Nat)(i:Nat):Nat :=
 match ops[i]? with
 |none=>2
 |some o=>if ex.contains i then 2 else if Es o&&!Ed ops i o then 2 else jY P o
def chk(ops:Array Oper)(ex:List Nat)(a:Act):Bool:=(List.range ops.size).all fun i=>ex.contains i||match ops[i]? with
 |some o=>!Es o||!Region.wanted o (yielded ops a.tmps)||Hw a.eval o
 |none=>true
def kK(ops:Array Oper)(ex:List Nat)(Q:Exit->Act->World->Prop):Exit->Act->World->Prop:=fun e a w=>e=.normal/\chk ops ex a=true/\Q .normal a w
theorem tE(ex:List Nat)(Q:Exit->Act->World->Prop):∀(e:Exit)(a:Act)(w:World),e≠.normal->¬ kK ops ex Q e a w:=fun _ _ _ h h2=>h h2.1
theorem uw{ex:List Nat}{Q:Exit->Act->World->Prop}{a:Act}{w:World}(h1:chk ops ex a=true)(h2:Q .normal a w):kK ops ex Q .normal a w:=⟨rfl,h1,h2⟩
theorem Ph(ex:List Nat)(Q:Exit->Act->World->Prop):¬ LetsOut (kK ops ex Q):=fun⟨_,_,h⟩=>by cases h.1
theorem qbR{o:Oper}{a:Act}{w:World}{ex:List Nat}{Q:Exit->Act->World->Prop}{K:Act->World->Prop}(h:o.wp P a w K (kK ops ex Q)):o.wp P a w K rr:=by
 unfold Oper.wp at *;generalize (execOp a.eval o).run P w=r at *;cases r with
 |ok n w' =>
  cases n <;> simp only[Oper.upon] at h |- <;> first
   |exact h
   |exact Calls.mono h fun e w'' he=>by
     cases e with
     |returned u=>exact he
     |panicked c=>exact absurd he (tE _ _ _ _ _ (by simp))
     |outgrown=>exact absurd he (Ph _ _)
 |halt x w'=>cases x <;> simp only[Oper.upon] at h |- <;> first | exact h | exact absurd h (tE _ _ _ _ _ (by simp))
def ic(ops:Array Oper)(idx:List Nat)(a a':Act):Prop:=∀ t,(∀ i∈idx,∀ o,ops[i]? = some o->o.dst≠some t)->a'.tmps[t]? = a.tmps[t]?
theorem sB{a a':Act}{d:Option Tmp}(h:Co a a' d){t:Tmp}(ht:d≠some t):a'.tmps[t]? = a.tmps[t]? := by
 obtain⟨u,ds,rfl⟩:=h;cases d with
 |none=>rfl
 |some d =>
  have:d≠t:=fun e=>ht (by rw[e]);simp[Act.put,Array.getElem?_setIfInBounds_ne this]
theorem reach{ex:List Nat}{Q:Exit->Act->World->Prop}:∀(idx:List Nat)(a:Act)(w:World),wpOps P ops (kK ops ex Q) idx a w->∃ a',chk ops ex a'=true/\ic ops idx a a'
 |[],a,w,h=>⟨a,(show kK ops ex Q .normal a w from h).2.1,fun _ _=>rfl⟩
 |i::r,a,w,h=>by
  unfold wpOps at h;cases ho:ops[i]? with
  |none =>
   simp only[ho] at h;obtain⟨a',h1,h2⟩:=reach r a w h;exact⟨a',h1,fun t ht=>h2 t fun j hj=>ht j (by simp[hj])⟩
  |some o =>
   simp only[ho] at h;have hn:∃ a1 w1,Co a a1 o.dst/\wpOps P ops (kK ops ex Q) r a1 w1:=by
    split at h
    ·rcases h with h | ⟨_,h⟩
     ·exact Aw (tE _ _) h
     ·exact absurd h (Ph _ _)
    ·exact⟨_,_,Jh _ _ _,h⟩
   obtain⟨a1,w1,hs,h1⟩:=hn;obtain⟨a',h2,h3⟩:=reach r a1 w1 h1;exact⟨a',h2,fun t ht=>(h3 t fun j hj=>ht j (by simp[hj])).trans (sB hs (ht i (by simp) o ho))⟩
theorem uU{a a':Act}{x:Operand}(h:∀ t,x=.tmp t->a'.tmps[t]? = a.tmps[t]?):a'.eval x=a.eval x:=by
 cases x with
 |tmp t=>simp[Act.eval,h t rfl]
 |_=>rfl
theorem mU{ρ ρ':Operand->Value}{o:Oper}(h:∀ x∈o.op.operands,ρ' x=ρ x):Hw ρ' o=Hw ρ o:=by
 obtain⟨dst,op,type,pos,after,guard⟩:=o;cases op <;> simp only[Hw]
 case binOp op t x y yt=>rw[h x (by simp[Op.operands]),h y (by simp[Op.operands])]
 case unOp op t x=>rw[h x (by simp[Op.operands])]
 case nilCheck x=>rw[h x (by simp[Op.operands])]
 case convert s d x=>rw[h x (by simp[Op.operands])]
 case call c =>
  obtain⟨callee,⟨l⟩,ts⟩:=c
  match l with
  |[]=>rfl
  |[x]=>simp only;rw[h x (by simp[Op.operands,Call.operands])]
  |x::y::r=>rfl
theorem qkW{ex:List Nat}{Q:Exit->Act->World->Prop}:∀(n k:Nat)(a:Act)(w:World),k+n=ops.size->wpOps P ops (kK ops ex Q) (List.range' k n) a w ->
  qE P ops (qgF P ops ex) (fun a w=>Q .normal a w) (List.range' k n) a w
 |0,k,a,w,_,h=>(show kK ops ex Q .normal a w from h).2.2
 |n+1,k,a,w,hk,h=>by
  rw[List.range'_succ] at h |-;obtain⟨a',eu,qlY⟩:=reach _ a w h;have Ji:k<ops.size:=by omega
  have ho:=Array.getElem?_eq_getElem Ji;generalize ops[k]=o at ho;have ih:∀ a w,wpOps P ops (kK ops ex Q) (List.range' (k+1) n) a w->qE P ops (qgF P ops ex) (fun a w=>Q .normal a w) (List.range' (k+1) n) a w:=fun a w=>qkW n (k+1) a w (by omega);unfold wpOps at h;simp only[ho] at h;unfold qE;simp only[ho];by_cases hw:Region.wanted o (yielded ops a.tmps)=true
  ·rw[if_pos hw] at h;have h1:o.wp P a w (wpOps P ops (kK ops ex Q) (List.range' (k+1) n)) (kK ops ex Q):=h.resolve_right fun h=>Ph _ _ h.2;have h2:=Oper.wp_mono ih (qbR h1);have dU:∀(hp:∀ n w',(execOp a.eval o).run P w=.ok n w'->w'=w/\∃ v,n=.value v),∃ v,(execOp a.eval o).run P w=.ok (.value v) w/\qE P ops (qgF P ops ex) (fun a w=>Q .normal a w) (List.range' (k+1) n) (a.put o.dst v) w:=by
    intro hp;unfold Oper.wp at h2;cases hr:(execOp a.eval o).run P w with
    |ok n1 w1 =>
     obtain⟨rfl,v,rfl⟩:=hp n1 w1 hr;rw[hr] at h2;exact⟨v,rfl,h2⟩
    |halt x w1 =>
     rw[hr] at h2;cases x <;> exact absurd h2 id
   unfold pD;split
   ·rename_i hc;have zfZ:qgU P (execOp a.eval o):=by
     unfold qgF at hc;simp only[ho] at hc;split at hc
     ·cases hc
     rename_i hex;split at hc
     ·cases hc
     rename_i hst;refine uZ hc ?_;by_cases So:Es o=true
     ·have qlN:Ed ops k o=true:=by
       rw[So] at hst;simpa using hst
      have Ku:∀ t∈o.looksAt ops,a'.tmps[t]? = a.tmps[t]? := by
       intro t ht;refine qlY t fun j hj oj wP=>?_;have h5:=Xp.1 qlN t ht;have yp:k<=j/\j<ops.size:=by
        rcases List.mem_cons.1 hj with rfl | hj
        ·exact⟨Ya _,Ji⟩
        ·have:=List.mem_range'_1.1 hj;omega
       have h6:=Xp.1 h5 j (Xz.2 yp.2);simp only[wP,Yt,Yj,Yu] at h6;rcases h6 with h6 | h6
       ·omega
       ·exact h6
      have Uy:=Xp.1 eu k (Xz.2 Ji);simp only[ho,Yt,So,Bool.not_true,Bool.false_eq_true,false_or] at Uy;have ec:∀ x∈o.op.operands,a'.eval x=a.eval x:=fun x hx=>uU fun t hxt=>Ku t (List.mem_append_left _ (List.mem_filterMap.2 ⟨x,by simpa using hx,by rw[hxt]⟩));have jM:Region.wanted o (yielded ops a'.tmps)=Region.wanted o (yielded ops a.tmps):=by
       unfold Region.wanted;cases hg:o.guard with
       |none=>rfl
       |some gw =>
        obtain⟨g,want⟩:=gw;have hy:yielded ops a'.tmps g=yielded ops a.tmps g:=by
         unfold yielded;cases hb:(ops[g]?).bind (·.dst) with
         |none=>rfl
         |some t =>
          have:=Ku t (List.mem_append_right _ (by simp[hg,hb]));simp[this]
        simp only[hy]
      rcases Uy with Uy | Uy | Uy
      ·exact absurd Uy hex
      ·rw[jM,hw] at Uy;cases Uy
      ·rw[mU ec] at Uy;exact Uy
     ·unfold Es at So;unfold Hw;split at So <;> first | (exact absurd rfl So) | rfl | (split <;> first | rfl | (simp_all;done))
    obtain⟨v,hv,oP⟩:=dU fun n w' hr=>let ⟨e,v,hn,_⟩:=zfZ w n w' hr;⟨e,v,hn⟩;obtain⟨_,v',hn,Uc⟩:=zfZ _ _ _ hv;injection hn with hn;subst hn;exact⟨v,.inl ⟨hw,Uc⟩,oP⟩
   ·rename_i hc;have ji:∃ t x,o.op=.load t x:=by
     unfold qgF at hc;simp only[ho] at hc;split at hc
     ·cases hc
     split at hc
     ·cases hc
     unfold jY at hc
     repeat' (split at hc)
     all_goals first | (cases hc;done) | exact⟨_,_,by assumption⟩
    obtain⟨t,x,qK⟩:=ji;have hr:zaF P (execOp a.eval o):=by
     obtain⟨dst,op,type,pos,after,guard⟩:=o;simp only at qK;subst qK;exact s_ (sP _ _)
    obtain⟨v,hv,oP⟩:=dU fun n w' h=>hr w n w' h;exact⟨v,.inl ⟨hw,hv⟩,oP⟩
   ·rw[if_pos hw];exact h2
  ·rw[if_neg hw] at h;have h2:=ih _ _ h;have hwf:Region.wanted o (yielded ops a.tmps)=false:=by simpa using hw
   unfold pD;split
   ·exact⟨undef,.inr ⟨hwf,rfl⟩,h2⟩
   ·exact⟨undef,.inr ⟨hwf,rfl⟩,h2⟩
   ·rw[if_neg hw];exact h2
def k_(P:Program)(ops:Array Oper)(ex:List Nat):Bool:=Region.noSelect ops&&bW ops&&uq ops (qgF P ops ex)
theorem qY{id:Nat}{Q:Exit->Act->World->Prop}{a:Act}{w:World}{l:List Oper}(ex:List Nat)(hm:P.follows .mixedOrders=true)(hB:k_ P l.toArray ex=true)
  (h:wpList P l.toArray (kK l.toArray ex Q) l a w.drew):(Code.region id l.toArray true).wp P Q a w:=by
 simp only[k_,Yl] at hB;refine wp_region_any hm ?_;have h1:wpOps P l.toArray (kK l.toArray ex Q) (List.range' 0 l.length) a w.drew:=by
  rw[wpOps_eq_wpList l 0 (by simp)];exact h
 have h2:=qkW l.length 0 a w.drew (by simp) h1;have h3:=qoH hB.1.1 hB.1.2 hB.2 (List.range' 0 l.length) (Array.replicate l.toArray.size false) a w.drew (by simp) (List.pairwise_lt_range') (fun j=>by
  rw[List.mem_range'_1]
  constructor
  ·intro hj
   have Mn:j<l.length:=by simpa using hj.2
   exact⟨by simpa using Mn,by simp[Mn]⟩
  ·intro hj;have:=hj.1;simp at this;exact⟨by omega,by omega⟩) (fun j o ho hj=>by
   exfalso
   have:j<l.toArray.size:=(gl ho)
   simp at this
   simp[this] at hj) h2
 simpa using h3
theorem wp_text{id:Nat}{Q:Exit->Act->World->Prop}{a:Act}{w:World}{l:List Oper}(ex:List Nat)(hm:P.follows .mixedOrders=true)(hB:k_ P l.toArray ex=true)
  (h:∀ Q':Exit->Act->World->Prop,(∀ a w,chk l.toArray ex a=true/\Q .normal a w->Q' .normal a w)->wpList P l.toArray Q' l a w.drew):(Code.region id l.toArray true).wp P Q a w :=
 qY ex hm hB (h _ fun _ _ hh=>uw hh.1 hh.2)
theorem wt{id:Nat}{Q:Exit->Act->World->Prop}{a:Act}{w:World}{l:List Oper}(hm:(P.follows .mixedOrders&&k_ P l.toArray [])=true)
    (h:∀ Q':Exit->Act->World->Prop,(∀ a w,chk l.toArray [] a=true/\Q .normal a w->Q' .normal a w)->wpList P l.toArray Q' l a w.drew):(Code.region id l.toArray true).wp P Q a w:=wp_text [] (Bool.and_eq_true_iff.1 hm).1 (Bool.and_eq_true_iff.1 hm).2 h
end Go.Proofs.YtmaojnmnbpomeaaGreatDoor.Text
