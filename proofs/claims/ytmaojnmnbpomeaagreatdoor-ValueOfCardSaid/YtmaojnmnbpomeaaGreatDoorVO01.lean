/- A part. -/
import Derived.Test.YtmaojnmnbpomeaaGreatDoorVO00
import Derived.WalkSpells
import Derived.WalkLawsBesides
import Derived.Handy
import Derived.Lib.Hide
set_option maxRecDepth 100000
set_option maxHeartbeats 64000000
namespace Go.Proofs.YtmaojnmnbpomeaaGreatDoor
open Go.RowKit
theorem Kd{a a':Value}(h:a=a'):Ending.returned a=.returned a':=by rw[h]
theorem Fs{k:IntKind}{a b:Int}(h:a=b):Value.int k a=.int k b:=by rw[h]
theorem Zm{a b:Bool}(h:a=b):Value.bool a=.bool b:=by rw[h]
theorem qzM{a b:ByteArray}(h:a=b):Value.string a=.string b:=by rw[h]
def Rd(w:World)(B:Nat)(A:Option Addr)(xs:List Value):Prop :=
 xs≠[]->∃ b off,A=some ⟨b,off,none⟩/\b<B/\∀ j u,xs[j]? = some u->w.cell? ⟨b,off+j,none⟩=some u
theorem p_{w:World}{a:Addr}{v:Value}(h:w.cell? a=some v):a=⟨a.block,a.off,none⟩:=by
 obtain⟨b,o,s⟩:=a;cases s with
 |none=>rfl
 |some s =>
  exfalso;simp only[World.cell?] at h;split at h
  ·simp at h
  ·cases h
section
variable {w w':World} {B B':Nat} {A:Option Addr} {xs:List Value}
theorem Rd.nil_:Rd w B A []:=fun h=>absurd rfl h
theorem Rd.at_(h:Rd w B A xs){k:Nat}(hk:k<xs.length):∃ b off,A=some ⟨b,off,none⟩/\b<B/\w.cell? ⟨b,off+k,none⟩=some xs[k]:=by
 obtain⟨b,off,e,hb,hc⟩:=h (by intro e;subst e;simp at hk);exact⟨b,off,e,hb,hc k _ (Qa hk)⟩
theorem Rd.keep(h:Rd w B A xs)(hk:∀ p:Addr,p.block<B->w'.cell? p=w.cell? p):Rd w' B A xs:=fun hn=>by
 obtain⟨b,off,e,hb,hc⟩:=h hn;exact⟨b,off,e,hb,fun j u hu=>(hk _ hb).trans (hc j u hu)⟩
theorem Rd.more(h:Rd w B A xs)(hB:B<=B'):Rd w B' A xs:=fun hn=>by
 obtain⟨b,off,e,hb,hc⟩:=h hn;exact⟨b,off,e,by omega,hc⟩
theorem Rd.below(h:Rd w B A xs)(hb:Below B w w'):Rd w' B A xs:=h.keep fun _ hp=>hb.cell hp
theorem Rd.drop_(h:Rd w B A xs)(k:Nat){cap:Nat}(hc:k<xs.length->k≠cap) :
  Rd w B (if cap=k then A else A.map (·.add k)) (xs.drop k):=fun hn=>by
 have hl:k<xs.length:=by
  rcases Nat.lt_or_ge k xs.length with h' | h'
  ·exact h'
  ·exact absurd (List.drop_eq_nil_of_le h') hn
 obtain⟨b,off,rfl,hb,Zj⟩:=h (by intro e;subst e;simp at hl);have:=hc hl;rw[if_neg (by omega)];refine⟨b,off+k,by simp[Addr.add_lit],hb,fun j u hu=>?_⟩;rw[Yv];exact Zj _ u (by rw[<-hu,List.getElem?_drop])
theorem Rd.take_(h:Rd w B A xs)(k:Nat):Rd w B A (xs.take k):=fun hn=>by
 obtain⟨b,off,e,hb,Zj⟩:=h (by intro e;subst e;simp at hn);refine⟨b,off,e,hb,fun j u hu=>Zj j u ?_⟩;rw[List.getElem?_take] at hu;split at hu
 ·exact hu
 ·cases hu
theorem Rd.of_own{base:Nat}{e:TypeId}{size n c:Nat}(h:w.ownsRow base e size (.slice A n c) n xs):Rd w w.heap.size A xs:=fun hn=>by
 rcases h.2 with ⟨hv,h0⟩ | ⟨g,cap,cur,hv,_,hg,_⟩
 ·have h1:=h.1;rw[h0] at h1;exact absurd (Xv (by omega)) hn
 ·have hA:A=some ⟨g,0,none⟩:=by injection hv
  subst hA;refine⟨g,0,rfl,(gl hg),fun j u hu=>?_⟩;have:=h.cells (g:=g) rfl j u hu
  rwa [Addr.add_lit] at this
end
theorem Zk{w:World}{base:Nat}{e:TypeId}{size:Nat}{v:Value}{n:Nat}{xs:List Value}(h:w.ownsRow base e size v n xs) :
  ∃ A c,v=.slice A n c/\n<=c/\c<=maxLen:=by
 rcases h.2 with ⟨rfl,rfl⟩ | ⟨g,cap,cur,rfl,_,_,h1,h2,_⟩
 ·exact⟨none,0,rfl,by omega,by simp[maxLen]⟩
 ·exact⟨_,cap,rfl,h1,h2⟩
theorem Nc{w:World}{base qyM:Nat}{e:TypeId}{size:Nat}{v:Value}{n:Nat}{xs:List Value}(h:w.ownsRow base e size v n xs)(hb:qyM<=base) :
  w.ownsRow qyM e size v n xs:=by
 refine⟨h.1,?_⟩;rcases h.2 with h' | ⟨g,cap,cur,rfl,hg,r⟩
 ·exact .inl h'
 ·exact .inr ⟨g,cap,cur,rfl,by omega,r⟩
theorem Jk{w w':World}{base:Nat}{e:TypeId}{size:Nat}{v:Value}{n:Nat}{xs:List Value}(h:w.ownsRow base e size v n xs)(hb:Below w.heap.size w w') :
  w'.ownsRow base e size v n xs:=by
 refine⟨h.1,?_⟩;rcases h.2 with h' | ⟨g,cap,cur,rfl,hg,hh,r⟩
 ·exact .inl h'
 ·exact .inr ⟨g,cap,cur,rfl,hg,(hb.block g (gl hh)).trans hh,r⟩
theorem km{a b:World}(h:a.heap=b.heap)(h2:a.tape=b.tape)(h3:a.drawn=b.drawn)(h4:a.os=b.os)(h5:a.output=b.output):a=b:=by
 cases a;cases b;simp only at *;subst h h2 h3 h4 h5;rfl
theorem dz(w:World)(cur cs:Array Value)(e:TypeId):(w.alloc (.cells cur e)).setRow w.heap.size cs=w.alloc (.cells cs e):=by
 refine km ?_ rfl rfl rfl rfl;apply Array.ext_getElem?;intro i;by_cases hi:i=w.heap.size
 ·subst hi;rw[Zf _ _ cur cs e (0,0) (Xn w _),Xn w _]
 ·rw[setRow_other _ _ _ _ hi];show (w.heap.push _)[i]? = (w.heap.push _)[i]?;rw[Array.getElem?_push,Array.getElem?_push,if_neg hi,if_neg hi]
theorem Rd.row{w:World}{B g:Nat}{e:TypeId}{fr:Nat×Nat}{cs:Array Value}(h:w.heap[g]? = some (.cells cs e fr))(hB:g<B):Rd w B (some ⟨g,0,none⟩) cs.toList:=fun _ =>
 ⟨g,0,rfl,hB,fun j u hu=>by
  rw[Yp,Za w g j cs e fr h,<-Array.getElem?_toList]
  exact hu⟩
theorem Fo(w:World)(o o':Obj):((w.alloc o).alloc o').heap[w.heap.size+1]? = some o':=by
 have:=Xn (w.alloc o) o'
 rwa [Xs] at this
structure Ev(P:Program)(t e:TypeId)(size bytes:Nat)(z:Value):Prop where
 und:P.underlying t=some (.slice e)
 info:∃ i,P.info? e=some i/\i.zero=some z/\i.size=size/\i.bytes=bytes
 cells:z.cells.size=size
 pos:0<size
theorem Sv{P:Program}{t e:TypeId}{size bytes:Nat}{z:Value}(h1:P.underlying t=some (.slice e))(h2:(P.info? e).map (fun i=>(i.zero,i.size,i.bytes))=some (some z,size,bytes))
  (h3:z.cells.size=size) (h4:0<size):Ev P t e size bytes z:=⟨h1,info_parts h2,h3,h4⟩
section
variable {P:Program} {w:World}
theorem qtD{t ty e:TypeId}{size bytes:Nat}{z:Value}(T:Ev P t e size bytes z){base:Nat}{v:Value}{n:Nat}{xs:List Value}(hown:w.ownsRow base e size v n xs)
  {B:Nat} {A:Option Addr} {m c:Nat} {news:List Value} (hr:Rd w B A news) (hl:news.length=m*size) (h1:∀ u∈news,u.oneCell'=true)
  (h63:n+m<=maxLen) (Iu:(n+m)*bytes<=140737488355328) (hbase:base<=w.heap.size) :
  ∃ v' w',(Builtin.append_ #[t,t] ty #[v,.slice A m c]).run P w=.ok v' w'/\w'.ownsRow base e size v' (n+m) (xs++news)/\w.grownBy w' v.ownBlock /\
   (v'.ownBlock=v.ownBlock\/v'.ownBlock=some w.heap.size)/\(v'=.slice none 0 0↔v=.slice none 0 0/\m=0):=by
 obtain⟨i,hi,hz,hs,hby⟩:=T.info;by_cases hm:m=0
 ·subst hm;have hn:news=[]:=Xv (by simpa using hl);subst hn;rcases A with _ | ad
  ·refine⟨v,w,?_,by simpa using hown,⟨rfl,rfl,rfl,Xz _,fun _ _ _=>rfl⟩,.inl rfl,by simp⟩;rcases hown.2 with ⟨rfl,rfl⟩ | ⟨g,cap,cur,rfl,_,_,hnc,_⟩
   ·simp[Builtin.append_,run_underlying T.und,sizeOf,typeInfo,hi,Builtin.lenOf,Builtin.firstCells]
   ·simp[Builtin.append_,run_underlying T.und,sizeOf,typeInfo,hi,Builtin.lenOf,Builtin.firstCells,hnc,storeCells]
  ·obtain⟨v',w',g1,g2,g3,g4,g5⟩:=run_append_own_at (P:=P) w base t ty e i z size bytes T.und hi hz hs hby T.cells T.pos v n xs hown ad 0 c [] (by simp) (by simp) (by simp) h63 Iu hbase;exact⟨v',w',g1,g2,g3,g5,g4⟩
 ·have hne:news≠[]:=by
   intro e;subst e;simp only[List.length_nil] at hl;have:=Nat.mul_pos (Nat.pos_of_ne_zero hm) T.pos;omega
  obtain⟨b,off,rfl,_,hc⟩:=hr hne;obtain⟨v',w',g1,g2,g3,g4,g5⟩:=run_append_own_at (P:=P) w base t ty e i z size bytes T.und hi hz hs hby T.cells T.pos v n xs hown ⟨b,off,none⟩ m c news hl (fun j u hu=>by rw[Addr.add_lit];exact hc j u hu) h1 h63 Iu hbase;exact⟨v',w',g1,g2,g3,g5,g4⟩
theorem qjU{o:Oper}{a:Act}{K:Act->World->Prop}{Q:Exit->Act->World->Prop}{s x:Operand}{t e:TypeId}{size bytes:Nat}{z:Value}(T:Ev P t e size bytes z)
  (ho:o.op=.call { callee:=.builtin .append,args:=#[s,x],argTypes:=#[t,t] })
  {v:Value} {A:Option Addr} {m c:Nat} (hs:a.eval s=v) (hx:a.eval x=.slice A m c)
  {base:Nat} {n:Nat} {xs:List Value} (hown:w.ownsRow base e size v n xs)
  {B:Nat} {news:List Value} (hr:Rd w B A news) (hl:news.length=m*size) (h1:∀ u∈news,u.oneCell'=true)
  (h63:n+m<=maxLen) (Iu:(n+m)*bytes<=140737488355328) (hbase:base<=w.heap.size)
  (h:∀ v' w',w'.ownsRow base e size v' (n+m) (xs++news)->w.grownBy w' v.ownBlock->(v'.ownBlock=v.ownBlock\/v'.ownBlock=some w.heap.size)->(v'=.slice none 0 0↔v=.slice none 0 0/\m=0)->K (a.put o.dst v') w'):o.wp P a w K Q:=by
 obtain⟨v',w',dP,h2,h3,h4,h5⟩:=qtD (ty:=o.type) T hown (c:=c) hr hl h1 h63 Iu hbase;unfold Oper.wp execOp;simp only[ho,resolve,invoke,builtin,Zd,Sem.run_pure,Result.andThen_ok,List.map_toArray,List.map_cons,List.map_nil,hs,hx,dP];exact h v' w' h2 h3 h4 h5
theorem Ja{ops:Array Oper}{rest:List Oper}{o:Oper}{a:Act}{Q:Exit->Act->World->Prop}{s x:Operand}{t e:TypeId}{size bytes:Nat}{z:Value}(T:Ev P t e size bytes z)
  (hgd:o.guard=none) (ho:o.op=.call { callee:=.builtin .append,args:=#[s,x],argTypes:=#[t,t] })
  {v:Value} {A:Option Addr} {m c:Nat} (hs:a.eval s=v) (hx:a.eval x=.slice A m c)
  {base:Nat} {n:Nat} {xs:List Value} (hown:w.ownsRow base e size v n xs)
  {B:Nat} {news:List Value} (hr:Rd w B A news) (hl:news.length=m*size) (h1:∀ u∈news,u.oneCell'=true)
  (h63:n+m<=maxLen) (Iu:(n+m)*bytes<=140737488355328) (hbase:base<=w.heap.size)
  (h:∀ v' w',w'.ownsRow base e size v' (n+m) (xs++news)->w.grownBy w' v.ownBlock->(v'.ownBlock=v.ownBlock\/v'.ownBlock=some w.heap.size)->(v'=.slice none 0 0↔v=.slice none 0 0/\m=0)->wpList P ops Q rest (a.put o.dst v') w') :
  wpList P ops Q (o::rest) a w :=
 wpList_plain hgd fun _ hK=>qjU T ho hs hx hown hr hl h1 h63 Iu hbase fun v' w' h2 h3 h4 h5=>hK _ _ (h v' w' h2 h3 h4 h5)
end
theorem Zr{w0 w w':World}{B base:Nat}{e:TypeId}{size n:Nat}{v:Value}{xs:List Value}(hb:Below B w0 w)(hg:w.grownBy w' v.ownBlock)(hown:w.ownsRow base e size v n xs)(h1:B<=base)(h2:B<=w.heap.size):Below B w0 w' :=
 hb.grown hg h2 fun k hk=>by have:=(hown.lt k hk).1;omega
theorem Jd{w w':World}{base:Nat}{e e':TypeId}{size n:Nat}{v:Value}{xs:List Value}{g:Nat}{cs:Array Value}{fr:Nat×Nat}(hown:w.ownsRow base e size v n xs)(hg:w.grownBy w' v.ownBlock)
  (h:w.heap[g]? = some (.cells cs e' fr)) (hne:e'≠e):w'.heap[g]? = some (.cells cs e' fr):=by
 refine (hg.block g (gl h) fun he=>?_).trans h;rcases hown.2 with ⟨rfl,_⟩ | ⟨g',cap,cur,rfl,_,hh,_⟩
 ·simp[Value.ownBlock] at he
 ·have:g=g':=by simpa[Value.ownBlock] using he
  subst this;rw[h] at hh;injection hh with hh;injection hh with _ h2;exact hne h2
def sq(b:UInt8):Value:=.int .u8 (b.toNat:Int)
def Re(l:List UInt8):List Value:=l.map sq
theorem eY(l:List UInt8):(Re l).length=l.length:=by simp[Re]
theorem l_(l:List UInt8)(k:Nat)(h:k<(Re l).length):(Re l)[k]=.int .u8 ((l[k]'(by simpa[Re] using h)).toNat:Int):=by simp[Re,sq]
theorem Rd.byte{w:World}{B:Nat}{A:Option Addr}{l:List UInt8}(h:Rd w B A (Re l)){k:Nat}(hk:k<l.length) :
  ∃ b off,A=some ⟨b,off,none⟩/\b<B/\w.cell? ⟨b,off+k,none⟩=some (.int .u8 (l[k].toNat:Int)):=by
 obtain⟨b,off,e,hb,hc⟩:=h.at_ (k:=k) (by rw[eY];exact hk);exact⟨b,off,e,hb,by rw[hc,l_]⟩
def Sl(s:ByteArray)(k:Nat):Int:=if h:k<s.size then ((s[k]'h).toNat:Int) else 0
theorem dH(s:ByteArray):∀(n:Nat)(h:n<s.size),((s[n]'h).toNat:Int)=Sl s n:=fun n h=>by unfold Sl;rw[dif_pos h]
theorem Lw(s:ByteArray)(k:Nat)(h:k<s.data.toList.length):Sl s k=(s.data.toList[k].toNat:Int):=by
 have h':k<s.size:=by simpa using h
 unfold Sl;rw[dif_pos h'];simp[ByteArray.getElem_eq_getElem_data]
theorem O_{P:Program}{w:World}{B:Nat}{A:Option Addr}{l:List UInt8}(h:Rd w B A (Re l)){src dst e:TypeId}(hs:P.underlying src=some (.slice e))(he:P.underlying e=some (.int .u8))(hd:P.underlying dst=some .string)
  (n:Nat) (hn:n=l.length) (c:Nat):(convert src dst (.slice A n c)).run P w=.ok (.string ⟨l.toArray⟩) w:=by
 subst hn;cases A with
 |some ad => 
  refine run_convert_bytes_back w src dst e ad c l hs he hd fun j hj=>?_;obtain⟨b,off,e',_,hc⟩:=h.byte hj;injection e' with e';subst e';rw[Addr.add_lit];exact hc
 |none =>
  have hl:l=[]:=by
   cases l with
   |nil=>rfl
   |cons b r=>obtain⟨_,_,e',_⟩:=h.byte (k:=0) (by simp);cases e'
  subst hl;exact run_convert_bytes_nil w src e hs he _ c dst hd
open Go.ChangeShapes Go.WideShapes Go.ChangeAt Go.RowKit
section
variable {H:Type} {enc:TypeId×Value->H} {P:Program}
theorem dV(hl:laidOutB P=true){W W':World}(hb:Below W.heap.size W W'):∀(ts:List TypeId)(vs:List Value)(ds:List (DataW H))(ps:List MemPlace),
  ts.all (fun t=>P.readableRec t&&decide (t<P.types.size))=true->DataW.TrodAll enc P W 0 (fun _=>true) true ts vs ds ps->(∀ x∈ps,x.block<W.heap.size) ->
  DataW.TrodAll enc P W' 0 (fun b=>decide (b<W.heap.size)) true ts vs ds ps
 |[],vs,ds,ps,_,h,_=>by
  obtain⟨rfl,rfl,rfl⟩:=trodAll_nil h;exact trodAll_mk0
 |t::ts,vs,ds,ps,hp,h,Jo=>by
  obtain⟨v,vs',d,ds',p,q,rfl,rfl,rfl,hd,hr⟩:=trodAll_cons h;rw[List.all_cons,Yk,Yk,Yi] at hp;exact trodAll_cons_mk (Below.trod hl hp.1.1 hp.1.2 hd hb fun x hx=>Jo x (List.mem_append_left _ hx)) (dV hl hb ts vs' ds' q hp.2 hr fun x hx=>Jo x (List.mem_append_right _ hx))
theorem qmJ{f:Func}{s:ChangeSpec}{W W':World}{args:Array Value}{ds gs:List (DataW H)}{before:List MemPlace}{tb:TypeId}(hl:laidOutB P=true)
  (hp:f.params.toList.all (fun t=>P.readableRec t&&decide (t<P.types.size))=true) (qxM:s.vars=[]) (po:f.resultTypes=#[tb]) (htb:P.underlying tb=some .bool)
  (hfn:s.fn H (ds++gs)={ results:=[.lit (.bool true)],args:=ds }) (hW:DataW.Whole enc P f.params.toList s.vars false W args.toList ds gs before) (hb:Below W.heap.size W W') :
  s.post enc P f false true false false W args (.bool true) W':=by
 have Jo:=hW.lt;have hW':=hW;obtain⟨p,q,hA,hV,rfl,hfz,Id⟩:=hW';rw[qxM] at hV;obtain⟨rfl,rfl⟩:=trodVars_none hV;refine⟨ds,[],p++[],[],p,[],hW,?_,?_,?_,?_,fun h=>by cases h⟩
 ·rw[hfn,po];exact trodAll_mk1 (shut_bool htb true)
 ·rw[hfn];exact dV hl hb _ _ _ _ hp hA fun x hx=>Jo x (List.mem_append_left _ hx)
 ·rw[hfn,qxM];rfl
 ·exact hb.frame _
end
structure Lf(α:Type) where
 size:Nat
 rep:World->Nat->List Value->α->Prop
 len:∀{w B cs x},rep w B cs x->cs.length=size
 keep:∀{w w' B cs x},rep w B cs x->(∀ p:Addr,p.block<B->w'.cell? p=w.cell? p)->rep w' B cs x
 more:∀{w B B' cs x},rep w B cs x->B<=B'->rep w B' cs x
 one:∀{w B cs x},rep w B cs x->∀ u∈cs,u.oneCell'=true
def Vh:Lf Int where
 size:=1
 rep:=fun _ _ cs x=>cs=[.int .i64 x]/\-9223372036854775808<=x/\x<=9223372036854775807
 len:=fun h=>by rw[h.1];rfl
 keep:=fun h _=>h
 more:=fun h _=>h
 one:=fun h=>by rw[h.1];simp[Value.oneCell']
def Mc:Lf ByteArray where
 size:=1
 rep:=fun _ _ cs x=>cs=[.string x]/\x.size<=maxLen
 len:=fun h=>by rw[h.1];rfl
 keep:=fun h _=>h
 more:=fun h _=>h
 one:=fun h=>by rw[h.1];simp[Value.oneCell']
def rh:Lf Bool where
 size:=1
 rep:=fun _ _ cs x=>cs=[.bool x]
 len:=fun h=>by rw[h];rfl
 keep:=fun h _=>h
 more:=fun h _=>h
 one:=fun h=>by rw[h];simp[Value.oneCell']
def Jb{α:Type}(E:Lf α)(w:World)(B:Nat)(v:Value)(xs:List α):Prop :=
 ∃(A:Option Addr)(c:Nat)(css:List (List Value)),v=.slice A xs.length c/\xs.length<=c/\c<=maxLen/\css.length=xs.length/\Rd w B A css.flatten /\
  ∀(i:Nat)(cs:List Value)(x:α),css[i]? = some cs->xs[i]? = some x->E.rep w B cs x
section
variable {α:Type} {E:Lf α} {w w':World} {B B':Nat} {v:Value} {xs:List α}
theorem Jb.keep(h:Jb E w B v xs)(hk:∀ p:Addr,p.block<B->w'.cell? p=w.cell? p):Jb E w' B v xs:=by
 obtain⟨A,c,css,e,h1,h2,h3,h4,h5⟩:=h;exact⟨A,c,css,e,h1,h2,h3,h4.keep hk,fun i cs x hc hx=>E.keep (h5 i cs x hc hx) hk⟩
theorem Jb.below(h:Jb E w B v xs)(hb:Below B w w'):Jb E w' B v xs:=h.keep fun _ hp=>hb.cell hp
theorem Jb.more(h:Jb E w B v xs)(hB:B<=B'):Jb E w B' v xs:=by
 obtain⟨A,c,css,e,h1,h2,h3,h4,h5⟩:=h;exact⟨A,c,css,e,h1,h2,h3,h4.more hB,fun i cs x hc hx=>E.more (h5 i cs x hc hx) hB⟩
theorem Jb.next(h:Jb E w B v xs)(hb:Below B w w')(hB:B<=B'):Jb E w' B' v xs:=(h.below hb).more hB
theorem Jb.fut{N:Nat}(h:Jb E w B v xs)(hb:Below N w w')(h1:B<=N)(h2:B<=B'):Jb E w' B' v xs:=(h.below (hb.mono h1)).more h2
theorem Jb.nil_:Jb E w B (.slice none 0 0) []:=⟨none,0,[],rfl,Xz _,by simp[maxLen],rfl,Rd.nil_,fun i cs x hc=>by simp at hc⟩
theorem Jb.form(h:Jb E w B v xs):∃ A c,v=.slice A xs.length c/\xs.length<=c/\c<=maxLen:=by
 obtain⟨A,c,css,e,h1,h2,_⟩:=h;exact⟨A,c,e,h1,h2⟩
end
theorem Lr{α:Type}(n:Nat):∀(css:List (List α)),(∀ cs∈css,cs.length=n)->∀(i j:Nat)(cs:List α)(u:α),css[i]? = some cs->cs[j]? = some u->css.flatten[i*n+j]? = some u
 |[],_,i,j,cs,u,h,_=>by simp at h
 |c::css,hl,0,j,cs,u,h,hu=>by
  simp only[List.getElem?_cons_zero,Option.some.injEq] at h;subst h;rw[Nat.zero_mul,Yp,List.flatten_cons,Qo (Qj.1 hu).1];exact hu
 |c::css,hl,i+1,j,cs,u,h,hu=>by
  have hc:=hl c (by simp);rw[List.flatten_cons,Qn (by rw[hc,Nat.add_mul];omega),hc,show (i+1)*n+j - n=i*n+j by rw[Nat.add_mul];omega];exact Lr n css (fun cs yA=>hl cs (by simp[yA])) i j cs u (by simpa using h) hu
section
variable {α:Type} {E:Lf α} {w w':World} {B B':Nat} {v:Value} {xs:List α}
theorem Jb.lens{css:List (List Value)}(h3:css.length=xs.length)(h5:∀(i:Nat)(cs:List Value)(x:α),css[i]? = some cs->xs[i]? = some x->E.rep w B cs x):∀ cs∈css,cs.length=E.size:=by
 intro cs yA;obtain⟨i,hi,rfl⟩:=Qz yA;exact E.len (h5 i _ _ (Qa hi) (Qa (by omega)))
theorem Jb.at_(h:Jb E w B v xs){k:Nat}(hk:k<xs.length)(Dh:0<E.size):∃ b off c cs,v=.slice (some ⟨b,off,none⟩) xs.length c/\xs.length<=c/\b<B/\E.rep w B cs xs[k] /\
  ∀ j u,cs[j]? = some u->w.cell? ⟨b,off+(k*E.size+j),none⟩=some u:=by
 obtain⟨A,c,css,rfl,h1,h2,h3,h4,h5⟩:=h;have hkc:k<css.length:=by omega
 have hr:=h5 k _ _ (Qa hkc) (Qa hk);have bc:=Jb.lens h3 h5;have hne:css.flatten≠[]:=by
  intro e;have hl:=bc css[k] (Qg hkc);have h0:0<css[k].length:=by omega
  have:=Lr E.size css bc k 0 css[k] css[k][0] (Qa hkc) (Qa h0);rw[e] at this;simp at this
 obtain⟨b,off,rfl,hb,hc⟩:=h4 hne;exact⟨b,off,c,css[k],rfl,h1,hb,hr,fun j u hu=>hc _ _ (Lr E.size css bc k j _ u (Qa hkc) hu)⟩
theorem Jb.get{A:Option Addr}{n c:Nat}(h:Jb E w B (.slice A n c) xs){k:Nat}(hk:k<xs.length)(Dh:0<E.size):∃ b off cs,A=some ⟨b,off,none⟩/\n<=c/\b<B/\E.rep w B cs xs[k] /\
  ∀ j u,cs[j]? = some u->w.cell? ⟨b,off+(k*E.size+j),none⟩=some u:=by
 obtain⟨b,off,c',cs,e,h1,h2,h3,h4⟩:=h.at_ hk Dh;injection e with e1 e2 e3;subst e2;exact⟨b,off,cs,e1,by omega,h2,h3,h4⟩
theorem Jb.n_eq{A:Option Addr}{n c:Nat}(h:Jb E w B (.slice A n c) xs):n=xs.length:=by
 obtain⟨_,_,e,_⟩:=h.form;injection e
theorem Jb.n_le{A:Option Addr}{n c:Nat}(h:Jb E w B (.slice A n c) xs):n<=c/\c<=9223372036854775807:=by
 obtain⟨_,_,e,h1,h2⟩:=h.form;injection e with _ e2 e3;subst e2 e3;exact⟨h1,by simpa[maxLen] using h2⟩
theorem Jb.take_{A:Option Addr}{n c:Nat}(h:Jb E w B (.slice A n c) xs)(k:Nat){n':Nat}(hn:n'=(xs.take k).length):Jb E w B (.slice A n' c) (xs.take k):=by
 obtain⟨A,c,css,e,h1,h2,h3,h4,h5⟩:=h;injection e with e1 e2 e3;subst e1 e2 e3 hn;refine⟨_,_,css.take k,rfl,by rw[Qq];omega,h2,by rw[Qq,Qq,h3],?_,fun i cs x hc hx=>?_⟩
 ·intro hne;obtain⟨b,off,e,hb,hc⟩:=h4 (by
   intro e
   apply hne
   have hz:∀ cs∈css,cs=[]:=List.flatten_eq_nil_iff.1 e
   exact List.flatten_eq_nil_iff.2 fun cs yA=>hz cs (List.mem_of_mem_take yA))
  refine⟨b,off,e,hb,fun j u hu=>hc j u ?_⟩;have hd:css.flatten=(css.take k).flatten++(css.drop k).flatten:=by rw[<-Qs,Xm]
  rw[hd,Qo (Qj.1 hu).1];exact hu
 ·rw[List.getElem?_take] at hc hx;split at hc
  ·rename_i hik;rw[if_pos hik] at hx;exact h5 i cs x hc hx
  ·cases hc
end
def Ro{α:Type}(E:Lf α):Lf (List α) where
 size:=1
 rep:=fun w B cs xs=>∃ v,cs=[v]/\Jb E w B v xs
 len:=fun⟨v,h,_⟩=>by rw[h];rfl
 keep:=fun⟨v,h,hs⟩ hk=>⟨v,h,hs.keep hk⟩
 more:=fun⟨v,h,hs⟩ hB=>⟨v,h,hs.more hB⟩
 one:=fun⟨v,h,hs⟩ u hu=>by
  rw[h,Qi] at hu;obtain⟨A,c,e,_⟩:=hs.form;subst hu;rw[e];rfl
def Ra{α β:Type}(E:Lf α)(F:Lf β):Lf (α×β) where
 size:=E.size+F.size
 rep:=fun w B cs x=>∃ c1 c2,cs=c1++c2/\E.rep w B c1 x.1/\F.rep w B c2 x.2
 len:=fun⟨c1,c2,h,h1,h2⟩=>by rw[h,Qe,E.len h1,F.len h2]
 keep:=fun⟨c1,c2,h,h1,h2⟩ hk=>⟨c1,c2,h,E.keep h1 hk,F.keep h2 hk⟩
 more:=fun⟨c1,c2,h,h1,h2⟩ hB=>⟨c1,c2,h,E.more h1 hB,F.more h2 hB⟩
 one:=fun⟨c1,c2,h,h1,h2⟩ u hu=>by
  rw[h,Qh] at hu;rcases hu with hu | hu
  ·exact E.one h1 u hu
  ·exact F.one h2 u hu
def zuK{α β:Type}(E:Lf β)(f:α->β):Lf α where
 size:=E.size
 rep:=fun w B cs x=>E.rep w B cs (f x)
 len:=fun h=>E.len h
 keep:=fun h hk=>E.keep h hk
 more:=fun h hB=>E.more h hB
 one:=fun h=>E.one h
section
variable {H:Type}
def Ru{α:Type}(enc:TypeId×Value->H)(P:Program)(E:Lf α)(t:TypeId):Prop :=
 ∀(W:World)(fuel:Nat)(cs:List Value)(x:DataW H×List MemPlace),DataW.trod enc P W 0 (fun _=>true) true fuel t cs=some x->∃ a,E.rep W W.heap.size cs a
variable {enc:TypeId×Value->H} {P:Program}
theorem zR{t:TypeId}(ht:P.underlying t=some (.int .i64)):Ru enc P Vh t:=by
 intro W fuel cs x h;obtain⟨n,rfl,_,hw⟩:=DataW.trod_int ht h;simp[Lit.wf,IntKind.min,IntKind.max,IntKind.signed,IntKind.bits] at hw;exact⟨n,rfl,by omega,by omega⟩
theorem qeN{t:TypeId}(ht:P.underlying t=some .string):Ru enc P Mc t:=by
 intro W fuel cs x h;obtain⟨s,rfl,_,hw⟩:=DataW.trod_string ht h;exact⟨s,rfl,hw⟩
theorem ru{α β:Type}(n:Nat)(Q:Nat->α->β->Prop)(h:∀ i,i<n->∃ a b,Q i a b):∃(us:List α)(bs:List β),us.length=n/\bs.length=n/\∀ i a b,us[i]? = some a->bs[i]? = some b->Q i a b:=by
 induction n with
 |zero=>exact⟨[],[],rfl,rfl,fun i a b ha=>by simp at ha⟩
 |succ n ih =>
  obtain⟨us,bs,h1,h2,h3⟩:=ih fun i hi=>h i (by omega);obtain⟨a,b,Aj⟩:=h n (by omega);refine⟨us++[a],bs++[b],by simp[h1],by simp[h2],fun i x y hx hy=>?_⟩;rcases Nat.lt_trichotomy i n with hi | hi | hi
  ·rw[Qo (by omega)] at hx hy;exact h3 i x y hx hy
  ·subst hi;rw[Qn (by omega)] at hx hy;simp only[h1,h2,Nat.sub_self,List.getElem?_cons_zero,Option.some.injEq] at hx hy;subst hx hy;exact Aj
  ·have:=(Qj.1 hx).1;simp at this;omega
theorem uG{w:World}{b off n:Nat}:∀(css:List (List Value))(o:Nat),(∀ cs∈css,cs.length=n)->(∀ i cs,css[i]? = some cs->∀ j u,cs[j]? = some u->w.cell? ⟨b,off+(o+i)*n+j,none⟩=some u) ->
  ∀ j u,css.flatten[j]? = some u->w.cell? ⟨b,off+o*n+j,none⟩=some u
 |[],o,_,_,j,u,hu=>by simp at hu
 |c::css,o,hl,hc,j,u,hu=>by
  have Hx:=hl c (by simp);rw[List.flatten_cons] at hu;rcases Nat.lt_or_ge j c.length with hj | hj
  ·rw[Qo hj] at hu;have:=hc 0 c (by simp) j u hu;simpa using this
  ·rw[Qn hj] at hu;have:=uG (off:=off) css (o+1) (fun cs yA=>hl cs (by simp[yA])) (fun i cs hi j u hu=>by
    have:=hc (i+1) cs (by simpa using hi) j u hu
    rwa [show o+(i+1)=o+1+i by omega] at this) (j - c.length) u hu
   rw[Nat.add_mul,Nat.one_mul,Hx,show off+(o*n+n)+(j - n)=off+o*n+j by omega] at this;exact this
theorem sV{α:Type}{E:Lf α}{t e:TypeId}(hE:Ru enc P E e)(ht:P.underlying t=some (.slice e))(hs:P.cellsOf e=E.size)(Dh:0<E.size):Ru enc P (Ro E) t:=by
 intro W fuel cs x h;rcases DataW.trod_slice ht h with ⟨rfl,_⟩ | ⟨a,len,cap,elems,rest,n,_,rfl,_,_,hl,hm,hlen,hel,_,_⟩
 ·exact⟨[],_,rfl,Jb.nil_⟩
 ·have hex:∀ i,i<len->∃(cs:List Value)(y:α),E.rep W W.heap.size cs y/\cs.length=E.size/\∀ j,j<E.size->W.cell? ((a.add (i*E.size)).add j)=cs[j]? := by
   intro i hi;have h1:=hel i hi;rw[Qa (by omega),hs] at h1;cases hc:W.cells? 0 (a.add (i*E.size)) E.size with
   |none=>rw[hc] at h1;simp at h1
   |some cs =>
    rw[hc] at h1;obtain⟨y,hy⟩:=hE W n cs _ h1;obtain⟨_,g2,g3⟩:=World.cells?_some hc;exact⟨cs,y,hy,g2,g3⟩
  obtain⟨css,ys,l1,l2,Vj⟩:=ru len (fun i (cs:List Value) (y:α)=>E.rep W W.heap.size cs y/\cs.length=E.size/\∀ j,j<E.size->W.cell? ((a.add (i*E.size)).add j)=cs[j]?) hex;refine⟨ys,_,rfl,some a,cap,css,by rw[l2],by rw[l2];exact hl,hm,by rw[l1,l2],fun hne=>?_,fun i cs y hc hy=>(Vj i cs y hc hy).1⟩;have zzG:0<len:=by
   rcases Nat.eq_zero_or_pos len with h0 | h0
   ·exfalso;apply hne;subst h0;rw[Xv l1];rfl
   ·exact h0
  have h0:=Vj 0 _ _ (Qa (by omega)) (Qa (by omega));have hz:=h0.2.2 0 Dh;have K_:W.cell? a=some css[0][0]:=by
   have:(a.add (0*E.size)).add 0=a:=by simp[Addr.add]
   rw[this] at hz;rw[hz,Qa]
  have hpl:=p_ K_;refine⟨a.block,a.off,by rw[<-hpl],Zi W _ K_,fun j u hu=>?_⟩;have:=uG (w:=W) (b:=a.block) (off:=a.off) (n:=E.size) css 0 (fun cs yA=>by
   obtain⟨i,hi,rfl⟩:=Qz yA
   exact (Vj i _ _ (Qa hi) (Qa (by omega))).2.1) (fun i cs hi j u hu=>by
   have Vq:i<css.length:=(Qj.1 hi).1
   have h3:=Vj i cs _ hi (Qa (by omega))
   have hj:j<cs.length:=(Qj.1 hu).1
   have h4:=h3.2.2 j (by omega)
   rw[hpl,Addr.add_lit,Addr.add_lit] at h4
   rw[Yp,h4,hu]) j u hu
  simpa using this
theorem Sn{α:Type}{E:Lf α}{fs:Array Field}{n:Nat}{W:World}{cs:List Value}{xs:List (DataW H×List MemPlace)}(hlen:xs.length=fs.size)
  (hf:∀(i:Nat)(f:Field),fs[i]? = some f->DataW.trod enc P W 0 (fun _=>true) true n f.type ((cs.drop f.offset).take (P.cellsOf f.type))=xs[i]?)
  (i:Nat) (f:Field) (hi:fs[i]? = some f) (hE:Ru enc P E f.type):∃ a,E.rep W W.heap.size ((cs.drop f.offset).take (P.cellsOf f.type)) a:=by
 have h:=hf i f hi;rw[Qa (by have:=(gl hi);omega)] at h;exact hE W n _ _ h
theorem qeM{α β:Type}{E:Lf α}{F:Lf β}{t:TypeId}{f0 f1:Field}(ht:P.underlying t=some (.struct #[f0,f1]))(h0:Ru enc P E f0.type)(h1:Ru enc P F f1.type)
  (s0:P.cellsOf f0.type=E.size) (s1:P.cellsOf f1.type=F.size) (o0:f0.offset=0) (o1:f1.offset=E.size) (st:P.cellsOf t=E.size+F.size):Ru enc P (Ra E F) t:=by
 intro W fuel cs x h;obtain⟨xs,n,_,_,hl,hlen,hf⟩:=DataW.trod_struct ht h;obtain⟨a,ha⟩:=Sn hlen hf 0 f0 rfl h0;obtain⟨b,hb⟩:=Sn hlen hf 1 f1 rfl h1;rw[o0,s0,List.drop_zero] at ha;rw[o1,s1,Qd (by rw[Xj];omega)] at hb;exact⟨(a,b),_,_,(Xm E.size cs).symm,ha,hb⟩
theorem nw{α β γ:Type}{E:Lf α}{F:Lf β}{G:Lf γ}{t:TypeId}{f0 f1 f2:Field}(ht:P.underlying t=some (.struct #[f0,f1,f2]))(h0:Ru enc P E f0.type)(h1:Ru enc P F f1.type)(h2:Ru enc P G f2.type)
  (s0:P.cellsOf f0.type=E.size) (s1:P.cellsOf f1.type=F.size) (s2:P.cellsOf f2.type=G.size) (o0:f0.offset=0) (o1:f1.offset=E.size) (o2:f2.offset=E.size+F.size) (st:P.cellsOf t=E.size+F.size+G.size) :
  Ru enc P (Ra E (Ra F G)) t:=by
 intro W fuel cs x h;obtain⟨xs,n,_,_,hl,hlen,hf⟩:=DataW.trod_struct ht h;obtain⟨a,ha⟩:=Sn hlen hf 0 f0 rfl h0;obtain⟨b,hb⟩:=Sn hlen hf 1 f1 rfl h1;obtain⟨c,hc⟩:=Sn hlen hf 2 f2 rfl h2;rw[o0,s0,List.drop_zero] at ha;rw[o1,s1] at hb;rw[o2,s2,Qd (by rw[Xj];omega)] at hc;refine⟨(a,b,c),_,_,(Xm E.size cs).symm,ha,_,_,(Xm F.size _).symm,hb,?_⟩;rw[List.drop_drop];exact hc
theorem qlK{α:Type}{E:Lf α}{W:World}{base:Nat}{t:TypeId}{fs:Array Field}{v:Value}{d:DataW H}{p:List MemPlace}(hE:Ru enc P E t)(ht:P.underlying t=some (.struct fs))
  (zt:Value.okWide P W .any base t v) (h:DataW.Trod enc P W 0 (fun _=>true) true t v d p):∃(cs:List Value)(x:α),v=.agg cs.toArray/\E.rep W W.heap.size cs x:=by
 obtain⟨cs,rfl,_⟩:=okWide_struct ht zt;obtain⟨fuel,hf⟩:=h;obtain⟨x,hx⟩:=hE W fuel _ _ hf;exact⟨cs.toList,x,by simp,by simpa[Value.cells] using hx⟩
end
def jv(w w':World)(B:Nat)(r:Option Nat):Prop:=∀ p:Addr,p.block<B->some p.block≠r->w'.cell? p=w.cell? p
theorem jv.refl(w:World)(B:Nat)(r:Option Nat):jv w w B r:=fun _ _ _=>rfl
def dT{α:Type}(E:Lf α)(w:World)(base:Nat)(t:TypeId)(v:Value)(xs:List α):Prop :=
 ∃ css:List (List Value),w.ownsRow base t E.size v xs.length css.flatten/\css.length=xs.length/\∀(i:Nat)(cs:List Value)(x:α),css[i]? = some cs->xs[i]? = some x->∀ w',jv w w' w.heap.size v.ownBlock->E.rep w' w.heap.size cs x
section
variable {α:Type} {E:Lf α} {w w' w1:World} {base:Nat} {t:TypeId} {v v1:Value} {xs:List α}
theorem dT.nil(w:World)(base:Nat)(t:TypeId):dT E w base t (.slice none 0 0) []:=⟨[],Yx _ _ _ _,rfl,fun i cs x h=>by simp at h⟩
theorem dT.form(h:dT E w base t v xs):∃ A c,v=.slice A xs.length c/\xs.length<=c/\c<=maxLen:=by
 obtain⟨css,h1,_⟩:=h;exact Zk h1
theorem dT.sl(h:dT E w base t v xs):Jb E w w.heap.size v xs:=by
 obtain⟨css,h1,h2,h3⟩:=h;obtain⟨A,c,rfl,ha,hb⟩:=Zk h1;exact⟨A,c,css,rfl,ha,hb,h2,Rd.of_own h1,fun i cs x hc hx=>h3 i cs x hc hx w (jv.refl _ _ _)⟩
theorem dT.later(h:dT E w base t v xs)(hb:Below w.heap.size w w1):dT E w1 base t v xs:=by
 obtain⟨css,h1,h2,h3⟩:=h;refine⟨css,Jk h1 hb,h2,fun i cs x hc hx w' ha=>E.more (h3 i cs x hc hx w' fun p hp hn=>?_) hb.size⟩;rw[ha p (Yb hp hb.size) hn,hb.cell hp]
theorem dT.snoc{css:List (List Value)}{cs:List Value}{x:α}(h2:css.length=xs.length)(h3:∀(i:Nat)(cs:List Value)(x:α),css[i]? = some cs->xs[i]? = some x->∀ w',jv w w' w.heap.size v.ownBlock->E.rep w' w.heap.size cs x)
  (hx:∀ w',jv w w' w.heap.size v.ownBlock->E.rep w' w.heap.size cs x) (ho:w1.ownsRow base t E.size v1 (xs.length+1) (css.flatten++cs)) (hg:w.grownBy w1 v.ownBlock) (hv:v1.ownBlock=v.ownBlock\/v1.ownBlock=some w.heap.size) :
  dT E w1 base t v1 (xs++[x]):=by
 have key:∀ w',jv w1 w' w1.heap.size v1.ownBlock->jv w w' w.heap.size v.ownBlock:=fun w' ha p hp hn=>by
  rw[ha p (Yb hp hg.size) ?_]
  ·have hb:=hg.block p.block hp hn;exact World.cell?_of_block (w:=w) hb
  ·rcases hv with e | e
   ·rw[e];exact hn
   ·rw[e];intro e2;injection e2 with e2;omega
 refine⟨css++[cs],?_,by simp[h2],fun i cs' x' hc Ho w' ha=>?_⟩
 ·rw[Qs,Qe];simpa using ho
 ·by_cases hi:i<xs.length
  ·rw[Qo (by omega)] at hc Ho;exact E.more (h3 i cs' x' hc Ho w' (key w' ha)) hg.size
  ·have Vq:i=xs.length:=by
    have h4:=(Qj.1 Ho).1;rw[Qe,Qf] at h4;omega
   subst Vq;rw[<-h2,Qn (Xz _),Nat.sub_self] at hc;rw[Qn (Xz _),Nat.sub_self] at Ho;injection hc with hc;injection Ho with Ho;subst hc Ho;exact E.more (hx w' (key w' ha)) hg.size
end
theorem Mw{w w':World}{base qpJ:Nat}{e e2:TypeId}{size qkS:Nat}{v v2:Value}{n n2:Nat}{xs ys:List Value}(h:w.ownsRow base e size v n xs)(h2:w.ownsRow qpJ e2 qkS v2 n2 ys)(hne:e≠e2)(hg:w.grownBy w' v2.ownBlock):w'.ownsRow base e size v n xs:=by
 refine⟨h.1,?_⟩;rcases h.2 with h' | ⟨g,cap,cur,rfl,hb,hh,r⟩
 ·exact .inl h'
 ·exact .inr ⟨g,cap,cur,rfl,hb,Jd h2 hg hh hne,r⟩
theorem qlE{w:World}{base:Nat}{e e':TypeId}{size n:Nat}{v:Value}{xs:List Value}{g:Nat}{cs:Array Value}{fr:Nat×Nat}(h:w.ownsRow base e size v n xs)(hg:w.heap[g]? = some (.cells cs e' fr))(hne:e'≠e):v.ownBlock≠some g:=by
 rcases h.2 with ⟨rfl,_⟩ | ⟨g',cap,cur,rfl,_,hh,_⟩
 ·simp[Value.ownBlock]
 ·intro he;have:g'=g:=by simpa[Value.ownBlock] using he
  subst this;rw[hg] at hh;injection hh with hh;injection hh with _ h2;exact hne h2
theorem zM{w:World}{base:Nat}{e:TypeId}{size:Nat}{v:Value}{n:Nat}{xs:List Value}(h:w.ownsRow base e size v n xs)(hn:0<n):∃ g cap,v=.slice (some ⟨g,0,none⟩) n cap:=by
 rcases h.2 with ⟨_,h0⟩ | ⟨g,cap,cur,hv,_⟩
 ·omega
 ·exact⟨g,cap,hv⟩
theorem qlF{w:World}{base:Nat}{e:TypeId}{size n c g:Nat}{xs:List Value}(h:w.ownsRow base e size (.slice (some ⟨g,0,none⟩) n c) n xs):∃ cur,w.heap[g]? = some (.cells cur e (0,0)):=by
 rcases h.2 with ⟨h',_⟩ | ⟨g',zjQ,cur,h',_,hg,_⟩
 ·simp at h'
 ·simp only[Value.slice.injEq,Option.some.injEq,Addr.mk.injEq,and_true,true_and] at h';obtain⟨rfl,rfl⟩:=h';exact⟨cur,hg⟩
theorem Fl{w:World}{base qpJ:Nat}{e e2:TypeId}{size qkS:Nat}{v:Value}{n n2 c2 g j:Nat}{xs ys:List Value}(h:w.ownsRow base e size v n xs)(h2:w.ownsRow qpJ e2 qkS (.slice (some ⟨g,0,none⟩) n2 c2) n2 ys)(hne:e≠e2)(u:Value):(w.setCell ⟨g,j,none⟩ u).ownsRow base e size v n xs:=by
 obtain⟨cur2,aE⟩:=qlF h2;refine⟨h.1,?_⟩;rcases h.2 with h' | ⟨g',cap,cur,rfl,hb,hh,r⟩
 ·exact .inl h'
 ·refine .inr ⟨g',cap,cur,rfl,hb,?_,r⟩;rw[Yz _ _ _ _ ?_]
  ·exact hh
  ·rintro rfl;rw[aE] at hh;injection hh with hh;injection hh with _ h3;exact hne h3.symm
def Jq(ts:List TypeId)(w w':World):Prop:=w.heap.size<=w'.heap.size/\∀(g:Nat)(cur:Array Value)(t:TypeId),t∈ts->w.heap[g]? = some (.cells cur t (0,0))->w'.heap[g]? = some (.cells cur t (0,0))
theorem Jq.trans{ts:List TypeId}{w w1 w2:World}(h:Jq ts w w1)(k:Jq ts w1 w2):Jq ts w w2:=⟨Ya h.1 k.1,fun g c t ht hg=>k.2 g c t ht (h.2 g c t ht hg)⟩
theorem Jq.of_below{ts:List TypeId}{w w':World}(h:Below w.heap.size w w'):Jq ts w w':=⟨h.size,fun g _ _ _ hg=>(h.block g (gl hg)).trans hg⟩
theorem Jq.of_grown{ts:List TypeId}{w w':World}{base:Nat}{e:TypeId}{size n:Nat}{v:Value}{xs:List Value}(ho:w.ownsRow base e size v n xs)(hg:w.grownBy w' v.ownBlock)(he:e∉ts):Jq ts w w' :=
 ⟨hg.size,fun _ _ _ ht hh=>Jd ho hg hh (fun e'=>he (e' ▸ ht))⟩
theorem Jq.less{ts us:List TypeId}{w w':World}(h:Jq ts w w')(hs:∀ t∈us,t∈ts):Jq us w w':=⟨h.1,fun g c t ht hg=>h.2 g c t (hs t ht) hg⟩
theorem Vc{ts:List TypeId}{w w':World}{base:Nat}{e:TypeId}{size n:Nat}{v:Value}{xs:List Value}(h:w.ownsRow base e size v n xs)(hk:Jq ts w w')(he:e∈ts):w'.ownsRow base e size v n xs:=by
 refine⟨h.1,?_⟩;rcases h.2 with h' | ⟨g,cap,cur,rfl,hg,hh,r⟩
 ·exact .inl h'
 ·exact .inr ⟨g,cap,cur,rfl,hg,hk.2 g cur e he hh,r⟩
structure mW(α:Type) where
 E:Lf α
 ts:List TypeId
 rep:World->Nat->List Value->α->Prop
 elt:∀{w N cs x},rep w N cs x->E.rep w w.heap.size cs x
 keep:∀{w w' N cs x},rep w N cs x->Jq ts w w'->rep w' N cs x
 more:∀{w N N' cs x},rep w N cs x->N'<=N->rep w N' cs x
def zV{α:Type}(E:Lf α)(hE:∀{w w' B B' cs x},E.rep w B cs x->E.rep w' B' cs x):mW α where
 E:=E
 ts:=[]
 rep:=fun w _ cs x=>E.rep w w.heap.size cs x
 elt:=fun h=>h
 keep:=fun h _=>hE h
 more:=fun h _=>h
def Oz:mW Int:=zV Vh fun h=>h
def qlO{α β:Type}(O:mW α)(P:mW β):mW (α×β) where
 E:=Ra O.E P.E
 ts:=O.ts++P.ts
 rep:=fun w N cs x=>∃ c1 c2,cs=c1++c2/\O.rep w N c1 x.1/\P.rep w N c2 x.2
 elt:=fun⟨c1,c2,h,h1,h2⟩=>⟨c1,c2,h,O.elt h1,P.elt h2⟩
 keep:=fun⟨c1,c2,h,h1,h2⟩ hk=>⟨c1,c2,h,O.keep h1 (hk.less fun _ ht=>List.mem_append_left _ ht),P.keep h2 (hk.less fun _ ht=>List.mem_append_right _ ht)⟩
 more:=fun⟨c1,c2,h,h1,h2⟩ hN=>⟨c1,c2,h,O.more h1 hN,P.more h2 hN⟩
def Mg{α:Type}(O:mW α)(t:TypeId)(w:World)(N:Nat)(v:Value)(xs:List α):Prop :=
 ∃ css:List (List Value),w.ownsRow N t O.E.size v xs.length css.flatten/\css.length=xs.length/\∀(i:Nat)(cs:List Value)(x:α),css[i]? = some cs->xs[i]? = some x->O.rep w N cs x
section
variable {α:Type} {O:mW α} {t:TypeId} {w w' w1:World} {N N':Nat} {v v1:Value} {xs:List α}
theorem Mg.nil(w:World)(N:Nat):Mg O t w N (.slice none 0 0) []:=⟨[],Yx _ _ _ _,rfl,fun i cs x h=>by simp at h⟩
theorem Mg.form(h:Mg O t w N v xs):∃ A c,v=.slice A xs.length c/\xs.length<=c/\c<=maxLen:=by
 obtain⟨css,h1,_⟩:=h;exact Zk h1
theorem Mg.sl(h:Mg O t w N v xs):Jb O.E w w.heap.size v xs:=by
 obtain⟨css,h1,h2,h3⟩:=h;obtain⟨A,c,rfl,ha,hb⟩:=Zk h1;exact⟨A,c,css,rfl,ha,hb,h2,Rd.of_own h1,fun i cs x hc hx=>O.elt (h3 i cs x hc hx)⟩
theorem Mg.keep(h:Mg O t w N v xs)(hk:Jq (t::O.ts) w w'):Mg O t w' N v xs:=by
 obtain⟨css,h1,h2,h3⟩:=h;exact⟨css,Vc h1 hk (Xh ..),h2,fun i cs x hc hx=>O.keep (h3 i cs x hc hx) (hk.less fun t ht=>Xi _ ht)⟩
theorem Mg.below(h:Mg O t w N v xs)(hb:Below w.heap.size w w'):Mg O t w' N v xs:=h.keep (.of_below hb)
theorem Mg.more(h:Mg O t w N v xs)(hN:N'<=N):Mg O t w N' v xs:=by
 obtain⟨css,h1,h2,h3⟩:=h;exact⟨css,Nc h1 hN,h2,fun i cs x hc hx=>O.more (h3 i cs x hc hx) hN⟩
theorem Mg.row(h:Mg O t w N v xs):∃ css:List (List Value),w.ownsRow N t O.E.size v xs.length css.flatten/\css.length=xs.length/\∀(i:Nat)(cs:List Value)(x:α),css[i]? = some cs->xs[i]? = some x->O.rep w N cs x:=h
theorem Mg.snoc{css:List (List Value)}{cs:List Value}{x:α}(hn:t∉O.ts)(h0:w.ownsRow N t O.E.size v xs.length css.flatten)(h2:css.length=xs.length)(h3:∀(i:Nat)(cs:List Value)(x:α),css[i]? = some cs->xs[i]? = some x->O.rep w N cs x)
  (hx:O.rep w N cs x) (ho:w1.ownsRow N t O.E.size v1 (xs.length+1) (css.flatten++cs)) (hg:w.grownBy w1 v.ownBlock):Mg O t w1 N v1 (xs++[x]):=by
 have hk:=Jq.of_grown h0 hg hn;refine⟨css++[cs],by rw[Qs,Qe];simpa using ho,by simp[h2],fun i cs' x' hc Ho=>?_⟩;by_cases hi:i<xs.length
 ·rw[Qo (by omega)] at hc Ho;exact O.keep (h3 i cs' x' hc Ho) hk
 ·have Vq:i=xs.length:=by
   have h4:=(Qj.1 Ho).1;rw[Qe,Qf] at h4;omega
  subst Vq;rw[<-h2,Qn (Xz _),Nat.sub_self] at hc;rw[Qn (Xz _),Nat.sub_self] at Ho;injection hc with hc;injection Ho with Ho;subst hc Ho;exact O.keep hx hk
end
def oSl{α:Type}(O:mW α)(t:TypeId):mW (List α) where
 E:=Ro O.E
 ts:=t::O.ts
 rep:=fun w N cs xs=>∃ v,cs=[v]/\Mg O t w N v xs
 elt:=fun⟨v,h,hs⟩=>⟨v,h,hs.sl⟩
 keep:=fun⟨v,h,hs⟩ hk=>⟨v,h,hs.keep hk⟩
 more:=fun⟨v,h,hs⟩ hN=>⟨v,h,hs.more hN⟩
def Fi(ts:List TypeId)(U:Nat)(w w':World):Prop:=w.heap.size<=w'.heap.size/\∀(g:Nat)(cur:Array Value)(t:TypeId),g<U->t∈ts->w.heap[g]? = some (.cells cur t (0,0))->w'.heap[g]? = some (.cells cur t (0,0))
section
variable {ts us:List TypeId} {U V:Nat} {w w1 w2:World}
theorem Fi.trans(h:Fi ts U w w1)(k:Fi ts U w1 w2):Fi ts U w w2:=⟨Ya h.1 k.1,fun g c t hg ht hh=>k.2 g c t hg ht (h.2 g c t hg ht hh)⟩
theorem Fi.of_below(h:Below w.heap.size w w1):Fi ts U w w1:=⟨h.size,fun g _ _ _ _ hg=>(h.block g (gl hg)).trans hg⟩
theorem Fi.less(h:Fi ts U w w1)(hs:∀ t∈us,t∈ts)(hU:V<=U):Fi us V w w1:=⟨h.1,fun g c t hg ht=>h.2 g c t (by omega) (hs t ht)⟩
theorem Fi.of_keepT(h:Jq ts w w1):Fi ts U w w1:=⟨h.1,fun g c t _=>h.2 g c t⟩
theorem Fi.of_grown{base:Nat}{e:TypeId}{size n:Nat}{v:Value}{xs:List Value}(ho:w.ownsRow base e size v n xs)(hg:w.grownBy w1 v.ownBlock)(hU:U<=base):Fi ts U w w1:=by
 refine⟨hg.size,fun g c t hgU _ hh=>(hg.block g (gl hh) fun he=>?_).trans hh⟩;rcases ho.2 with ⟨rfl,_⟩ | ⟨g',cap,cur,rfl,hb,_⟩
 ·simp[Value.ownBlock] at he
 ·have:g=g':=by simpa[Value.ownBlock] using he
  omega
theorem Fi.of_set{g k:Nat}(hU:U<=g)(v:Value):Fi ts U w (w.setCell ⟨g,k,none⟩ v):=by
 refine⟨by simp[World.setCell],fun j c t hj _ hh=>?_⟩;rw[Yz _ _ _ _ (by intro e;subst e;omega)];exact hh
theorem Fi.of_setT{g k:Nat}{cs:Array Value}{T:TypeId}(h:w.heap[g]? = some (.cells cs T (0,0)))(hT:T∉ts)(v:Value):Fi ts U w (w.setCell ⟨g,k,none⟩ v):=by
 refine⟨by simp[World.setCell],fun j cur t _ ht hj=>?_⟩;rw[Yz _ _ _ _ ?_]
 ·exact hj
 ·intro e;subst e;rw[h] at hj;injection hj with hj;injection hj with _ hj;exact hT (hj ▸ ht)
end
structure aA(α:Type) where
 E:Lf α
 ts:List TypeId
 rep:World->Nat->List Value->α->Prop
 elt:∀{w U cs x},rep w U cs x->E.rep w U cs x
 keep:∀{w w' U cs x},rep w U cs x->Fi ts U w w'->rep w' U cs x
 more:∀{w U U' cs x},rep w U cs x->U<=U'->rep w U' cs x
def qkE{α:Type}(E:Lf α)(hE:∀{w w' B B' cs x},E.rep w B cs x->E.rep w' B' cs x):aA α where
 E:=E
 ts:=[]
 rep:=fun w U cs x=>E.rep w U cs x
 elt:=fun h=>h
 keep:=fun h _=>hE h
 more:=fun h _=>hE h
def qsQ:aA Int:=qkE Vh fun h=>h
def wW:aA ByteArray:=qkE Mc fun h=>h
def zfJ:aA Bool:=qkE rh fun h=>h
def qkF{α β:Type}(O:aA α)(P:aA β):aA (α×β) where
 E:=Ra O.E P.E
 ts:=O.ts++P.ts
 rep:=fun w N cs x=>∃ c1 c2,cs=c1++c2/\O.rep w N c1 x.1/\P.rep w N c2 x.2
 elt:=fun⟨c1,c2,h,h1,h2⟩=>⟨c1,c2,h,O.elt h1,P.elt h2⟩
 keep:=fun⟨c1,c2,h,h1,h2⟩ hk=>⟨c1,c2,h,O.keep h1 (hk.less (fun _ ht=>List.mem_append_left _ ht) (Xz _)),P.keep h2 (hk.less (fun _ ht=>List.mem_append_right _ ht) (Xz _))⟩
 more:=fun⟨c1,c2,h,h1,h2⟩ hN=>⟨c1,c2,h,O.more h1 hN,P.more h2 hN⟩
structure Ul{α:Type}(O:aA α)(w:World)(U:Nat)(css:List (List Value))(xs:List α):Prop where
 len:css.length=xs.length
 rep:∀(i:Nat)(cs:List Value)(x:α),css[i]? = some cs->xs[i]? = some x->O.rep w U cs x
section
variable {α:Type} {O:aA α} {t:TypeId} {w w':World} {U V:Nat} {css:List (List Value)} {xs:List α} {v:Value}
theorem Ul.nil(O:aA α)(w:World)(U:Nat):Ul O w U [] []:=⟨rfl,fun i cs x h=>by simp at h⟩
theorem Ul.keep(h:Ul O w U css xs)(hk:Fi O.ts U w w'):Ul O w' U css xs:=⟨h.len,fun i cs x hc hx=>O.keep (h.rep i cs x hc hx) hk⟩
theorem Ul.more(h:Ul O w U css xs)(hU:U<=V):Ul O w V css xs:=⟨h.len,fun i cs x hc hx=>O.more (h.rep i cs x hc hx) hU⟩
theorem Ul.below(h:Ul O w U css xs)(hb:Below w.heap.size w w'):Ul O w' U css xs:=h.keep (.of_below hb)
theorem Ul.snoc(h:Ul O w U css xs){cs:List Value}{x:α}(hx:O.rep w U cs x):Ul O w U (css++[cs]) (xs++[x]):=by
 refine⟨by simp[h.len],fun i cs' x' hc Ho=>?_⟩;by_cases hi:i<xs.length
 ·rw[Qo (by rw[h.len];exact hi)] at hc;rw[Qo hi] at Ho;exact h.rep i cs' x' hc Ho
 ·have Vq:i=xs.length:=by
   have h4:=(Qj.1 Ho).1;rw[Qe,Qf] at h4;omega
  subst Vq;rw[<-h.len,Qn (Xz _),Nat.sub_self] at hc;rw[Qn (Xz _),Nat.sub_self] at Ho;injection hc with hc;injection Ho with Ho;subst hc Ho;exact hx
def dJ(O:aA α)(t:TypeId)(w:World)(U:Nat)(v:Value)(xs:List α):Prop :=
 ∃ css:List (List Value),w.ownsRow 0 t O.E.size v xs.length css.flatten/\(∀ g,v.ownBlock=some g->g<U)/\Ul O w U css xs
theorem dJ.sl(h:dJ O t w U v xs):Jb O.E w U v xs:=by
 obtain⟨css,h1,h2,h3⟩:=h;obtain⟨A,c,rfl,ha,hb⟩:=Zk h1;refine⟨A,c,css,rfl,ha,hb,h3.len,fun hne=>?_,fun i cs x hc hx=>O.elt (h3.rep i cs x hc hx)⟩;obtain⟨b,off,e,_,hc⟩:=Rd.of_own h1 hne;subst e;exact⟨b,off,rfl,h2 b rfl,hc⟩
theorem dJ.keep(h:dJ O t w U v xs)(hk:Fi (t::O.ts) U w w'):dJ O t w' U v xs:=by
 obtain⟨css,h1,h2,h3⟩:=h;refine⟨css,⟨h1.1,?_⟩,h2,h3.keep (hk.less (fun _ ht=>Xi _ ht) (Xz _))⟩;rcases h1.2 with h' | ⟨g,cap,cur,rfl,hg,hh,r⟩
 ·exact .inl h'
 ·exact .inr ⟨g,cap,cur,rfl,hg,hk.2 g cur t (h2 g rfl) (Xh ..) hh,r⟩
theorem dJ.more(h:dJ O t w U v xs)(hU:U<=V):dJ O t w V v xs:=by
 obtain⟨css,h1,h2,h3⟩:=h;exact⟨css,h1,fun g hg=>Yb (h2 g hg) hU,h3.more hU⟩
theorem dJ.of_row{base:Nat}(h1:w.ownsRow base t O.E.size v xs.length css.flatten)(h3:Ul O w w.heap.size css xs):dJ O t w w.heap.size v xs :=
 ⟨css,Nc h1 (Ye _),fun g hg=>by
  rcases h1.2 with ⟨rfl,_⟩ | ⟨g',cap,cur,rfl,hb,hh,_⟩
  ·simp[Value.ownBlock] at hg
  ·have:g'=g:=by simpa[Value.ownBlock] using hg
   subst this
   exact (gl hh),h3⟩
end
def uSl{α:Type}(O:aA α)(t:TypeId):aA (List α) where
 E:=Ro O.E
 ts:=t::O.ts
 rep:=fun w U cs xs=>∃ v,cs=[v]/\dJ O t w U v xs
 elt:=fun⟨v,h,hs⟩=>⟨v,h,hs.sl⟩
 keep:=fun⟨v,h,hs⟩ hk=>⟨v,h,hs.keep hk⟩
 more:=fun⟨v,h,hs⟩ hU=>⟨v,h,hs.more hU⟩
theorem sR{w:World}{base:Nat}{e:TypeId}{size n c g:Nat}{xs:List Value}(h:w.ownsRow base e size (.slice (some ⟨g,0,none⟩) n c) n xs)(k:Nat)(u:Value) :
  (w.setCell ⟨g,k,none⟩ u).ownsRow base e size (.slice (some ⟨g,0,none⟩) n c) n (xs.set k u):=by
 have hl:=h.1;refine⟨by rw[Qm];exact hl,.inr ?_⟩;rcases h.2 with ⟨h0,_⟩ | ⟨g',cap,cur,hv,h1,h2,h3,h4,h5,h6⟩
 ·cases h0
 ·injection hv with e1 e2 e3;injection e1 with e1;injection e1 with e1;subst e1 e3;refine⟨g,c,cur.setIfInBounds k u,rfl,h1,?_,h3,h4,by simpa using h5,?_⟩
  ·simp only[World.setCell,Xx,if_true,h2,Option.map_some];rfl
  ·rw[Array.toList_setIfInBounds,List.take_set,h6]
theorem Kw{w:World}{base:Nat}{e:TypeId}{size n:Nat}{v:Value}{xs:List Value}(h:w.ownsRow base e size v (n+1) xs):∃ g c,v=.slice (some ⟨g,0,none⟩) (n+1) c/\base<=g/\g<w.heap.size/\n+1<=c/\c<=maxLen/\(∃ cur,w.heap[g]? = some (.cells cur e (0,0)))/\(∀ k u,xs[k]? = some u->w.cell? ⟨g,k,none⟩=some u)/\∀ k,w.frozen? ⟨g,k,none⟩=false:=by
 obtain⟨A,c,rfl,hc1,hc2⟩:=Zk h;rcases h.2 with ⟨_,h0⟩ | ⟨g,cap,cur,hv,h1,h2,h3,h4,h5,h6⟩
 ·omega
 ·injection hv with e1 e2 e3;subst e1 e3;refine⟨g,c,rfl,h1,(gl h2),hc1,hc2,⟨cur,h2⟩,fun k u hk=>?_,fun k=>by simp[World.frozen?,h2]⟩;rw[Za _ _ _ _ _ _ h2];have Jo:=(Qj.1 hk).1;rw[<-h6,List.getElem?_take] at hk;split at hk
  ·rw[<-hk];simp
  ·cases hk
end Go.Proofs.YtmaojnmnbpomeaaGreatDoor
namespace Go.Proofs.YtmaojnmnbpomeaaGreatDoor.Text
open Go
def Ii(P:Program){α:Type}(s:Sem α):Prop:=∀ w a w',s.run P w=.ok a w'->w'=w/\∀ w2,s.run P w2=.ok a w2
def Rdr(P:Program){α:Type}(s:Sem α):Prop:=∀ w a w',s.run P w=.ok a w'->w'=w
def je(P:Program){α:Type}(s:Sem α):Prop:=∀ w a w',s.run P w≠.ok a w'
variable {P:Program}
section
variable {α β:Type}
theorem Ii.rdr{s:Sem α}(h:Ii P s):Rdr P s:=fun w a w' hr=>(h w a w' hr).1
theorem Js(a:α):Ii P (pure a:Sem α):=fun w b w' h=>by
 simp only[Sem.run_pure] at h;injection h with h1 h2;subst h1 h2;exact⟨rfl,fun w2=>rfl⟩
theorem lO(h:Halt):je P (Sem.halt h:Sem α):=fun w a w' hr=>by
 unfold Sem.run at hr;cases hr
theorem Zn{s:Sem α}(h:je P s):Ii P s:=fun w a w' hr=>absurd hr (h w a w')
theorem Ji(m:String):je P (stuck m:Sem α):=lO _
theorem Jt(u:Unsupported):je P (unsupported u:Sem α):=lO _
theorem Pb(v:Value):je P (goPanic v:Sem α):=lO _
theorem Fc{s:Sem α}{f:α->Sem β}{w w':World}{b:β}(h:(s >>= f).run P w=.ok b w'):∃ a w1,s.run P w=.ok a w1/\(f a).run P w1=.ok b w':=by
 rw[Zd] at h;cases hs:s.run P w with
 |ok a w1=>rw[hs] at h;exact⟨a,w1,rfl,h⟩
 |halt x w1=>rw[hs] at h;cases h
theorem Lm{s:Sem α}{f:α->Sem β}(h:∀ a,je P (f a)):je P (s >>= f):=fun w b w' hr=>by
 obtain⟨a,w1,_,h2⟩:=Fc hr;exact h a w1 b w' h2
theorem Kj{s:Sem α}{f:α->Sem β}(h:Ii P s)(hf:∀ a,Ii P (f a)):Ii P (s >>= f):=fun w b w' hr=>by
 obtain⟨a,w1,h1,h2⟩:=Fc hr;obtain⟨e1,g1⟩:=h w a w1 h1;subst e1;obtain⟨e2,g2⟩:=hf a w1 b w' h2;subst e2;refine⟨rfl,fun w2=>?_⟩;rw[Zd,g1 w2];exact g2 w2
theorem fN{s:Sem α}{f:α->Sem β}(h:Ii P s)(hf:∀ a w w',s.run P w=.ok a w'->Ii P (f a)):Ii P (s >>= f):=fun w b w' hr=>by
 obtain⟨a,w1,h1,h2⟩:=Fc hr;obtain⟨e1,g1⟩:=h w a w1 h1;subst e1;obtain⟨e2,g2⟩:=hf a _ _ h1 w1 b w' h2;subst e2;refine⟨rfl,fun w2=>?_⟩;rw[Zd,g1 w2];exact g2 w2
theorem aS{s:Sem α}{f:α->Sem β}(h:Rdr P s)(hf:∀ a,Rdr P (f a)):Rdr P (s >>= f):=fun w b w' hr=>by
 obtain⟨a,w1,h1,h2⟩:=Fc hr;have e1:=h w a w1 h1;subst e1;exact hf a w1 b w' h2
theorem Vm:Ii P program:=fun w a w' h=>by
 simp only[program,Sem.run] at h;injection h with h1 h2;subst h1 h2;exact⟨rfl,fun w2=>rfl⟩
theorem mv(a:Addr)(m:Mode):Rdr P (load a m):=fun w v w' h=>by
 simp only[load,Sem.run] at h;split at h
 ·injection h with _ h2;exact h2.symm
 ·split at h
  ·injection h with _ h2;exact h2.symm
  ·cases h
end
theorem Jh(t:TypeId):Ii P (underlying t):=by
 unfold underlying;refine Kj Vm fun p=>?_;split
 ·exact Js _
 ·exact Zn (Ji _)
theorem Kz(t:TypeId):Ii P (typeInfo t):=by
 unfold typeInfo;refine Kj Vm fun p=>?_;split
 ·exact Js _
 ·exact Zn (Ji _)
theorem Ve(t:TypeId):Ii P (sizeOf t):=Kj (Kz t) fun _=>Js _
theorem Wo(t:TypeId):Ii P (isAgg t):=by
 unfold isAgg;refine Kj (Jh t) fun d=>?_;split <;> exact Js _
theorem Vb(t:TypeId):Ii P (zeroValue t):=by
 unfold zeroValue;refine Kj (Kz t) fun d=>?_;split
 ·exact Js _
 ·exact Zn (Jt _)
theorem Vx(v:Value):Ii P (asIntOf v):=by
 unfold asIntOf;split
 ·exact Js _
 ·exact Zn (Jt _)
 ·exact Zn (Ji _)
theorem Wi(v:Value):Ii P (asBool v):=by
 unfold asBool;split
 ·exact Js _
 ·exact Zn (Ji _)
theorem Mj(v:Value):Ii P (asAgg v):=by
 unfold asAgg;split
 ·exact Js _
 ·exact Zn (Ji _)
theorem Jg{α:Type}(e:RuntimeError):je P (runtimePanic e:Sem α):=by
 unfold runtimePanic;refine Lm fun p=>?_;cases e <;> first | exact Pb _ | exact Lm fun _=>Pb _ | exact Lm fun _=>Lm fun _=>Pb _
theorem Ju{α:Type}(k:IntKind)(x y:Int)(code:BoundsCode):je P (boundsPanic k x y code:Sem α):=by
 unfold boundsPanic;dsimp only;split <;> exact Lm fun _=>Jg _
theorem Nb(t:TypeId)(cs:Array Value)(off:Nat):Ii P (part t cs off):=by
 unfold part;refine Kj (Wo t) fun b=>?_;split
 ·exact Kj (Ve t) fun _=>Js _
 ·split
  ·exact Js _
  ·exact Zn (Ji _)
theorem Va(v:Value):Ii P (Instr.sureAddr v):=by
 unfold Instr.sureAddr;split
 ·exact Js _
 ·exact Zn (Ji _)
theorem Ub(v:Value):Ii P (asAddr v):=by
 unfold asAddr;split
 ·exact Js _
 ·exact Zn (Jg _)
 ·exact Zn (Ji _)
theorem qeA(t:TypeId)(x i:Value):Ii P (Instr.index t x i):=by
 unfold Instr.index;refine Kj (Vx i) fun ki=>Kj (Jh t) fun d=>?_;split
 ·split
  ·exact Kj (Ve _) fun _=>Nb _ _ _
  ·exact Zn (Ju _ _ _ _)
 ·split
  ·exact Js _
  ·exact Zn (Ju _ _ _ _)
 ·exact Zn (Ji _)
theorem sM(x:Value)(y:Nat)(c:BoundsCode):Ii P (Instr.sliceBound x y c):=by
 unfold Instr.sliceBound
 repeat' (first
  |exact Js _ | exact Zn (Ji _) | exact Zn (Jt _) | exact Zn (Jg _) | exact Zn (Ju _ _ _ _)
  |exact Ve _ | exact Jh _ | exact Kz _ | exact Wo _ | exact Vb _ | exact Vx _ | exact Wi _ | exact Mj _ | exact Ub _ | exact Nb _ _ _ | exact Va _ | exact Vm
  |(refine Kj ?_ fun _=>?_) | split | dsimp only)
theorem Hk(b:Bool)(l c:Nat)(lo hi mx:Option Value):Ii P (Instr.sliceBounds b l c lo hi mx):=by
 unfold Instr.sliceBounds
 repeat' (first
  |exact Js _ | exact Zn (Ji _) | exact Zn (Jt _) | exact Zn (Jg _) | exact Zn (Ju _ _ _ _)
  |exact Ve _ | exact Jh _ | exact Kz _ | exact Wo _ | exact Vb _ | exact Vx _ | exact Wi _ | exact Mj _ | exact Ub _ | exact Nb _ _ _ | exact Va _ | exact Vm | exact sM _ _ _
  |(refine Kj ?_ fun _=>?_) | split | dsimp only)
theorem nh(t:TypeId)(x i:Value):Ii P (Instr.indexAt t x i):=by
 unfold Instr.indexAt
 repeat' (first
  |exact Js _ | exact Zn (Ji _) | exact Zn (Jt _) | exact Zn (Jg _) | exact Zn (Ju _ _ _ _)
  |exact Ve _ | exact Jh _ | exact Kz _ | exact Wo _ | exact Vb _ | exact Vx _ | exact Wi _ | exact Mj _ | exact Ub _ | exact Nb _ _ _ | exact Va _ | exact Vm
  |(refine Kj ?_ fun _=>?_) | split | dsimp only)
theorem qdY(t:TypeId)(x:Value)(lo hi mx:Option Value):Ii P (Instr.slice t x lo hi mx):=by
 unfold Instr.slice
 repeat' (first
  |exact Js _ | exact Zn (Ji _) | exact Zn (Jt _) | exact Zn (Jg _) | exact Zn (Ju _ _ _ _)
  |exact Ve _ | exact Jh _ | exact Kz _ | exact Wo _ | exact Vb _ | exact Vx _ | exact Wi _ | exact Mj _ | exact Ub _ | exact Nb _ _ _ | exact Va _ | exact Vm | exact Hk _ _ _ _ _ _
  |(refine Kj ?_ fun _=>?_) | split | dsimp only)
theorem ng(t:TypeId)(x:Value)(lo hi mx:Option Value):Ii P (Instr.sliceAt t x lo hi mx):=by
 unfold Instr.sliceAt
 repeat' (first
  |exact Js _ | exact Zn (Ji _) | exact Zn (Jt _) | exact Zn (Jg _) | exact Zn (Ju _ _ _ _)
  |exact Ve _ | exact Jh _ | exact Kz _ | exact Wo _ | exact Vb _ | exact Vx _ | exact Wi _ | exact Mj _ | exact Ub _ | exact Nb _ _ _ | exact Va _ | exact Vm | exact Hk _ _ _ _ _ _ | exact qdY _ _ _ _ _
  |(refine Kj ?_ fun _=>?_) | split | dsimp only)
theorem qeB(t:TypeId)(x:Value)(f:Nat):Ii P (Instr.field t x f):=by
 unfold Instr.field
 repeat' (first
  |exact Js _ | exact Zn (Ji _) | exact Zn (Jt _) | exact Zn (Jg _) | exact Zn (Ju _ _ _ _)
  |exact Ve _ | exact Jh _ | exact Kz _ | exact Wo _ | exact Vb _ | exact Vx _ | exact Wi _ | exact Mj _ | exact Ub _ | exact Nb _ _ _ | exact Va _ | exact Vm
  |(refine Kj ?_ fun _=>?_) | split | dsimp only)
def qH(P:Program)(t:TypeId)(f:Nat):Bool :=
 match P.underlying t with
 |some (.struct fs)=>match fs[f]? with
  |some fd=>match P.info? fd.type with
   |some i=>i.size != 0
   |none=>true
  |none=>true
 |_=>true
theorem ni(t:TypeId)(x:Value)(f:Nat)(hok:qH P t f=true):Ii P (Instr.fieldAt t x f):=by
 have hu:∀ w d w',(underlying t).run P w=.ok d w'->P.underlying t=some d:=by
  intro w d w' h;cases hd:P.underlying t with
  |none=>simp[underlying,hd,program,Sem.run,stuck,bind,Sem.bind] at h
  |some d'=>rw[run_underlying hd] at h;injection h with h1 _;rw[h1]
 have hi:∀(e:TypeId) w n w',(sizeOf e).run P w=.ok n w'->∃ i,P.info? e=some i/\i.size=n:=by
  intro e w n w' h;cases hd:P.info? e with
  |none=>simp[sizeOf,typeInfo,hd,program,Sem.run,stuck,bind,Sem.bind] at h
  |some i=>simp[sizeOf,typeInfo,hd,program,Sem.run,bind,Sem.bind,pure] at h;exact⟨i,rfl,h.1⟩
 unfold Instr.fieldAt;refine fN (Jh t) fun d w w' hd=>?_;have hd':=hu _ _ _ hd;split
 ·rename_i fs;split
  ·rename_i fd hfd;refine Kj (Va _) fun ad=>Kj ?_ fun _=>Js _;unfold fieldPlace;refine fN (Ve _) fun n w1 w1' hn=>?_;obtain⟨i,hi1,hi2⟩:=hi _ _ _ _ hn;unfold qH at hok;rw[hd'] at hok;simp only[hfd,hi1] at hok;rw[if_neg (by subst hi2;simpa using hok)];exact Js _
  ·exact Zn (Ji _)
 ·exact Zn (Ji _)
theorem nj(x:Value)(f:Nat):Ii P (Instr.extract x f):=by
 unfold Instr.extract
 repeat' (first
  |exact Js _ | exact Zn (Ji _) | exact Zn (Jt _) | exact Zn (Jg _) | exact Zn (Ju _ _ _ _)
  |exact Ve _ | exact Jh _ | exact Kz _ | exact Wo _ | exact Vb _ | exact Vx _ | exact Wi _ | exact Mj _ | exact Ub _ | exact Nb _ _ _ | exact Va _ | exact Vm
  |(refine Kj ?_ fun _=>?_) | split | dsimp only)
theorem iT(op:BinOp)(k:IntKind)(x y:Int):Ii P (Op.intArith op k x y):=by
 unfold Op.intArith
 repeat' (first
  |exact Js _ | exact Zn (Ji _) | exact Zn (Jt _) | exact Zn (Jg _) | exact Zn (Ju _ _ _ _)
  |exact Ve _ | exact Jh _ | exact Kz _ | exact Wo _ | exact Vb _ | exact Vx _ | exact Wi _ | exact Mj _ | exact Ub _ | exact Nb _ _ _ | exact Va _ | exact Vm
  |(refine Kj ?_ fun _=>?_) | split | dsimp only)
theorem xm(op:BinOp)(k:IntKind)(x y:Int):Ii P (Op.intDiv op k x y):=by
 unfold Op.intDiv
 repeat' (first
  |exact Js _ | exact Zn (Ji _) | exact Zn (Jt _) | exact Zn (Jg _) | exact Zn (Ju _ _ _ _)
  |exact Ve _ | exact Jh _ | exact Kz _ | exact Wo _ | exact Vb _ | exact Vx _ | exact Wi _ | exact Mj _ | exact Ub _ | exact Nb _ _ _ | exact Va _ | exact Vm
  |(refine Kj ?_ fun _=>?_) | split | dsimp only)
theorem nU(op:BinOp)(k:IntKind)(x y:Int):Ii P (Op.intBits op k x y):=by
 unfold Op.intBits
 repeat' (first
  |exact Js _ | exact Zn (Ji _) | exact Zn (Jt _) | exact Zn (Jg _) | exact Zn (Ju _ _ _ _)
  |exact Ve _ | exact Jh _ | exact Kz _ | exact Wo _ | exact Vb _ | exact Vx _ | exact Wi _ | exact Mj _ | exact Ub _ | exact Nb _ _ _ | exact Va _ | exact Vm
  |(refine Kj ?_ fun _=>?_) | split | dsimp only)
theorem xp(op:BinOp)(x y:Int):Ii P (Op.intCmp op x y):=by
 unfold Op.intCmp
 repeat' (first
  |exact Js _ | exact Zn (Ji _) | exact Zn (Jt _) | exact Zn (Jg _) | exact Zn (Ju _ _ _ _)
  |exact Ve _ | exact Jh _ | exact Kz _ | exact Wo _ | exact Vb _ | exact Vx _ | exact Wi _ | exact Mj _ | exact Ub _ | exact Nb _ _ _ | exact Va _ | exact Vm
  |(refine Kj ?_ fun _=>?_) | split | dsimp only)
theorem qdZ(op:BinOp)(k:IntKind)(x:Int)(yk:IntKind)(y:Int):Ii P (Op.shift op k x yk y):=by
 unfold Op.shift
 repeat' (first
  |exact Js _ | exact Zn (Ji _) | exact Zn (Jt _) | exact Zn (Jg _) | exact Zn (Ju _ _ _ _)
  |exact Ve _ | exact Jh _ | exact Kz _ | exact Wo _ | exact Vb _ | exact Vx _ | exact Wi _ | exact Mj _ | exact Ub _ | exact Nb _ _ _ | exact Va _ | exact Vm
  |(refine Kj ?_ fun _=>?_) | split | dsimp only)
theorem ew(op:BinOp)(x y:ByteArray):Ii P (Op.stringOp op x y):=by
 unfold Op.stringOp
 repeat' (first
  |exact Js _ | exact Zn (Ji _) | exact Zn (Jt _) | exact Zn (Jg _) | exact Zn (Ju _ _ _ _)
  |exact Ve _ | exact Jh _ | exact Kz _ | exact Wo _ | exact Vb _ | exact Vx _ | exact Wi _ | exact Mj _ | exact Ub _ | exact Nb _ _ _ | exact Va _ | exact Vm
  |(refine Kj ?_ fun _=>?_) | split | dsimp only)
theorem Ib(a:Addr):∀(n i:Nat)(acc:Array Value),Rdr P (loadCellsFrom a i n acc)
 |0,i,acc=>(Js _).rdr
 |n+1,i,acc=>by
  unfold loadCellsFrom;exact aS (mv _ _) fun v=>Ib a n (i+1) _
theorem mu(t:TypeId)(a:Addr):Rdr P (loadVar t a):=by
 unfold loadVar;refine aS (Wo t).rdr fun b=>?_;split
 ·exact aS (Ve t).rdr fun n=>aS (Ib _ _ _ _) fun _=>(Js _).rdr
 ·exact mv _ _
theorem sH(t:TypeId)(v:Value):Rdr P (Instr.loadAt t v):=aS (Va v).rdr fun a=>mu t a
def Value.flat:Value->Bool
 |.int _ _ | .bool _ | .string _=>true
 |_=>false
def Value.isInt:Value->Bool
 |.int _ _=>true
 |_=>false
def Value.isPtr:Value->Bool
 |.pointer _=>true
 |_=>false
def Value.hasLen:Value->Bool
 |.string _ | .slice _ _ _=>true
 |_=>false
theorem kZ(op:BinOp)(t:TypeId)(x y:Operand)(a b:Value)(ha:Value.flat a=true):Ii P (eqGuard op t x y a b):=by
 have h:eqGuard op t x y a b=pure ():=by
  cases a <;> simp[Value.flat] at ha
  ·exact eqGuard_at_bool op t x y b _
  ·exact eqGuard_at_int op t x y b _ _
  ·exact eqGuard_at_string op t x y b _
 rw[h];exact Js _
theorem kY(d:Nat)(t:TypeId)(a b:Value)(ha:Value.flat a=true)(hb:Value.flat b=true):Ii P (Op.equalIn (d+1) t a b):=by
 unfold Op.equalIn;refine Kj (Jh t) fun u=>?_;cases a <;> simp only[Value.flat,Bool.false_eq_true] at ha <;> cases b <;> simp only[Value.flat,Bool.false_eq_true] at hb <;> cases u <;> dsimp only <;>
  first | exact Js _ | exact Zn (Ji _) | (split <;> first | exact Js _ | exact Zn (Ji _))
theorem sN(op:BinOp)(t:TypeId)(a b:Value)(ha:Value.flat a=true)(hb:Value.flat b=true):Ii P (binOp op t a b):=by
 have heq:Ii P (Op.equal t a b):=kY 9999 t a b ha hb;cases a <;> simp only[Value.flat,Bool.false_eq_true] at ha <;> cases b <;> simp only[Value.flat,Bool.false_eq_true] at hb <;> cases op <;> simp only[binOp] <;>
  first
  |exact Zn (Ji _) | exact ew _ _ _ | exact qdZ _ _ _ _ _
  |exact Kj heq fun _=>Js _
  |(split <;> first | exact Zn (Ji _) | exact iT _ _ _ _ | exact xm _ _ _ _ | exact nU _ _ _ _ | exact xp _ _ _)
end Go.Proofs.YtmaojnmnbpomeaaGreatDoor.Text
namespace Go.Proofs.YtmaojnmnbpomeaaGreatDoor.Text
open Go
variable {P:Program}
def ar(c:Call):Bool:=match c.callee with | .builtin .len=>true | _=>false
def jQ(P:Program)(o:Oper):Nat :=
 match o.op with
 |.move _ | .assign _ | .pick .. | .extract .. | .field .. | .index .. | .indexAddr .. | .slice .. | .binOp .. | .unOp .. | .nilCheck _=>0
 |.fieldAddr s _ f=>if qH P s f then 0 else 2
 |.convert _ dst _=>match P.underlying dst with
  |some (.int _)=>0
  |_=>2
 |.load ..=>1
 |.call c=>if ar c then 0 else 2
 |_=>2
def Hs(ρ:Operand->Value)(o:Oper):Bool :=
 match o.op with
 |.binOp _ _ x y _=>Value.flat (ρ x)&&Value.flat (ρ y)
 |.unOp _ _ x=>Value.flat (ρ x)
 |.nilCheck x=>Value.isPtr (ρ x)
 |.convert _ _ x=>Value.isInt (ρ x)
 |.call c=>match c.args.toList with
  |[x]=>!ar c||Value.hasLen (ρ x)
  |_=>!ar c
 |_=>true
def Er(o:Oper):Bool :=
 match o.op with
 |.binOp .. | .unOp .. | .nilCheck _ | .convert .. | .call _=>true
 |_=>false
def qiF(P:Program)(s:Sem Next):Prop:=∀ w n w',s.run P w=.ok n w'->w'=w/\∃ v,n=.value v/\∀ w2,s.run P w2=.ok (.value v) w2
def zcB(P:Program)(s:Sem Next):Prop:=∀ w n w',s.run P w=.ok n w'->w'=w/\∃ v,n=.value v
theorem Sj{s:Sem Value}(h:Ii P s):qiF P (do pure (.value (<-s))):=fun w n w' hr=>by
 obtain⟨v,w1,h1,h2⟩:=Fc hr;obtain⟨e,g⟩:=h w v w1 h1;subst e;simp only[Sem.run_pure] at h2;injection h2 with h3 h4;subst h3 h4;refine⟨rfl,v,rfl,fun w2=>?_⟩;rw[Zd,g w2];rfl
theorem qaU{s:Sem Value}(h:Rdr P s):zcB P (do pure (.value (<-s))):=fun w n w' hr=>by
 obtain⟨v,w1,h1,h2⟩:=Fc hr;have e:=h w v w1 h1;subst e;simp only[Sem.run_pure] at h2;injection h2 with h3 h4;subst h3 h4;exact⟨rfl,v,rfl⟩
theorem lB(v:Value):qiF P (pure (.value v)):=fun w n w' hr=>by
 simp only[Sem.run_pure] at hr;injection hr with h3 h4;subst h3 h4;exact⟨rfl,v,rfl,fun _=>rfl⟩
theorem sL(op:UnOp)(x:Value)(h:Value.flat x=true):Ii P (Op.unary op x):=by
 cases x <;> simp only[Value.flat,Bool.false_eq_true] at h <;> cases op <;> simp only[Op.unary] <;>
  first | exact Js _ | exact iT _ _ _ _ | exact nU _ _ _ _ | exact Zn (Ji _)
theorem uS{ρ:Operand->Value}{o:Oper}(h:jQ P o=0)(hd:Hs ρ o=true):qiF P (execOp ρ o):=by
 obtain⟨dst,op,type,pos,after,guard⟩:=o;cases op <;> simp only[jQ] at h <;> simp only[execOp] <;> try (exact absurd h (by decide))
 case move x=>exact lB _
 case assign x=>exact lB _
 case pick c a b =>
  intro w n w' hr;obtain⟨v,w1,h1,h2⟩:=Fc hr;obtain⟨e,g⟩:=Wi (P:=P) _ w v w1 h1;subst e;simp only[Sem.run_pure] at h2;injection h2 with h3 h4;subst h3 h4;refine⟨rfl,_,rfl,fun w2=>?_⟩;rw[Zd,g w2];rfl
 case nilCheck x =>
  simp only[Hs] at hd;cases hx:ρ x <;> rw[hx] at hd <;> simp only[Value.isPtr,Bool.false_eq_true] at hd;rename_i a;cases a with
  |none=>exact fun w n w' hr=>absurd hr (Jg _ w n w')
  |some a=>exact lB _
 case binOp op t x y yt =>
  simp only[Hs,Yk] at hd;exact Sj (Kj (kZ _ _ _ _ _ _ hd.1) fun _=>sN _ _ _ _ hd.1 hd.2)
 case unOp op t x=>exact Sj (sL _ _ hd)
 case convert src dst x =>
  simp only[Hs] at hd;cases hx:ρ x <;> rw[hx] at hd <;> simp only[Value.isInt,Bool.false_eq_true] at hd;rename_i k n;refine Sj ?_;cases hu:P.underlying dst with
  |none=>rw[hu] at h;exact absurd h (by decide)
  |some d =>
   rw[hu] at h;have jJ:∃ kd,d=.int kd:=by cases d <;> first | exact⟨_,rfl⟩ | (exfalso;simp at h)
   obtain⟨kd,rfl⟩:=jJ;unfold convert;refine Kj (Jh src) fun ds=>fN (Jh dst) fun dd w w' hdd=>?_;rw[run_underlying hu] at hdd;injection hdd with h1 _;subst h1;exact Js _
 case field t x f=>exact Sj (qeB _ _ _)
 case fieldAddr t x f =>
  by_cases hok:qH P t f=true
  ·exact Sj (ni _ _ _ hok)
  ·rw[if_neg hok] at h;exact absurd h (by decide)
 case index t x i=>exact Sj (qeA _ _ _)
 case indexAddr t x i=>exact Sj (nh _ _ _)
 case slice t x lo hi mx=>exact Sj (ng _ _ _ _ _)
 case extract x i=>exact Sj (nj _ _)
 case call c =>
  have hc:ar c=true:=by
   rcases Ym (ar c) with hc | hc
   ·exact hc
   ·rw[hc] at h;exact absurd h (by decide)
  obtain⟨callee,args,argTypes⟩:=c;have qnY:callee=.builtin .len:=by
   unfold ar at hc;dsimp only at hc;split at hc
   ·rfl
   ·cases hc
  subst qnY;simp only[Hs,hc,Bool.not_true,Yr] at hd;obtain⟨l⟩:=args
  match l,hd with
  |[x],hd =>
   simp only at hd;have hl:Ii P (Builtin.len_ argTypes type #[ρ x]):=by
    unfold Builtin.len_;cases hx:ρ x <;> rw[hx] at hd <;> simp only[Value.hasLen,Bool.false_eq_true] at hd <;>
     repeat' (first
      |exact Js _ | exact Zn (Ji _) | exact Jh _
      |(exfalso;rename_i heq;simp at heq;done)
      |(refine Kj ?_ fun _=>?_) | split | dsimp only)
   have he:(do let d <-resolve ρ { callee:=.builtin .len,args:=[x].toArray,argTypes:=argTypes } type;invoke d.target d.args:Sem Next)=(do pure (.value (<-Builtin.len_ argTypes type #[ρ x]))):=by
    simp[resolve,invoke,builtin]
   rw[he];exact Sj hl
end Go.Proofs.YtmaojnmnbpomeaaGreatDoor.Text
namespace Go.Proofs.YtmaojnmnbpomeaaGreatDoor.Text
open Go
variable {P:Program} {ops:Array Oper}
def Cr(a a':Act)(d:Option Tmp):Prop:=∃ u ds,a'=({ a with defers:=ds }:Act).put d u
theorem Jf(a:Act)(d:Option Tmp)(u:Value):Cr a (a.put d u) d:=⟨u,a.defers,rfl⟩
def Y1(P:Program)(ops:Array Oper)(o:Oper)(v:Value)(a:Act)(w:World):Prop :=
 (Region.wanted o (yielded ops a.tmps)=true/\(execOp a.eval o).run P w=.ok (.value v) w)\/(Region.wanted o (yielded ops a.tmps)=false/\v=undef)
def tc:Exit->Act->World->Prop:=fun _ _ _=>False
def pE(P:Program)(ops:Array Oper)(c:Nat)(o:Oper)(K:Act->World->Prop)(a:Act)(w:World):Prop :=
 match c with
 |0=>∃ v,Yields P ops o v a/\K (a.put o.dst v) w
 |1=>∃ v,Y1 P ops o v a w/\K (a.put o.dst v) w
 |_=>if Region.wanted o (yielded ops a.tmps)=true then o.wp P a w K tc else K (a.put o.dst undef) w
theorem Ba{o:Oper}{a:Act}{w:World}{K:Act->World->Prop}{Q:Exit->Act->World->Prop}(hQ:∀ e a w,e≠.normal->¬ Q e a w)(h:o.wp P a w K Q):∃ a' w',Cr a a' o.dst/\K a' w':=by
 unfold Oper.wp at h;generalize (execOp a.eval o).run P w=r at h;cases r with
 |ok n w' =>
  cases n <;> simp only[Oper.upon] at h
  case value v=>exact⟨_,w',Jf _ _ _,h⟩
  case skip=>exact⟨_,w',Jf _ _ _,h⟩
  case defer d=>exact⟨_,w',⟨undef,_,rfl⟩,h⟩
  case enter f args =>
   obtain⟨e,w'',fr,he,_⟩:=h [];cases e with
   |returned v=>exact⟨_,w'',Jf _ _ _,he⟩
   |panicked c=>exact absurd he (hQ _ _ _ (by simp))
   |outgrown=>obtain⟨a2,w2,h2⟩:=(he:LetsOut Q);exact absurd h2 (hQ _ _ _ (by simp))
  case row row args =>
   obtain⟨v,w'',he,_⟩:=h default [];exact⟨_,w'',Jf _ _ _,he⟩
 |halt x w' =>
  cases x <;> simp only[Oper.upon] at h
  case panic v=>exact absurd h (hQ _ _ _ (by simp))
theorem iV:∀(e:Exit)(a:Act)(w:World),e≠.normal->¬ tc e a w:=fun _ _ _ _ h=>h
theorem aV:¬ LetsOut tc:=fun⟨_,_,h⟩=>h
theorem kS{o:Oper}{a:Act}{w:World}{K K':Act->World->Prop}{dst:Option Tmp}{v:Value}
  (Wp:∀ cs b,o.op≠.select cs b) (h1:∀ d,dst=some d->d∉o.looksAt ops) (h2:∀ d,dst=some d->o.dst≠some d)
  (hK:∀ a' w',Cr a a' o.dst->K a' w'->K' (a'.put dst v) w') (h:o.wp P a w K tc):o.wp P (a.put dst v) w K' tc:=by
 unfold Oper.wp at *;rw[execOp_put (ops:=ops) o Wp a dst v h1];generalize (execOp a.eval o).run P w=r at *;cases r with
 |ok n w' =>
  cases n <;> simp only[Oper.upon] at h |-
  case value u=>rw[Act.put_comm a v u h2];exact hK _ _ (Jf _ _ _) h
  case skip=>rw[Act.put_comm a v undef h2];exact hK _ _ (Jf _ _ _) h
  case defer d =>
   rw[Act.put_defers,Act.put_comm _ v undef h2];exact hK _ _ ⟨undef,_,rfl⟩ h
  case enter f args =>
   refine Calls.mono h fun e w'' he=>?_;cases e with
   |returned u=>simp only at he |-;rw[Act.put_comm a v u h2];exact hK _ _ (Jf _ _ _) he
   |panicked c=>exact he
   |outgrown=>exact he
  case row row args=>exact Rows.mono h fun u w'' he=>by rw[Act.put_comm a v u h2];exact hK _ _ (Jf _ _ _) he
 |halt x w'=>cases x <;> simp only[Oper.upon] at h |- <;> exact h
theorem fE{o:Oper}{a:Act}{w:World}{K K':Act->World->Prop}{dst:Option Tmp}{v:Value}
  (Wp:∀ cs b,o.op≠.select cs b) (h1:∀ d,dst=some d->d∉o.looksAt ops) (h2:∀ d,dst=some d->o.dst≠some d)
  (hK:∀ a' w',Cr a a' o.dst->K (a'.put dst v) w'->K' a' w') (h:o.wp P (a.put dst v) w K tc):o.wp P a w K' tc:=by
 unfold Oper.wp at *;rw[execOp_put (ops:=ops) o Wp a dst v h1] at h;generalize (execOp a.eval o).run P w=r at *;cases r with
 |ok n w' =>
  cases n <;> simp only[Oper.upon] at h |-
  case value u=>rw[Act.put_comm a v u h2] at h;exact hK _ _ (Jf _ _ _) h
  case skip=>rw[Act.put_comm a v undef h2] at h;exact hK _ _ (Jf _ _ _) h
  case defer d =>
   rw[Act.put_defers,Act.put_comm _ v undef h2] at h;exact hK _ _ ⟨undef,_,rfl⟩ h
  case enter f args =>
   refine Calls.mono h fun e w'' he=>?_;cases e with
   |returned u=>simp only at he |-;rw[Act.put_comm a v u h2] at he;exact hK _ _ (Jf _ _ _) he
   |panicked c=>exact he
   |outgrown=>exact he
  case row row args=>exact Rows.mono h fun u w'' he=>by rw[Act.put_comm a v u h2] at he;exact hK _ _ (Jf _ _ _) he
 |halt x w'=>cases x <;> simp only[Oper.upon] at h |- <;> exact h
theorem En{o:Oper}{v:Value}{a a':Act}{d:Option Tmp}(Wp:∀ cs b,o.op≠.select cs b)(h1:∀ t,d=some t->t∉o.looksAt ops)(hs:Cr a a' d) :
  Yields P ops o v a↔Yields P ops o v a':=by
 obtain⟨u,ds,rfl⟩:=hs;have e1:execOp (({ a with defers:=ds }:Act).put d u).eval o=execOp a.eval o:=(execOp_put (ops:=ops) o Wp _ d u h1).trans rfl;have e2:Region.wanted o (yielded ops (({ a with defers:=ds }:Act).put d u).tmps)=Region.wanted o (yielded ops a.tmps):=wanted_put o _ d u h1;exact⟨fun h=>h.of_same e1 e2,fun h=>h.of_same e1.symm e2.symm⟩
theorem fA{o:Oper}{v v':Value}{a:Act}(w:World)(h:Yields P ops o v a)(h':Yields P ops o v' a):v=v':=by
 rcases h with ⟨hw,h⟩ | ⟨hw,rfl⟩ <;> rcases h' with ⟨av,h'⟩ | ⟨av,rfl⟩
 ·have:=(h w).symm.trans (h' w);injection this with h1 _;injection h1
 ·rw[hw] at av;cases av
 ·rw[hw] at av;cases av
 ·rfl
theorem dg{o:Oper}{v:Value}{a:Act}{w:World}{d:Option Tmp}{u:Value}(Wp:∀ cs b,o.op≠.select cs b)(h1:∀ t,d=some t->t∉o.looksAt ops) :
  Y1 P ops o v (a.put d u) w↔Y1 P ops o v a w:=by
 unfold Y1;rw[execOp_put (ops:=ops) o Wp a d u h1,wanted_put o a d u h1]
theorem rL{c:Nat}{o:Oper}{K K':Act->World->Prop}{a:Act}{w:World}(h:∀ a w,K a w->K' a w)(hh:pE P ops c o K a w):pE P ops c o K' a w:=by
 unfold pE at *;split at hh
 ·obtain⟨v,h1,h2⟩:=hh;exact⟨v,h1,h _ _ h2⟩
 ·obtain⟨v,h1,h2⟩:=hh;exact⟨v,h1,h _ _ h2⟩
 ·split at hh
  ·rename_i hw;rw[if_pos hw];exact Oper.wp_mono h hh
  ·rename_i hw;rw[if_neg hw];exact h _ _ hh
theorem qkR{c:Nat}{o:Oper}{K:Act->World->Prop}{a:Act}{w:World}(hh:pE P ops c o K a w):∃ a' w',Cr a a' o.dst/\K a' w':=by
 unfold pE at hh;split at hh
 ·obtain⟨v,_,h⟩:=hh;exact⟨_,_,Jf _ _ _,h⟩
 ·obtain⟨v,_,h⟩:=hh;exact⟨_,_,Jf _ _ _,h⟩
 ·split at hh
  ·exact Ba iV hh
  ·exact⟨_,_,Jf _ _ _,hh⟩
theorem qtA{c:Nat}{o:Oper}{K K':Act->World->Prop}{a:Act}{w:World}{dst:Option Tmp}{v:Value}
  (Wp:∀ cs b,o.op≠.select cs b) (h1:∀ d,dst=some d->d∉o.looksAt ops) (h2:∀ d,dst=some d->o.dst≠some d)
  (hK:∀ a' w',Cr a a' o.dst->K a' w'->K' (a'.put dst v) w') (hh:pE P ops c o K a w):pE P ops c o K' (a.put dst v) w:=by
 unfold pE at *;split at hh
 ·obtain⟨u,hy,h⟩:=hh;refine⟨u,(En Wp h1 (Jf a dst v)).1 hy,?_⟩;rw[Act.put_comm a v u h2];exact hK _ _ (Jf _ _ _) h
 ·obtain⟨u,hy,h⟩:=hh;refine⟨u,(dg Wp h1).2 hy,?_⟩;rw[Act.put_comm a v u h2];exact hK _ _ (Jf _ _ _) h
 ·rw[wanted_put o a dst v h1];split at hh
  ·rename_i hw;rw[if_pos hw];exact kS Wp h1 h2 hK hh
  ·rename_i hw;rw[if_neg hw,Act.put_comm a v undef h2];exact hK _ _ (Jf _ _ _) hh
theorem qdO{c:Nat}{o:Oper}{K K':Act->World->Prop}{a:Act}{w:World}{dst:Option Tmp}{v:Value}
  (Wp:∀ cs b,o.op≠.select cs b) (h1:∀ d,dst=some d->d∉o.looksAt ops) (h2:∀ d,dst=some d->o.dst≠some d)
  (hK:∀ a' w',Cr a a' o.dst->K (a'.put dst v) w'->K' a' w') (hh:pE P ops c o K (a.put dst v) w):pE P ops c o K' a w:=by
 unfold pE at *;split at hh
 ·obtain⟨u,hy,h⟩:=hh;refine⟨u,(En Wp h1 (Jf a dst v)).2 hy,?_⟩;rw[Act.put_comm a v u h2] at h;exact hK _ _ (Jf _ _ _) h
 ·obtain⟨u,hy,h⟩:=hh;refine⟨u,(dg Wp h1).1 hy,?_⟩;rw[Act.put_comm a v u h2] at h;exact hK _ _ (Jf _ _ _) h
 ·rw[wanted_put o a dst v h1] at hh;split at hh
  ·rename_i hw;rw[if_pos hw];exact fE Wp h1 h2 hK hh
  ·rename_i hw;rw[if_neg hw];rw[Act.put_comm a v undef h2] at hh;exact hK _ _ (Jf _ _ _) hh
theorem swap{cx cy:Nat}{x y:Oper}{K:Act->World->Prop}{a:Act}{w:World}(Ld:∀ cs b,x.op≠.select cs b)(hsy:∀ cs b,y.op≠.select cs b)
  (hap:x.apart ops y=true) (hc:cx=0\/cy=0\/(cx=1/\cy=1)) (h:pE P ops cx x (pE P ops cy y K) a w):pE P ops cy y (pE P ops cx x K) a w:=by
 obtain⟨p1,p2,p3⟩:=Oper.apart_spec hap;have p2':∀ d,y.dst=some d->x.dst≠some d:=fun d hd hx=>p2 d hx hd;rcases hc with rfl | rfl | ⟨rfl,rfl⟩
 ·obtain⟨v,hy,h2⟩:=h;exact qdO hsy p1 p2 (fun a' w' hs hk=>⟨v,(En Ld p3 hs).1 hy,hk⟩) h2
 ·obtain⟨a1,w1,hs,v,hy,_⟩:=qkR h;have hy0:=(En hsy p1 hs).2 hy;refine⟨v,hy0,qtA Ld p3 p2' (fun a' w' hs' hk=>?_) h⟩;obtain⟨v',hy',hk⟩:=hk;have:=fA w' hy' ((En hsy p1 hs').1 hy0);subst this;exact hk
 ·obtain⟨v,hy,u,hu,hk⟩:=h;refine⟨u,(dg hsy p1).1 hu,v,(dg Ld p3).2 hy,?_⟩;rw[<-Act.put_comm a v u p2];exact hk
def pY(P:Program)(ops:Array Oper)(cl:Nat->Nat)(Q:Act->World->Prop):List Nat->Act->World->Prop
 |[],a,w=>Q a w
 |i::r,a,w=>match ops[i]? with
  |none=>pY P ops cl Q r a w
  |some o=>pE P ops (cl i) o (pY P ops cl Q r) a w
def ij(ops:Array Oper)(cl:Nat->Nat)(i j:Nat):Bool :=
 match ops[i]?,ops[j]? with
 |some x,some y=>x.apart ops y&&(cl i==0||cl j==0||(cl i==1&&cl j==1))
 |_,_=>true
theorem qbT{cl:Nat->Nat}{Q:Act->World->Prop}(Wp:Region.noSelect ops=true)(i:Nat)(l2:List Nat):∀(l1:List Nat)(a:Act)(w:World),(∀ x∈l1,ij ops cl x i=true) ->
  pY P ops cl Q (l1++i::l2) a w->pY P ops cl Q (i::(l1++l2)) a w
 |[],_,_,_,h=>h
 |x::l1,a,w,hc,h=>by
  have hx:=hc x (by simp);have ih:=fun a w=>qbT (cl:=cl) (Q:=Q) Wp i l2 l1 a w (fun y hy=>hc y (by simp[hy]));cases hox:ops[x]? with
  |none =>
   have h':pY P ops cl Q (l1++i::l2) a w:=by simpa[pY,hox] using h
   have:=ih a w h';unfold pY at this |-;split at this
   ·simpa[pY,hox] using this
   ·exact rL (fun a w hh=>by simpa[pY,hox] using hh) this
  |some ox =>
   have h1:pE P ops (cl x) ox (pY P ops cl Q (l1++i::l2)) a w:=by simpa[pY,hox] using h
   have h2:=rL ih h1;cases hoi:ops[i]? with
   |none=>simpa[pY,hox,hoi] using h2
   |some oi =>
    simp only[ij,hox,hoi,Yk,Ys,beq_iff_eq] at hx;have h3:pE P ops (cl x) ox (pE P ops (cl i) oi (pY P ops cl Q (l1++l2))) a w:=by simpa[pY,hoi] using h2
    have h4:=swap (fun cs b=>Region.noSelect_spec Wp x ox cs b hox) (fun cs b=>Region.noSelect_spec Wp i oi cs b hoi) hx.1 (by rcases hx.2 with (h | h) | h;exact .inl h;exact .inr (.inl h);exact .inr (.inr h)) h3;have h5:pE P ops (cl i) oi (pY P ops cl Q (x::(l1++l2))) a w:=rL (fun a w hh=>by simpa[pY,hox] using hh) h4;simpa[pY,hoi] using h5
end Go.Proofs.YtmaojnmnbpomeaaGreatDoor.Text
namespace Go.Proofs.YtmaojnmnbpomeaaGreatDoor.Text
open Go
variable {P:Program} {ops:Array Oper}
inductive Dep(ops:Array Oper):Nat->Nat->Prop
 |here {i:Nat} {o:Oper} {e:Edge} (ho:ops[i]? = some o) (he:e∈o.after) (hb:Region.binds .any e=true):Dep ops i e.on
 |there {i x:Nat} {o:Oper} {e:Edge} (ho:ops[i]? = some o) (he:e∈o.after) (hb:Region.binds .any e=true) (h:Dep ops e.on x):Dep ops i x
def qmA(acc:List Nat)(o:Oper):Nat:=o.after.toList.foldl (fun s e=>if Region.binds .any e then s ||| (2 ^ e.on ||| acc.getD e.on 0) else s) 0
def ac:List Oper->List Nat->List Nat
 |[],acc=>acc
 |o::r,acc=>ac r (acc++[qmA acc o])
theorem bj(acc:List Nat)(x:Nat):∀(l:List Edge)(s:Nat),(l.foldl (fun s e=>if Region.binds .any e then s ||| (2 ^ e.on ||| acc.getD e.on 0) else s) s).testBit x=true ->
  s.testBit x=true\/∃ e∈l,Region.binds .any e=true/\(e.on=x\/(acc.getD e.on 0).testBit x=true)
 |[],s,h=>.inl h
 |e::l,s,h=>by
  rw[List.foldl_cons] at h;rcases bj acc x l _ h with h1 | ⟨e',wO,hb,h1⟩
  ·split at h1
   ·rename_i hb;rw[Nat.testBit_or,Nat.testBit_or,Ys,Ys] at h1;rcases h1 with h1 | h1 | h1
    ·exact .inl h1
    ·refine .inr ⟨e,by simp,hb,.inl ?_⟩;rw[Nat.testBit_two_pow] at h1;simpa using h1
    ·exact .inr ⟨e,by simp,hb,.inr h1⟩
   ·exact .inl h1
  ·exact .inr ⟨e',by simp[wO],hb,h1⟩
theorem Pe:∀(l:List Oper)(acc:List Nat),(∀ j,l[j]? = ops[acc.length+j]?)->(∀ i x,i<acc.length->(acc.getD i 0).testBit x=true->Dep ops i x) ->
  ∀ i x,((ac l acc).getD i 0).testBit x=true->Dep ops i x
 |[],acc,_,h,i,x,hb=>by
  rcases Nat.lt_or_ge i acc.length with hi | hi
  ·exact h i x hi hb
  ·simp[ac,Xf hi] at hb
 |o::r,acc,hl,h,i,x,hb=>by
  refine Pe r (acc++[qmA acc o]) (fun j=>?_) (fun i x hi hb=>?_) i x hb
  ·have:=hl (j+1);simp only[List.getElem?_cons_succ] at this;rw[this,Qe,Qf];congr 1;omega
  ·rw[Qe,Qf] at hi;by_cases hia:i<acc.length
   ·rw[Qb,Qo hia,<-Qb] at hb;exact h i x hia hb
   ·have hie:i=acc.length:=by omega
    subst hie;rw[Qb,Qn (Xz _)] at hb;simp only[Nat.sub_self,List.getElem?_cons_zero,Option.getD_some] at hb;have ho:ops[acc.length]? = some o:=by simpa using (hl 0).symm
    rcases bj acc x _ _ hb with h1 | ⟨e,he,hbi,h1⟩
    ·simp at h1
    ·rcases h1 with rfl | h1
     ·exact .here ho (by simpa using he) hbi
     ·rcases Nat.lt_or_ge e.on acc.length with Jo | hge
      ·exact .there ho (by simpa using he) hbi (h _ _ Jo h1)
      ·simp[Xf hge] at h1
def bP(ops:Array Oper):Bool:=(List.range ops.size).all fun i=>match ops[i]? with
 |some o=>o.after.all fun e=>!Region.binds .any e||decide (e.on<i)
 |none=>true
def xy(ops:Array Oper)(cl:Nat->Nat):Bool :=
 let m:=ac ops.toList []
 (List.range ops.size).all fun i=>(List.range i).all fun x=>(m.getD i 0).testBit x||ij ops cl x i
theorem xx{cl:Nat->Nat}(h:xy ops cl=true){i x:Nat}(hi:i<ops.size)(hx:x<i):Dep ops i x\/ij ops cl x i=true:=by
 have h1:=Xp.1 h i (Xy.2 hi);have h2:=Xp.1 h1 x (Xy.2 hx);rw[Ys] at h2;rcases h2 with h2 | h2
 ·exact .inl (Pe ops.toList [] (by simp) (fun i x hi=>absurd hi (by simp)) i x h2)
 ·exact .inr h2
def js(ops:Array Oper)(listed:Array Bool):Prop:=∀ j o,ops[j]? = some o->listed.getD j false=true->∀ e∈o.after,Region.binds .any e=true->listed.getD e.on false=true
theorem Cc{listed:Array Bool}(hc:js ops listed){i x:Nat}(h:Dep ops i x) :
  (∀ o,ops[i]? = some o->∀ e∈o.after,Region.binds .any e=true->listed.getD e.on false=true)->listed.getD x false=true:=by
 induction h with
 |here ho he hb=>intro h;exact h _ ho _ he hb
 |there ho he hb _ ih=>intro h;exact ih fun o' wL=>hc _ o' wL (h _ ho _ he hb)
theorem Fe{listed:Array Bool}{n i:Nat}(hn:listed.size=n)(hi:i<n):listed.getD i true=listed.getD i false:=by
 subst hn;simp[hi]
theorem kl{i c:Nat}{o:Oper}{K:Act->World->Prop}{Q:Exit->Act->World->Prop}{a:Act}{w:World}(ho:ops[i]? = some o)(h:pE P ops c o K a w):wpOp P ops Q i K a w:=by
 unfold wpOp;simp only[ho];unfold pE at h;split at h
 ·obtain⟨v,hy,hk⟩:=h;rcases hy with ⟨hw,hv⟩ | ⟨hw,rfl⟩
  ·rw[if_pos hw];left;unfold Oper.wp;rw[hv w];exact hk
  ·rw[if_neg (by simp[hw])];exact hk
 ·obtain⟨v,hy,hk⟩:=h;rcases hy with ⟨hw,hv⟩ | ⟨hw,rfl⟩
  ·rw[if_pos hw];left;unfold Oper.wp;rw[hv];exact hk
  ·rw[if_neg (by simp[hw])];exact hk
 ·split at h
  ·rename_i hw;rw[if_pos hw];left;unfold Oper.wp at *;generalize (execOp a.eval o).run P w=r at *;cases r with
   |ok n w' =>
    cases n <;> simp only[Oper.upon] at h |- <;> first
     |exact h
     |exact Calls.mono h fun e w'' he=>by
       cases e with
       |returned u=>exact he
       |panicked c=>exact absurd he id
       |outgrown=>exact absurd he aV
   |halt x w'=>cases x <;> simp only[Oper.upon] at h |- <;> first | exact h | exact absurd h id
  ·rename_i hw;rw[if_neg hw];exact h
theorem qpP{cl:Nat->Nat}{Q:Exit->Act->World->Prop}(Wp:Region.noSelect ops=true)(Bz:bP ops=true)(hp:xy ops cl=true) :
  ∀(rem:List Nat)(listed:Array Bool)(a:Act)(w:World),listed.size=ops.size->rem.Pairwise (·<·)->(∀ j,j∈rem↔j<ops.size/\listed.getD j false=false)->js ops listed ->
   pY P ops cl (fun a w=>Q .normal a w) rem a w->wpAny P .any ops Q rem.length listed a w:=by
 intro rem
 induction hn:rem.length generalizing rem with
 |zero =>
  intro listed a w hs _ hm _ h;have he:rem=[]:=Xv hn;subst he;refine⟨?_,h⟩;apply List.eq_nil_iff_forall_not_mem.2;intro j hj;obtain⟨h0,o,ho,_⟩:=mem_ready.1 hj;have Jo:j<ops.size:=(gl ho);rw[Fe hs Jo] at h0;exact absurd ((hm j).2 ⟨Jo,h0⟩) (by simp)
 |succ n ih =>
  intro listed a w hs wJ hm hc h;have tQ:Region.ready .any ops listed≠[]:=by
   cases hr:rem with
   |nil=>rw[hr] at hn;cases hn
   |cons i0 r =>
    have qa:=(hm i0).1 (by rw[hr];simp);intro xZ;have Uz:i0∈Region.ready .any ops listed:=by
     refine mem_ready.2 ⟨by rw[Fe hs qa.1];exact qa.2,ops[i0],Array.getElem?_eq_getElem qa.1,fun e he hb=>?_⟩;have h1:=Xp.1 Bz i0 (Xy.2 qa.1);simp only[Array.getElem?_eq_getElem qa.1] at h1;have h2:=Array.all_eq_true_iff_forall_mem.1 h1 e he;simp only[hb,Bool.not_true,Yr,Yi] at h2;rcases Ym (listed.getD e.on false) with h3 | h3
     ·exact h3
     ·have h4:=(hm e.on).2 ⟨by omega,h3⟩;rw[hr] at h4 wJ;rcases List.mem_cons.1 h4 with h5 | h5
      ·omega
      ·have:=(Qx.1 wJ).1 _ h5;omega
    rw[xZ] at Uz;cases Uz
  refine⟨fun h0=>absurd h0 tQ,fun i hi=>?_⟩;obtain⟨h0,o,ho,Vj⟩:=mem_ready.1 hi;have Jo:i<ops.size:=(gl ho);rw[Fe hs Jo] at h0;have hir:i∈rem:=(hm i).2 ⟨Jo,h0⟩;obtain⟨l1,l2,hl⟩:=List.append_of_mem hir;subst hl;rw[List.pairwise_append] at wJ;obtain⟨pw1,pw2,pw3⟩:=wJ;have mz:=Qx.1 pw2;have hf:=qbT Wp i l2 l1 a w (fun x hx=>by
   have hxi:x<i:=pw3 x hx i (by simp)
   rcases xx hp Jo hxi with hd | hcp
   ·have:=Cc hc hd (fun o' wL e he hb=>by rw[ho] at wL;injection wL with e2;subst e2;exact Vj e he hb)
    have h2:=((hm x).1 (by simp[hx])).2
    rw[this] at h2
    cases h2
   ·exact hcp) h
  have hst:pE P ops (cl i) o (pY P ops cl (fun a w=>Q .normal a w) (l1++l2)) a w:=by simpa[pY,ho] using hf
  refine wpOp_mono (fun a' w' hh=>?_) (kl (Q:=Q) ho hst);have hlen:(l1++l2).length=n:=by simp at hn |-;omega
  refine ih (l1++l2) hlen (listed.setIfInBounds i true) a' w' (by simpa using hs) ?_ (fun j=>?_) ?_ hh
  ·rw[List.pairwise_append];exact⟨pw1,mz.2,fun x hx y hy=>pw3 x hx y (by simp[hy])⟩
  ·by_cases Td:j=i
   ·subst Td;constructor
    ·intro hj;rcases Qh.1 hj with h5 | h5
     ·have:=pw3 j h5 j (by simp);omega
     ·have:=mz.1 j h5;omega
    ·intro ⟨_,h5⟩;have:j<listed.size:=by omega
     simp[this] at h5
   ·rw[getD_set_ne false (Ne.symm Td),<-hm j];simp[Td]
  ·intro j oj wK hj e he hb;by_cases Td:j=i
   ·subst Td;rw[ho] at wK;injection wK with e2;subst e2;exact getD_set_true (Vj e he hb)
   ·rw[getD_set_ne false (Ne.symm Td)] at hj;exact getD_set_true (hc j oj wK hj e he hb)
end Go.Proofs.YtmaojnmnbpomeaaGreatDoor.Text
namespace Go.Proofs.YtmaojnmnbpomeaaGreatDoor.Text
open Go
variable {P:Program} {ops:Array Oper}
def Ef(ops:Array Oper)(i:Nat)(o:Oper):Bool:=(o.looksAt ops).all fun t=>(List.range ops.size).all fun j=>decide (j<i)||match ops[j]? with
 |some oj=>oj.dst != some t
 |none=>true
def qhT(P:Program)(ops:Array Oper)(ex:List Nat)(i:Nat):Nat :=
 match ops[i]? with
 |none=>2
 |some o=>if ex.contains i then 2 else if Er o&&!Ef ops i o then 2 else jQ P o
def chk(ops:Array Oper)(ex:List Nat)(a:Act):Bool:=(List.range ops.size).all fun i=>ex.contains i||match ops[i]? with
 |some o=>!Er o||!Region.wanted o (yielded ops a.tmps)||Hs a.eval o
 |none=>true
def kB(ops:Array Oper)(ex:List Nat)(Q:Exit->Act->World->Prop):Exit->Act->World->Prop:=fun e a w=>e=.normal/\chk ops ex a=true/\Q .normal a w
theorem sW(ex:List Nat)(Q:Exit->Act->World->Prop):∀(e:Exit)(a:Act)(w:World),e≠.normal->¬ kB ops ex Q e a w:=fun _ _ _ h h2=>h h2.1
theorem yg{ex:List Nat}{Q:Exit->Act->World->Prop}{a:Act}{w:World}(h1:chk ops ex a=true)(h2:Q .normal a w):kB ops ex Q .normal a w:=⟨rfl,h1,h2⟩
theorem Oy(ex:List Nat)(Q:Exit->Act->World->Prop):¬ LetsOut (kB ops ex Q):=fun⟨_,_,h⟩=>by cases h.1
theorem qcY{o:Oper}{a:Act}{w:World}{ex:List Nat}{Q:Exit->Act->World->Prop}{K:Act->World->Prop}(h:o.wp P a w K (kB ops ex Q)):o.wp P a w K tc:=by
 unfold Oper.wp at *;generalize (execOp a.eval o).run P w=r at *;cases r with
 |ok n w' =>
  cases n <;> simp only[Oper.upon] at h |- <;> first
   |exact h
   |exact Calls.mono h fun e w'' he=>by
     cases e with
     |returned u=>exact he
     |panicked c=>exact absurd he (sW _ _ _ _ _ (by simp))
     |outgrown=>exact absurd he (Oy _ _)
 |halt x w'=>cases x <;> simp only[Oper.upon] at h |- <;> first | exact h | exact absurd h (sW _ _ _ _ _ (by simp))
def jd(ops:Array Oper)(idx:List Nat)(a a':Act):Prop:=∀ t,(∀ i∈idx,∀ o,ops[i]? = some o->o.dst≠some t)->a'.tmps[t]? = a.tmps[t]?
theorem rS{a a':Act}{d:Option Tmp}(h:Cr a a' d){t:Tmp}(ht:d≠some t):a'.tmps[t]? = a.tmps[t]? := by
 obtain⟨u,ds,rfl⟩:=h;cases d with
 |none=>rfl
 |some d =>
  have:d≠t:=fun e=>ht (by rw[e]);simp[Act.put,Array.getElem?_setIfInBounds_ne this]
theorem reach{ex:List Nat}{Q:Exit->Act->World->Prop}:∀(idx:List Nat)(a:Act)(w:World),wpOps P ops (kB ops ex Q) idx a w->∃ a',chk ops ex a'=true/\jd ops idx a a'
 |[],a,w,h=>⟨a,(show kB ops ex Q .normal a w from h).2.1,fun _ _=>rfl⟩
 |i::r,a,w,h=>by
  unfold wpOps at h;cases ho:ops[i]? with
  |none =>
   simp only[ho] at h;obtain⟨a',h1,h2⟩:=reach r a w h;exact⟨a',h1,fun t ht=>h2 t fun j hj=>ht j (by simp[hj])⟩
  |some o =>
   simp only[ho] at h;have hn:∃ a1 w1,Cr a a1 o.dst/\wpOps P ops (kB ops ex Q) r a1 w1:=by
    split at h
    ·rcases h with h | ⟨_,h⟩
     ·exact Ba (sW _ _) h
     ·exact absurd h (Oy _ _)
    ·exact⟨_,_,Jf _ _ _,h⟩
   obtain⟨a1,w1,hs,h1⟩:=hn;obtain⟨a',h2,h3⟩:=reach r a1 w1 h1;exact⟨a',h2,fun t ht=>(h3 t fun j hj=>ht j (by simp[hj])).trans (rS hs (ht i (by simp) o ho))⟩
theorem uM{a a':Act}{x:Operand}(h:∀ t,x=.tmp t->a'.tmps[t]? = a.tmps[t]?):a'.eval x=a.eval x:=by
 cases x with
 |tmp t=>simp[Act.eval,h t rfl]
 |_=>rfl
theorem mJ{ρ ρ':Operand->Value}{o:Oper}(h:∀ x∈o.op.operands,ρ' x=ρ x):Hs ρ' o=Hs ρ o:=by
 obtain⟨dst,op,type,pos,after,guard⟩:=o;cases op <;> simp only[Hs]
 case binOp op t x y yt=>rw[h x (by simp[Op.operands]),h y (by simp[Op.operands])]
 case unOp op t x=>rw[h x (by simp[Op.operands])]
 case nilCheck x=>rw[h x (by simp[Op.operands])]
 case convert s d x=>rw[h x (by simp[Op.operands])]
 case call c =>
  obtain⟨callee,⟨l⟩,ts⟩:=c
  match l with
  |[]=>rfl
  |[x]=>simp only;rw[h x (by simp[Op.operands,Call.operands])]
  |x::y::r=>rfl
theorem qmD{ex:List Nat}{Q:Exit->Act->World->Prop}:∀(n k:Nat)(a:Act)(w:World),k+n=ops.size->wpOps P ops (kB ops ex Q) (List.range' k n) a w ->
  pY P ops (qhT P ops ex) (fun a w=>Q .normal a w) (List.range' k n) a w
 |0,k,a,w,_,h=>(show kB ops ex Q .normal a w from h).2.2
 |n+1,k,a,w,hk,h=>by
  rw[List.range'_succ] at h |-;obtain⟨a',fz,qnH⟩:=reach _ a w h;have Jo:k<ops.size:=by omega
  have ho:=Array.getElem?_eq_getElem Jo;generalize ops[k]=o at ho;have ih:∀ a w,wpOps P ops (kB ops ex Q) (List.range' (k+1) n) a w->pY P ops (qhT P ops ex) (fun a w=>Q .normal a w) (List.range' (k+1) n) a w:=fun a w=>qmD n (k+1) a w (by omega);unfold wpOps at h;simp only[ho] at h;unfold pY;simp only[ho];by_cases hw:Region.wanted o (yielded ops a.tmps)=true
  ·rw[if_pos hw] at h;have h1:o.wp P a w (wpOps P ops (kB ops ex Q) (List.range' (k+1) n)) (kB ops ex Q):=h.resolve_right fun h=>Oy _ _ h.2;have h2:=Oper.wp_mono ih (qcY h1);have dP:∀(hp:∀ n w',(execOp a.eval o).run P w=.ok n w'->w'=w/\∃ v,n=.value v),∃ v,(execOp a.eval o).run P w=.ok (.value v) w/\pY P ops (qhT P ops ex) (fun a w=>Q .normal a w) (List.range' (k+1) n) (a.put o.dst v) w:=by
    intro hp;unfold Oper.wp at h2;cases hr:(execOp a.eval o).run P w with
    |ok n1 w1 =>
     obtain⟨rfl,v,rfl⟩:=hp n1 w1 hr;rw[hr] at h2;exact⟨v,rfl,h2⟩
    |halt x w1 =>
     rw[hr] at h2;cases x <;> exact absurd h2 id
   unfold pE;split
   ·rename_i hc;have ziI:qiF P (execOp a.eval o):=by
     unfold qhT at hc;simp only[ho] at hc;split at hc
     ·cases hc
     rename_i hex;split at hc
     ·cases hc
     rename_i hst;refine uS hc ?_;by_cases Id:Er o=true
     ·have qmW:Ef ops k o=true:=by
       rw[Id] at hst;simpa using hst
      have Ky:∀ t∈o.looksAt ops,a'.tmps[t]? = a.tmps[t]? := by
       intro t ht;refine qnH t fun j hj oj wK=>?_;have h5:=Xp.1 qmW t ht;have fu:k<=j/\j<ops.size:=by
        rcases List.mem_cons.1 hj with rfl | hj
        ·exact⟨Xz _,Jo⟩
        ·have:=List.mem_range'_1.1 hj;omega
       have h6:=Xp.1 h5 j (Xy.2 fu.2);simp only[wK,Ys,Yi,bne_iff_ne] at h6;rcases h6 with h6 | h6
       ·omega
       ·exact h6
      have hc2:=Xp.1 fz k (Xy.2 Jo);simp only[ho,Ys,Id,Bool.not_true,Bool.false_eq_true,false_or] at hc2;have fp:∀ x∈o.op.operands,a'.eval x=a.eval x:=fun x hx=>uM fun t hxt=>Ky t (List.mem_append_left _ (List.mem_filterMap.2 ⟨x,by simpa using hx,by rw[hxt]⟩));have jE:Region.wanted o (yielded ops a'.tmps)=Region.wanted o (yielded ops a.tmps):=by
       unfold Region.wanted;cases hg:o.guard with
       |none=>rfl
       |some gw =>
        obtain⟨g,want⟩:=gw;have hy:yielded ops a'.tmps g=yielded ops a.tmps g:=by
         unfold yielded;cases hb:(ops[g]?).bind (·.dst) with
         |none=>rfl
         |some t =>
          have:=Ky t (List.mem_append_right _ (by simp[hg,hb]));simp[this]
        simp only[hy]
      rcases hc2 with hc2 | hc2 | hc2
      ·exact absurd hc2 hex
      ·rw[jE,hw] at hc2;cases hc2
      ·rw[mJ fp] at hc2;exact hc2
     ·unfold Er at Id;unfold Hs;split at Id <;> first | (exact absurd rfl Id) | rfl | (split <;> first | rfl | (simp_all;done))
    obtain⟨v,hv,oK⟩:=dP fun n w' hr=>let ⟨e,v,hn,_⟩:=ziI w n w' hr;⟨e,v,hn⟩;obtain⟨_,v',hn,Vj⟩:=ziI _ _ _ hv;injection hn with hn;subst hn;exact⟨v,.inl ⟨hw,Vj⟩,oK⟩
   ·rename_i hc;have ke:∃ t x,o.op=.load t x:=by
     unfold qhT at hc;simp only[ho] at hc;split at hc
     ·cases hc
     split at hc
     ·cases hc
     unfold jQ at hc
     repeat' (split at hc)
     all_goals first | (cases hc;done) | exact⟨_,_,by assumption⟩
    obtain⟨t,x,qF⟩:=ke;have hr:zcB P (execOp a.eval o):=by
     obtain⟨dst,op,type,pos,after,guard⟩:=o;simp only at qF;subst qF;exact qaU (sH _ _)
    obtain⟨v,hv,oK⟩:=dP fun n w' h=>hr w n w' h;exact⟨v,.inl ⟨hw,hv⟩,oK⟩
   ·rw[if_pos hw];exact h2
  ·rw[if_neg hw] at h;have h2:=ih _ _ h;have hwf:Region.wanted o (yielded ops a.tmps)=false:=by simpa using hw
   unfold pE;split
   ·exact⟨undef,.inr ⟨hwf,rfl⟩,h2⟩
   ·exact⟨undef,.inr ⟨hwf,rfl⟩,h2⟩
   ·rw[if_neg hw];exact h2
def qaM(P:Program)(ops:Array Oper)(ex:List Nat):Bool:=Region.noSelect ops&&bP ops&&xy ops (qhT P ops ex)
theorem qV{id:Nat}{Q:Exit->Act->World->Prop}{a:Act}{w:World}{l:List Oper}(ex:List Nat)(hm:P.follows .mixedOrders=true)(hB:qaM P l.toArray ex=true)
  (h:wpList P l.toArray (kB l.toArray ex Q) l a w.drew):(Code.region id l.toArray true).wp P Q a w:=by
 simp only[qaM,Yk] at hB;refine wp_region_any hm ?_;have h1:wpOps P l.toArray (kB l.toArray ex Q) (List.range' 0 l.length) a w.drew:=by
  rw[wpOps_eq_wpList l 0 (by simp)];exact h
 have h2:=qmD l.length 0 a w.drew (by simp) h1;have h3:=qpP hB.1.1 hB.1.2 hB.2 (List.range' 0 l.length) (Array.replicate l.toArray.size false) a w.drew (by simp) (List.pairwise_lt_range') (fun j=>by
  rw[List.mem_range'_1]
  constructor
  ·intro hj
   have Uh:j<l.length:=by simpa using hj.2
   exact⟨by simpa using Uh,by simp[Uh]⟩
  ·intro hj;have:=hj.1;simp at this;exact⟨by omega,by omega⟩) (fun j o ho hj=>by
   exfalso
   have:j<l.toArray.size:=(gl ho)
   simp at this
   simp[this] at hj) h2
 simpa using h3
theorem wp_text{id:Nat}{Q:Exit->Act->World->Prop}{a:Act}{w:World}{l:List Oper}(ex:List Nat)(hm:P.follows .mixedOrders=true)(hB:qaM P l.toArray ex=true)
  (h:∀ Q':Exit->Act->World->Prop,(∀ a w,chk l.toArray ex a=true/\Q .normal a w->Q' .normal a w)->wpList P l.toArray Q' l a w.drew):(Code.region id l.toArray true).wp P Q a w :=
 qV ex hm hB (h _ fun _ _ hh=>yg hh.1 hh.2)
theorem wt{id:Nat}{Q:Exit->Act->World->Prop}{a:Act}{w:World}{l:List Oper}(hm:(P.follows .mixedOrders&&qaM P l.toArray [])=true)
    (h:∀ Q':Exit->Act->World->Prop,(∀ a w,chk l.toArray [] a=true/\Q .normal a w->Q' .normal a w)->wpList P l.toArray Q' l a w.drew):(Code.region id l.toArray true).wp P Q a w:=wp_text [] (Bool.and_eq_true_iff.1 hm).1 (Bool.and_eq_true_iff.1 hm).2 h
end Go.Proofs.YtmaojnmnbpomeaaGreatDoor.Text
