/- A part. -/
import Derived.Test.YtmaojnmnbpomeaaGreatDoorVN00
import Derived.WalkSpells
import Derived.WalkLawsBesides
import Derived.Handy
import Derived.Lib.Hide
set_option maxRecDepth 100000
set_option maxHeartbeats 64000000
namespace Go.Proofs.YtmaojnmnbpomeaaGreatDoor
open Go.RowKit
variable{a:Act}{cs:Array Value}{Q:Exit->Act->World->Prop}{css:List (List Value)}{ts:List TypeId}{l:List UInt8}{news xs ys:List Value}{B base bytes c g k m n n2 qnE qrZ size:Nat}{fr:Nat×Nat}{s x:Operand}{A:Option Addr}{P:Program}{e e' e2 t:TypeId}{v z:Value}{W W' w w':World}
theorem Kw{a a':Value}(h:a=a'):Ending.returned a=.returned a':=by rw[h]
theorem Gn{k:IntKind}{a b:Int}(h:a=b):Value.int k a=.int k b:=by rw[h]
theorem Zw{a b:Bool}(h:a=b):Value.bool a=.bool b:=by rw[h]
theorem zcP{a b:ByteArray}(h:a=b):Value.string a=.string b:=by rw[h]
def Rd(w:World)(B:Nat)(A:Option Addr)(xs:List Value):Prop :=
 xs≠[]->∃b off,A=some ⟨b,off,none⟩/\b<B/\∀j u,xs[j]?=some u->w.cell? ⟨b,off+j,none⟩=some u
section
variable {w w':World} {B B':Nat} {A:Option Addr} {xs:List Value}
theorem Rd.nil_:Rd w B A []:=fun h=>absurd rfl h
theorem Rd.at_(h:Rd w B A xs)(hk:k<xs.length):∃b off,A=some ⟨b,off,none⟩/\b<B/\w.cell? ⟨b,off+k,none⟩=some xs[k]:=by
 obtain⟨b,off,e,hb,hc⟩:=h (by intro e;subst e;simp at hk);exact⟨b,off,e,hb,hc k _ (Qa hk)⟩
theorem Rd.keep(h:Rd w B A xs)(hk:∀p:Addr,p.block<B->w'.cell? p=w.cell? p):Rd w' B A xs:=fun hn=>by
 obtain⟨b,off,e,hb,hc⟩:=h hn;exact⟨b,off,e,hb,fun j u hu=>(hk _ hb).trans (hc j u hu)⟩
theorem Rd.more(h:Rd w B A xs)(hB:B<=B'):Rd w B' A xs:=fun hn=>by
 obtain⟨b,off,e,hb,hc⟩:=h hn;exact⟨b,off,e,by omega,hc⟩
theorem Rd.below(h:Rd w B A xs)(hb:Below B w w'):Rd w' B A xs:=h.keep fun _ hp=>hb.cell hp
theorem Rd.drop_(h:Rd w B A xs)(k:Nat){cap:Nat}(hc:k<xs.length->k≠cap) :
  Rd w B (if cap=k then A else A.map (·.add k)) (xs.drop k):=fun hn=>by
 have hl:k<xs.length:=by
  rcases Nat.lt_or_ge k xs.length with h'|h'
  .exact h'
  exact absurd (List.drop_eq_nil_of_le h') hn
 obtain⟨b,off,rfl,hb,Zn⟩:=h (by intro e;subst e;simp at hl);have:=hc hl;rw[if_neg (by omega)];refine⟨b,off+k,by simp[Addr.add_lit],hb,fun j u hu=>?_⟩;rw[Yy];exact Zn _ u (by rw[<-hu,List.getElem?_drop])
theorem Rd.take_(h:Rd w B A xs)(k:Nat):Rd w B A (xs.take k):=fun hn=>by
 obtain⟨b,off,e,hb,Zn⟩:=h (by intro e;subst e;simp at hn);refine⟨b,off,e,hb,fun j u hu=>Zn j u ?_⟩;rw[List.getElem?_take]at hu;split at hu
 .exact hu
 cases hu
theorem Rd.of_own(h:w.ownsRow base e size (.slice A n c) n xs):Rd w w.heap.size A xs:=fun hn=>by
 rcases h.2 with ⟨hv,h0⟩|⟨g,cap,cur,hv,_,hg,_⟩
 .have h1:=h.1;rw[h0]at h1;exact absurd (Xx (by omega)) hn
 have hA:A=some ⟨g,0,none⟩:=by injection hv
 subst hA;refine⟨g,0,rfl,(gl hg),fun j u hu=>?_⟩;have:=h.cells (g:=g) rfl j u hu
 rwa [Addr.add_lit]at this
end
theorem Zp(h:w.ownsRow base e size v n xs) :
  ∃A c,v=.slice A n c/\n<=c/\c<=maxLen:=by
 rcases h.2 with ⟨rfl,rfl⟩|⟨g,cap,cur,rfl,_,_,h1,h2,_⟩
 .exact⟨none,0,rfl,by omega,by simp[maxLen]⟩
 exact⟨_,cap,rfl,h1,h2⟩
theorem Nn{zbQ:Nat}(h:w.ownsRow base e size v n xs)(hb:zbQ<=base) :
  w.ownsRow zbQ e size v n xs:=by
 refine⟨h.1,?_⟩;rcases h.2 with h'|⟨g,cap,cur,rfl,hg,r⟩
 .exact .inl h'
 exact .inr ⟨g,cap,cur,rfl,by omega,r⟩
theorem Jc(h:w.ownsRow base e size v n xs)(hb:Below w.heap.size w w') :
  w'.ownsRow base e size v n xs:=by
 refine⟨h.1,?_⟩;rcases h.2 with h'|⟨g,cap,cur,rfl,hg,hh,r⟩
 .exact .inl h'
 exact .inr ⟨g,cap,cur,rfl,hg,(hb.block g (gl hh)).trans hh,r⟩
theorem nw{a b:World}(h:a.heap=b.heap)(h2:a.tape=b.tape)(h3:a.drawn=b.drawn)(h4:a.os=b.os)(h5:a.output=b.output):a=b:=by
 cases a;cases b;simp only at*;subst h h2 h3 h4 h5;rfl
theorem jb(w:World)(cur cs:Array Value)(e:TypeId):(w.alloc (.cells cur e)).setRow w.heap.size cs=w.alloc (.cells cs e):=by
 refine nw ?_ rfl rfl rfl rfl;apply Array.ext_getElem?;intro i;by_cases hi:i=w.heap.size
 .subst hi;rw[Zj _ _ cur cs e (0,0) (Xn w _),Xn w _]
 rw[setRow_other _ _ _ _ hi];show (w.heap.push _)[i]?=(w.heap.push _)[i]?;rw[Array.getElem?_push,Array.getElem?_push,if_neg hi,if_neg hi]
theorem Rd.row(h:w.heap[g]?=some (.cells cs e fr))(hB:g<B):Rd w B (some ⟨g,0,none⟩) cs.toList:=fun _ =>
 ⟨g,0,rfl,hB,fun j u hu=>by
  rw[Yr,Zd w g j cs e fr h,<-Array.getElem?_toList]
  exact hu⟩
theorem Gg(w:World)(o o':Obj):((w.alloc o).alloc o').heap[w.heap.size+1]?=some o':=by
 have:=Xn (w.alloc o) o'
 rwa [Xs]at this
structure Dg(P:Program)(t e:TypeId)(size bytes:Nat)(z:Value):Prop where
 und:P.underlying t=some (.slice e)
 info:∃i,P.info? e=some i/\i.zero=some z/\i.size=size/\i.bytes=bytes
 cells:z.cells.size=size
 pos:0<size
theorem Gh(h1:P.underlying t=some (.slice e))(h2:(P.info? e).map (fun i=>(i.zero,i.size,i.bytes))=some (some z,size,bytes))
  (h3:z.cells.size=size) (h4:0<size):Dg P t e size bytes z:=⟨h1,info_parts h2,h3,h4⟩
section
variable {P:Program} {w:World}
theorem qvY{ty:TypeId}(T:Dg P t e size bytes z)(hown:w.ownsRow base e size v n xs)
      (hr:Rd w B A news) (hl:news.length=m*size) (h1:∀u∈news,u.oneCell'=true)
  (h63:n+m<=maxLen) (Lv:(n+m)*bytes<=140737488355328) (hbase:base<=w.heap.size) :
  ∃v' w',(Builtin.append_ #[t,t] ty #[v,.slice A m c]).run P w=.ok v' w'/\w'.ownsRow base e size v' (n+m) (xs++news)/\w.grownBy w' v.ownBlock /\
   (v'.ownBlock=v.ownBlock\/v'.ownBlock=some w.heap.size)/\(v'=.slice none 0 0↔v=.slice none 0 0/\m=0):=by
 obtain⟨i,hi,hz,hs,hby⟩:=T.info;by_cases hm:m=0
 .subst hm;have hn:news=[]:=Xx (by simpa using hl);subst hn;rcases A with _|ad
  .refine⟨v,w,?_,by simpa using hown,⟨rfl,rfl,rfl,Yb _,fun _ _ _=>rfl⟩,.inl rfl,by simp⟩;rcases hown.2 with ⟨rfl,rfl⟩|⟨g,cap,cur,rfl,_,_,hnc,_⟩
   .simp[Builtin.append_,run_underlying T.und,sizeOf,typeInfo,hi,Builtin.lenOf,Builtin.firstCells]
   simp[Builtin.append_,run_underlying T.und,sizeOf,typeInfo,hi,Builtin.lenOf,Builtin.firstCells,hnc,storeCells]
  obtain⟨v',w',g1,g2,g3,g4,g5⟩:=run_append_own_at (P:=P) w base t ty e i z size bytes T.und hi hz hs hby T.cells T.pos v n xs hown ad 0 c [] (by simp) (by simp) (by simp) h63 Lv hbase;exact⟨v',w',g1,g2,g3,g5,g4⟩
 have hne:news≠[]:=by
  intro e;subst e;simp only[Xu]at hl;have:=Nat.mul_pos (Nat.pos_of_ne_zero hm) T.pos;omega
 obtain⟨b,off,rfl,_,hc⟩:=hr hne;obtain⟨v',w',g1,g2,g3,g4,g5⟩:=run_append_own_at (P:=P) w base t ty e i z size bytes T.und hi hz hs hby T.cells T.pos v n xs hown ⟨b,off,none⟩ m c news hl (fun j u hu=>by rw[Addr.add_lit];exact hc j u hu) h1 h63 Lv hbase;exact⟨v',w',g1,g2,g3,g5,g4⟩
theorem qmF{o:Oper}{K:Act->World->Prop}(T:Dg P t e size bytes z)
  (ho:o.op=.call { callee:=.builtin .append,args:=#[s,x],argTypes:=#[t,t] })
     (hs:a.eval s=v) (hx:a.eval x=.slice A m c)
     (hown:w.ownsRow base e size v n xs)
    (hr:Rd w B A news) (hl:news.length=m*size) (h1:∀u∈news,u.oneCell'=true)
  (h63:n+m<=maxLen) (Lv:(n+m)*bytes<=140737488355328) (hbase:base<=w.heap.size)
  (h:∀v' w',w'.ownsRow base e size v' (n+m) (xs++news)->w.grownBy w' v.ownBlock->(v'.ownBlock=v.ownBlock\/v'.ownBlock=some w.heap.size)->(v'=.slice none 0 0↔v=.slice none 0 0/\m=0)->K (a.put o.dst v') w'):o.wp P a w K Q:=by
 obtain⟨v',w',fM,h2,h3,h4,h5⟩:=qvY (ty:=o.type) T hown (c:=c) hr hl h1 h63 Lv hbase;unfold Oper.wp execOp;simp only[ho,resolve,invoke,builtin,Zg,Sem.run_pure,Result.andThen_ok,List.map_toArray,List.map_cons,List.map_nil,hs,hx,fM];exact h v' w' h2 h3 h4 h5
theorem Zy{ops:Array Oper}{rest:List Oper}{o:Oper}(T:Dg P t e size bytes z)
  (hgd:o.guard=none) (ho:o.op=.call { callee:=.builtin .append,args:=#[s,x],argTypes:=#[t,t] })
     (hs:a.eval s=v) (hx:a.eval x=.slice A m c)
     (hown:w.ownsRow base e size v n xs)
    (hr:Rd w B A news) (hl:news.length=m*size) (h1:∀u∈news,u.oneCell'=true)
  (h63:n+m<=maxLen) (Lv:(n+m)*bytes<=140737488355328) (hbase:base<=w.heap.size)
  (h:∀v' w',w'.ownsRow base e size v' (n+m) (xs++news)->w.grownBy w' v.ownBlock->(v'.ownBlock=v.ownBlock\/v'.ownBlock=some w.heap.size)->(v'=.slice none 0 0↔v=.slice none 0 0/\m=0)->wpList P ops Q rest (a.put o.dst v') w') :
  wpList P ops Q (o::rest) a w :=
 wpList_plain hgd fun _ hK=>qmF T ho hs hx hown hr hl h1 h63 Lv hbase fun v' w' h2 h3 h4 h5=>hK _ _ (h v' w' h2 h3 h4 h5)
end
theorem Zr{w0:World}(hb:Below B w0 w)(hg:w.grownBy w' v.ownBlock)(hown:w.ownsRow base e size v n xs)(h1:B<=base)(h2:B<=w.heap.size):Below B w0 w' :=
 hb.grown hg h2 fun k hk=>by have:=(hown.lt k hk).1;omega
theorem Zs(hown:w.ownsRow base e size v n xs)(hg:w.grownBy w' v.ownBlock)
  (h:w.heap[g]?=some (.cells cs e' fr)) (hne:e'≠e):w'.heap[g]?=some (.cells cs e' fr):=by
 refine (hg.block g (gl h) fun he=>?_).trans h;rcases hown.2 with ⟨rfl,_⟩|⟨g',cap,cur,rfl,_,hh,_⟩
 .simp[Value.ownBlock]at he
 have:g=g':=by simpa[Value.ownBlock]using he
 subst this;rw[h]at hh;injection hh with hh;injection hh with _ h2;exact hne h2
def xf(b:UInt8):Value:=.int .u8 (b.toNat:Int)
def Rz(l:List UInt8):List Value:=l.map xf
theorem gT(l:List UInt8):(Rz l).length=l.length:=by simp[Rz]
theorem qbI(l:List UInt8)(k:Nat)(h:k<(Rz l).length):(Rz l)[k]=.int .u8 ((l[k]'(by simpa[Rz]using h)).toNat:Int):=by simp[Rz,xf]
theorem Rd.byte(h:Rd w B A (Rz l))(hk:k<l.length) :
  ∃b off,A=some ⟨b,off,none⟩/\b<B/\w.cell? ⟨b,off+k,none⟩=some (.int .u8 (l[k].toNat:Int)):=by
 obtain⟨b,off,e,hb,hc⟩:=h.at_ (k:=k) (by rw[gT];exact hk);exact⟨b,off,e,hb,by rw[hc,qbI]⟩
def Nf(s:ByteArray)(k:Nat):Int:=if h:k<s.size then ((s[k]'h).toNat:Int)else 0
theorem fD(s:ByteArray):∀(n:Nat)(h:n<s.size),((s[n]'h).toNat:Int)=Nf s n:=fun n h=>by unfold Nf;rw[dif_pos h]
theorem Fm(s:ByteArray)(k:Nat)(h:k<s.data.toList.length):Nf s k=(s.data.toList[k].toNat:Int):=by
 have h':k<s.size:=by simpa using h
 unfold Nf;rw[dif_pos h'];simp[ByteArray.getElem_eq_getElem_data]
theorem qaW(h:Rd w B A (Rz l)){src dst:TypeId}(hs:P.underlying src=some (.slice e))(he:P.underlying e=some (.int .u8))(hd:P.underlying dst=some .string)
  (n:Nat) (hn:n=l.length) (c:Nat):(convert src dst (.slice A n c)).run P w=.ok (.string ⟨l.toArray⟩) w:=by
 subst hn;cases A with
 |some ad => 
  refine run_convert_bytes_back w src dst e ad c l hs he hd fun j hj=>?_;obtain⟨b,off,e',_,hc⟩:=h.byte hj;injection e' with e';subst e';rw[Addr.add_lit];exact hc
 |none =>
  have hl:l=[]:=by
   cases l with
   |nil=>rfl
   |cons b r=>obtain⟨_,_,e',_⟩:=h.byte (k:=0) (by simp);cases e'
  subst hl;exact run_convert_bytes_nil w src e hs he _ c dst hd
open Go.ChangeShapes Go.WideShapes Go.ChangeAt Go.RowKit
section
variable {H:Type} {enc:TypeId×Value->H} {P:Program}
theorem fU(hl:laidOutB P=true)(hb:Below W.heap.size W W'):∀(ts:List TypeId)(vs:List Value)(ds:List (DataW H))(ps:List MemPlace),
  ts.all (fun t=>P.readableRec t&&decide (t<P.types.size))=true->DataW.TrodAll enc P W 0 (fun _=>true) true ts vs ds ps->(∀x∈ps,x.block<W.heap.size) ->
  DataW.TrodAll enc P W' 0 (fun b=>decide (b<W.heap.size)) true ts vs ds ps
 |[],vs,ds,ps,_,h,_=>by
  obtain⟨rfl,rfl,rfl⟩:=trodAll_nil h;exact trodAll_mk0
 |t::ts,vs,ds,ps,hp,h,Jl=>by
  obtain⟨v,vs',d,ds',p,q,rfl,rfl,rfl,hd,hr⟩:=trodAll_cons h;rw[List.all_cons,Ym,Ym,Yk]at hp;exact trodAll_cons_mk (Below.trod hl hp.1.1 hp.1.2 hd hb fun x hx=>Jl x (List.mem_append_left _ hx)) (fU hl hb ts vs' ds' q hp.2 hr fun x hx=>Jl x (List.mem_append_right _ hx))
theorem qoU{f:Func}{s:ChangeSpec}{args:Array Value}{ds gs:List (DataW H)}{before:List MemPlace}{tb:TypeId}(hl:laidOutB P=true)
  (hp:f.params.toList.all (fun t=>P.readableRec t&&decide (t<P.types.size))=true) (zaJ:s.vars=[]) (lE:f.resultTypes=#[tb]) (htb:P.underlying tb=some .bool)
  (hfn:s.fn H (ds++gs)={ results:=[.lit (.bool true)],args:=ds }) (hW:DataW.Whole enc P f.params.toList s.vars false W args.toList ds gs before) (hb:Below W.heap.size W W') :
  s.post enc P f false true false false W args (.bool true) W':=by
 have Jl:=hW.lt;have hW':=hW;obtain⟨p,q,hA,hV,rfl,hfz,Te⟩:=hW';rw[zaJ]at hV;obtain⟨rfl,rfl⟩:=trodVars_none hV;refine⟨ds,[],p++[],[],p,[],hW,?_,?_,?_,?_,fun h=>by cases h⟩
 .rw[hfn,lE];exact trodAll_mk1 (shut_bool htb true)
 .rw[hfn];exact fU hl hb _ _ _ _ hp hA fun x hx=>Jl x (List.mem_append_left _ hx)
 .rw[hfn,zaJ];rfl
 exact hb.frame _
end
structure gX(α:Type) where
 size:Nat
 rep:World->Nat->List Value->α->Prop
 len:∀{w B cs x},rep w B cs x->cs.length=size
 keep:∀{w w' B cs x},rep w B cs x->(∀p:Addr,p.block<B->w'.cell? p=w.cell? p)->rep w' B cs x
 more:∀{w B B' cs x},rep w B cs x->B<=B'->rep w B' cs x
 one:∀{w B cs x},rep w B cs x->∀u∈cs,u.oneCell'=true
def Wg:gX Int where
 size:=1
 rep:=fun _ _ cs x=>cs=[.int .i64 x]/\-9223372036854775808<=x/\x<=9223372036854775807
 len:=fun h=>by rw[h.1];rfl
 keep:=fun h _=>h
 more:=fun h _=>h
 one:=fun h=>by rw[h.1];simp[Value.oneCell']
def Mi:gX ByteArray where
 size:=1
 rep:=fun _ _ cs x=>cs=[.string x]/\x.size<=maxLen
 len:=fun h=>by rw[h.1];rfl
 keep:=fun h _=>h
 more:=fun h _=>h
 one:=fun h=>by rw[h.1];simp[Value.oneCell']
def fp:gX Bool where
 size:=1
 rep:=fun _ _ cs x=>cs=[.bool x]
 len:=fun h=>by rw[h];rfl
 keep:=fun h _=>h
 more:=fun h _=>h
 one:=fun h=>by rw[h];simp[Value.oneCell']
def Je{α:Type}(E:gX α)(w:World)(B:Nat)(v:Value)(xs:List α):Prop :=
 ∃(A:Option Addr)(c:Nat)(css:List (List Value)),v=.slice A xs.length c/\xs.length<=c/\c<=maxLen/\css.length=xs.length/\Rd w B A css.flatten /\
  ∀(i:Nat)(cs:List Value)(x:α),css[i]?=some cs->xs[i]?=some x->E.rep w B cs x
section
variable {α:Type} {E:gX α} {w w':World} {B B':Nat} {v:Value} {xs:List α}
theorem Je.keep(h:Je E w B v xs)(hk:∀p:Addr,p.block<B->w'.cell? p=w.cell? p):Je E w' B v xs:=by
 obtain⟨A,c,css,e,h1,h2,h3,h4,h5⟩:=h;exact⟨A,c,css,e,h1,h2,h3,h4.keep hk,fun i cs x hc hx=>E.keep (h5 i cs x hc hx) hk⟩
theorem Je.below(h:Je E w B v xs)(hb:Below B w w'):Je E w' B v xs:=h.keep fun _ hp=>hb.cell hp
theorem Je.more(h:Je E w B v xs)(hB:B<=B'):Je E w B' v xs:=by
 obtain⟨A,c,css,e,h1,h2,h3,h4,h5⟩:=h;exact⟨A,c,css,e,h1,h2,h3,h4.more hB,fun i cs x hc hx=>E.more (h5 i cs x hc hx) hB⟩
theorem Je.next(h:Je E w B v xs)(hb:Below B w w')(hB:B<=B'):Je E w' B' v xs:=(h.below hb).more hB
theorem Je.fut{N:Nat}(h:Je E w B v xs)(hb:Below N w w')(h1:B<=N)(h2:B<=B'):Je E w' B' v xs:=(h.below (hb.mono h1)).more h2
theorem Je.nil_:Je E w B (.slice none 0 0) []:=⟨none,0,[],rfl,Yb _,by simp[maxLen],rfl,Rd.nil_,fun i cs x hc=>by simp at hc⟩
theorem Je.form(h:Je E w B v xs):∃A c,v=.slice A xs.length c/\xs.length<=c/\c<=maxLen:=by
 obtain⟨A,c,css,e,h1,h2,_⟩:=h;exact⟨A,c,e,h1,h2⟩
end
theorem Oy{α:Type}(n:Nat):∀(css:List (List α)),(∀cs∈css,cs.length=n)->∀(i j:Nat)(cs:List α)(u:α),css[i]?=some cs->cs[j]?=some u->css.flatten[i*n+j]?=some u
 |[],_,i,j,cs,u,h,_=>by simp at h
 |c::css,hl,0,j,cs,u,h,hu=>by
  simp only[List.getElem?_cons_zero,Option.some.injEq]at h;subst h;rw[Nat.zero_mul,Yr,List.flatten_cons,Qo (Qj.1 hu).1];exact hu
 |c::css,hl,i+1,j,cs,u,h,hu=>by
  have hc:=hl c (by simp);rw[List.flatten_cons,Qn (by rw[hc,Nat.add_mul];omega),hc,show (i+1)*n+j-n=i*n+j by rw[Nat.add_mul];omega];exact Oy n css (fun cs tc=>hl cs (by simp[tc])) i j cs u (by simpa using h) hu
section
variable {α:Type} {E:gX α} {w w':World} {B B':Nat} {v:Value} {xs:List α}
theorem Je.lens(h3:css.length=xs.length)(h5:∀(i:Nat)(cs:List Value)(x:α),css[i]?=some cs->xs[i]?=some x->E.rep w B cs x):∀cs∈css,cs.length=E.size:=by
 intro cs tc;obtain⟨i,hi,rfl⟩:=Qz tc;exact E.len (h5 i _ _ (Qa hi) (Qa (by omega)))
theorem Je.at_(h:Je E w B v xs)(hk:k<xs.length)(Dt:0<E.size):∃b off c cs,v=.slice (some ⟨b,off,none⟩) xs.length c/\xs.length<=c/\b<B/\E.rep w B cs xs[k] /\
  ∀j u,cs[j]?=some u->w.cell? ⟨b,off+(k*E.size+j),none⟩=some u:=by
 obtain⟨A,c,css,rfl,h1,h2,h3,h4,h5⟩:=h;have hkc:k<css.length:=by omega
 have hr:=h5 k _ _ (Qa hkc) (Qa hk);have ep:=Je.lens h3 h5;have hne:css.flatten≠[]:=by
  intro e;have hl:=ep css[k] (Qg hkc);have h0:0<css[k].length:=by omega
  have:=Oy E.size css ep k 0 css[k] css[k][0] (Qa hkc) (Qa h0);rw[e]at this;simp at this
 obtain⟨b,off,rfl,hb,hc⟩:=h4 hne;exact⟨b,off,c,css[k],rfl,h1,hb,hr,fun j u hu=>hc _ _ (Oy E.size css ep k j _ u (Qa hkc) hu)⟩
theorem Je.get(h:Je E w B (.slice A n c) xs)(hk:k<xs.length)(Dt:0<E.size):∃b off cs,A=some ⟨b,off,none⟩/\n<=c/\b<B/\E.rep w B cs xs[k] /\
  ∀j u,cs[j]?=some u->w.cell? ⟨b,off+(k*E.size+j),none⟩=some u:=by
 obtain⟨b,off,c',cs,e,h1,h2,h3,h4⟩:=h.at_ hk Dt;injection e with e1 e2 e3;subst e2;exact⟨b,off,cs,e1,by omega,h2,h3,h4⟩
theorem Je.n_eq(h:Je E w B (.slice A n c) xs):n=xs.length:=by
 obtain⟨_,_,e,_⟩:=h.form;injection e
theorem Je.n_le(h:Je E w B (.slice A n c) xs):n<=c/\c<=9223372036854775807:=by
 obtain⟨_,_,e,h1,h2⟩:=h.form;injection e with _ e2 e3;subst e2 e3;exact⟨h1,by simpa[maxLen]using h2⟩
theorem Je.take_(h:Je E w B (.slice A n c) xs)(k:Nat){n':Nat}(hn:n'=(xs.take k).length):Je E w B (.slice A n' c) (xs.take k):=by
 obtain⟨A,c,css,e,h1,h2,h3,h4,h5⟩:=h;injection e with e1 e2 e3;subst e1 e2 e3 hn;refine⟨_,_,css.take k,rfl,by rw[Qq];omega,h2,by rw[Qq,Qq,h3],?_,fun i cs x hc hx=>?_⟩
 .intro hne;obtain⟨b,off,e,hb,hc⟩:=h4 (by
   intro e
   apply hne
   have hz:∀cs∈css,cs=[]:=List.flatten_eq_nil_iff.1 e
   exact List.flatten_eq_nil_iff.2 fun cs tc=>hz cs (List.mem_of_mem_take tc))
  refine⟨b,off,e,hb,fun j u hu=>hc j u ?_⟩;have hd:css.flatten=(css.take k).flatten++(css.drop k).flatten:=by rw[<-Qs,Xp]
  rw[hd,Qo (Qj.1 hu).1];exact hu
 rw[List.getElem?_take]at hc hx;split at hc
 .rename_i hik;rw[if_pos hik]at hx;exact h5 i cs x hc hx
 cases hc
end
def Tw{α:Type}(E:gX α):gX (List α) where
 size:=1
 rep:=fun w B cs xs=>∃v,cs=[v]/\Je E w B v xs
 len:=fun⟨v,h,_⟩=>by rw[h];rfl
 keep:=fun⟨v,h,hs⟩ hk=>⟨v,h,hs.keep hk⟩
 more:=fun⟨v,h,hs⟩ hB=>⟨v,h,hs.more hB⟩
 one:=fun⟨v,h,hs⟩ u hu=>by
  rw[h,Qi]at hu;obtain⟨A,c,e,_⟩:=hs.form;subst hu;rw[e];rfl
def Cx{α β:Type}(E:gX α)(F:gX β):gX (α×β) where
 size:=E.size+F.size
 rep:=fun w B cs x=>∃c1 c2,cs=c1++c2/\E.rep w B c1 x.1/\F.rep w B c2 x.2
 len:=fun⟨c1,c2,h,h1,h2⟩=>by rw[h,Qe,E.len h1,F.len h2]
 keep:=fun⟨c1,c2,h,h1,h2⟩ hk=>⟨c1,c2,h,E.keep h1 hk,F.keep h2 hk⟩
 more:=fun⟨c1,c2,h,h1,h2⟩ hB=>⟨c1,c2,h,E.more h1 hB,F.more h2 hB⟩
 one:=fun⟨c1,c2,h,h1,h2⟩ u hu=>by
  rw[h,Qh]at hu;rcases hu with hu|hu
  .exact E.one h1 u hu
  exact F.one h2 u hu
def zxA{α β:Type}(E:gX β)(f:α->β):gX α where
 size:=E.size
 rep:=fun w B cs x=>E.rep w B cs (f x)
 len:=fun h=>E.len h
 keep:=fun h hk=>E.keep h hk
 more:=fun h hB=>E.more h hB
 one:=fun h=>E.one h
def mo(w w':World)(B:Nat)(r:Option Nat):Prop:=∀p:Addr,p.block<B->some p.block≠r->w'.cell? p=w.cell? p
theorem mo.refl(w:World)(B:Nat)(r:Option Nat):mo w w B r:=fun _ _ _=>rfl
def fR{α:Type}(E:gX α)(w:World)(base:Nat)(t:TypeId)(v:Value)(xs:List α):Prop :=
 ∃css:List (List Value),w.ownsRow base t E.size v xs.length css.flatten/\css.length=xs.length/\∀(i:Nat)(cs:List Value)(x:α),css[i]?=some cs->xs[i]?=some x->∀w',mo w w' w.heap.size v.ownBlock->E.rep w' w.heap.size cs x
section
variable {α:Type} {E:gX α} {w w' w1:World} {base:Nat} {t:TypeId} {v v1:Value} {xs:List α}
theorem fR.nil(w:World)(base:Nat)(t:TypeId):fR E w base t (.slice none 0 0) []:=⟨[],Za _ _ _ _,rfl,fun i cs x h=>by simp at h⟩
theorem fR.form(h:fR E w base t v xs):∃A c,v=.slice A xs.length c/\xs.length<=c/\c<=maxLen:=by
 obtain⟨css,h1,_⟩:=h;exact Zp h1
theorem fR.sl(h:fR E w base t v xs):Je E w w.heap.size v xs:=by
 obtain⟨css,h1,h2,h3⟩:=h;obtain⟨A,c,rfl,ha,hb⟩:=Zp h1;exact⟨A,c,css,rfl,ha,hb,h2,Rd.of_own h1,fun i cs x hc hx=>h3 i cs x hc hx w (mo.refl _ _ _)⟩
theorem fR.later(h:fR E w base t v xs)(hb:Below w.heap.size w w1):fR E w1 base t v xs:=by
 obtain⟨css,h1,h2,h3⟩:=h;refine⟨css,Jc h1 hb,h2,fun i cs x hc hx w' ha=>E.more (h3 i cs x hc hx w' fun p hp hn=>?_) hb.size⟩;rw[ha p (Ye hp hb.size) hn,hb.cell hp]
theorem fR.snoc{cs:List Value}{x:α}(h2:css.length=xs.length)(h3:∀(i:Nat)(cs:List Value)(x:α),css[i]?=some cs->xs[i]?=some x->∀w',mo w w' w.heap.size v.ownBlock->E.rep w' w.heap.size cs x)
  (hx:∀w',mo w w' w.heap.size v.ownBlock->E.rep w' w.heap.size cs x) (ho:w1.ownsRow base t E.size v1 (xs.length+1) (css.flatten++cs)) (hg:w.grownBy w1 v.ownBlock) (hv:v1.ownBlock=v.ownBlock\/v1.ownBlock=some w.heap.size) :
  fR E w1 base t v1 (xs++[x]):=by
 have key:∀w',mo w1 w' w1.heap.size v1.ownBlock->mo w w' w.heap.size v.ownBlock:=fun w' ha p hp hn=>by
  rw[ha p (Ye hp hg.size) ?_]
  .have hb:=hg.block p.block hp hn;exact World.cell?_of_block (w:=w) hb
  rcases hv with e|e
  .rw[e];exact hn
  rw[e];intro e2;injection e2 with e2;omega
 refine⟨css++[cs],?_,by simp[h2],fun i cs' x' hc aS w' ha=>?_⟩
 .rw[Qs,Qe];simpa using ho
 by_cases hi:i<xs.length
 .rw[Qo (by omega)]at hc aS;exact E.more (h3 i cs' x' hc aS w' (key w' ha)) hg.size
 have Wp:i=xs.length:=by
  have h4:=(Qj.1 aS).1;rw[Qe,Qf]at h4;omega
 subst Wp;rw[<-h2,Qn (Yb _),Nat.sub_self]at hc;rw[Qn (Yb _),Nat.sub_self]at aS;injection hc with hc;injection aS with aS;subst hc aS;exact E.more (hx w' (key w' ha)) hg.size
end
theorem Vy{v2:Value}(h:w.ownsRow base e size v n xs)(h2:w.ownsRow qrZ e2 qnE v2 n2 ys)(hne:e≠e2)(hg:w.grownBy w' v2.ownBlock):w'.ownsRow base e size v n xs:=by
 refine⟨h.1,?_⟩;rcases h.2 with h'|⟨g,cap,cur,rfl,hb,hh,r⟩
 .exact .inl h'
 exact .inr ⟨g,cap,cur,rfl,hb,Zs h2 hg hh hne,r⟩
theorem vH(h:w.ownsRow base e size v n xs)(hg:w.heap[g]?=some (.cells cs e' fr))(hne:e'≠e):v.ownBlock≠some g:=by
 rcases h.2 with ⟨rfl,_⟩|⟨g',cap,cur,rfl,_,hh,_⟩
 .simp[Value.ownBlock]
 intro he;have:g'=g:=by simpa[Value.ownBlock]using he
 subst this;rw[hg]at hh;injection hh with hh;injection hh with _ h2;exact hne h2
theorem ct(h:w.ownsRow base e size v n xs)(hn:0<n):∃g cap,v=.slice (some ⟨g,0,none⟩) n cap:=by
 rcases h.2 with ⟨_,h0⟩|⟨g,cap,cur,hv,_⟩
 .omega
 exact⟨g,cap,hv⟩
theorem qnR(h:w.ownsRow base e size (.slice (some ⟨g,0,none⟩) n c) n xs):∃cur,w.heap[g]?=some (.cells cur e (0,0)):=by
 rcases h.2 with ⟨h',_⟩|⟨g',zmM,cur,h',_,hg,_⟩
 .simp at h'
 simp only[Value.slice.injEq,Option.some.injEq,Addr.mk.injEq,and_true,true_and]at h';obtain⟨rfl,rfl⟩:=h';exact⟨cur,hg⟩
theorem Ge{c2 j:Nat}(h:w.ownsRow base e size v n xs)(h2:w.ownsRow qrZ e2 qnE (.slice (some ⟨g,0,none⟩) n2 c2) n2 ys)(hne:e≠e2)(u:Value):(w.setCell ⟨g,j,none⟩ u).ownsRow base e size v n xs:=by
 obtain⟨cur2,bP⟩:=qnR h2;refine⟨h.1,?_⟩;rcases h.2 with h'|⟨g',cap,cur,rfl,hb,hh,r⟩
 .exact .inl h'
 refine .inr ⟨g',cap,cur,rfl,hb,?_,r⟩;rw[Zc _ _ _ _ ?_]
 .exact hh
 rintro rfl;rw[bP]at hh;injection hh with hh;injection hh with _ h3;exact hne h3.symm
def Jk(ts:List TypeId)(w w':World):Prop:=w.heap.size<=w'.heap.size/\∀(g:Nat)(cur:Array Value)(t:TypeId),t∈ts->w.heap[g]?=some (.cells cur t (0,0))->w'.heap[g]?=some (.cells cur t (0,0))
theorem Jk.trans{w1 w2:World}(h:Jk ts w w1)(k:Jk ts w1 w2):Jk ts w w2:=⟨Yd h.1 k.1,fun g c t ht hg=>k.2 g c t ht (h.2 g c t ht hg)⟩
theorem Jk.of_below(h:Below w.heap.size w w'):Jk ts w w':=⟨h.size,fun g _ _ _ hg=>(h.block g (gl hg)).trans hg⟩
theorem Jk.of_grown(ho:w.ownsRow base e size v n xs)(hg:w.grownBy w' v.ownBlock)(he:e∉ts):Jk ts w w' :=
 ⟨hg.size,fun _ _ _ ht hh=>Zs ho hg hh (fun e'=>he (e' ▸ ht))⟩
theorem Jk.less{us:List TypeId}(h:Jk ts w w')(hs:∀t∈us,t∈ts):Jk us w w':=⟨h.1,fun g c t ht hg=>h.2 g c t (hs t ht) hg⟩
theorem Kg(h:w.ownsRow base e size v n xs)(hk:Jk ts w w')(he:e∈ts):w'.ownsRow base e size v n xs:=by
 refine⟨h.1,?_⟩;rcases h.2 with h'|⟨g,cap,cur,rfl,hg,hh,r⟩
 .exact .inl h'
 exact .inr ⟨g,cap,cur,rfl,hg,hk.2 g cur e he hh,r⟩
structure pD(α:Type) where
 E:gX α
 ts:List TypeId
 rep:World->Nat->List Value->α->Prop
 elt:∀{w N cs x},rep w N cs x->E.rep w w.heap.size cs x
 keep:∀{w w' N cs x},rep w N cs x->Jk ts w w'->rep w' N cs x
 more:∀{w N N' cs x},rep w N cs x->N'<=N->rep w N' cs x
def dg{α:Type}(E:gX α)(hE:∀{w w' B B' cs x},E.rep w B cs x->E.rep w' B' cs x):pD α where
 E:=E
 ts:=[]
 rep:=fun w _ cs x=>E.rep w w.heap.size cs x
 elt:=fun h=>h
 keep:=fun h _=>hE h
 more:=fun h _=>h
def Hd:pD Int:=dg Wg fun h=>h
def qnZ{α β:Type}(O:pD α)(P:pD β):pD (α×β) where
 E:=Cx O.E P.E
 ts:=O.ts++P.ts
 rep:=fun w N cs x=>∃c1 c2,cs=c1++c2/\O.rep w N c1 x.1/\P.rep w N c2 x.2
 elt:=fun⟨c1,c2,h,h1,h2⟩=>⟨c1,c2,h,O.elt h1,P.elt h2⟩
 keep:=fun⟨c1,c2,h,h1,h2⟩ hk=>⟨c1,c2,h,O.keep h1 (hk.less fun _ ht=>List.mem_append_left _ ht),P.keep h2 (hk.less fun _ ht=>List.mem_append_right _ ht)⟩
 more:=fun⟨c1,c2,h,h1,h2⟩ hN=>⟨c1,c2,h,O.more h1 hN,P.more h2 hN⟩
def Mp{α:Type}(O:pD α)(t:TypeId)(w:World)(N:Nat)(v:Value)(xs:List α):Prop :=
 ∃css:List (List Value),w.ownsRow N t O.E.size v xs.length css.flatten/\css.length=xs.length/\∀(i:Nat)(cs:List Value)(x:α),css[i]?=some cs->xs[i]?=some x->O.rep w N cs x
section
variable {α:Type} {O:pD α} {t:TypeId} {w w' w1:World} {N N':Nat} {v v1:Value} {xs:List α}
theorem Mp.nil(w:World)(N:Nat):Mp O t w N (.slice none 0 0) []:=⟨[],Za _ _ _ _,rfl,fun i cs x h=>by simp at h⟩
theorem Mp.form(h:Mp O t w N v xs):∃A c,v=.slice A xs.length c/\xs.length<=c/\c<=maxLen:=by
 obtain⟨css,h1,_⟩:=h;exact Zp h1
theorem Mp.sl(h:Mp O t w N v xs):Je O.E w w.heap.size v xs:=by
 obtain⟨css,h1,h2,h3⟩:=h;obtain⟨A,c,rfl,ha,hb⟩:=Zp h1;exact⟨A,c,css,rfl,ha,hb,h2,Rd.of_own h1,fun i cs x hc hx=>O.elt (h3 i cs x hc hx)⟩
theorem Mp.keep(h:Mp O t w N v xs)(hk:Jk (t::O.ts) w w'):Mp O t w' N v xs:=by
 obtain⟨css,h1,h2,h3⟩:=h;exact⟨css,Kg h1 hk (Xi ..),h2,fun i cs x hc hx=>O.keep (h3 i cs x hc hx) (hk.less fun t ht=>Xj _ ht)⟩
theorem Mp.below(h:Mp O t w N v xs)(hb:Below w.heap.size w w'):Mp O t w' N v xs:=h.keep (.of_below hb)
theorem Mp.more(h:Mp O t w N v xs)(hN:N'<=N):Mp O t w N' v xs:=by
 obtain⟨css,h1,h2,h3⟩:=h;exact⟨css,Nn h1 hN,h2,fun i cs x hc hx=>O.more (h3 i cs x hc hx) hN⟩
theorem Mp.row(h:Mp O t w N v xs):∃css:List (List Value),w.ownsRow N t O.E.size v xs.length css.flatten/\css.length=xs.length/\∀(i:Nat)(cs:List Value)(x:α),css[i]?=some cs->xs[i]?=some x->O.rep w N cs x:=h
theorem Mp.snoc{cs:List Value}{x:α}(hn:t∉O.ts)(h0:w.ownsRow N t O.E.size v xs.length css.flatten)(h2:css.length=xs.length)(h3:∀(i:Nat)(cs:List Value)(x:α),css[i]?=some cs->xs[i]?=some x->O.rep w N cs x)
  (hx:O.rep w N cs x) (ho:w1.ownsRow N t O.E.size v1 (xs.length+1) (css.flatten++cs)) (hg:w.grownBy w1 v.ownBlock):Mp O t w1 N v1 (xs++[x]):=by
 have hk:=Jk.of_grown h0 hg hn;refine⟨css++[cs],by rw[Qs,Qe];simpa using ho,by simp[h2],fun i cs' x' hc aS=>?_⟩;by_cases hi:i<xs.length
 .rw[Qo (by omega)]at hc aS;exact O.keep (h3 i cs' x' hc aS) hk
 have Wp:i=xs.length:=by
  have h4:=(Qj.1 aS).1;rw[Qe,Qf]at h4;omega
 subst Wp;rw[<-h2,Qn (Yb _),Nat.sub_self]at hc;rw[Qn (Yb _),Nat.sub_self]at aS;injection hc with hc;injection aS with aS;subst hc aS;exact O.keep hx hk
end
def oSl{α:Type}(O:pD α)(t:TypeId):pD (List α) where
 E:=Tw O.E
 ts:=t::O.ts
 rep:=fun w N cs xs=>∃v,cs=[v]/\Mp O t w N v xs
 elt:=fun⟨v,h,hs⟩=>⟨v,h,hs.sl⟩
 keep:=fun⟨v,h,hs⟩ hk=>⟨v,h,hs.keep hk⟩
 more:=fun⟨v,h,hs⟩ hN=>⟨v,h,hs.more hN⟩
def Ey(ts:List TypeId)(U:Nat)(w w':World):Prop:=w.heap.size<=w'.heap.size/\∀(g:Nat)(cur:Array Value)(t:TypeId),g<U->t∈ts->w.heap[g]?=some (.cells cur t (0,0))->w'.heap[g]?=some (.cells cur t (0,0))
section
variable {ts us:List TypeId} {U V:Nat} {w w1 w2:World}
theorem Ey.trans(h:Ey ts U w w1)(k:Ey ts U w1 w2):Ey ts U w w2:=⟨Yd h.1 k.1,fun g c t hg ht hh=>k.2 g c t hg ht (h.2 g c t hg ht hh)⟩
theorem Ey.of_below(h:Below w.heap.size w w1):Ey ts U w w1:=⟨h.size,fun g _ _ _ _ hg=>(h.block g (gl hg)).trans hg⟩
theorem Ey.less(h:Ey ts U w w1)(hs:∀t∈us,t∈ts)(hU:V<=U):Ey us V w w1:=⟨h.1,fun g c t hg ht=>h.2 g c t (by omega) (hs t ht)⟩
theorem Ey.of_keepT(h:Jk ts w w1):Ey ts U w w1:=⟨h.1,fun g c t _=>h.2 g c t⟩
theorem Ey.of_grown(ho:w.ownsRow base e size v n xs)(hg:w.grownBy w1 v.ownBlock)(hU:U<=base):Ey ts U w w1:=by
 refine⟨hg.size,fun g c t hgU _ hh=>(hg.block g (gl hh) fun he=>?_).trans hh⟩;rcases ho.2 with ⟨rfl,_⟩|⟨g',cap,cur,rfl,hb,_⟩
 .simp[Value.ownBlock]at he
 have:g=g':=by simpa[Value.ownBlock]using he
 omega
theorem Ey.of_set(hU:U<=g)(v:Value):Ey ts U w (w.setCell ⟨g,k,none⟩ v):=by
 refine⟨by simp[World.setCell],fun j c t hj _ hh=>?_⟩;rw[Zc _ _ _ _ (by intro e;subst e;omega)];exact hh
theorem Ey.of_setT{T:TypeId}(h:w.heap[g]?=some (.cells cs T (0,0)))(hT:T∉ts)(v:Value):Ey ts U w (w.setCell ⟨g,k,none⟩ v):=by
 refine⟨by simp[World.setCell],fun j cur t _ ht hj=>?_⟩;rw[Zc _ _ _ _ ?_]
 .exact hj
 intro e;subst e;rw[h]at hj;injection hj with hj;injection hj with _ hj;exact hT (hj ▸ ht)
end
structure bH(α:Type) where
 E:gX α
 ts:List TypeId
 rep:World->Nat->List Value->α->Prop
 elt:∀{w U cs x},rep w U cs x->E.rep w U cs x
 keep:∀{w w' U cs x},rep w U cs x->Ey ts U w w'->rep w' U cs x
 more:∀{w U U' cs x},rep w U cs x->U<=U'->rep w U' cs x
def qmO{α:Type}(E:gX α)(hE:∀{w w' B B' cs x},E.rep w B cs x->E.rep w' B' cs x):bH α where
 E:=E
 ts:=[]
 rep:=fun w U cs x=>E.rep w U cs x
 elt:=fun h=>h
 keep:=fun h _=>hE h
 more:=fun h _=>hE h
def qvK:bH Int:=qmO Wg fun h=>h
def fH:bH ByteArray:=qmO Mi fun h=>h
def ziR:bH Bool:=qmO fp fun h=>h
def qmP{α β:Type}(O:bH α)(P:bH β):bH (α×β) where
 E:=Cx O.E P.E
 ts:=O.ts++P.ts
 rep:=fun w N cs x=>∃c1 c2,cs=c1++c2/\O.rep w N c1 x.1/\P.rep w N c2 x.2
 elt:=fun⟨c1,c2,h,h1,h2⟩=>⟨c1,c2,h,O.elt h1,P.elt h2⟩
 keep:=fun⟨c1,c2,h,h1,h2⟩ hk=>⟨c1,c2,h,O.keep h1 (hk.less (fun _ ht=>List.mem_append_left _ ht) (Yb _)),P.keep h2 (hk.less (fun _ ht=>List.mem_append_right _ ht) (Yb _))⟩
 more:=fun⟨c1,c2,h,h1,h2⟩ hN=>⟨c1,c2,h,O.more h1 hN,P.more h2 hN⟩
structure Vo{α:Type}(O:bH α)(w:World)(U:Nat)(css:List (List Value))(xs:List α):Prop where
 len:css.length=xs.length
 rep:∀(i:Nat)(cs:List Value)(x:α),css[i]?=some cs->xs[i]?=some x->O.rep w U cs x
section
variable {α:Type} {O:bH α} {t:TypeId} {w w':World} {U V:Nat} {css:List (List Value)} {xs:List α} {v:Value}
theorem Vo.nil(O:bH α)(w:World)(U:Nat):Vo O w U [] []:=⟨rfl,fun i cs x h=>by simp at h⟩
theorem Vo.keep(h:Vo O w U css xs)(hk:Ey O.ts U w w'):Vo O w' U css xs:=⟨h.len,fun i cs x hc hx=>O.keep (h.rep i cs x hc hx) hk⟩
theorem Vo.more(h:Vo O w U css xs)(hU:U<=V):Vo O w V css xs:=⟨h.len,fun i cs x hc hx=>O.more (h.rep i cs x hc hx) hU⟩
theorem Vo.below(h:Vo O w U css xs)(hb:Below w.heap.size w w'):Vo O w' U css xs:=h.keep (.of_below hb)
theorem Vo.snoc(h:Vo O w U css xs){cs:List Value}{x:α}(hx:O.rep w U cs x):Vo O w U (css++[cs]) (xs++[x]):=by
 refine⟨by simp[h.len],fun i cs' x' hc aS=>?_⟩;by_cases hi:i<xs.length
 .rw[Qo (by rw[h.len];exact hi)]at hc;rw[Qo hi]at aS;exact h.rep i cs' x' hc aS
 have Wp:i=xs.length:=by
  have h4:=(Qj.1 aS).1;rw[Qe,Qf]at h4;omega
 subst Wp;rw[<-h.len,Qn (Yb _),Nat.sub_self]at hc;rw[Qn (Yb _),Nat.sub_self]at aS;injection hc with hc;injection aS with aS;subst hc aS;exact hx
def Ae(O:bH α)(t:TypeId)(w:World)(U:Nat)(v:Value)(xs:List α):Prop :=
 ∃css:List (List Value),w.ownsRow 0 t O.E.size v xs.length css.flatten/\(∀g,v.ownBlock=some g->g<U)/\Vo O w U css xs
theorem Ae.sl(h:Ae O t w U v xs):Je O.E w U v xs:=by
 obtain⟨css,h1,h2,h3⟩:=h;obtain⟨A,c,rfl,ha,hb⟩:=Zp h1;refine⟨A,c,css,rfl,ha,hb,h3.len,fun hne=>?_,fun i cs x hc hx=>O.elt (h3.rep i cs x hc hx)⟩;obtain⟨b,off,e,_,hc⟩:=Rd.of_own h1 hne;subst e;exact⟨b,off,rfl,h2 b rfl,hc⟩
theorem Ae.keep(h:Ae O t w U v xs)(hk:Ey (t::O.ts) U w w'):Ae O t w' U v xs:=by
 obtain⟨css,h1,h2,h3⟩:=h;refine⟨css,⟨h1.1,?_⟩,h2,h3.keep (hk.less (fun _ ht=>Xj _ ht) (Yb _))⟩;rcases h1.2 with h'|⟨g,cap,cur,rfl,hg,hh,r⟩
 .exact .inl h'
 exact .inr ⟨g,cap,cur,rfl,hg,hk.2 g cur t (h2 g rfl) (Xi ..) hh,r⟩
theorem Ae.more(h:Ae O t w U v xs)(hU:U<=V):Ae O t w V v xs:=by
 obtain⟨css,h1,h2,h3⟩:=h;exact⟨css,h1,fun g hg=>Ye (h2 g hg) hU,h3.more hU⟩
theorem Ae.of_row(h1:w.ownsRow base t O.E.size v xs.length css.flatten)(h3:Vo O w w.heap.size css xs):Ae O t w w.heap.size v xs :=
 ⟨css,Nn h1 (Yg _),fun g hg=>by
  rcases h1.2 with ⟨rfl,_⟩|⟨g',cap,cur,rfl,hb,hh,_⟩
  .simp[Value.ownBlock]at hg
  have:g'=g:=by simpa[Value.ownBlock]using hg
  subst this
  exact (gl hh),h3⟩
end
def uSl{α:Type}(O:bH α)(t:TypeId):bH (List α) where
 E:=Tw O.E
 ts:=t::O.ts
 rep:=fun w U cs xs=>∃v,cs=[v]/\Ae O t w U v xs
 elt:=fun⟨v,h,hs⟩=>⟨v,h,hs.sl⟩
 keep:=fun⟨v,h,hs⟩ hk=>⟨v,h,hs.keep hk⟩
 more:=fun⟨v,h,hs⟩ hU=>⟨v,h,hs.more hU⟩
theorem vG(h:w.ownsRow base e size (.slice (some ⟨g,0,none⟩) n c) n xs)(k:Nat)(u:Value) :
  (w.setCell ⟨g,k,none⟩ u).ownsRow base e size (.slice (some ⟨g,0,none⟩) n c) n (xs.set k u):=by
 have hl:=h.1;refine⟨by rw[Qm];exact hl,.inr ?_⟩;rcases h.2 with ⟨h0,_⟩|⟨g',cap,cur,hv,h1,h2,h3,h4,h5,h6⟩
 .cases h0
 injection hv with e1 e2 e3;injection e1 with e1;injection e1 with e1;subst e1 e3;refine⟨g,c,cur.setIfInBounds k u,rfl,h1,?_,h3,h4,by simpa using h5,?_⟩
 .simp only[World.setCell,Xz,if_true,h2,Option.map_some];rfl
 rw[Array.toList_setIfInBounds,List.take_set,h6]
theorem Vb(h:w.ownsRow base e size v (n+1) xs):∃g c,v=.slice (some ⟨g,0,none⟩) (n+1) c/\base<=g/\g<w.heap.size/\n+1<=c/\c<=maxLen/\(∃cur,w.heap[g]?=some (.cells cur e (0,0)))/\(∀k u,xs[k]?=some u->w.cell? ⟨g,k,none⟩=some u)/\∀k,w.frozen? ⟨g,k,none⟩=false:=by
 obtain⟨A,c,rfl,Nj,Uw⟩:=Zp h;rcases h.2 with ⟨_,h0⟩|⟨g,cap,cur,hv,h1,h2,h3,h4,h5,h6⟩
 .omega
 injection hv with e1 e2 e3;subst e1 e3;refine⟨g,c,rfl,h1,(gl h2),Nj,Uw,⟨cur,h2⟩,fun k u hk=>?_,fun k=>by simp[World.frozen?,h2]⟩;rw[Zd _ _ _ _ _ _ h2];have Jl:=(Qj.1 hk).1;rw[<-h6,List.getElem?_take]at hk;split at hk
 .rw[<-hk];simp
 cases hk
end Go.Proofs.YtmaojnmnbpomeaaGreatDoor
namespace Go.Proofs.YtmaojnmnbpomeaaGreatDoor.Text
open Go
def Le(P:Program){α:Type}(s:Sem α):Prop:=∀w a w',s.run P w=.ok a w'->w'=w/\∀w2,s.run P w2=.ok a w2
def Rdr(P:Program){α:Type}(s:Sem α):Prop:=∀w a w',s.run P w=.ok a w'->w'=w
def ls(P:Program){α:Type}(s:Sem α):Prop:=∀w a w',s.run P w≠.ok a w'
variable {P:Program}
section
variable {α β:Type}
theorem Le.rdr{s:Sem α}(h:Le P s):Rdr P s:=fun w a w' hr=>(h w a w' hr).1
theorem Jz(a:α):Le P (pure a:Sem α):=fun w b w' h=>by
 simp only[Sem.run_pure]at h;injection h with h1 h2;subst h1 h2;exact⟨rfl,fun w2=>rfl⟩
theorem nU(h:Halt):ls P (Sem.halt h:Sem α):=fun w a w' hr=>by
 unfold Sem.run at hr;cases hr
theorem Zt{s:Sem α}(h:ls P s):Le P s:=fun w a w' hr=>absurd hr (h w a w')
theorem Js(m:String):ls P (stuck m:Sem α):=nU _
theorem Ka(u:Unsupported):ls P (unsupported u:Sem α):=nU _
theorem Hf(v:Value):ls P (goPanic v:Sem α):=nU _
theorem Ft{s:Sem α}{f:α->Sem β}{w w':World}{b:β}(h:(s >>= f).run P w=.ok b w'):∃a w1,s.run P w=.ok a w1/\(f a).run P w1=.ok b w':=by
 rw[Zg]at h;cases hs:s.run P w with
 |ok a w1=>rw[hs]at h;exact⟨a,w1,rfl,h⟩
 |halt x w1=>rw[hs]at h;cases h
theorem Or{s:Sem α}{f:α->Sem β}(h:∀a,ls P (f a)):ls P (s >>= f):=fun w b w' hr=>by
 obtain⟨a,w1,_,h2⟩:=Ft hr;exact h a w1 b w' h2
theorem Kl{s:Sem α}{f:α->Sem β}(h:Le P s)(hf:∀a,Le P (f a)):Le P (s >>= f):=fun w b w' hr=>by
 obtain⟨a,w1,h1,h2⟩:=Ft hr;obtain⟨e1,g1⟩:=h w a w1 h1;subst e1;obtain⟨e2,g2⟩:=hf a w1 b w' h2;subst e2;refine⟨rfl,fun w2=>?_⟩;rw[Zg,g1 w2];exact g2 w2
theorem iJ{s:Sem α}{f:α->Sem β}(h:Le P s)(hf:∀a w w',s.run P w=.ok a w'->Le P (f a)):Le P (s >>= f):=fun w b w' hr=>by
 obtain⟨a,w1,h1,h2⟩:=Ft hr;obtain⟨e1,g1⟩:=h w a w1 h1;subst e1;obtain⟨e2,g2⟩:=hf a _ _ h1 w1 b w' h2;subst e2;refine⟨rfl,fun w2=>?_⟩;rw[Zg,g1 w2];exact g2 w2
theorem cM{s:Sem α}{f:α->Sem β}(h:Rdr P s)(hf:∀a,Rdr P (f a)):Rdr P (s >>= f):=fun w b w' hr=>by
 obtain⟨a,w1,h1,h2⟩:=Ft hr;have e1:=h w a w1 h1;subst e1;exact hf a w1 b w' h2
theorem Vr:Le P program:=fun w a w' h=>by
 simp only[program,Sem.run]at h;injection h with h1 h2;subst h1 h2;exact⟨rfl,fun w2=>rfl⟩
theorem qb(a:Addr)(m:Mode):Rdr P (load a m):=fun w v w' h=>by
 simp only[load,Sem.run]at h;split at h
 .injection h with _ h2;exact h2.symm
 split at h
 .injection h with _ h2;exact h2.symm
 cases h
end
theorem Jq(t:TypeId):Le P (underlying t):=by
 unfold underlying;refine Kl Vr fun p=>?_;split
 .exact Jz _
 exact Zt (Js _)
theorem Ve(t:TypeId):Le P (typeInfo t):=by
 unfold typeInfo;refine Kl Vr fun p=>?_;split
 .exact Jz _
 exact Zt (Js _)
theorem Vj(t:TypeId):Le P (sizeOf t):=Kl (Ve t) fun _=>Jz _
theorem Uf(t:TypeId):Le P (isAgg t):=by
 unfold isAgg;refine Kl (Jq t) fun d=>?_;split <;> exact Jz _
theorem Vh(t:TypeId):Le P (zeroValue t):=by
 unfold zeroValue;refine Kl (Ve t) fun d=>?_;split
 .exact Jz _
 exact Zt (Ka _)
theorem We(v:Value):Le P (asIntOf v):=by
 unfold asIntOf;split
 .exact Jz _
 .exact Zt (Ka _)
 exact Zt (Js _)
theorem Ua(v:Value):Le P (asBool v):=by
 unfold asBool;split
 .exact Jz _
 exact Zt (Js _)
theorem Ms(v:Value):Le P (asAgg v):=by
 unfold asAgg;split
 .exact Jz _
 exact Zt (Js _)
theorem Jo{α:Type}(e:RuntimeError):ls P (runtimePanic e:Sem α):=by
 unfold runtimePanic;refine Or fun p=>?_;cases e <;> first|exact Hf _|exact Or fun _=>Hf _|exact Or fun _=>Or fun _=>Hf _
theorem Kb{α:Type}(k:IntKind)(x y:Int)(code:BoundsCode):ls P (boundsPanic k x y code:Sem α):=by
 unfold boundsPanic;dsimp only;split <;> exact Or fun _=>Jo _
theorem Nm(t:TypeId)(cs:Array Value)(off:Nat):Le P (part t cs off):=by
 unfold part;refine Kl (Uf t) fun b=>?_;split
 .exact Kl (Vj t) fun _=>Jz _
 split
 .exact Jz _
 exact Zt (Js _)
theorem Vf(v:Value):Le P (Instr.sureAddr v):=by
 unfold Instr.sureAddr;split
 .exact Jz _
 exact Zt (Js _)
theorem Ur(v:Value):Le P (asAddr v):=by
 unfold asAddr;split
 .exact Jz _
 .exact Zt (Jo _)
 exact Zt (Js _)
theorem qgD(t:TypeId)(x i:Value):Le P (Instr.index t x i):=by
 unfold Instr.index;refine Kl (We i) fun ki=>Kl (Jq t) fun d=>?_;split
 .split
  .exact Kl (Vj _) fun _=>Nm _ _ _
  exact Zt (Kb _ _ _ _)
 .split
  .exact Jz _
  exact Zt (Kb _ _ _ _)
 exact Zt (Js _)
theorem uZ(x:Value)(y:Nat)(c:BoundsCode):Le P (Instr.sliceBound x y c):=by
 unfold Instr.sliceBound
 repeat' (first
  |exact Jz _|exact Zt (Js _)|exact Zt (Ka _)|exact Zt (Jo _)|exact Zt (Kb _ _ _ _)
  |exact Vj _|exact Jq _|exact Ve _|exact Uf _|exact Vh _|exact We _|exact Ua _|exact Ms _|exact Ur _|exact Nm _ _ _|exact Vf _|exact Vr
  |(refine Kl ?_ fun _=>?_)|split|dsimp only)
theorem aO(b:Bool)(l c:Nat)(lo hi mx:Option Value):Le P (Instr.sliceBounds b l c lo hi mx):=by
 unfold Instr.sliceBounds
 repeat' (first
  |exact Jz _|exact Zt (Js _)|exact Zt (Ka _)|exact Zt (Jo _)|exact Zt (Kb _ _ _ _)
  |exact Vj _|exact Jq _|exact Ve _|exact Uf _|exact Vh _|exact We _|exact Ua _|exact Ms _|exact Ur _|exact Nm _ _ _|exact Vf _|exact Vr|exact uZ _ _ _
  |(refine Kl ?_ fun _=>?_)|split|dsimp only)
theorem qi(t:TypeId)(x i:Value):Le P (Instr.indexAt t x i):=by
 unfold Instr.indexAt
 repeat' (first
  |exact Jz _|exact Zt (Js _)|exact Zt (Ka _)|exact Zt (Jo _)|exact Zt (Kb _ _ _ _)
  |exact Vj _|exact Jq _|exact Ve _|exact Uf _|exact Vh _|exact We _|exact Ua _|exact Ms _|exact Ur _|exact Nm _ _ _|exact Vf _|exact Vr
  |(refine Kl ?_ fun _=>?_)|split|dsimp only)
theorem qgB(t:TypeId)(x:Value)(lo hi mx:Option Value):Le P (Instr.slice t x lo hi mx):=by
 unfold Instr.slice
 repeat' (first
  |exact Jz _|exact Zt (Js _)|exact Zt (Ka _)|exact Zt (Jo _)|exact Zt (Kb _ _ _ _)
  |exact Vj _|exact Jq _|exact Ve _|exact Uf _|exact Vh _|exact We _|exact Ua _|exact Ms _|exact Ur _|exact Nm _ _ _|exact Vf _|exact Vr|exact aO _ _ _ _ _ _
  |(refine Kl ?_ fun _=>?_)|split|dsimp only)
theorem qh(t:TypeId)(x:Value)(lo hi mx:Option Value):Le P (Instr.sliceAt t x lo hi mx):=by
 unfold Instr.sliceAt
 repeat' (first
  |exact Jz _|exact Zt (Js _)|exact Zt (Ka _)|exact Zt (Jo _)|exact Zt (Kb _ _ _ _)
  |exact Vj _|exact Jq _|exact Ve _|exact Uf _|exact Vh _|exact We _|exact Ua _|exact Ms _|exact Ur _|exact Nm _ _ _|exact Vf _|exact Vr|exact aO _ _ _ _ _ _|exact qgB _ _ _ _ _
  |(refine Kl ?_ fun _=>?_)|split|dsimp only)
theorem qgE(t:TypeId)(x:Value)(f:Nat):Le P (Instr.field t x f):=by
 unfold Instr.field
 repeat' (first
  |exact Jz _|exact Zt (Js _)|exact Zt (Ka _)|exact Zt (Jo _)|exact Zt (Kb _ _ _ _)
  |exact Vj _|exact Jq _|exact Ve _|exact Uf _|exact Vh _|exact We _|exact Ua _|exact Ms _|exact Ur _|exact Nm _ _ _|exact Vf _|exact Vr
  |(refine Kl ?_ fun _=>?_)|split|dsimp only)
def sN(P:Program)(t:TypeId)(f:Nat):Bool :=
 match P.underlying t with
 |some (.struct fs)=>match fs[f]? with
  |some fd=>match P.info? fd.type with
   |some i=>i.size != 0
   |none=>true
  |none=>true
 |_=>true
theorem qj(t:TypeId)(x:Value)(f:Nat)(hok:sN P t f=true):Le P (Instr.fieldAt t x f):=by
 have hu:∀w d w',(underlying t).run P w=.ok d w'->P.underlying t=some d:=by
  intro w d w' h;cases hd:P.underlying t with
  |none=>simp[underlying,hd,program,Sem.run,stuck,bind,Sem.bind]at h
  |some d'=>rw[run_underlying hd]at h;injection h with h1 _;rw[h1]
 have hi:∀(e:TypeId) w n w',(sizeOf e).run P w=.ok n w'->∃i,P.info? e=some i/\i.size=n:=by
  intro e w n w' h;cases hd:P.info? e with
  |none=>simp[sizeOf,typeInfo,hd,program,Sem.run,stuck,bind,Sem.bind]at h
  |some i=>simp[sizeOf,typeInfo,hd,program,Sem.run,bind,Sem.bind,pure]at h;exact⟨i,rfl,h.1⟩
 unfold Instr.fieldAt;refine iJ (Jq t) fun d w w' hd=>?_;have hd':=hu _ _ _ hd;split
 .rename_i fs;split
  .rename_i fd hfd;refine Kl (Vf _) fun ad=>Kl ?_ fun _=>Jz _;unfold fieldPlace;refine iJ (Vj _) fun n w1 w1' hn=>?_;obtain⟨i,hi1,hi2⟩:=hi _ _ _ _ hn;unfold sN at hok;rw[hd']at hok;simp only[hfd,hi1]at hok;rw[if_neg (by subst hi2;simpa using hok)];exact Jz _
  exact Zt (Js _)
 exact Zt (Js _)
theorem qk(x:Value)(f:Nat):Le P (Instr.extract x f):=by
 unfold Instr.extract
 repeat' (first
  |exact Jz _|exact Zt (Js _)|exact Zt (Ka _)|exact Zt (Jo _)|exact Zt (Kb _ _ _ _)
  |exact Vj _|exact Jq _|exact Ve _|exact Uf _|exact Vh _|exact We _|exact Ua _|exact Ms _|exact Ur _|exact Nm _ _ _|exact Vf _|exact Vr
  |(refine Kl ?_ fun _=>?_)|split|dsimp only)
theorem kT(op:BinOp)(k:IntKind)(x y:Int):Le P (Op.intArith op k x y):=by
 unfold Op.intArith
 repeat' (first
  |exact Jz _|exact Zt (Js _)|exact Zt (Ka _)|exact Zt (Jo _)|exact Zt (Kb _ _ _ _)
  |exact Vj _|exact Jq _|exact Ve _|exact Uf _|exact Vh _|exact We _|exact Ua _|exact Ms _|exact Ur _|exact Nm _ _ _|exact Vf _|exact Vr
  |(refine Kl ?_ fun _=>?_)|split|dsimp only)
theorem zy(op:BinOp)(k:IntKind)(x y:Int):Le P (Op.intDiv op k x y):=by
 unfold Op.intDiv
 repeat' (first
  |exact Jz _|exact Zt (Js _)|exact Zt (Ka _)|exact Zt (Jo _)|exact Zt (Kb _ _ _ _)
  |exact Vj _|exact Jq _|exact Ve _|exact Uf _|exact Vh _|exact We _|exact Ua _|exact Ms _|exact Ur _|exact Nm _ _ _|exact Vf _|exact Vr
  |(refine Kl ?_ fun _=>?_)|split|dsimp only)
theorem pZ(op:BinOp)(k:IntKind)(x y:Int):Le P (Op.intBits op k x y):=by
 unfold Op.intBits
 repeat' (first
  |exact Jz _|exact Zt (Js _)|exact Zt (Ka _)|exact Zt (Jo _)|exact Zt (Kb _ _ _ _)
  |exact Vj _|exact Jq _|exact Ve _|exact Uf _|exact Vh _|exact We _|exact Ua _|exact Ms _|exact Ur _|exact Nm _ _ _|exact Vf _|exact Vr
  |(refine Kl ?_ fun _=>?_)|split|dsimp only)
theorem zz(op:BinOp)(x y:Int):Le P (Op.intCmp op x y):=by
 unfold Op.intCmp
 repeat' (first
  |exact Jz _|exact Zt (Js _)|exact Zt (Ka _)|exact Zt (Jo _)|exact Zt (Kb _ _ _ _)
  |exact Vj _|exact Jq _|exact Ve _|exact Uf _|exact Vh _|exact We _|exact Ua _|exact Ms _|exact Ur _|exact Nm _ _ _|exact Vf _|exact Vr
  |(refine Kl ?_ fun _=>?_)|split|dsimp only)
theorem qgC(op:BinOp)(k:IntKind)(x:Int)(yk:IntKind)(y:Int):Le P (Op.shift op k x yk y):=by
 unfold Op.shift
 repeat' (first
  |exact Jz _|exact Zt (Js _)|exact Zt (Ka _)|exact Zt (Jo _)|exact Zt (Kb _ _ _ _)
  |exact Vj _|exact Jq _|exact Ve _|exact Uf _|exact Vh _|exact We _|exact Ua _|exact Ms _|exact Ur _|exact Nm _ _ _|exact Vf _|exact Vr
  |(refine Kl ?_ fun _=>?_)|split|dsimp only)
theorem jm(op:BinOp)(x y:ByteArray):Le P (Op.stringOp op x y):=by
 unfold Op.stringOp
 repeat' (first
  |exact Jz _|exact Zt (Js _)|exact Zt (Ka _)|exact Zt (Jo _)|exact Zt (Kb _ _ _ _)
  |exact Vj _|exact Jq _|exact Ve _|exact Uf _|exact Vh _|exact We _|exact Ua _|exact Ms _|exact Ur _|exact Nm _ _ _|exact Vf _|exact Vr
  |(refine Kl ?_ fun _=>?_)|split|dsimp only)
theorem Iy(a:Addr):∀(n i:Nat)(acc:Array Value),Rdr P (loadCellsFrom a i n acc)
 |0,i,acc=>(Jz _).rdr
 |n+1,i,acc=>by
  unfold loadCellsFrom;exact cM (qb _ _) fun v=>Iy a n (i+1) _
theorem qa(t:TypeId)(a:Addr):Rdr P (loadVar t a):=by
 unfold loadVar;refine cM (Uf t).rdr fun b=>?_;split
 .exact cM (Vj t).rdr fun n=>cM (Iy _ _ _ _) fun _=>(Jz _).rdr
 exact qb _ _
theorem uU(t:TypeId)(v:Value):Rdr P (Instr.loadAt t v):=cM (Vf v).rdr fun a=>qa t a
def Value.flat:Value->Bool
 |.int _ _|.bool _|.string _=>true
 |_=>false
def Value.isInt:Value->Bool
 |.int _ _=>true
 |_=>false
def Value.isPtr:Value->Bool
 |.pointer _=>true
 |_=>false
def Value.hasLen:Value->Bool
 |.string _|.slice _ _ _=>true
 |_=>false
theorem nL(op:BinOp)(t:TypeId)(x y:Operand)(a b:Value)(ha:Value.flat a=true):Le P (eqGuard op t x y a b):=by
 have h:eqGuard op t x y a b=pure ():=by
  cases a <;> simp[Value.flat]at ha
  .exact eqGuard_at_bool op t x y b _
  .exact eqGuard_at_int op t x y b _ _
  exact eqGuard_at_string op t x y b _
 rw[h];exact Jz _
theorem nK(d:Nat)(t:TypeId)(a b:Value)(ha:Value.flat a=true)(hb:Value.flat b=true):Le P (Op.equalIn (d+1) t a b):=by
 unfold Op.equalIn;refine Kl (Jq t) fun u=>?_;cases a <;> simp only[Value.flat,Bool.false_eq_true]at ha <;> cases b <;> simp only[Value.flat,Bool.false_eq_true]at hb <;> cases u <;> dsimp only <;>
  first|exact Jz _|exact Zt (Js _)|(split <;> first|exact Jz _|exact Zt (Js _))
theorem vB(op:BinOp)(t:TypeId)(a b:Value)(ha:Value.flat a=true)(hb:Value.flat b=true):Le P (binOp op t a b):=by
 have heq:Le P (Op.equal t a b):=nK 9999 t a b ha hb;cases a <;> simp only[Value.flat,Bool.false_eq_true]at ha <;> cases b <;> simp only[Value.flat,Bool.false_eq_true]at hb <;> cases op <;> simp only[binOp] <;>
  first
  |exact Zt (Js _)|exact jm _ _ _|exact qgC _ _ _ _ _
  |exact Kl heq fun _=>Jz _
  |(split <;> first|exact Zt (Js _)|exact kT _ _ _ _|exact zy _ _ _ _|exact pZ _ _ _ _|exact zz _ _ _)
end Go.Proofs.YtmaojnmnbpomeaaGreatDoor.Text
namespace Go.Proofs.YtmaojnmnbpomeaaGreatDoor.Text
open Go
variable{s:Sem Value}
variable {P:Program}
def ee(c:Call):Bool:=match c.callee with|.builtin .len=>true|_=>false
def lR(P:Program)(o:Oper):Nat :=
 match o.op with
 |.move _|.assign _|.pick .. |.extract .. |.field .. |.index .. |.indexAddr .. |.slice .. |.binOp .. |.unOp .. |.nilCheck _=>0
 |.fieldAddr s _ f=>if sN P s f then 0 else 2
 |.convert _ dst _=>match P.underlying dst with
  |some (.int _)=>0
  |_=>2
 |.load ..=>1
 |.call c=>if ee c then 0 else 2
 |_=>2
def aY(ρ:Operand->Value)(o:Oper):Bool :=
 match o.op with
 |.binOp _ _ x y _=>Value.flat (ρ x)&&Value.flat (ρ y)
 |.unOp _ _ x=>Value.flat (ρ x)
 |.nilCheck x=>Value.isPtr (ρ x)
 |.convert _ _ x=>Value.isInt (ρ x)
 |.call c=>match c.args.toList with
  |[x]=>!ee c||Value.hasLen (ρ x)
  |_=>!ee c
 |_=>true
def Fi(o:Oper):Bool :=
 match o.op with
 |.binOp .. |.unOp .. |.nilCheck _|.convert .. |.call _=>true
 |_=>false
def qkL(P:Program)(s:Sem Next):Prop:=∀w n w',s.run P w=.ok n w'->w'=w/\∃v,n=.value v/\∀w2,s.run P w2=.ok (.value v) w2
def zfJ(P:Program)(s:Sem Next):Prop:=∀w n w',s.run P w=.ok n w'->w'=w/\∃v,n=.value v
theorem To(h:Le P s):qkL P (do pure (.value (<-s))):=fun w n w' hr=>by
 obtain⟨v,w1,h1,h2⟩:=Ft hr;obtain⟨e,g⟩:=h w v w1 h1;subst e;simp only[Sem.run_pure]at h2;injection h2 with h3 h4;subst h3 h4;refine⟨rfl,v,rfl,fun w2=>?_⟩;rw[Zg,g w2];rfl
theorem qcW(h:Rdr P s):zfJ P (do pure (.value (<-s))):=fun w n w' hr=>by
 obtain⟨v,w1,h1,h2⟩:=Ft hr;have e:=h w v w1 h1;subst e;simp only[Sem.run_pure]at h2;injection h2 with h3 h4;subst h3 h4;exact⟨rfl,v,rfl⟩
theorem nM(v:Value):qkL P (pure (.value v)):=fun w n w' hr=>by
 simp only[Sem.run_pure]at hr;injection hr with h3 h4;subst h3 h4;exact⟨rfl,v,rfl,fun _=>rfl⟩
theorem uY(op:UnOp)(x:Value)(h:Value.flat x=true):Le P (Op.unary op x):=by
 cases x <;> simp only[Value.flat,Bool.false_eq_true]at h <;> cases op <;> simp only[Op.unary] <;>
  first|exact Jz _|exact kT _ _ _ _|exact pZ _ _ _ _|exact Zt (Js _)
theorem xF{ρ:Operand->Value}{o:Oper}(h:lR P o=0)(hd:aY ρ o=true):qkL P (execOp ρ o):=by
 obtain⟨dst,op,type,pos,after,guard⟩:=o;cases op <;> simp only[lR]at h <;> simp only[execOp] <;> try (exact absurd h (by decide))
 case move x=>exact nM _
 case assign x=>exact nM _
 case pick c a b =>
  intro w n w' hr;obtain⟨v,w1,h1,h2⟩:=Ft hr;obtain⟨e,g⟩:=Ua (P:=P) _ w v w1 h1;subst e;simp only[Sem.run_pure]at h2;injection h2 with h3 h4;subst h3 h4;refine⟨rfl,_,rfl,fun w2=>?_⟩;rw[Zg,g w2];rfl
 case nilCheck x =>
  simp only[aY]at hd;cases hx:ρ x <;> rw[hx]at hd <;> simp only[Value.isPtr,Bool.false_eq_true]at hd;rename_i a;cases a with
  |none=>exact fun w n w' hr=>absurd hr (Jo _ w n w')
  |some a=>exact nM _
 case binOp op t x y yt =>
  simp only[aY,Ym]at hd;exact To (Kl (nL _ _ _ _ _ _ hd.1) fun _=>vB _ _ _ _ hd.1 hd.2)
 case unOp op t x=>exact To (uY _ _ hd)
 case convert src dst x =>
  simp only[aY]at hd;cases hx:ρ x <;> rw[hx]at hd <;> simp only[Value.isInt,Bool.false_eq_true]at hd;rename_i k n;refine To ?_;cases hu:P.underlying dst with
  |none=>rw[hu]at h;exact absurd h (by decide)
  |some d =>
   rw[hu]at h;have mV:∃kd,d=.int kd:=by cases d <;> first|exact⟨_,rfl⟩|(exfalso;simp at h)
   obtain⟨kd,rfl⟩:=mV;unfold convert;refine Kl (Jq src) fun ds=>iJ (Jq dst) fun dd w w' hdd=>?_;rw[run_underlying hu]at hdd;injection hdd with h1 _;subst h1;exact Jz _
 case field t x f=>exact To (qgE _ _ _)
 case fieldAddr t x f =>
  by_cases hok:sN P t f=true
  .exact To (qj _ _ _ hok)
  rw[if_neg hok]at h;exact absurd h (by decide)
 case index t x i=>exact To (qgD _ _ _)
 case indexAddr t x i=>exact To (qi _ _ _)
 case slice t x lo hi mx=>exact To (qh _ _ _ _ _)
 case extract x i=>exact To (qk _ _)
 case call c =>
  have hc:ee c=true:=by
   rcases Yo (ee c)with hc|hc
   .exact hc
   rw[hc]at h;exact absurd h (by decide)
  obtain⟨callee,args,argTypes⟩:=c;have qqH:callee=.builtin .len:=by
   unfold ee at hc;dsimp only at hc;split at hc
   .rfl
   cases hc
  subst qqH;simp only[aY,hc,Bool.not_true,Yt]at hd;obtain⟨l⟩:=args
  match l,hd with
  |[x],hd =>
   simp only at hd;have hl:Le P (Builtin.len_ argTypes type #[ρ x]):=by
    unfold Builtin.len_;cases hx:ρ x <;> rw[hx]at hd <;> simp only[Value.hasLen,Bool.false_eq_true]at hd <;>
     repeat' (first
      |exact Jz _|exact Zt (Js _)|exact Jq _
      |(exfalso;rename_i heq;simp at heq;done)
      |(refine Kl ?_ fun _=>?_)|split|dsimp only)
   have he:(do let d <-resolve ρ { callee:=.builtin .len,args:=[x].toArray,argTypes:=argTypes } type;invoke d.target d.args:Sem Next)=(do pure (.value (<-Builtin.len_ argTypes type #[ρ x]))):=by
    simp[resolve,invoke,builtin]
   rw[he];exact To hl
end Go.Proofs.YtmaojnmnbpomeaaGreatDoor.Text
namespace Go.Proofs.YtmaojnmnbpomeaaGreatDoor.Text
open Go
variable{a:Act}{K K':Act->World->Prop}{c:Nat}{d dst:Option Tmp}{v:Value}{w:World}
variable {P:Program} {ops:Array Oper}
def Im(a a':Act)(d:Option Tmp):Prop:=∃u ds,a'=({ a with defers:=ds }:Act).put d u
theorem Jm(a:Act)(d:Option Tmp)(u:Value):Im a (a.put d u) d:=⟨u,a.defers,rfl⟩
def Y1(P:Program)(ops:Array Oper)(o:Oper)(v:Value)(a:Act)(w:World):Prop :=
 (Region.wanted o (yielded ops a.tmps)=true/\(execOp a.eval o).run P w=.ok (.value v) w)\/(Region.wanted o (yielded ops a.tmps)=false/\v=undef)
def xx:Exit->Act->World->Prop:=fun _ _ _=>False
def rB(P:Program)(ops:Array Oper)(c:Nat)(o:Oper)(K:Act->World->Prop)(a:Act)(w:World):Prop :=
 match c with
 |0=>∃v,Yields P ops o v a/\K (a.put o.dst v) w
 |1=>∃v,Y1 P ops o v a w/\K (a.put o.dst v) w
 |_=>if Region.wanted o (yielded ops a.tmps)=true then o.wp P a w K xx else K (a.put o.dst undef) w
theorem Br{o:Oper}{Q:Exit->Act->World->Prop}(hQ:∀e a w,e≠.normal->¬ Q e a w)(h:o.wp P a w K Q):∃a' w',Im a a' o.dst/\K a' w':=by
 unfold Oper.wp at h;generalize (execOp a.eval o).run P w=r at h;cases r with
 |ok n w' =>
  cases n <;> simp only[Oper.upon]at h
  case value v=>exact⟨_,w',Jm _ _ _,h⟩
  case skip=>exact⟨_,w',Jm _ _ _,h⟩
  case defer d=>exact⟨_,w',⟨undef,_,rfl⟩,h⟩
  case enter f args =>
   obtain⟨e,w'',fr,he,_⟩:=h [];cases e with
   |returned v=>exact⟨_,w'',Jm _ _ _,he⟩
   |panicked c=>exact absurd he (hQ _ _ _ (by simp))
   |outgrown=>obtain⟨a2,w2,h2⟩:=(he:LetsOut Q);exact absurd h2 (hQ _ _ _ (by simp))
  case row row args =>
   obtain⟨v,w'',he,_⟩:=h default [];exact⟨_,w'',Jm _ _ _,he⟩
 |halt x w' =>
  cases x <;> simp only[Oper.upon]at h
  case panic v=>exact absurd h (hQ _ _ _ (by simp))
theorem kW:∀(e:Exit)(a:Act)(w:World),e≠.normal->¬ xx e a w:=fun _ _ _ _ h=>h
theorem cV:¬ LetsOut xx:=fun⟨_,_,h⟩=>h
theorem nD{o:Oper}
  (Ug:∀cs b,o.op≠.select cs b) (h1:∀d,dst=some d->d∉o.looksAt ops) (h2:∀d,dst=some d->o.dst≠some d)
  (hK:∀a' w',Im a a' o.dst->K a' w'->K' (a'.put dst v) w') (h:o.wp P a w K xx):o.wp P (a.put dst v) w K' xx:=by
 unfold Oper.wp at*;rw[execOp_put (ops:=ops) o Ug a dst v h1];generalize (execOp a.eval o).run P w=r at*;cases r with
 |ok n w' =>
  cases n <;> simp only[Oper.upon]at h |-
  case value u=>rw[Act.put_comm a v u h2];exact hK _ _ (Jm _ _ _) h
  case skip=>rw[Act.put_comm a v undef h2];exact hK _ _ (Jm _ _ _) h
  case defer d =>
   rw[Act.put_defers,Act.put_comm _ v undef h2];exact hK _ _ ⟨undef,_,rfl⟩ h
  case enter f args =>
   refine Calls.mono h fun e w'' he=>?_;cases e with
   |returned u=>simp only at he |-;rw[Act.put_comm a v u h2];exact hK _ _ (Jm _ _ _) he
   |panicked c=>exact he
   |outgrown=>exact he
  case row row args=>exact Rows.mono h fun u w'' he=>by rw[Act.put_comm a v u h2];exact hK _ _ (Jm _ _ _) he
 |halt x w'=>cases x <;> simp only[Oper.upon]at h |- <;> exact h
theorem iC{o:Oper}
  (Ug:∀cs b,o.op≠.select cs b) (h1:∀d,dst=some d->d∉o.looksAt ops) (h2:∀d,dst=some d->o.dst≠some d)
  (hK:∀a' w',Im a a' o.dst->K (a'.put dst v) w'->K' a' w') (h:o.wp P (a.put dst v) w K xx):o.wp P a w K' xx:=by
 unfold Oper.wp at*;rw[execOp_put (ops:=ops) o Ug a dst v h1]at h;generalize (execOp a.eval o).run P w=r at*;cases r with
 |ok n w' =>
  cases n <;> simp only[Oper.upon]at h |-
  case value u=>rw[Act.put_comm a v u h2]at h;exact hK _ _ (Jm _ _ _) h
  case skip=>rw[Act.put_comm a v undef h2]at h;exact hK _ _ (Jm _ _ _) h
  case defer d =>
   rw[Act.put_defers,Act.put_comm _ v undef h2]at h;exact hK _ _ ⟨undef,_,rfl⟩ h
  case enter f args =>
   refine Calls.mono h fun e w'' he=>?_;cases e with
   |returned u=>simp only at he |-;rw[Act.put_comm a v u h2]at he;exact hK _ _ (Jm _ _ _) he
   |panicked c=>exact he
   |outgrown=>exact he
  case row row args=>exact Rows.mono h fun u w'' he=>by rw[Act.put_comm a v u h2]at he;exact hK _ _ (Jm _ _ _) he
 |halt x w'=>cases x <;> simp only[Oper.upon]at h |- <;> exact h
theorem Fe{o:Oper}{a':Act}(Ug:∀cs b,o.op≠.select cs b)(h1:∀t,d=some t->t∉o.looksAt ops)(hs:Im a a' d) :
  Yields P ops o v a↔Yields P ops o v a':=by
 obtain⟨u,ds,rfl⟩:=hs;have e1:execOp (({ a with defers:=ds }:Act).put d u).eval o=execOp a.eval o:=(execOp_put (ops:=ops) o Ug _ d u h1).trans rfl;have e2:Region.wanted o (yielded ops (({ a with defers:=ds }:Act).put d u).tmps)=Region.wanted o (yielded ops a.tmps):=wanted_put o _ d u h1;exact⟨fun h=>h.of_same e1 e2,fun h=>h.of_same e1.symm e2.symm⟩
theorem gY{o:Oper}{v':Value}(w:World)(h:Yields P ops o v a)(h':Yields P ops o v' a):v=v':=by
 rcases h with ⟨hw,h⟩|⟨hw,rfl⟩ <;> rcases h' with ⟨eh,h'⟩|⟨eh,rfl⟩
 .have:=(h w).symm.trans (h' w);injection this with h1 _;injection h1
 .rw[hw]at eh;cases eh
 .rw[hw]at eh;cases eh
 rfl
theorem ij{o:Oper}{u:Value}(Ug:∀cs b,o.op≠.select cs b)(h1:∀t,d=some t->t∉o.looksAt ops) :
  Y1 P ops o v (a.put d u) w↔Y1 P ops o v a w:=by
 unfold Y1;rw[execOp_put (ops:=ops) o Ug a d u h1,wanted_put o a d u h1]
theorem tX{o:Oper}(h:∀a w,K a w->K' a w)(hh:rB P ops c o K a w):rB P ops c o K' a w:=by
 unfold rB at*;split at hh
 .obtain⟨v,h1,h2⟩:=hh;exact⟨v,h1,h _ _ h2⟩
 .obtain⟨v,h1,h2⟩:=hh;exact⟨v,h1,h _ _ h2⟩
 split at hh
 .rename_i hw;rw[if_pos hw];exact Oper.wp_mono h hh
 rename_i hw;rw[if_neg hw];exact h _ _ hh
theorem qnD{o:Oper}(hh:rB P ops c o K a w):∃a' w',Im a a' o.dst/\K a' w':=by
 unfold rB at hh;split at hh
 .obtain⟨v,_,h⟩:=hh;exact⟨_,_,Jm _ _ _,h⟩
 .obtain⟨v,_,h⟩:=hh;exact⟨_,_,Jm _ _ _,h⟩
 split at hh
 .exact Br kW hh
 exact⟨_,_,Jm _ _ _,hh⟩
theorem qvV{o:Oper}
  (Ug:∀cs b,o.op≠.select cs b) (h1:∀d,dst=some d->d∉o.looksAt ops) (h2:∀d,dst=some d->o.dst≠some d)
  (hK:∀a' w',Im a a' o.dst->K a' w'->K' (a'.put dst v) w') (hh:rB P ops c o K a w):rB P ops c o K' (a.put dst v) w:=by
 unfold rB at*;split at hh
 .obtain⟨u,hy,h⟩:=hh;refine⟨u,(Fe Ug h1 (Jm a dst v)).1 hy,?_⟩;rw[Act.put_comm a v u h2];exact hK _ _ (Jm _ _ _) h
 .obtain⟨u,hy,h⟩:=hh;refine⟨u,(ij Ug h1).2 hy,?_⟩;rw[Act.put_comm a v u h2];exact hK _ _ (Jm _ _ _) h
 rw[wanted_put o a dst v h1];split at hh
 .rename_i hw;rw[if_pos hw];exact nD Ug h1 h2 hK hh
 rename_i hw;rw[if_neg hw,Act.put_comm a v undef h2];exact hK _ _ (Jm _ _ _) hh
theorem qfR{o:Oper}
  (Ug:∀cs b,o.op≠.select cs b) (h1:∀d,dst=some d->d∉o.looksAt ops) (h2:∀d,dst=some d->o.dst≠some d)
  (hK:∀a' w',Im a a' o.dst->K (a'.put dst v) w'->K' a' w') (hh:rB P ops c o K (a.put dst v) w):rB P ops c o K' a w:=by
 unfold rB at*;split at hh
 .obtain⟨u,hy,h⟩:=hh;refine⟨u,(Fe Ug h1 (Jm a dst v)).2 hy,?_⟩;rw[Act.put_comm a v u h2]at h;exact hK _ _ (Jm _ _ _) h
 .obtain⟨u,hy,h⟩:=hh;refine⟨u,(ij Ug h1).1 hy,?_⟩;rw[Act.put_comm a v u h2]at h;exact hK _ _ (Jm _ _ _) h
 rw[wanted_put o a dst v h1]at hh;split at hh
 .rename_i hw;rw[if_pos hw];exact iC Ug h1 h2 hK hh
 rename_i hw;rw[if_neg hw];rw[Act.put_comm a v undef h2]at hh;exact hK _ _ (Jm _ _ _) hh
theorem swap{cx cy:Nat}{x y:Oper}(Be:∀cs b,x.op≠.select cs b)(hsy:∀cs b,y.op≠.select cs b)
  (hap:x.apart ops y=true) (hc:cx=0\/cy=0\/(cx=1/\cy=1)) (h:rB P ops cx x (rB P ops cy y K) a w):rB P ops cy y (rB P ops cx x K) a w:=by
 obtain⟨p1,p2,p3⟩:=Oper.apart_spec hap;have p2':∀d,y.dst=some d->x.dst≠some d:=fun d hd hx=>p2 d hx hd;rcases hc with rfl|rfl|⟨rfl,rfl⟩
 .obtain⟨v,hy,h2⟩:=h;exact qfR hsy p1 p2 (fun a' w' hs hk=>⟨v,(Fe Be p3 hs).1 hy,hk⟩) h2
 .obtain⟨a1,w1,hs,v,hy,_⟩:=qnD h;have hy0:=(Fe hsy p1 hs).2 hy;refine⟨v,hy0,qvV Be p3 p2' (fun a' w' hs' hk=>?_) h⟩;obtain⟨v',hy',hk⟩:=hk;have:=gY w' hy' ((Fe hsy p1 hs').1 hy0);subst this;exact hk
 obtain⟨v,hy,u,hu,hk⟩:=h;refine⟨u,(ij hsy p1).1 hu,v,(ij Be p3).2 hy,?_⟩;rw[<-Act.put_comm a v u p2];exact hk
def sC(P:Program)(ops:Array Oper)(cl:Nat->Nat)(Q:Act->World->Prop):List Nat->Act->World->Prop
 |[],a,w=>Q a w
 |i::r,a,w=>match ops[i]? with
  |none=>sC P ops cl Q r a w
  |some o=>rB P ops (cl i) o (sC P ops cl Q r) a w
def kp(ops:Array Oper)(cl:Nat->Nat)(i j:Nat):Bool :=
 match ops[i]?,ops[j]? with
 |some x,some y=>x.apart ops y&&(cl i==0||cl j==0||(cl i==1&&cl j==1))
 |_,_=>true
theorem qdZ{cl:Nat->Nat}{Q:Act->World->Prop}(Ug:Region.noSelect ops=true)(i:Nat)(l2:List Nat):∀(l1:List Nat)(a:Act)(w:World),(∀x∈l1,kp ops cl x i=true) ->
  sC P ops cl Q (l1++i::l2) a w->sC P ops cl Q (i::(l1++l2)) a w
 |[],_,_,_,h=>h
 |x::l1,a,w,hc,h=>by
  have hx:=hc x (by simp);have ih:=fun a w=>qdZ (cl:=cl) (Q:=Q) Ug i l2 l1 a w (fun y hy=>hc y (by simp[hy]));cases hox:ops[x]? with
  |none =>
   have h':sC P ops cl Q (l1++i::l2) a w:=by simpa[sC,hox]using h
   have:=ih a w h';unfold sC at this |-;split at this
   .simpa[sC,hox]using this
   exact tX (fun a w hh=>by simpa[sC,hox]using hh) this
  |some ox =>
   have h1:rB P ops (cl x) ox (sC P ops cl Q (l1++i::l2)) a w:=by simpa[sC,hox]using h
   have h2:=tX ih h1;cases hoi:ops[i]? with
   |none=>simpa[sC,hox,hoi]using h2
   |some oi =>
    simp only[kp,hox,hoi,Ym,Yu,beq_iff_eq]at hx;have h3:rB P ops (cl x) ox (rB P ops (cl i) oi (sC P ops cl Q (l1++l2))) a w:=by simpa[sC,hoi]using h2
    have h4:=swap (fun cs b=>Region.noSelect_spec Ug x ox cs b hox) (fun cs b=>Region.noSelect_spec Ug i oi cs b hoi) hx.1 (by rcases hx.2 with (h|h)|h;exact .inl h;exact .inr (.inl h);exact .inr (.inr h)) h3;have h5:rB P ops (cl i) oi (sC P ops cl Q (x::(l1++l2))) a w:=tX (fun a w hh=>by simpa[sC,hox]using hh) h4;simpa[sC,hoi]using h5
end Go.Proofs.YtmaojnmnbpomeaaGreatDoor.Text
namespace Go.Proofs.YtmaojnmnbpomeaaGreatDoor.Text
open Go
variable{listed:Array Bool}{Q:Exit->Act->World->Prop}{i x:Nat}{cl:Nat->Nat}
variable {P:Program} {ops:Array Oper}
inductive Dep(ops:Array Oper):Nat->Nat->Prop
 |here {i:Nat} {o:Oper} {e:Edge} (ho:ops[i]?=some o) (he:e∈o.after) (hb:Region.binds .any e=true):Dep ops i e.on
 |there {i x:Nat} {o:Oper} {e:Edge} (ho:ops[i]?=some o) (he:e∈o.after) (hb:Region.binds .any e=true) (h:Dep ops e.on x):Dep ops i x
def qoL(acc:List Nat)(o:Oper):Nat:=o.after.toList.foldl (fun s e=>if Region.binds .any e then s ||| (2 ^ e.on ||| acc.getD e.on 0)else s) 0
def dm:List Oper->List Nat->List Nat
 |[],acc=>acc
 |o::r,acc=>dm r (acc++[qoL acc o])
theorem fa(acc:List Nat)(x:Nat):∀(l:List Edge)(s:Nat),(l.foldl (fun s e=>if Region.binds .any e then s ||| (2 ^ e.on ||| acc.getD e.on 0)else s) s).testBit x=true ->
  s.testBit x=true\/∃e∈l,Region.binds .any e=true/\(e.on=x\/(acc.getD e.on 0).testBit x=true)
 |[],s,h=>.inl h
 |e::l,s,h=>by
  rw[List.foldl_cons]at h;rcases fa acc x l _ h with h1|⟨e',yS,hb,h1⟩
  .split at h1
   .rename_i hb;rw[Nat.testBit_or,Nat.testBit_or,Yu,Yu]at h1;rcases h1 with h1|h1|h1
    .exact .inl h1
    .refine .inr ⟨e,by simp,hb,.inl ?_⟩;rw[Nat.testBit_two_pow]at h1;simpa using h1
    exact .inr ⟨e,by simp,hb,.inr h1⟩
   exact .inl h1
  exact .inr ⟨e',by simp[yS],hb,h1⟩
theorem Hj:∀(l:List Oper)(acc:List Nat),(∀j,l[j]?=ops[acc.length+j]?)->(∀i x,i<acc.length->(acc.getD i 0).testBit x=true->Dep ops i x) ->
  ∀i x,((dm l acc).getD i 0).testBit x=true->Dep ops i x
 |[],acc,_,h,i,x,hb=>by
  rcases Nat.lt_or_ge i acc.length with hi|hi
  .exact h i x hi hb
  simp[dm,Xg hi]at hb
 |o::r,acc,hl,h,i,x,hb=>by
  refine Hj r (acc++[qoL acc o]) (fun j=>?_) (fun i x hi hb=>?_) i x hb
  .have:=hl (j+1);simp only[List.getElem?_cons_succ]at this;rw[this,Qe,Qf];congr 1;omega
  rw[Qe,Qf]at hi;by_cases hia:i<acc.length
  .rw[Qb,Qo hia,<-Qb]at hb;exact h i x hia hb
  have hie:i=acc.length:=by omega
  subst hie;rw[Qb,Qn (Yb _)]at hb;simp only[Nat.sub_self,List.getElem?_cons_zero,Option.getD_some]at hb;have ho:ops[acc.length]?=some o:=by simpa using (hl 0).symm
  rcases fa acc x _ _ hb with h1|⟨e,he,hbi,h1⟩
  .simp at h1
  rcases h1 with rfl|h1
  .exact .here ho (by simpa using he) hbi
  rcases Nat.lt_or_ge e.on acc.length with Jl|hge
  .exact .there ho (by simpa using he) hbi (h _ _ Jl h1)
  simp[Xg hge]at h1
def dR(ops:Array Oper):Bool:=(List.range ops.size).all fun i=>match ops[i]? with
 |some o=>o.after.all fun e=>!Region.binds .any e||decide (e.on<i)
 |none=>true
def X_(ops:Array Oper)(cl:Nat->Nat):Bool :=
 let m:=dm ops.toList []
 (List.range ops.size).all fun i=>(List.range i).all fun x=>(m.getD i 0).testBit x||kp ops cl x i
theorem Q_(h:X_ ops cl=true)(hi:i<ops.size)(hx:x<i):Dep ops i x\/kp ops cl x i=true:=by
 have h1:=Xq.1 h i (Ya.2 hi);have h2:=Xq.1 h1 x (Ya.2 hx);rw[Yu]at h2;rcases h2 with h2|h2
 .exact .inl (Hj ops.toList [] (by simp) (fun i x hi=>absurd hi (by simp)) i x h2)
 exact .inr h2
def mj(ops:Array Oper)(listed:Array Bool):Prop:=∀j o,ops[j]?=some o->listed.getD j false=true->∀e∈o.after,Region.binds .any e=true->listed.getD e.on false=true
theorem Cy(hc:mj ops listed)(h:Dep ops i x) :
  (∀o,ops[i]?=some o->∀e∈o.after,Region.binds .any e=true->listed.getD e.on false=true)->listed.getD x false=true:=by
 induction h with
 |here ho he hb=>intro h;exact h _ ho _ he hb
 |there ho he hb _ ih=>intro h;exact ih fun o' yR=>hc _ o' yR (h _ ho _ he hb)
theorem Fz{n:Nat}(hn:listed.size=n)(hi:i<n):listed.getD i true=listed.getD i false:=by
 subst hn;simp[hi]
theorem nu{c:Nat}{o:Oper}{K:Act->World->Prop}{a:Act}{w:World}(ho:ops[i]?=some o)(h:rB P ops c o K a w):wpOp P ops Q i K a w:=by
 unfold wpOp;simp only[ho];unfold rB at h;split at h
 .obtain⟨v,hy,hk⟩:=h;rcases hy with ⟨hw,hv⟩|⟨hw,rfl⟩
  .rw[if_pos hw];left;unfold Oper.wp;rw[hv w];exact hk
  rw[if_neg (by simp[hw])];exact hk
 .obtain⟨v,hy,hk⟩:=h;rcases hy with ⟨hw,hv⟩|⟨hw,rfl⟩
  .rw[if_pos hw];left;unfold Oper.wp;rw[hv];exact hk
  rw[if_neg (by simp[hw])];exact hk
 split at h
 .rename_i hw;rw[if_pos hw];left;unfold Oper.wp at*;generalize (execOp a.eval o).run P w=r at*;cases r with
  |ok n w' =>
   cases n <;> simp only[Oper.upon]at h |- <;> first
    |exact h
    |exact Calls.mono h fun e w'' he=>by
      cases e with
      |returned u=>exact he
      |panicked c=>exact absurd he id
      |outgrown=>exact absurd he cV
  |halt x w'=>cases x <;> simp only[Oper.upon]at h |- <;> first|exact h|exact absurd h id
 rename_i hw;rw[if_neg hw];exact h
theorem qsF(Ug:Region.noSelect ops=true)(Cu:dR ops=true)(hp:X_ ops cl=true) :
  ∀(rem:List Nat)(listed:Array Bool)(a:Act)(w:World),listed.size=ops.size->rem.Pairwise (·<·)->(∀j,j∈rem↔j<ops.size/\listed.getD j false=false)->mj ops listed ->
   sC P ops cl (fun a w=>Q .normal a w) rem a w->wpAny P .any ops Q rem.length listed a w:=by
 intro rem
 induction hn:rem.length generalizing rem with
 |zero =>
  intro listed a w hs _ hm _ h;have he:rem=[]:=Xx hn;subst he;refine⟨?_,h⟩;apply List.eq_nil_iff_forall_not_mem.2;intro j hj;obtain⟨h0,o,ho,_⟩:=mem_ready.1 hj;have Jl:j<ops.size:=(gl ho);rw[Fz hs Jl]at h0;exact absurd ((hm j).2 ⟨Jl,h0⟩) (by simp)
 |succ n ih =>
  intro listed a w hs yP hm hc h;have wG:Region.ready .any ops listed≠[]:=by
   cases hr:rem with
   |nil=>rw[hr]at hn;cases hn
   |cons i0 r =>
    have sz:=(hm i0).1 (by rw[hr];simp);intro zU;have Ml:i0∈Region.ready .any ops listed:=by
     refine mem_ready.2 ⟨by rw[Fz hs sz.1];exact sz.2,ops[i0],Array.getElem?_eq_getElem sz.1,fun e he hb=>?_⟩;have h1:=Xq.1 Cu i0 (Ya.2 sz.1);simp only[Array.getElem?_eq_getElem sz.1]at h1;have h2:=Array.all_eq_true_iff_forall_mem.1 h1 e he;simp only[hb,Bool.not_true,Yt,Yk]at h2;rcases Yo (listed.getD e.on false)with h3|h3
     .exact h3
     have h4:=(hm e.on).2 ⟨by omega,h3⟩;rw[hr]at h4 yP;rcases List.mem_cons.1 h4 with h5|h5
     .omega
     have:=(Qx.1 yP).1 _ h5;omega
    rw[zU]at Ml;cases Ml
  refine⟨fun h0=>absurd h0 wG,fun i hi=>?_⟩;obtain⟨h0,o,ho,Wc⟩:=mem_ready.1 hi;have Jl:i<ops.size:=(gl ho);rw[Fz hs Jl]at h0;have hir:i∈rem:=(hm i).2 ⟨Jl,h0⟩;obtain⟨l1,l2,hl⟩:=List.append_of_mem hir;subst hl;rw[List.pairwise_append]at yP;obtain⟨pw1,pw2,pw3⟩:=yP;have qg:=Qx.1 pw2;have hf:=qdZ Ug i l2 l1 a w (fun x hx=>by
   have hxi:x<i:=pw3 x hx i (by simp)
   rcases Q_ hp Jl hxi with hd|hcp
   .have:=Cy hc hd (fun o' yR e he hb=>by rw[ho]at yR;injection yR with e2;subst e2;exact Wc e he hb)
    have h2:=((hm x).1 (by simp[hx])).2
    rw[this]at h2
    cases h2
   exact hcp) h
  have hst:rB P ops (cl i) o (sC P ops cl (fun a w=>Q .normal a w) (l1++l2)) a w:=by simpa[sC,ho]using hf
  refine wpOp_mono (fun a' w' hh=>?_) (nu (Q:=Q) ho hst);have hlen:(l1++l2).length=n:=by simp at hn |-;omega
  refine ih (l1++l2) hlen (listed.setIfInBounds i true) a' w' (by simpa using hs) ?_ (fun j=>?_) ?_ hh
  .rw[List.pairwise_append];exact⟨pw1,qg.2,fun x hx y hy=>pw3 x hx y (by simp[hy])⟩
  .by_cases Aa:j=i
   .subst Aa;constructor
    .intro hj;rcases Qh.1 hj with h5|h5
     .have:=pw3 j h5 j (by simp);omega
     have:=qg.1 j h5;omega
    intro ⟨_,h5⟩;have:j<listed.size:=by omega
    simp[this]at h5
   rw[getD_set_ne false (Ne.symm Aa),<-hm j];simp[Aa]
  intro j oj yQ hj e he hb;by_cases Aa:j=i
  .subst Aa;rw[ho]at yQ;injection yQ with e2;subst e2;exact getD_set_true (Wc e he hb)
  rw[getD_set_ne false (Ne.symm Aa)]at hj;exact getD_set_true (hc j oj yQ hj e he hb)
end Go.Proofs.YtmaojnmnbpomeaaGreatDoor.Text
namespace Go.Proofs.YtmaojnmnbpomeaaGreatDoor.Text
open Go
variable{a a':Act}{Q:Exit->Act->World->Prop}{ex:List Nat}{l:List Oper}{id:Nat}{w:World}
variable {P:Program} {ops:Array Oper}
def Et(ops:Array Oper)(i:Nat)(o:Oper):Bool:=(o.looksAt ops).all fun t=>(List.range ops.size).all fun j=>decide (j<i)||match ops[j]? with
 |some oj=>oj.dst != some t
 |none=>true
def qjW(P:Program)(ops:Array Oper)(ex:List Nat)(i:Nat):Nat :=
 match ops[i]? with
 |none=>2
 |some o=>if ex.contains i then 2 else if Fi o&&!Et ops i o then 2 else lR P o
def chk(ops:Array Oper)(ex:List Nat)(a:Act):Bool:=(List.range ops.size).all fun i=>ex.contains i||match ops[i]? with
 |some o=>!Fi o||!Region.wanted o (yielded ops a.tmps)||aY a.eval o
 |none=>true
def mE(ops:Array Oper)(ex:List Nat)(Q:Exit->Act->World->Prop):Exit->Act->World->Prop:=fun e a w=>e=.normal/\chk ops ex a=true/\Q .normal a w
theorem vM(ex:List Nat)(Q:Exit->Act->World->Prop):∀(e:Exit)(a:Act)(w:World),e≠.normal->¬ mE ops ex Q e a w:=fun _ _ _ h h2=>h h2.1
theorem K_(h1:chk ops ex a=true)(h2:Q .normal a w):mE ops ex Q .normal a w:=⟨rfl,h1,h2⟩
theorem Hc(ex:List Nat)(Q:Exit->Act->World->Prop):¬ LetsOut (mE ops ex Q):=fun⟨_,_,h⟩=>by cases h.1
theorem qfD{o:Oper}{K:Act->World->Prop}(h:o.wp P a w K (mE ops ex Q)):o.wp P a w K xx:=by
 unfold Oper.wp at*;generalize (execOp a.eval o).run P w=r at*;cases r with
 |ok n w' =>
  cases n <;> simp only[Oper.upon]at h |- <;> first
   |exact h
   |exact Calls.mono h fun e w'' he=>by
     cases e with
     |returned u=>exact he
     |panicked c=>exact absurd he (vM _ _ _ _ _ (by simp))
     |outgrown=>exact absurd he (Hc _ _)
 |halt x w'=>cases x <;> simp only[Oper.upon]at h |- <;> first|exact h|exact absurd h (vM _ _ _ _ _ (by simp))
def lr(ops:Array Oper)(idx:List Nat)(a a':Act):Prop:=∀t,(∀i∈idx,∀o,ops[i]?=some o->o.dst≠some t)->a'.tmps[t]?=a.tmps[t]?
theorem uE{d:Option Tmp}(h:Im a a' d){t:Tmp}(ht:d≠some t):a'.tmps[t]?=a.tmps[t]? := by
 obtain⟨u,ds,rfl⟩:=h;cases d with
 |none=>rfl
 |some d =>
  have:d≠t:=fun e=>ht (by rw[e]);simp[Act.put,Array.getElem?_setIfInBounds_ne this]
theorem reach:∀(idx:List Nat)(a:Act)(w:World),wpOps P ops (mE ops ex Q) idx a w->∃a',chk ops ex a'=true/\lr ops idx a a'
 |[],a,w,h=>⟨a,(show mE ops ex Q .normal a w from h).2.1,fun _ _=>rfl⟩
 |i::r,a,w,h=>by
  unfold wpOps at h;cases ho:ops[i]? with
  |none =>
   simp only[ho]at h;obtain⟨a',h1,h2⟩:=reach r a w h;exact⟨a',h1,fun t ht=>h2 t fun j hj=>ht j (by simp[hj])⟩
  |some o =>
   simp only[ho]at h;have hn:∃a1 w1,Im a a1 o.dst/\wpOps P ops (mE ops ex Q) r a1 w1:=by
    split at h
    .rcases h with h|⟨_,h⟩
     .exact Br (vM _ _) h
     exact absurd h (Hc _ _)
    exact⟨_,_,Jm _ _ _,h⟩
   obtain⟨a1,w1,hs,h1⟩:=hn;obtain⟨a',h2,h3⟩:=reach r a1 w1 h1;exact⟨a',h2,fun t ht=>(h3 t fun j hj=>ht j (by simp[hj])).trans (uE hs (ht i (by simp) o ho))⟩
theorem xA{x:Operand}(h:∀t,x=.tmp t->a'.tmps[t]?=a.tmps[t]?):a'.eval x=a.eval x:=by
 cases x with
 |tmp t=>simp[Act.eval,h t rfl]
 |_=>rfl
theorem oQ{ρ ρ':Operand->Value}{o:Oper}(h:∀x∈o.op.operands,ρ' x=ρ x):aY ρ' o=aY ρ o:=by
 obtain⟨dst,op,type,pos,after,guard⟩:=o;cases op <;> simp only[aY]
 case binOp op t x y yt=>rw[h x (by simp[Op.operands]),h y (by simp[Op.operands])]
 case unOp op t x=>rw[h x (by simp[Op.operands])]
 case nilCheck x=>rw[h x (by simp[Op.operands])]
 case convert s d x=>rw[h x (by simp[Op.operands])]
 case call c =>
  obtain⟨callee,⟨l⟩,ts⟩:=c
  match l with
  |[]=>rfl
  |[x]=>simp only;rw[h x (by simp[Op.operands,Call.operands])]
  |x::y::r=>rfl
theorem qoQ:∀(n k:Nat)(a:Act)(w:World),k+n=ops.size->wpOps P ops (mE ops ex Q) (List.range' k n) a w ->
  sC P ops (qjW P ops ex) (fun a w=>Q .normal a w) (List.range' k n) a w
 |0,k,a,w,_,h=>(show mE ops ex Q .normal a w from h).2.2
 |n+1,k,a,w,hk,h=>by
  rw[List.range'_succ]at h |-;obtain⟨a',ke,qpS⟩:=reach _ a w h;have Jl:k<ops.size:=by omega
  have ho:=Array.getElem?_eq_getElem Jl;generalize ops[k]=o at ho;have ih:∀a w,wpOps P ops (mE ops ex Q) (List.range' (k+1) n) a w->sC P ops (qjW P ops ex) (fun a w=>Q .normal a w) (List.range' (k+1) n) a w:=fun a w=>qoQ n (k+1) a w (by omega);unfold wpOps at h;simp only[ho]at h;unfold sC;simp only[ho];by_cases hw:Region.wanted o (yielded ops a.tmps)=true
  .rw[if_pos hw]at h;have h1:o.wp P a w (wpOps P ops (mE ops ex Q) (List.range' (k+1) n)) (mE ops ex Q):=h.resolve_right fun h=>Hc _ _ h.2;have h2:=Oper.wp_mono ih (qfD h1);have fM:∀(hp:∀n w',(execOp a.eval o).run P w=.ok n w'->w'=w/\∃v,n=.value v),∃v,(execOp a.eval o).run P w=.ok (.value v) w/\sC P ops (qjW P ops ex) (fun a w=>Q .normal a w) (List.range' (k+1) n) (a.put o.dst v) w:=by
    intro hp;unfold Oper.wp at h2;cases hr:(execOp a.eval o).run P w with
    |ok n1 w1 =>
     obtain⟨rfl,v,rfl⟩:=hp n1 w1 hr;rw[hr]at h2;exact⟨v,rfl,h2⟩
    |halt x w1 =>
     rw[hr]at h2;cases x <;> exact absurd h2 id
   unfold rB;split
   .rename_i hc;have zlK:qkL P (execOp a.eval o):=by
     unfold qjW at hc;simp only[ho]at hc;split at hc
     .cases hc
     rename_i hex;split at hc
     .cases hc
     rename_i hst;refine xF hc ?_;by_cases Te:Fi o=true
     .have qpI:Et ops k o=true:=by
       rw[Te]at hst;simpa using hst
      have Vd:∀t∈o.looksAt ops,a'.tmps[t]?=a.tmps[t]? := by
       intro t ht;refine qpS t fun j hj oj yQ=>?_;have h5:=Xq.1 qpI t ht;have jx:k<=j/\j<ops.size:=by
        rcases List.mem_cons.1 hj with rfl|hj
        .exact⟨Yb _,Jl⟩
        have:=List.mem_range'_1.1 hj;omega
       have h6:=Xq.1 h5 j (Ya.2 jx.2);simp only[yQ,Yu,Yk,Yv]at h6;rcases h6 with h6|h6
       .omega
       exact h6
      have Uw:=Xq.1 ke k (Ya.2 Jl);simp only[ho,Yu,Te,Bool.not_true,Bool.false_eq_true,false_or]at Uw;have js:∀x∈o.op.operands,a'.eval x=a.eval x:=fun x hx=>xA fun t hxt=>Vd t (List.mem_append_left _ (List.mem_filterMap.2 ⟨x,by simpa using hx,by rw[hxt]⟩));have lD:Region.wanted o (yielded ops a'.tmps)=Region.wanted o (yielded ops a.tmps):=by
       unfold Region.wanted;cases hg:o.guard with
       |none=>rfl
       |some gw =>
        obtain⟨g,want⟩:=gw;have hy:yielded ops a'.tmps g=yielded ops a.tmps g:=by
         unfold yielded;cases hb:(ops[g]?).bind (·.dst)with
         |none=>rfl
         |some t =>
          have:=Vd t (List.mem_append_right _ (by simp[hg,hb]));simp[this]
        simp only[hy]
      rcases Uw with Uw|Uw|Uw
      .exact absurd Uw hex
      .rw[lD,hw]at Uw;cases Uw
      rw[oQ js]at Uw;exact Uw
     unfold Fi at Te;unfold aY;split at Te <;> first|(exact absurd rfl Te)|rfl|(split <;> first|rfl|(simp_all;done))
    obtain⟨v,hv,qM⟩:=fM fun n w' hr=>let ⟨e,v,hn,_⟩:=zlK w n w' hr;⟨e,v,hn⟩;obtain⟨_,v',hn,Wc⟩:=zlK _ _ _ hv;injection hn with hn;subst hn;exact⟨v,.inl ⟨hw,Wc⟩,qM⟩
   .rename_i hc;have my:∃t x,o.op=.load t x:=by
     unfold qjW at hc;simp only[ho]at hc;split at hc
     .cases hc
     split at hc
     .cases hc
     unfold lR at hc
     repeat' (split at hc)
     all_goals first|(cases hc;done)|exact⟨_,_,by assumption⟩
    obtain⟨t,x,sI⟩:=my;have hr:zfJ P (execOp a.eval o):=by
     obtain⟨dst,op,type,pos,after,guard⟩:=o;simp only at sI;subst sI;exact qcW (uU _ _)
    obtain⟨v,hv,qM⟩:=fM fun n w' h=>hr w n w' h;exact⟨v,.inl ⟨hw,hv⟩,qM⟩
   rw[if_pos hw];exact h2
  rw[if_neg hw]at h;have h2:=ih _ _ h;have hwf:Region.wanted o (yielded ops a.tmps)=false:=by simpa using hw
  unfold rB;split
  .exact⟨undef,.inr ⟨hwf,rfl⟩,h2⟩
  .exact⟨undef,.inr ⟨hwf,rfl⟩,h2⟩
  rw[if_neg hw];exact h2
def qcN(P:Program)(ops:Array Oper)(ex:List Nat):Bool:=Region.noSelect ops&&dR ops&&X_ ops (qjW P ops ex)
theorem sZ(ex:List Nat)(hm:P.follows .mixedOrders=true)(hB:qcN P l.toArray ex=true)
  (h:wpList P l.toArray (mE l.toArray ex Q) l a w.drew):(Code.region id l.toArray true).wp P Q a w:=by
 simp only[qcN,Ym]at hB;refine wp_region_any hm ?_;have h1:wpOps P l.toArray (mE l.toArray ex Q) (List.range' 0 l.length) a w.drew:=by
  rw[wpOps_eq_wpList l 0 (by simp)];exact h
 have h2:=qoQ l.length 0 a w.drew (by simp) h1;have h3:=qsF hB.1.1 hB.1.2 hB.2 (List.range' 0 l.length) (Array.replicate l.toArray.size false) a w.drew (by simp) (List.pairwise_lt_range') (fun j=>by
  rw[List.mem_range'_1]
  constructor
  .intro hj
   have Mw:j<l.length:=by simpa using hj.2
   exact⟨by simpa using Mw,by simp[Mw]⟩
  intro hj;have:=hj.1;simp at this;exact⟨by omega,by omega⟩) (fun j o ho hj=>by
  exfalso
  have:j<l.toArray.size:=(gl ho)
  simp at this
  simp[this]at hj) h2
 simpa using h3
theorem wp_text(ex:List Nat)(hm:P.follows .mixedOrders=true)(hB:qcN P l.toArray ex=true)
  (h:∀Q':Exit->Act->World->Prop,(∀a w,chk l.toArray ex a=true/\Q .normal a w->Q' .normal a w)->wpList P l.toArray Q' l a w.drew):(Code.region id l.toArray true).wp P Q a w :=
 sZ ex hm hB (h _ fun _ _ hh=>K_ hh.1 hh.2)
theorem wt(hm:(P.follows .mixedOrders&&qcN P l.toArray [])=true)
    (h:∀Q':Exit->Act->World->Prop,(∀a w,chk l.toArray [] a=true/\Q .normal a w->Q' .normal a w)->wpList P l.toArray Q' l a w.drew):(Code.region id l.toArray true).wp P Q a w:=wp_text [] (Bool.and_eq_true_iff.1 hm).1 (Bool.and_eq_true_iff.1 hm).2 h
end Go.Proofs.YtmaojnmnbpomeaaGreatDoor.Text
