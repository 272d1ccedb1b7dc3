/- A part. -/
import Derived.Test.YtmaojnmnbpomeaaGreatDoorVN12
set_option maxRecDepth 100000
set_option maxHeartbeats 64000000
namespace Go.Proofs.YtmaojnmnbpomeaaGreatDoor
open Go.RowKit
variable{e:Int×Int}{m:Kj}{rs:List (Int×Value)}{es:List (List (Int×Int))}{q:List Nat}{rows:List Uk}{F:List Wd}{B N b3 b4 g j n y:Nat}{cl:Nat->Int}{P:Program}{et kt mt:TypeId}{v:Value}{p x:Wd}{W w:World}
theorem Mb.stay{α:Type}{κ:α->Value}{w':World}{l:List (α×Value)}(h:Mb κ w g l)(hs:∀o:Obj,w.heap[g]?=some o->o.isCells=false->w'.heap[g]?=some o):Mb κ w' g l:=by
 obtain⟨es,c,hh,_⟩:=id h;exact h.of_block ((hs _ hh rfl).trans hh.symm)
abbrev zbS(W:World)(N b:Nat)(rs:List (Int×Value))(es:List (List (Int×Int))):Prop:=Ph 118 145 W N b rs es
def Ru(ts:List Wd)(e:Nat):List (List (Int×Int)):=ts.map fun x=>Ee (ts.take e) x
structure Nw(D:Nat)(w W:World)(g1 b3 b9 bo:Nat)(ts:List Wd)(v4:Value)(a e:Nat)(out:Nat->Int):Prop where
 at_:AtR wv W g1 ts a
 box3:W.heap[b3]?=some (.cells #[.map (some g1)] 147 (0,0))
 box9:W.heap[b9]?=some (.cells #[.slice (some ⟨bo,0,none⟩) ts.length ts.length] 64 (0,0))
 own:W.ownsRow w.heap.size 9 1 v4 ts.length (Zx ts)
 outs:∃rs,zbS W w.heap.size bo rs (Ru ts e)/\∀(j:Nat)(r:Int×Value),rs[j]?=some r->r.1=out j
 bel:Below w.heap.size w W
 lo:w.heap.size<=g1/\w.heap.size<=bo
 dfr:W.heap[D]?=some (.deferred (some []))
theorem xB:Dg Tryz.prog 116 145 2 16 (.agg #[.int .i64 0,.int .i64 0]):=Gh (by kernel_rfl) (by kernel_rfl) rfl (by omega)
theorem qhE{m:Nat}(h:x.length=m+1)(hm:m<(⟨x.toArray⟩:ByteArray).size):wrap64 (((⟨x.toArray⟩:ByteArray)[m].toNat:Nat):Int)=((x.getLastD 0).toNat:Int):=by
 have h1:(⟨x.toArray⟩:ByteArray)[m]=x.getLastD 0:=by
  show x.toArray[m]=_;have hne:x≠[]:=fun e=>by subst e;simp at h
  rw[List.getLastD_eq_getLast?,List.getLast?_eq_getElem?,h,Nat.add_sub_cancel,Qa (by omega)];simp
 rw[h1];have:=(x.getLastD 0).toNat_lt;have h2:((x.getLastD 0).toNat:Int)<256:=by omega
 unfold wrap64;omega
theorem rk(n:Nat):madeCells #[.int .i64 0,.slice none 0 0] (n*2)=(Up (List.replicate n (0,.slice none 0 0))).toArray:=by
 have hl:(Up (List.replicate n (0,Value.slice none 0 0))).length=n*2:=by rw[zn,Qr]
 apply Array.ext
 .rw[size_madeCells,List.size_toArray,hl]
 intro i h1 h2;rw[size_madeCells]at h1;have hk:(List.replicate n ((0:Int),Value.slice none 0 0))[i/2]?=some (0,.slice none 0 0):=by rw[Xh,if_pos (by omega)]
 obtain⟨g1,g2⟩:=iG hk;have hs:(Up (List.replicate n (0,Value.slice none 0 0)))[i]?=some (Up (List.replicate n (0,Value.slice none 0 0))).toArray[i]:=by
  rw[Qa (by omega)];rfl
 rcases Nat.mod_two_eq_zero_or_one i with h3|h3
 .rw[show i/2*2=i by omega,hs]at g1;injection g1 with g1;rw[g1];simp[madeCells,h3]
 rw[show i/2*2+1=i by omega,hs]at g2;injection g2 with g2;rw[g2];simp[madeCells,h3]
theorem zj(n:Nat)(hn:n<=2199023255552)(w:World):(Instr.makeSlice 64 (.int .i64 (n:Int)) (.int .i64 (n:Int))).run Tryz.prog w=.ok (.slice (some ⟨w.heap.size,0,none⟩) n n) (w.alloc (.cells (Up (List.replicate n (0,.slice none 0 0))).toArray 118)):=by
 obtain⟨i,hi,hzz⟩:=Option.map_eq_some_iff.1 (show (Tryz.prog.info? 118).map (fun i=>(i.zero,i.size,i.bytes))=some (some (.agg #[.int .i64 0,.slice none 0 0]),2,32) by kernel_rfl);simp only[Prod.mk.injEq]at hzz;obtain⟨hz,hs,hb⟩:=hzz;have hr:=run_make (P:=Tryz.prog) w 64 118 i _ Tryz.underlying64 hi hz .i64 .i64 n n (by omega) (Int.le_refl _) (by rw[hb];omega) (by omega);simp only[Yz,hs]at hr;rw[<-rk];exact hr
section
variable {D:Nat} {w W W':World} {g1 b3 b9 bo a e:Nat} {ts:List Wd} {v4:Value} {out out':Nat->Int}
theorem AtR.stay{κ:Wd->Value}{g i:Nat}(h:AtR κ W g ts i)(hs:∀o:Obj,W.heap[g]?=some o->o.isCells=false->W'.heap[g]?=some o):AtR κ W' g ts i:=by
 obtain⟨l,hm,hl⟩:=h;exact⟨l,hm.stay hs,hl⟩
theorem Nw.c3(h:Nw D w W g1 b3 b9 bo ts v4 a e out):W.cell? ⟨b3,0,none⟩=some (.map (some g1)):=Xc h.box3 rfl
theorem Nw.c9(h:Nw D w W g1 b3 b9 bo ts v4 a e out):W.cell? ⟨b9,0,none⟩=some (.slice (some ⟨bo,0,none⟩) ts.length ts.length):=Xc h.box9 rfl
theorem Td(ts:List Wd)(e:Nat):(Ru ts e).length=ts.length:=by simp[Ru]
theorem Nw.at_out(h:Nw D w W g1 b3 b9 bo ts v4 a e out)(hj:j<ts.length):∃v,W.cell? ⟨bo,j*2,none⟩=some (.int .i64 (out j))/\W.cell? ⟨bo,j*2+1,none⟩=some v/\(∀k,W.frozen? ⟨bo,k,none⟩=false)/\∀l,(Ru ts e)[j]?=some l->W.ownsRow w.heap.size 145 2 v l.length (Lw l):=by
 obtain⟨rs,hO,hr⟩:=h.outs;have hl:j<rs.length:=by rw[hO.len,Td];exact hj
 have hg:=Qa hl;obtain⟨c1,c2,c3⟩:=hO.cells hg;rw[hr j _ hg]at c1;exact⟨_,c1,c2,c3,fun l Hn=>hO.own j _ l hg Hn⟩
theorem Nw.keep(h:Nw D w W g1 b3 b9 bo ts v4 a e out)(hs:∀(k:Nat)(o:Obj),W.heap[k]?=some o->o.isCells=true\/k=g1\/k=D->W'.heap[k]?=some o)(hb:Below w.heap.size W W'):Nw D w W' g1 b3 b9 bo ts v4 a e out:=by
 obtain⟨rs,hO,hr⟩:=h.outs;exact⟨h.at_.stay fun o ho _=>hs _ _ ho (.inr (.inl rfl)),hs _ _ h.box3 (.inl rfl),hs _ _ h.box9 (.inl rfl),Vi h.own fun g cur _ hh=>hs _ _ hh (.inl rfl),⟨rs,hO.keep fun g cur t _ hh=>hs _ _ hh (.inl rfl),hr⟩,h.bel.trans hb,h.lo,hs _ _ h.dfr (.inr (.inr rfl))⟩
theorem Nw.others(h:Nw D w W g1 b3 b9 bo ts v4 a e out){row:Option Nat}(hg:W.grownBy W' row)(hr:∀r,row=some r->g1<r/\D<r/\∃o:Obj,W.heap[r]?=some o/\o.isCells=false):Nw D w W' g1 b3 b9 bo ts v4 a e out:=by
 refine h.keep (fun k o hk hc=>(hg.block k (gl hk) fun e=>?_).trans hk) ⟨hg.os,hg.tape,hg.output,hg.size,fun k hk=>hg.block k (Ye hk h.bel.size) fun e=>by have:=(hr k e.symm).1;have:=h.lo.1;omega⟩;obtain⟨h1,h4,o',h2,h3⟩:=hr k e.symm;rcases hc with hc|hc|hc
 .rw[hk]at h2;injection h2 with h2;subst h2;rw[hc]at h3;cases h3
 .omega
 omega
theorem Nw.ext(h:Nw D w W g1 b3 b9 bo ts v4 a e out)(ho:∀k<ts.length,out k=out' k):Nw D w W g1 b3 b9 bo ts v4 a e out':=by
 obtain⟨rs,hO,hr⟩:=h.outs;refine⟨h.at_,h.box3,h.box9,h.own,⟨rs,hO,fun j r hj=>?_⟩,h.bel,h.lo,h.dfr⟩;rw[hr j r hj];exact ho j (by rw[<-Td ts e,<-hO.len];exact (Qj.1 hj).1)
theorem Nw.tree(h:Nw D w W g1 b3 b9 bo ts v4 a ts.length out)(hl:ts.length<=maxLen)(ho:∀(k:Nat)(x:Wd),ts[k]?=some x->out k=Ed rows x)(hb:∀x,-9223372036854775808<=Ed rows x/\Ed rows x<=9223372036854775807) :
  Je Ju W W.heap.size (.slice (some ⟨bo,0,none⟩) ts.length ts.length) (Dh rows ts):=by
 obtain⟨rs,hO,hr⟩:=h.outs;have hrl:rs.length=ts.length:=by rw[hO.len,Td]
 have Ls:∀(k:Nat)(hk:k<rs.length),rs[k].1=Ed rows (ts[k]'(by omega)):=fun k hk=>by
  rw[hr k _ (Qa hk)];exact ho k _ (Qa (by omega))
 have hs:=hO.sl Ju Rc rfl rfl (c:=ts.length) (by omega) hl (fun r hm=>by
  obtain⟨k,hk,rfl⟩:=Qz hm
  rw[Ls k hk]
  exact hb _) (fun l hm e he=>by
  unfold Ru at hm
  obtain⟨x,_,rfl⟩:=Xa.1 hm
  rw[List.take_length]at he
  obtain⟨c,j,h1,h2,h3⟩:=cZ.1 (show (e.1,e.2)∈Ee ts x from he)
  have hj:=(Qj.1 h1).1
  have hc:=c.toNat_lt
  unfold maxLen at hl
  omega)
 rw[hrl]at hs;have he:((rs.zip (Ru ts ts.length)).map fun p=>(p.1.1,p.2))=Dh rows ts:=by
  apply List.ext_getElem
  .rw[Qk,List.length_zip,Td,hrl,Nat.min_self,Eb]
  intro k h1 h2;rw[Eb]at h2;simp only[Xf,List.getElem_zip,Dh,Ru,List.take_length];rw[Ls k (by omega)]
 rwa [he]at hs
theorem Nw.alloc(h:Nw D w W g1 b3 b9 bo ts v4 a e out)(o:Obj):Nw D w (W.alloc o) g1 b3 b9 bo ts v4 a e out :=
 h.keep (fun k _ hk _=>(Zf W o k (gl hk)).trans hk) ((Xr _ _).alloc h.bel.size _)
theorem Nw.drew(h:Nw D w W g1 b3 b9 bo ts v4 a e out):Nw D w W.drew g1 b3 b9 bo ts v4 a e out:=h.keep (fun _ _ hk _=>hk) (Xr _ _).drew
theorem Nw.look(h:Nw D w W g1 b3 b9 bo ts v4 a e out)(hn:ts.Nodup)(K:St P mt kt et wv){z:Value}(hz:∀w:World,(zeroValue et).run P w=.ok z w)(hj:ts[j]?=some p)(hja:j<a) :
  (Instr.lookup mt (.map (some g1)) (wv p) false).run P W=.ok (.int .i64 j) W:=by
 obtain⟨l,hm,hl⟩:=h.at_;have h1:=hm.lookup K hz p;have h2:p∈ts.take a:=by
  obtain⟨b1,b2⟩:=Qj.1 hj;exact Qp (i:=j) (by rw[List.getElem?_take,if_pos hja];exact hj)
 rw[hl,qyL h2,Ov hn hj]at h1;exact h1
theorem Nw.put(h:Nw D w W g1 b3 b9 bo ts v4 a e out)(hn:ts.Nodup)(hx:ts[a]?=some x)(K:St P mt kt et wv) :
  ∃W',(Instr.mapUpdate mt (.map (some g1)) (wv x) (.int .i64 a)).run P W=.ok () W'/\Nw D w W' g1 b3 b9 bo ts v4 (a+1) e out/\W.grownBy W' (some g1)/\W'.heap.size=W.heap.size:=by
 obtain⟨l,hm,hl⟩:=h.at_;obtain⟨W1,jV,lH,Il,Gc⟩:=hm.update K x (.int .i64 a);have Nu:∀r,some g1=some r->∃o:Obj,W.heap[r]?=some o/\o.isCells=false:=fun r e=>by cases e;exact hm.obj
 have hst:∀(k:Nat)(cs:Array Value)(t:TypeId)(fr:Nat×Nat),W.heap[k]?=some (.cells cs t fr)->W1.heap[k]?=some (.cells cs t fr):=fun k cs t fr hk=>Dm Il Nu hk;obtain⟨rs,hO,hr⟩:=h.outs;refine⟨W1,jV,⟨⟨_,lH,fun y=>by rw[Hy,hl,qsE hn hx]⟩,hst _ _ _ _ h.box3,hst _ _ _ _ h.box9,Cl Il Nu h.own,⟨rs,hO.keep fun g cur t _ hh=>hst _ _ _ _ hh,hr⟩,?_,h.lo,(Il.block D (gl h.dfr) fun e=>?_).trans h.dfr⟩,Il,Gc⟩
 .exact h.bel.trans ((Xr _ _).grown Il h.bel.size fun k e=>by injection e with e;have:=h.lo.1;omega)
 injection e with e;obtain⟨es,c,hh,_⟩:=hm;have:=h.dfr;rw[e,hh]at this;cases this
theorem Nw.setOut(h:Nw D w W g1 b3 b9 bo ts v4 a e out){j:Nat}(hj:j<ts.length)(x:Int)(ho:∀k,out' k=if k=j then x else out k):Nw D w (W.setCell ⟨bo,j*2,none⟩ (.int .i64 x)) g1 b3 b9 bo ts v4 a e out':=by
 obtain⟨rs,hO,hr⟩:=h.outs;have hl:j<rs.length:=by rw[hO.len,Td];exact hj
 have hst:∀(k:Nat)(o:Obj),W.heap[k]?=some o->k≠bo->(W.setCell ⟨bo,j*2,none⟩ (.int .i64 x)).heap[k]?=some o:=fun k o hk hn=>(Zc _ _ _ _ hn).trans hk;have hbo:=hO.box;refine⟨h.at_.stay (fun o ho hc=>hst _ _ ho fun e=>by subst e;rw[hbo]at ho;cases ho;cases hc),hst _ _ h.box3 (Nz h.box3 hbo (by decide)),hst _ _ h.box9 (Nz h.box9 hbo (by decide)),Vi h.own fun g cur _ hh=>hst _ _ hh (Nz hh hbo (by decide)),
  ⟨_,hO.setOut (by decide) (Qa hl) x,fun k r hk=>?_⟩,h.bel.trans ((Xr _ _).setCell h.lo.2 _),h.lo,hst _ _ h.dfr fun e=>by have:=h.dfr;rw[e,hbo]at this;cases this⟩
 rw[Xw]at hk;rw[ho k];split at hk
 .rename_i hjk;subst hjk;injection hk with hk;rw[if_pos rfl,<-hk]
 rename_i hjk;rw[if_neg fun e=>hjk e.symm];exact hr k r hk
theorem Nw.root(h:Nw D w W g1 b3 b9 bo ts v4 a e out)(hx:ts[e]?=some []):Nw D w W g1 b3 b9 bo ts v4 a (e+1) out:=by
 obtain⟨h1,h2,h3,h4,h5,h6,h7,h8⟩:=h;refine⟨h1,h2,h3,h4,?_,h6,h7,h8⟩;unfold Ru at h5 |-;rw[qhF hx];exact h5
theorem Nw.edge(h:Nw D w W g1 b3 b9 bo ts v4 a e out)(hn:ts.Nodup)(hx:ts[e]?=some x)(hne:x≠[])(hp:x.dropLast=p)(hj:ts[j]?=some p){u:Value}(hv:W.cell? ⟨bo,j*2+1,none⟩=some v)
  (hown:W'.ownsRow w.heap.size 145 2 u ((Ee (ts.take e) p).length+1) (Lw (Ee (ts.take e) p++[(((x.getLastD 0).toNat:Int),(e:Int))]))) (hg:W.grownBy W' v.ownBlock) (hu:u.ownBlock=v.ownBlock\/u.ownBlock=some W.heap.size) :
  Nw D w (W'.setCell ⟨bo,j*2+1,none⟩ u) g1 b3 b9 bo ts v4 a (e+1) out:=by
 obtain⟨rs,hO,hr⟩:=h.outs;obtain⟨Mw,hje⟩:=Qj.1 hj;have hl:j<rs.length:=by rw[hO.len,Td];exact Mw
 have hrj:=Qa hl;have qJ:v=rs[j].2:=by
  have:=(hO.cells hrj).2.1;rw[hv]at this;injection this
 rw[qJ]at hg hu;have hkj:(Ru ts e)[j]?=some (Ee (ts.take e) p):=by unfold Ru;rw[Qv,hj];rfl
 have hownj:=hO.own j _ _ hrj hkj;have zlZ:=hO.app (by decide) hrj hkj hown hg hu;have hbo:=hO.box;have oE:∀(k:Nat)(o:Obj),W.heap[k]?=some o->(∀cur,o≠.cells cur 145 (0,0))->W'.heap[k]?=some o:=fun k o hk hne=>Eg hownj hg hk hne;have hbo':=oE _ _ hbo fun cur e=>by cases e
 have hst:∀(k:Nat)(o:Obj),W.heap[k]?=some o->k≠bo->(∀cur,o≠.cells cur 145 (0,0))->(W'.setCell ⟨bo,j*2+1,none⟩ u).heap[k]?=some o:=fun k o hk hn hne=>(Zc _ _ _ _ hn).trans (oE k o hk hne);have Rb:(W'.setCell ⟨bo,j*2+1,none⟩ u).ownsRow w.heap.size 9 1 v4 ts.length (Zx ts):=Vi h.own fun g cur _ hh=>hst _ _ hh (Nz hh hbo (by decide)) (fun cur e=>by cases e);refine⟨h.at_.stay (fun o ho hc=>hst _ _ ho (fun e=>by subst e;rw[hbo]at ho;cases ho;cases hc) fun cur e=>by subst e;cases hc),hst _ _ h.box3 (Nz h.box3 hbo (by decide)) (fun cur e=>by cases e),hst _ _ h.box9 (Nz h.box9 hbo (by decide)) (fun cur e=>by cases e),
  Rb,⟨rs.set j (rs[j].1,u),?k1,?k2⟩,?k3,h.lo,hst _ _ h.dfr (fun e=>by have:=h.dfr;rw[e,hbo]at this;cases this) (fun cur e=>by cases e)⟩
 case k1 =>
  have hk:=qoW hn hx hne hp hj;unfold Ru at zlZ |-;rw[hk];exact zlZ
 case k2 =>
  intro k r hk;rw[Xw]at hk;split at hk
  .rename_i hjk;subst hjk;injection hk with hk;rw[<-hk];show rs[j].1=_;exact hr j _ hrj
  exact hr k r hk
 case k3=>exact h.bel.trans ((Zr (Xr _ _) hg hownj (Yb _) h.bel.size).setCell h.lo.2 _)
end
attribute [local go_sem] Oper.semAt_some
def Vu(ws:List Wd):List Wd:=ws.foldl (fun F w=>if w∈F then F else F++[w]) [[]]
theorem zZ(ws:List Wd)(w:Wd):Vu (ws++[w])=if w∈Vu ws then Vu ws else Vu ws++[w]:=by
 unfold Vu;rw[List.foldl_append];rfl
theorem Lb(ws:List Wd):(Vu ws).Nodup/\(∀w,w∈Vu ws↔w=[]\/w∈ws)/\(Vu ws).length<=ws.length+1:=by
 have key:∀(ws F:List Wd),F.Nodup->(ws.foldl (fun F w=>if w∈F then F else F++[w]) F).Nodup/\(∀w,w∈ws.foldl (fun F w=>if w∈F then F else F++[w]) F↔w∈F\/w∈ws)/\(ws.foldl (fun F w=>if w∈F then F else F++[w]) F).length<=ws.length+F.length:=by
  intro ws
  induction ws with
  |nil=>intro F hF;exact⟨hF,by simp,by simp⟩
  |cons a r ih =>
   intro F hF;rw[List.foldl_cons];by_cases ha:a∈F
   .rw[if_pos ha];obtain⟨h1,h2,h3⟩:=ih F hF;refine⟨h1,fun w=>?_,by rw[Qu];omega⟩;rw[h2,List.mem_cons];constructor
    .rintro (h|h)
     .exact .inl h
     exact .inr (.inr h)
    rintro (h|rfl|h)
    .exact .inl h
    .exact .inl ha
    exact .inr h
   rw[if_neg ha];obtain⟨h1,h2,h3⟩:=ih (F++[a]) (List.nodup_append.2 ⟨hF,by simp,fun x hx y hy=>by simp at hy;subst hy;rintro rfl;exact ha hx⟩);refine⟨h1,fun w=>?_,by rw[Qe,Qf]at h3;rw[Qu];omega⟩;rw[h2,Qh,Qi,List.mem_cons];constructor
   .rintro ((h|rfl)|h)
    .exact .inl h
    .exact .inr (.inl rfl)
    exact .inr (.inr h)
   rintro (h|rfl|h)
   .exact .inl (.inl h)
   .exact .inl (.inr rfl)
   exact .inr h
 obtain⟨h1,h2,h3⟩:=key ws [[]] (by simp);refine⟨h1,fun w=>?_,h3⟩;rw[<-Qi (a:=w)];exact h2 w
def Ak(rows:List Uk):List Wd:=(Bo rows).map (·.2)
theorem ia(rows:List Uk)(w:Wd):w∈Ak rows↔∃r∈rows,w <+: r.2.1:=by
 unfold Ak Bo Al;simp only[Xa,Xv,Ya];constructor
 .rintro⟨x,⟨r,hr,k,hk,rfl⟩,rfl⟩;exact⟨r,hr,List.take_prefix _ _⟩
 rintro⟨r,hr,hp⟩;refine⟨(r,w),⟨r,hr,w.length,by have:=hp.length_le;omega,?_⟩,rfl⟩;rw[<-List.prefix_iff_eq_take.1 hp]
theorem gN{ts:List Wd}(hp:ts.Perm (Vu (Ak rows)))(hs:ts.Pairwise fun a b=>¬ Ce b a):Df rows ts:=by
 obtain⟨h1,h2,h3⟩:=Lb (Ak rows);refine⟨fun w=>by rw[hp.mem_iff,h2,ia],?_⟩;have hn:ts.Nodup:=hp.nodup_iff.2 h1;refine (List.Pairwise.and hs hn).imp fun{a b} ⟨h4,h5⟩=>?_;rcases uA a b with h|h|h
 .exact h
 .exact absurd h h5
 exact absurd h h4
def Pv(F:List Wd):List (Wd×Value):=F.map fun w=>(w,.int .i64 0)
theorem xO{w:Wd}:Nt (Pv F) w=if w∈F then some (.int .i64 0)else none:=by
 induction F with
 |nil=>rfl
 |cons a r ih =>
  unfold Nt Pv at ih |-;rw[List.map_cons,List.find?_cons];by_cases h:a=w
  .subst h;simp
  have h':w≠a:=fun e=>h e.symm;simp only[h,decide_false,List.mem_cons,h',false_or];exact ih
theorem aa{w:Wd}(h:w∉F):Ue (Pv F) w (.int .i64 0)=Pv (F++[w]):=by
 induction F with
 |nil=>rfl
 |cons a r ih =>
  have h1:a≠w:=fun e=>h (by subst e;exact Xi ..);unfold Pv at ih |-;rw[List.map_cons,Ue,if_neg h1,ih fun hm=>h (Xj _ hm)];rfl
def Sm{rows:List Uk}(pre:List (jS rows)):List Wd:=pre.map fun x=>x.1.2
theorem yz(pre:List (jS rows))(x:jS rows):Sm (pre++[x])=Sm pre++[x.1.2]:=by simp[Sm]
theorem qeY(pre:List (jS rows)):(Sm pre).length=pre.length:=by simp[Sm]
theorem qeZ{pre:List (jS rows)}(h:pre.map Subtype.val=Bo rows):Sm pre=Ak rows:=by
 have:=congrArg (List.map Prod.snd) h;rw[List.map_map]at this;exact this
structure qV(g1 b3 b4:Nat)(w:World)(ws:List Wd)(W:World):Prop where
 map:Mb wv W g1 (Pv (Vu ws))
 box:W.heap[b3]?=some (.cells #[.map (some g1)] 147 (0,0))
 fr:∃v,W.heap[b4]?=some (.cells #[v] 22 (0,0))/\W.ownsRow w.heap.size 9 1 v (Vu ws).length (Zx (Vu ws))
 bel:Below w.heap.size w W
theorem qV.own{g1:Nat}{ws:List Wd}{A C:World}{row:Option Nat}(h:qV g1 b3 b4 w ws A)(hN:w.heap.size<=B)(h1:g1<B)(hg:A.grownBy C row)(hr:∀r,row=some r->B<=r/\∃o:Obj,A.heap[r]?=some o/\o.isCells=false):qV g1 b3 b4 w ws C:=by
 have zS:∀r,row=some r->∃o:Obj,A.heap[r]?=some o/\o.isCells=false:=fun r e=>(hr r e).2;refine⟨h.map.grown hg fun e=>by have:=(hr g1 e.symm).1;omega,Dm hg zS h.box,?_,?_⟩
 .obtain⟨v,a,b⟩:=h.fr;exact⟨v,Dm hg zS a,Cl hg zS b⟩
 refine h.bel.trans ⟨hg.os,hg.tape,hg.output,hg.size,fun k hk=>?_⟩;have h2:=h.bel.size;exact hg.block k (by omega) fun e=>by have:=(hr k e.symm).1;omega
theorem xM(hw:∀r∈rows,r.2.1.length<=1048576):(Bo rows).length<=rows.length*1048577:=by
 unfold Bo
 induction rows with
 |nil=>simp
 |cons r l ih =>
  rw[List.flatMap_cons,Qe,Qu,fC];have:=ih fun x hx=>hw x (Xj _ hx);have:=hw r (Xi ..);omega
def iN(i j:Nat):Int:=if j<i then -1 else 0
theorem qn(i k:Nat):iN (i+1) k=if k=i then -1 else iN i k:=by
 unfold iN;by_cases hk:k=i
 .subst hk;simp
 have:(k<i+1)=(k<i):=by apply propext;omega
 simp only[this,if_neg hk]
theorem qgV{W1 w5:World}{pre:List (jS rows)}{x:jS rows}{v4:Value}{A5:Option Addr}{c5:Nat}{xw:Wd}(hI:qV w.heap.size b3 b4 w (Sm pre) W)(hB:w.heap.size<B)(hB4:b4<B)(n4:w.heap.size<b4)
  (hE:Vu (Sm (pre++[x]))=F++[xw]) (hm:Mb wv W1 w.heap.size (Pv (F++[xw]))) (Il:W.grownBy W1 (some w.heap.size)) (Gc:W1.heap.size=W.heap.size) (qpO:W1.ownsRow w.heap.size 9 1 v4 F.length (Zx F))
  (zlW:W1.heap[b3]?=some (.cells #[.map (some w.heap.size)] 147 (0,0))) (zeO:W1.heap[b4]?=some (.cells #[v4] 22 (0,0)))
  (Dl:w5.ownsRow w.heap.size 9 1 (.slice A5 (F.length+1) c5) (F.length+1) (Zx F++[wv xw])) (Lu:(W1.alloc (.cells #[wv xw] 9)).grownBy w5 v4.ownBlock) :
  KeepsFrom B W (w5.setCell ⟨b4,0,none⟩ (.slice A5 (F.length+1) c5))/\KpR w.heap.size W (w5.setCell ⟨b4,0,none⟩ (.slice A5 (F.length+1) c5))/\qV w.heap.size b3 b4 w (Sm (pre++[x])) (w5.setCell ⟨b4,0,none⟩ (.slice A5 (F.length+1) c5)):=by
 have hz:=hI.bel.size;have p_:∀(k:Nat)(o:Obj),W1.heap[k]?=some o->k≠b4->(∀cur,o≠.cells cur 9 (0,0))->(w5.setCell ⟨b4,0,none⟩ (.slice A5 (F.length+1) c5)).heap[k]?=some o:=fun k o hk hn hne =>
  (Zc _ _ _ _ hn).trans (Eg (qpO.alloc _) Lu ((Zf W1 _ _ (gl hk)).trans hk) hne)
 have qdN:∀(k:Nat)(o:Obj),W.heap[k]?=some o->k≠w.heap.size->k≠b4->(∀cur,o≠.cells cur 9 (0,0))->(w5.setCell ⟨b4,0,none⟩ (.slice A5 (F.length+1) c5)).heap[k]?=some o:=fun k o hk h0 hn hne =>
  p_ k o ((Il.block k (gl hk) fun e=>h0 (by injection e)).trans hk) hn hne
 have hb1:Below w.heap.size W W1:=(Xr _ _).grown Il hz (fun k e=>by injection e with e;omega);have Jd:=hb1.alloc (by omega) (.cells #[wv xw] 9);have hb3:=Zr Jd Lu (qpO.alloc _) (Yb _) (by rw[Xs];omega);have hb4:Below w.heap.size W (w5.setCell ⟨b4,0,none⟩ (.slice A5 (F.length+1) c5)):=hb3.setCell (by show _<=b4;omega) _;have zbH:w5.heap[b4]?=some (.cells #[v4] 22 (0,0)):=Eg (qpO.alloc _) Lu ((Zf W1 _ _ (gl zeO)).trans zeO) fun cur e=>by cases e
 refine⟨⟨hb4.size,fun k o hk ho hc=>qdN k o ho (by omega) (by omega) fun cur e=>by subst e;cases hc⟩,⟨hb4,fun k cs hk=>qdN k _ hk (fun e=>zcX hI.map hk e.symm) ?_ fun cur e=>by cases e⟩,?_,?_,?_,?_⟩
 .obtain⟨v,hv,_⟩:=hI.fr;exact Nz hk hv (by decide)
 .rw[hE];exact hm.stay fun o ho hc=>p_ _ _ ho (by omega) fun cur e=>by subst e;cases hc
 .refine p_ b3 _ zlW (Nz zlW zeO (by decide)) fun cur e=>by cases e
 .rw[hE];refine⟨_,by rw[Ni zbH];rfl,?_⟩;have hw:Zx (F++[xw])=Zx F++[wv xw]:=by simp[Zx]
  rw[hw,Qe];exact Vi Dl fun g cur _ hh=>(Zc _ _ _ _ (Nz hh zbH (by decide))).trans hh
 exact hI.bel.trans hb4
theorem io(v:Value)(rows:List Uk)(w:World)(hv:Je Bj w w.heap.size v rows)(hw:∀r∈rows,r.2.1.length<=1048576)(hn:rows.length<=1048576) :
  Calls Tryz.prog 46 #[v] w fun e w'=>∃vm F,e=.returned vm/\Df rows F/\F.length<=1099512676353/\Je Ju w' w'.heap.size vm (Dh rows F)/\Below w.heap.size w w':=by
 obtain⟨A,c,rfl,Nj,Uw⟩:=hv.form;unfold maxLen at Uw;have HV:=Lh hv;obtain⟨nr,sr⟩:=Xe rows.length;rw[<-sr]at Nj;clear hv;have su:=@run_makeMap Tryz.prog;obtain⟨N0,hN0⟩:=Xe w.heap.size;refine (callsIn_wide (n:=9)).1 (callsIn_of_wp_marks (F:=Fence.wide) (n:=9) Tryz.func46 rfl trivial (wpIn_wide.2 ?_) rfl);simp only[Tryz.ntmps46,List.size_toArray,Qu,Xu,Nat.reduceAdd,Nat.reduceSub,Array.replicate_succ,Array.replicate_zero,List.push_toArray,List.append_toArray,List.nil_append,List.cons_append];obtain⟨w1,jV,lH,Il,Gc⟩:=(Mb.made (κ:=wv) w).update Ki [] (.int .i64 0);replace jV:(Instr.mapUpdate 147 (.map (some w.heap.size)) (.string ⟨#[]⟩) (.int .i64 0)).run Tryz.prog (w.alloc (.map #[] 0))=.ok () w1:=jV;have HM1:=Lh lH;have HG1:=Lh Il;have HS1:=Lh (show w1.heap.size=w.heap.size+1 by rw[Gc];simp);clear lH Il Gc;go_wp2_with fail;have Gc:w1.heap.size=w.heap.size+1:=HS1.o;obtain⟨w2,mv⟩:=Xe ((((w1.alloc (.cells #[.map (some w.heap.size)] 147)).alloc (.cells #[.string ⟨#[]⟩] 9)).alloc (.cells #[.slice (some ⟨w1.heap.size+1,0,none⟩) 1 1] 22)));have HS2:=Lh (show w2.heap.size=w.heap.size+4 by rw[mv];simp only[Xs];omega);have HB3:=Lh (show w2.heap[w1.heap.size]?=some (.cells #[.map (some w.heap.size)] 147 (0,0)) by
  rw[mv,Zf _ _ _ (by simp only[Xs];omega),Zf _ _ _ (by simp only[Xs];omega)]
  exact Xn w1 _)
 have HR4:=Lh (show w2.heap[w1.heap.size+1]?=some (.cells #[.string ⟨#[]⟩] 9 (0,0)) by
  rw[mv,Zf _ _ _ (by simp only[Xs];omega)]
  exact Gg w1 _ _)
 have HB4:=Lh (show w2.heap[w1.heap.size+1+1]?=some (.cells #[.slice (some ⟨w1.heap.size+1,0,none⟩) 1 1] 22 (0,0)) by
  rw[mv]
  have:=Xn ((w1.alloc (.cells #[.map (some w.heap.size)] 147)).alloc (.cells #[.string ⟨#[]⟩] 9)) (.cells #[.slice (some ⟨w1.heap.size+1,0,none⟩) 1 1] 22)
  rwa [Xs,Xs]at this)
 have HM2:=Lh (show Mb wv w2 w.heap.size (Pv (Vu [])) by rw[mv];exact ((HM1.o.alloc _).alloc _).alloc _);have HBW:=Lh (show Below w.heap.size w w2 by
  rw[mv]
  have h1:Below w.heap.size w w1:=((Xr w.heap.size w).alloc (Yb _) (.map #[] 0)).grown HG1.o (by simp) (fun k e=>by cases e;exact Yb _)
  exact ((h1.alloc (by omega) _).alloc (by simp only[Xs];omega) _).alloc (by simp only[Xs];omega) _)
 rw[<-mv];clear mv HM1 HG1 jV;obtain⟨N1,hN1⟩:=Xe w1.heap.size;rw[<-hN1]at HB3 HR4 HB4 Gc |-;clear hN1 HS1;rw[Gc]at HB3 HR4 HB4 |-;refine (dO A rows.length c w2).mono ?_;rintro e w3 ⟨rfl,o_⟩;go_wp2_with fail;have hws:∀r∈rows,r.2.1.length<=4611686018427387904:=fun r hr=>by have:=hw r hr;omega
 have eR:w2.heap.size=w.heap.size+4:=HS2.o;have H0:=Lh (show qV w.heap.size (w.heap.size+1) (w.heap.size+1+1+1) w [] w3 from o_ ▸
  ⟨HM2.o.alloc _,(Zf _ _ _ (by omega)).trans HB3.o,⟨_,(Zf _ _ _ (by omega)).trans HB4.o,⟨rfl,.inr ⟨_,1,_,rfl,by omega,(Zf _ _ _ (by omega)).trans HR4.o,by decide,by decide,rfl,rfl⟩⟩⟩,HBW.o.alloc (by omega) _⟩)
 have HS3:=Lh (show w3.heap.size=w.heap.size+5 by rw[o_,Xs];omega);have HBX:=Lh (show w3.cell? ⟨w2.heap.size,0,none⟩=some (.slice A rows.length c) by
  rw[o_]
  exact Zd _ _ _ _ _ _ (Xn w2 _))
 have yA:=Lh (HV.o.below H0.o.bel);rw[<-o_];clear o_ HM2 HBW HB4 HR4 HB3;rw[eR]at HBX |-;clear HS2 eR;refine (wpIn_wide (n:=9)).1 ?_;apply wpIn_rangeFunc_ownG (F:=Fence.wide) rfl (by omega) (gf:=165) (lb:=#[.pointer (some ⟨w.heap.size+4,0,none⟩)]) rfl trivial (enters_of Tryz.func165 (by kernel_rfl) rfl)
  (xL (9-1) (w.heap.size+4) w.heap.size _ rows hws w3 (by have:=HS3.o;omega) (by have:=HS3.o;omega) HBX.o yA.o) (fun h k=>h.trans k) (fun W l o o'=>KpR.putObj (by have:=HS3.o;omega) W l o o') (Xr _ _) (fun _=>rfl)
  (fun pre W=>qV w.heap.size (w.heap.size+1) (w.heap.size+1+1+1) w (Sm pre) W) (fun _ _ _=>False)
  (fun s A B row hs hg hr=>hs.own (by have:=HS3.o;omega) (by have:=HS3.o;omega) hg hr)
  (fun _ _ _ _ _ hs _ _=>hs) H0.o
 case hassign =>
  intro l x W K hK
  gi_wp2
  exact hK
 case hstop=>exact fun _ _ _ _ _ _ h _=>h.elim
 case hbody =>
  rintro l pre ⟨⟨xr,xw⟩,hxm⟩ W hI hlen;have hlb:(Vu (Sm pre)).length<=pre.length+1:=by have:=(Lb (Sm pre)).2.2;rwa [qeY]at this
  have iY:=xM hw;have HSN:=Lh (zZ (Sm pre) xw);have HEQ:=Lh (yz pre ⟨(xr,xw),hxm⟩);generalize hF:Vu (Sm pre)=F at*;have hbd:F.length<=1099512676352:=by
   have:=Nat.mul_le_mul_right 1048577 hn;omega
  clear hlen;have HI:=Lh hI;clear hI;have c3:W.cell? ⟨w.heap.size+1,0,none⟩=some (.map (some w.heap.size)):=Zd _ _ 0 _ _ _ HI.o.box;have hlk:=HI.o.map.lookup_ok Ki El xw;rw[hF,xO]at hlk;by_cases hx:xw∈F
  .rw[if_pos hx]at hlk;have HX:=Lh hx;clear hx;simp only[Option.getD_some,Option.isSome_some]at hlk
   gi_wp2
   refine⟨KeepsFrom.refl _ _,⟨Xr _ _,fun _ _ h=>h⟩,?_⟩;have hE:Vu (Sm (pre++[⟨(xr,xw),hxm⟩]))=Vu (Sm pre):=by rw[HEQ.o,HSN.o,if_pos HX.o,hF]
   show qV _ _ _ _ (Sm (pre++[⟨(xr,xw),hxm⟩])) W;have h:=HI.o;exact⟨by rw[hE];exact h.map,h.box,by rw[hE];exact h.fr,h.bel⟩
  rw[if_neg hx]at hlk;obtain⟨v4,hb4,hown⟩:=HI.o.fr;rw[hF]at hown;have hm0:=HI.o.map;rw[hF]at hm0;obtain⟨W1,jV,lH,Il,zjX⟩:=hm0.update Ki xw (.int .i64 0);rw[aa hx]at lH;have HX:=Lh hx;clear hx;replace jV:(Instr.mapUpdate 147 (.map (some w.heap.size)) (.string ⟨xw.toArray⟩) (.int .i64 0)).run Tryz.prog W=.ok () W1:=jV;have Nu:∀r,some w.heap.size=some r->∃o:Obj,W.heap[r]?=some o/\o.isCells=false:=fun r e=>by cases e;exact hm0.obj
  have zbX:=Lh (Cl Il Nu hown);have qzV:=Lh (Dm Il Nu hb4);have jaR:=Lh (Dm Il Nu HI.o.box);have HM1:=Lh lH;have HG1:=Lh Il;have HS1:=Lh zjX;have c4:W1.cell? ⟨w.heap.size+1+1+1,0,none⟩=some v4:=Vv qzV.o;simp only[Option.getD_none,Option.isSome_none]at hlk;clear hown hm0 lH Il zjX hb4 Nu
  gi_wp2_with (gi_at_builtin;refine wpListIn_plain rfl fun K hK=>yy (fun c h=>by cases h) (qvE (m:=1) (n:=F.length) bY rfl rfl rfl (zbX.o.alloc _) (Rd.row (B:=W1.heap.size+1) (Xn W1 _) (by omega)) rfl (by simp[Value.oneCell']) ((Zf W1 _ _ (gl qzV.o)).trans qzV.o) (by decide) ?h63 ?hby ?hbase fun A5 c5 w5 Dl Lu zkF hb5 hc5 hf5=>hK _ _ ?_))
  case h63=>simp[maxLen];omega
  case hby=>omega
  case hbase=>have:=HI.o.bel.size;have:=HS1.o;omega
  have hE:Vu (Sm (pre++[⟨(xr,xw),hxm⟩]))=F++[xw]:=by rw[HEQ.o,HSN.o,if_neg HX.o]
  exact qgV HI.o (by have:=HS3.o;omega) (by have:=HS3.o;omega) (by omega) hE HM1.o HG1.o HS1.o zbX.o jaR.o qzV.o Dl Lu
 case hdone =>
  intro Dx xs Wx hDx hxs hI hdf;rw[qeZ hxs]at hI;have HFS:=Lh (fun ts=>gN (rows:=rows) (ts:=ts));obtain⟨f1,f2,f3⟩:=Lb (Ak rows);have iY:=xM hw;have hfl:(Vu (Ak rows)).length<=1099512676353:=by
   have h1:(Ak rows).length=(Bo rows).length:=by simp[Ak]
   have:=Nat.mul_le_mul_right 1048577 hn;omega
  have Dt:0<(Vu (Ak rows)).length:=Qy.2 fun e=>by have:=(f2 []).2 (.inl rfl);rw[e]at this;cases this
  obtain⟨hm,hb3,⟨v4,hb4,Rb⟩,rL⟩:=hI;clear f1 f2 f3 iY hxs;generalize Vu (Ak rows)=F at*;obtain⟨A4,c4,rfl,Ct,jW⟩:=Zp Rb;unfold maxLen at jW;have hc4:=Vv hb4;have HM:=Lh hm;have HB3:=Lh hb3;have HB4:=Lh hb4;have nk:=Lh Rb;have HBE:=Lh rL;have HZ:=Lh (show w.heap.size+5<=Wx.heap.size by have:=HS3.o;have:=(gl hdf);omega);have mf:=Lh hfl;have HDF:=Lh hdf;have HDL:=Lh (show w.heap.size<=Dx by have:=HS3.o;omega);clear hm hb3 hb4 Rb rL hdf hDx hfl;obtain⟨n,hnF⟩:=Xe F.length;clear hnF;go_wp2_with fail;refine (zB w.heap.size A4 c4 F Wx nk.o (by have:=mf.o;omega) Dt).mono ?_;rintro e w6 ⟨rfl,ts,qK,qdO,ek,ta⟩;have qpJ:∀(k:Nat)(o:Obj),Wx.heap[k]?=some o->(∀cur,o≠.cells cur 9 (0,0))->w6.heap[k]?=some o:=fun k o hk hne=>Eg nk.o ta hk hne;have HM6:=Lh (HM.o.stay fun o ho hc=>qpJ _ _ ho fun cur e=>by subst e;cases hc);have zoW:=Lh (qpJ _ _ HB3.o fun cur e=>by cases e);have qkU:=Lh (qpJ _ _ HB4.o fun cur e=>by cases e);have jaG:=Lh (qpJ _ _ HDF.o fun cur e=>by cases e);have zoS:=Lh (Zr HBE.o ta nk.o (Yb _) HBE.o.size);have HZ6:=Lh (Yd HZ.o ta.size);have HF:=Lh (HFS.o ts qK qdO);have HPM:=Lh qK;have Jl:F.length=ts.length:=qK.length_eq.symm;have HO6:=Lh ek;rw[Jl]at HO6 qkU mf Dt Ct;clear qpJ qK qdO ek ta HB4 HB3 HM HBE HZ nk hc4 HFS;have hc4:=Vv qkU.o;obtain⟨nt,hnt⟩:=Xe ts.length;have am:=Lh hnt;have sK:=zj nt (by have:=mf.o;omega) w6;rw[<-hnt]at HO6 qkU mf Dt Ct hc4;clear hnt;rw[show F.length=nt by rw[Jl,<-am.o]];have zuS:w.heap.size+1+1+1<w6.heap.size:=(gl qkU.o);obtain⟨w8,hw8⟩:=Xe ((w6.alloc (.cells (Up (List.replicate nt (0,.slice none 0 0))).toArray 118)).alloc (.cells #[.slice (some ⟨w6.heap.size,0,none⟩) nt nt] 64));have HNS:=Lh (show Nw Dx w w8 w.heap.size (w.heap.size+1) (w6.heap.size+1) w6.heap.size ts (.slice A4 nt c4) 0 0 (iN 0) by
   have hk:∀(k:Nat)(o:Obj),w6.heap[k]?=some o->w8.heap[k]?=some o:=fun k o hk=>by
    rw[hw8]
    have h1:=(gl hk)
    exact (Zf _ _ _ (by rw[Xs];omega)).trans ((Zf _ _ _ h1).trans hk)
   refine⟨⟨Pv F,HM6.o.stay fun o ho _=>hk _ _ ho,fun y=>?_⟩,hk _ _ zoW.o,?_,?_,⟨List.replicate nt (0,.slice none 0 0),?_,fun j r hj=>?_⟩,?_,⟨by omega,by omega⟩,hk _ _ jaG.o⟩
   .rw[xO]
    unfold atF
    rw[List.take_zero,if_neg List.not_mem_nil]
    simp only[HPM.o.mem_iff]
   .rw[hw8,<-am.o]
    have:=Xn (w6.alloc (.cells (Up (List.replicate nt (0,.slice none 0 0))).toArray 118)) (.cells #[.slice (some ⟨w6.heap.size,0,none⟩) nt nt] 64)
    rwa [Xs]at this
   .rw[<-am.o]
    exact Vi HO6.o fun g cur _ hh=>hk _ _ hh
   .have h2:Ru ts 0=List.replicate nt []:=by
     unfold Ru
     rw[am.o]
     simp only[qhH,List.map_const']
    rw[h2]
    refine Ph.mk0 ?_
    rw[hw8]
    exact (Zf _ _ _ (by rw[Xs];omega)).trans (Xn _ _)
   .rw[Xh]at hj
    split at hj
    .injection hj with hj
     rw[<-hj]
     simp[iN]
    cases hj
   rw[hw8]
   exact (zoS.o.alloc (by omega) _).alloc (by rw[Xs];omega) _)
  have zvS:((w6.alloc (.cells (Up (List.replicate nt (0,.slice none 0 0))).toArray 118)).alloc (.cells #[.slice (some ⟨w6.heap.size,0,none⟩) nt nt] 64)).cell? ⟨w.heap.size+1+1+1,0,none⟩=some (.slice A4 nt c4) :=
   Vv (t:=22) ((Zf _ _ _ (by rw[Xs];omega)).trans ((Zf _ _ _ zuS).trans qkU.o))
  go_wp2_with fail;rw[<-hw8];have mz:w6.heap.size+1<w8.heap.size:=by rw[hw8,Xs,Xs];omega
  have HZ8:=Lh (Yd HZ6.o (show w6.heap.size<=w8.heap.size by omega));clear hw8 sK HM6 zoW zoS qkU HO6 hc4;generalize w6.heap.size=bo at*;obtain⟨g4,zxF,hv4⟩:=ct HNS.o.own (by rw[<-am.o];exact Dt);injection hv4 with e1 e2 e3;subst e1;clear e2 e3 zxF;have HND:=Lt (ts.Nodup) (HF.o.asc.imp fun h e=>by subst e;exact It _ h);go_loopw [45] (fun v45 wr=>∃i:Nat,i<=nt/\v45=.int .i64 i/\w8.heap.size<=wr.heap.size/\Hid (Nw Dx w wr w.heap.size (w.heap.size+1) (bo+1) bo ts (.slice (some ⟨g4,0,none⟩) nt c4) i i (iN i))) (fun v45 _=>nt-(intOf v45).toNat);exact⟨0,by omega,rfl,Yb _,HNS.o⟩;clear HNS;obtain⟨i,hi,rfl,hzr,HS⟩:=hrel;by_cases jv:i<nt
  .have Wp:i<ts.length:=by rw[<-am.o];exact jv
   have ef:=Qa Wp;obtain⟨x,hx⟩:=Xe (ts[i]);rw[<-hx]at ef;clear hx;have HX:=Lh ef;have c43:wr.cell? ⟨g4,i,none⟩=some (wv x):=by
    have:=HS.o.own;rw[<-am.o]at this;rw[this.cellAt (g:=g4) (cap:=c4) i (by omega)];unfold Zx;rw[Qv,ef];rfl
   obtain⟨W1,jV,lH,Il,Gc⟩:=HS.o.drew.put (P:=Tryz.prog) HND.o ef Ki;replace jV:(Instr.mapUpdate 147 (.map (some w.heap.size)) (.string ⟨x.toArray⟩) (.int .i64 i)).run Tryz.prog wr.drew=.ok () W1:=jV;have c3:=HS.o.c3;have c9:=HS.o.c9;have c9':=lH.c9;rw[<-am.o]at c9 c9';obtain⟨u1,k1,k2,k3,-⟩:=lH.at_out Wp;have k4:=k3 (i*2);clear k2 k3;have HM2:=Lh (lH.setOut Wp (-1) (qn i));have HS1:=Lh Gc;have HM1:=Lh lH;clear lH Il Gc ef;have HC9:=Lh (show (wr.cell? ⟨w.heap.size+1,0,none⟩=some (.map (some w.heap.size))/\wr.cell? ⟨bo+1,0,none⟩=some (.slice (some ⟨bo,0,none⟩) nt nt))/\(W1.cell? ⟨w.heap.size+1,0,none⟩=some (.map (some w.heap.size))/\W1.cell? ⟨bo+1,0,none⟩=some (.slice (some ⟨bo,0,none⟩) nt nt))/\((W1.setCell ⟨bo,i*2,none⟩ (.int .i64 (-1))).cell? ⟨w.heap.size+1,0,none⟩=some (.map (some w.heap.size))/\(W1.setCell ⟨bo,i*2,none⟩ (.int .i64 (-1))).cell? ⟨bo+1,0,none⟩=some (.slice (some ⟨bo,0,none⟩) nt nt)) by
    rw[am.o]
    exact⟨⟨HS.o.c3,HS.o.c9⟩,⟨HM1.o.c3,HM1.o.c9⟩,HM2.o.c3,HM2.o.c9⟩)
   clear HM1;go_wp2_with fail;refine qvG [5,8] [0,2] [] (fun W'=>W'.cell? ⟨w.heap.size+1,0,none⟩=some (.map (some w.heap.size))/\W'.cell? ⟨bo+1,0,none⟩=some (.slice (some ⟨bo,0,none⟩) nt nt)) HC9.o.1 (by kernel_rfl) (by kernel_rfl) ?_;refine qcJ 5 (by decide) (fun Q0 hQ0=>?_);simp only[Xta,Xtz];go_wp2_with fail
   try simp only[Xda,Xdz]
   refine qcK (fun Q1 hQ1=>?_);go_wp2_with fail;refine⟨HC9.o.2.1,?_⟩;refine qcJ 2 (by decide) (fun Q0 hQ0=>?_);simp only[Xta,Xtz];go_wp2_with fail
   try simp only[Xda,Xdz]
   refine qcK (fun Q1 hQ1=>?_);go_wp2_with fail;refine⟨HC9.o.2.2,?_⟩;refine qvH ⟨by rfl,⟨fun _=>⟨_,fun w' hI=>qhB Tryz.underlying147 hI.1⟩,fun _=>⟨_,fun w' hI=>rq Tryz.underlying64 hI.2⟩,trivial⟩,?_⟩;have hzr2:w8.heap.size<=(W1.setCell ⟨bo,i*2,none⟩ (.int .i64 (-1))).heap.size:=by
    rw[Zb,HS1.o];exact hzr
   have hC:=HC9.o.2.2;clear HC9 c3 c9 c9' k1 k4 jV c43 HS hzr HS1;generalize W1.setCell ⟨bo,i*2,none⟩ (.int .i64 (-1))=W2 at*;obtain⟨c3,c9⟩:=hC;by_cases hxe:x=[]
   .subst hxe;have HM3:=Lh (HM2.o.root HX.o);go_wp2;go_roundw;exact⟨i+1,by omega,by go_num,hzr2,HM3.o⟩;simp[intOf];omega
   obtain⟨j,Aa,hj⟩:=zY HF.o HX.o hxe;have Po:=Lh hxe;have HJ:=Lh hj;have Mw:j<nt:=by rw[am.o];exact (Qj.1 hj).1
   have zR:=qaO HF.o hw HX.o;obtain⟨m,hm⟩:∃m,x.length=m+1:=⟨x.length-1,by have:=Qy.2 hxe;omega⟩;have hlk:(Instr.lookup 147 (.map (some w.heap.size)) (.string ((⟨x.toArray⟩:ByteArray).extract 0 m)) false).run Tryz.prog W2.drew=.ok (.int .i64 j) W2.drew:=by
    rw[sB,show x.take m=x.dropLast by rw[List.dropLast_eq_take,hm];rfl];exact HM2.o.drew.look HND.o Ki El hj (by omega)
   rw[hm]at zR;clear hxe hj;go_wp2_with fail;refine Text.wp_grow [6] [0,1] [] (by kernel_rfl) (by kernel_rfl) ?_;refine Text.wpS_seg 6 _ _ _ _ (by decide) (fun Q' hQ'=>?_);simp only[Xta,Xtz];go_wp2_with fail
   try simp only[Xda,Xdz]
   refine Text.wpS_one (fun Q' hQ'=>?_);go_wp2_with fail;refine⟨Xr _ _,?_⟩;refine Text.wpS_seg 2 _ _ _ _ (by decide) (fun Q' hQ'=>?_);simp only[Xta,Xtz];go_wp2_with fail
   try simp only[Xda,Xdz]
   refine⟨by rfl,⟨fun _=>⟨_,_,rfl,c9⟩,fun _=>⟨_,_,rfl,c3⟩,trivial⟩,?_⟩;go_wp2_with fail;obtain⟨v5,d0,d1,df,down⟩:=HM2.o.at_out (j:=j) (by rw[<-am.o];exact Mw);have qdW:=down (Ee (ts.take i) x.dropLast) (by unfold Ru;rw[Qv,HJ.o];rfl);have sp:(Ee (ts.take i) x.dropLast).length<=1099512676353:=by
    have h1:=ec (ts.take i) x.dropLast;rw[Qq]at h1;have:=mf.o;omega
   have xZ:=Lh d1;obtain⟨q,hq⟩:=Xe ((Ee (ts.take i) x.dropLast).length);rw[<-hq]at qdW sp;obtain⟨A7,c7,rfl,hl7,mz⟩:=Zp qdW;unfold maxLen at mz;have HDO:=Lh qdW;have HQ:=Lh hq;have dfr:=df (j*2+1);clear df d0 down qdW hq hlk c3 c9;refine Text.wp_grow [11,12] [4] [] (by kernel_rfl) (by kernel_rfl) ?_;refine Text.wpS_seg 11 _ _ _ _ (by decide) (fun Q' hQ'=>?_);simp only[Xta,Xtz];go_wp2_with fail
   try simp only[Xda,Xdz]
   refine Text.wpS_one (fun Q' hQ'=>?_);go_wp2_with fail;refine⟨Xr _ _,?_⟩;refine Text.wpS_one (fun Q' hQ'=>?_);go_wp2_with fail;refine⟨(Xr _ _).alloc (Yb _) _,?_⟩;refine Text.wpS_seg 4 _ _ _ _ (by decide) (fun Q' hQ'=>?_);simp only[Xta,Xtz];rw[qhE hm];refine Zy xB rfl rfl rfl rfl (HDO.o.alloc _) (Rd.row (B:=W2.heap.size+1) (Xn W2 _) (by omega)) rfl (by simp[Value.oneCell']) (by unfold maxLen;omega) (by omega) (by have:=HM2.o.bel.size;show _<=(W2.alloc _).heap.size;rw[Xs];omega) fun v6 w6 ek ta zkE _=>?_;obtain⟨A6,c6,rfl,hl9,qpW⟩:=Zp ek;obtain⟨rs,hO,-⟩:=HM2.o.outs;have Wo:=hO.box;have lM:=(Zf W2 (.cells #[.int .i64 ((x.getLastD 0).toNat:Int),.int .i64 i] 145) _ (gl Wo)).trans Wo;have qqK:=Eg (HDO.o.alloc (.cells #[.int .i64 ((x.getLastD 0).toNat:Int),.int .i64 i] 145)) ⟨ta.os,ta.tape,ta.output,ta.size,ta.block⟩ lM (fun cur e=>by cases e);have d6:=(World.cell?_of_block (w:=W2) (a:=⟨bo,j*2+1,none⟩) (qqK.trans Wo.symm)).trans xZ.o;have f6:=(World.frozen?_of_block (w:=W2) (a:=⟨bo,j*2+1,none⟩) (qqK.trans Wo.symm)).trans dfr;have HN4:=Lh ((HM2.o.alloc (.cells #[.int .i64 ((x.getLastD 0).toNat:Int),.int .i64 i] 145)).edge (W':=w6) HND.o HX.o Po.o rfl HJ.o ((World.cell?_of_block (w:=W2) (a:=⟨bo,j*2+1,none⟩) (lM.trans Wo.symm)).trans xZ.o) (by rw[dL,<-HQ.o];exact ek) ⟨ta.os,ta.tape,ta.output,ta.size,ta.block⟩ zkE);have hz6:w8.heap.size<=(w6.setCell ⟨bo,j*2+1,none⟩ (.slice A6 (q+1) c6)).heap.size:=by
    rw[Zb];have h1:(W2.alloc (.cells #[.int .i64 ((x.getLastD 0).toNat:Int),.int .i64 i] 145)).heap.size<=w6.heap.size:=ta.size;rw[Xs]at h1;omega
   clear ek ta zkE hO Wo lM qqK;go_wp2;refine⟨by rfl,⟨fun _=>⟨_,_,rfl,xZ.o⟩,trivial⟩,?_⟩;go_wp2;go_roundw;exact⟨i+1,by omega,by go_num,hz6,HN4.o⟩;simp[intOf];omega
  have Uh:i=nt:=by omega
  subst Uh;go_wp2_with fail;have HS0:=Lt (Nw Dx w wr w.heap.size (w.heap.size+1) (bo+1) bo ts (.slice (some ⟨g4,0,none⟩) i c4) ts.length ts.length (rD ts [])) (by
   have h:=HS.o.ext (out':=rD ts []) fun k hk=>by unfold iN;rw[if_pos (by have:=am.o;omega),qnU]
   rw[<-am.o]
   exact h)
  clear HS;refine (dO A rows.length c wr).mono ?_;rintro e w9 ⟨rfl,hw9⟩;have HS9:=Lh (show w9.heap.size=wr.heap.size+1 by rw[hw9,Xs]);have jaM:=Lh (show w9.cell? ⟨wr.heap.size,0,none⟩=some (.slice A rows.length c) by
   rw[hw9]
   exact Zd _ _ _ _ _ _ (Xn wr _))
  have HN9:=Lt (Nw Dx w w9 w.heap.size (w.heap.size+1) (bo+1) bo ts (.slice (some ⟨g4,0,none⟩) i c4) ts.length ts.length (rD ts [])) (hw9 ▸ HS0.o.alloc _);have HV9:=Lh (HV.o.below HN9.o.bel);have zgY:=Lh (gl HN9.o.dfr);have HZ9:=Lt (w.heap.size+5<=wr.heap.size) (Yd HZ8.o hzr);clear hw9 HS0 zvS;go_wp2_with fail;refine (wpIn_wide (n:=9)).1 ?_;apply gZ (F:=Fence.wide) rfl (by omega) (gf:=165) (lb:=#[.pointer (some ⟨wr.heap.size,0,none⟩)]) rfl trivial (enters_of Tryz.func165 (by kernel_rfl) rfl)
   (xL (9-1) wr.heap.size w.heap.size _ rows hws w9 (by have:=HS9.o;have:=HZ9.o;omega) (by have:=HS9.o;omega) jaM.o HV9.o) (fun h k=>h.trans k) (fun W l o o'=>KpR.putObj (by have:=HS9.o;have:=HZ9.o;omega) W l o o') (Xr _ _) (fun _=>rfl)
   (fun pre W=>Nw Dx w W w.heap.size (w.heap.size+1) (bo+1) bo ts (.slice (some ⟨g4,0,none⟩) i c4) ts.length ts.length (rD ts (pre.map Subtype.val))) (fun _ _ _=>False)
   (fun s A B row hs hg hr=>hs.others hg fun r e=>⟨by have:=(hr r e).1;have:=HS9.o;have:=HZ9.o;omega,by have:=(hr r e).1;have:=zgY.o;omega,(hr r e).2⟩)
   (fun _ _ _ _ _ hs _ _=>hs) HN9.o (fun x=>#[.int .i64 x.1.1.1,.string ⟨x.1.1.2.1.toArray⟩,.int .i64 x.1.1.2.2]) 81
   (fun pre x W hI=>⟨⟨(Xr _ _).alloc hI.bel.size _,fun k cs hk=>(Zf W _ k (gl hk)).trans hk⟩,hI.alloc _⟩)
  case hassign =>
   intro l x W Wn b K hb hWn hK
   gi_wp2
   rw[<-hb,<-hWn];exact hK
  case hstop=>exact fun _ _ _ _ _ _ h _=>h.elim
  case hbody =>
   rintro l pre ⟨⟨⟨xa,xs1,xi⟩,xw⟩,hxm⟩ b W Nd hI -;dsimp only at Nd |-;obtain⟨r,hr,Cr⟩:=(ia rows xw).1 (Xa.2 ⟨_,hxm,rfl⟩);obtain⟨j,hj⟩:=List.getElem?_of_mem ((HF.o.mem xw).2 (.inr ⟨r,hr,Cr⟩));have Mw:=(Qj.1 hj).1;have hlk:(Instr.lookup 147 (.map (some w.heap.size)) (.string ⟨xw.toArray⟩) false).run Tryz.prog W=.ok (.int .i64 j) W:=hI.look HND.o Ki El hj Mw;have c3:=hI.c3;have c9:=hI.c9;rw[<-am.o]at c9;obtain⟨v5,d0,-,df,-⟩:=hI.at_out Mw;have dfr:=df (j*2);have y1:W.cell? ⟨b,1,none⟩=some (.string ⟨xs1.toArray⟩):=Xc Nd rfl;have y2:W.cell? ⟨b,2,none⟩=some (.int .i64 xi):=Xc Nd rfl;have HSTEP:=Lh (fun k (hk:k<ts.length)=>qgK HND.o (j:=j) (x:=((xa,xs1,xi),xw)) hj (pre.map Subtype.val) hk);have HMP:=Lh (show (pre++[(⟨((xa,xs1,xi),xw),hxm⟩:jS rows)]).map Subtype.val=pre.map Subtype.val++[((xa,xs1,xi),xw)] by simp);have Aa:j<i:=by rw[am.o];exact Mw
   have HII:=Lh hI;clear df hr Cr hj hI Nd;generalize ho:rD ts (pre.map Subtype.val) j=o at*;by_cases hse:xw=xs1
   .subst hse;by_cases hon:o<0
    .gi_wp2
     obtain⟨rs,hO,-⟩:=HII.o.outs;have hbo:=hO.box;change _/\_/\_;refine⟨⟨by rw[Zb];exact Yb _,fun k o' _ hk hc=>(Zc _ _ _ _ fun e=>?_).trans hk⟩,⟨(Xr _ _).setCell HII.o.lo.2 _,fun k cs hk=>(Zc _ _ _ _ (Nz hk hbo (by decide))).trans hk⟩,?_⟩
     .rw[show k=bo from e,hbo]at hk;cases hk;cases hc
     refine (HII.o.setOut Mw xi (out':=fun k=>if k=j then xi else rD ts (pre.map Subtype.val) k) (fun k=>rfl)).ext fun k hk=>?_
     rw[HMP.o,HSTEP.o k hk];by_cases hkj:k=j
     .rw[if_pos hkj,if_pos (by first|exact⟨hkj,rfl,hon⟩|exact⟨hkj,trivial,hon⟩)]
     rw[if_neg hkj,if_neg fun h=>hkj h.1]
    gi_wp2
    change _/\_/\_;refine And.intro (KeepsFrom.refl _ _) (And.intro ⟨Xr _ _,fun _ _ h=>h⟩ (HII.o.ext fun k hk=>?_));rw[HMP.o,HSTEP.o k hk,if_neg fun h=>by have:=h.2.2;omega]
   have hse2:((⟨xw.toArray⟩:ByteArray)==⟨xs1.toArray⟩)=false:=by rw[zaC];simpa using hse
   gi_wp2
   change _/\_/\_;refine And.intro (KeepsFrom.refl _ _) (And.intro ⟨Xr _ _,fun _ _ h=>h⟩ (HII.o.ext fun k hk=>?_));rw[HMP.o,HSTEP.o k hk,if_neg fun h=>hse h.2.1]
  case hdone =>
   intro Dy ys Wy hDy hys hN hdy;rw[hys]at hN;have c9:=hN.c9;rw[<-am.o]at c9;have HNY:=Lh hN;have HDY:=Lh hdy;clear hN hdy;go_wp2_with fail;have hb:∀x,-9223372036854775808<=Ed rows x/\Ed rows x<=9223372036854775807:=fun x=>by
    rcases qr rows x with h|⟨r,hr,h⟩
    .rw[h];omega
    rw[h];exact (HV.o.fitR r hr).2.2
   have hT:=HNY.o.tree (rows:=rows) (by have:=mf.o;have:=am.o;unfold maxLen;omega) (fun k x hk=>by
    unfold rD
    rw[Qb,hk]
    exact qgM rows x) hb
   have hne:Dy≠Dx:=by have:=zgY.o;omega
   have mW:(Wy.putObj Dy (.deferred none)).heap[Dx]?=some (.deferred (some [])):=(World.putObj_heap_other hne.symm).trans HNY.o.dfr;refine⟨by simp,.inl ⟨_,_,rfl,run_takeDeferred HDY.o,?_⟩⟩;refine⟨by simp,.inl ⟨_,_,rfl,run_takeDeferred mW,?_⟩⟩;refine⟨_,results_tmp rfl _ _ _,_,ts,rfl,HF.o,by have:=mf.o;have:=am.o;omega,?_,?_⟩
   .rw[World.putObj_size,World.putObj_size,am.o];exact hT.keep fun p _=>(vi mW rfl rfl p).trans (vi HDY.o rfl rfl p)
   exact HNY.o.bel.trans ((belowK_b (w:=w) (Yb _) _ Dy _ _ (by have:=zgY.o;have:=HDL.o;omega) HDY.o rfl rfl).trans (belowK_b (w:=w) (Yb _) _ Dx _ _ HDL.o mW rfl rfl))
theorem ve(A:Option Addr)(c x:Nat)(m:qbU)(w:World)(hv:Je Ju w w.heap.size (.slice A m.length c) m)(hx:Ks w x (Ly m.length (Ke m)))(qI:Uy m 9223372036854775807=true)(hl:m.length<=2199023255552)(he:∀k<m.length,(Mm m k).length<=2199023255552)(ht:fQ w) :
  Calls Tryz.prog 100 #[.slice A m.length c,.slice (some ⟨x,0,none⟩) m.length m.length] w (zaA m w m.length):=by
 have Nj:=hv.n_le;have zR:x<w.heap.size:=(gl hx);have HV:=Lh hv;have HX:=Lh hx;have HG:=Lh (Gp qI);have HE:=Lh he;have HT:=Lh ht;clear hv hx qI he ht;obtain⟨n,hn⟩:=Xe m.length;have HN:=Lh hn;rw[<-hn]at Nj HV hl HX HE |-;clear hn;have sK:=qhQ n hl;go_enter Tryz.func100,Tryz.ntmps100;go_wp2_with fail;have HB0:=Lh (show Below w.heap.size w (w.alloc (.cells ((Gw n fun _=>0).map (Value.int .i64)).toArray 3))from (Xr _ _).alloc (Yb _) _);have HI0:=Lh (show Er (w.alloc (.cells ((Gw n fun _=>0).map (Value.int .i64)).toArray 3)) w.heap.size (Gw n fun k=>if k<0 then -1 else 0) by
  rw[show (fun k:Nat=>if k<0 then (-1:Int)else 0)=fun _=>0 from funext fun k=>if_neg (by omega)]
  exact Xn w _)
 generalize w.alloc (.cells ((Gw n fun _=>0).map (Value.int .i64)).toArray 3)=w1 at*;obtain⟨x0,ef⟩:=Xe w.heap.size;rw[<-ef]at HI0 |-;have HX0:=Lh ef;clear ef;go_loopw [22] (fun v22 wr=>∃i:Nat,i<=n/\v22=.int .i64 i/\Hid (Er wr x0 (Gw n fun k=>if k<i then -1 else 0))/\Hid (Below w.heap.size w wr)) (fun v22 _=>n-(intOf v22).toNat)
 exact⟨0,by omega,rfl,HI0.o,HB0.o⟩;clear HI0 HB0;obtain⟨i,hi,rfl,HI,HB⟩:=hrel;by_cases Jl:i<n
 .obtain⟨-,c2⟩:=HI.o.at_ Jl;have HI2:=Lh (show Er (wr.setCell ⟨x0,i,none⟩ (.int .i64 (-1))) x0 (Gw n fun k=>if k<i+1 then -1 else 0) by
   have h:=HI.o.set i (-1)
   rwa [show (fun k:Nat=>if k=i then (-1:Int)else if k<i then -1 else 0)=fun k=>if k<i+1 then -1 else 0 from funext fun k=>by
    by_cases hk:k=i
    .subst hk;simp
    have:(k<i+1)=(k<i):=by apply propext;omega
    simp only[this,if_neg hk]]at h)
  have HB2:=Lh (HB.o.setCell (p:=⟨x0,i,none⟩) (show w.heap.size<=x0 by have:=HX0.o;omega) (.int .i64 (-1)));obtain⟨v0,c1⟩:∃v0:Int,wr.cell? ⟨x0,i,none⟩=some (.int .i64 v0):=⟨_,(HI.o.at_ Jl).1⟩;clear HI HB;go_wp2;go_roundw;exact⟨i+1,by omega,by go_num,HI2.o,HB2.o⟩;simp[intOf];omega
 have Uh:i=n:=by omega
 subst Uh;have HIC:=Lh (show Er wr x0 (Gw i fun _=>-1) by
  have h:=HI.o
  rwa [sf (g:=fun _=>(-1:Int)) fun k hk=>if_pos hk]at h)
 clear HI;go_wp2_with fail;go_loopg [5,7] (i+2) (fun left v5 v7 wt=>∃(xo:Nat)(C:Nat->Int)(ft:Int),v5=.slice (some ⟨xo,0,none⟩) i i/\v7=.int .i64 ft/\-1<=ft/\ft<=i/\(i:Int)+1-ft<=left/\w.heap.size<=xo/\Hid (Er wt xo (Gw i C))/\Hid (Below w.heap.size w wt)/\Hid (eD m (Ke m) C ft)/\Hid (∀k,-1<=C k/\C k<=i));exact⟨x0,fun _=>-1,-1,rfl,rfl,by omega,by omega,by omega,by have:=HX0.o;omega,HIC.o,HB.o,.inl ⟨rfl,fun _ _=>rfl⟩,fun _=>⟨by show (-1:Int)<=-1;omega,by show (-1:Int)<=_;omega⟩⟩;clear HIC HB;obtain⟨xo,C,ft,rfl,rfl,hc3,hc4,Ef,hxo,HI,HB,HC,HCB⟩:=hrel;obtain⟨gas,Gx⟩:=Xe gk;rw[<-Gx]at Ef;have HGK:=Lh Gx;clear Gx;generalize wr=wo at*;have su:=@run_makeMap Tryz.prog;have zkP:=sK (wo.alloc (.map #[] 0));rw[Xs]at zkP;go_wp2_with fail;have HR0:=Lh (show Oa w ((wo.alloc (.map #[] 0)).alloc (.cells ((Gw i fun _=>0).map (Value.int .i64)).toArray 3)) wo.heap.size xo (wo.heap.size+1) i C (Tx m (Ke m) C 0) (re m (Ke m) C 0)from
  ⟨(Nx.made wo).below ((Xr _ _).alloc (Yb _) _),(HI.o.below ((Xr _ _).alloc (Yb _) _)).below ((Xr _ _).alloc (Yb _) _),by
   rw[qoA]
   have:=Xn (wo.alloc (.map #[] 0)) (.cells ((Gw i fun _=>0).map (Value.int .i64)).toArray 3)
   rw[Xs]at this
   exact this,(HB.o.alloc HB.o.size _).alloc (by rw[Xs];have:=HB.o.size;omega) _,HB.o.size,hxo,by have:=HB.o.size;omega,by have:=(gl HI.o);omega⟩)
 have HZ:=Lh (show wo.heap.size+2<=((wo.alloc (.map #[] 0)).alloc (.cells ((Gw i fun _=>0).map (Value.int .i64)).toArray 3)).heap.size by rw[Xs,Xs];omega);clear zkP HI HB;generalize (wo.alloc (.map #[] 0)).alloc (.cells ((Gw i fun _=>0).map (Value.int .i64)).toArray 3)=wp at*;obtain⟨g,hg⟩:=Xe wo.heap.size;rw[<-hg]at HR0 HZ |-;clear hg;go_loopw [35] (fun v35 wt=>∃k:Nat,k<=i/\v35=.int .i64 k/\Hid (Oa w wt g xo (g+1) i C (Tx m (Ke m) C k) (re m (Ke m) C k))) (fun v35 _=>i-(intOf v35).toNat);exact⟨0,by omega,rfl,HR0.o⟩;clear HR0;obtain⟨k,hk,rfl,HR⟩:=hrel;by_cases hlk:k<i
 .have Du:k<m.length:=by rw[<-HN.o];exact hlk
  obtain⟨b1,o1,cs,rfl,-,hb1,Ja,Zn⟩:=(HV.o.below HR.o.bel).get Du (by decide);obtain⟨u,rfl,hu,Ik,Si⟩:=Mr Ja;obtain⟨A4,e4,rfl,ew,sL⟩:=hu.form;unfold maxLen at sL;have d0:=Zn 0 _ rfl;have d1:=Zn 1 _ rfl;clear Zn Ja;simp only[show Ju.size=2 from rfl,Yq,<-Yy]at d0 d1;have yV:=Lh (Bi Du);have HOU:=Lh (Cm Du);have HEL:=Lh (HE.o k hlk);have HTO:=Lh (HG.o.tos k Du);have HU:=Lt (Je Rc w w.heap.size (.slice A4 (m[k]).2.length e4) (m[k]).2) (hu.keep fun p hp=>(HR.o.bel.cell hp).symm);obtain⟨s,hs⟩:=Xe (m[k]);rw[<-hs]at d0 d1 yV HOU HU ew Ik Si;clear hs hu;obtain⟨so,se⟩:=s;simp only at d0 d1 ew Ik Si HU yV HOU;obtain⟨q,hq⟩:=Xe se.length;have HQ:=Lh hq;rw[<-hq]at d1 ew HU;clear hq;have hgl:g+1<wr.heap.size:=(gl HR.o.new);obtain⟨f0,ff⟩:=HR.o.new.at_ hlk;have HR2:=Lh ((HR.o.set k (-1)).alloc (.cells #[.int .i64 so,.slice A4 q e4] 118));have Nd:=Xn (wr.setCell ⟨g+1,k,none⟩ (.int .i64 (-1))) (.cells #[.int .i64 so,.slice A4 q e4] 118);rw[Zb]at Nd;have HBX:=Lh Nd;have hcu:=((HX.o.grown (row:=none) ⟨HR2.o.bel.os,HR2.o.bel.tape,HR2.o.bel.output,HR2.o.bel.size,fun j hj _=>HR2.o.bel.block j hj⟩ (by simp)).at_ (k:=k) (by rw[Ib];exact hlk)).1;rw[Bn,Yw hlk,Bool.true_and]at hcu;clear Nd HR;obtain⟨b,hb⟩:=Xe (Ke m k);rw[<-hb]at hcu;have lz:=Lh hb;clear hb;cases b
  .have HR3:=Lt (Oa w ((wr.setCell ⟨g+1,k,none⟩ (.int .i64 (-1))).alloc (.cells #[.int .i64 so,.slice A4 q e4] 118)) g xo (g+1) i C (Tx m (Ke m) C (k+1)) (re m (Ke m) C (k+1))) (by
    have h:=HR2.o
    rw[<-pg lz.o.symm,show (fun j=>if j=k then (-1:Int)else re m (Ke m) C k j)=re m (Ke m) C (k+1)from funext fun j=>qoB lz.o.symm j]at h
    exact h)
   clear HR2;go_wp2;go_roundw;exact⟨k+1,by omega,by go_num,HR3.o⟩;simp[intOf];omega
  go_wp2_with fail;generalize mv:(wr.setCell ⟨g+1,k,none⟩ (.int .i64 (-1))).alloc (.cells #[.int .i64 so,.slice A4 q e4] 118)=w2 at*;clear mv;generalize wr.heap.size=b11 at*;have co:=(HR2.o.old.at_ hlk).1;have cb0:w2.cell? ⟨b11,0,none⟩=some (.int .i64 so):=Xc HBX.o rfl;have hcb:=HCB.o k;clear d0 d1 f0 ff hcu;have Gc:=Ti (Lib.itoa (C k));have eR:=Ti (Lib.itoa so);have wJ:=Lib.itoa_length_le (C k) (by omega) (by omega);have Hn:=Lib.itoa_length_le so Ik Si;have hs32:(⟨#[32]⟩:ByteArray).size=1:=rfl;have hs58:(⟨#[58]⟩:ByteArray).size=1:=rfl;refine Text.wp_grow [4,8] [3,7] [] (by kernel_rfl) (by kernel_rfl) ?_;refine Text.wpS_seg 4 _ _ _ _ (by decide) (fun Q' hQ'=>?_);simp only[Xta,Xtz];go_wp2_with fail
  try simp only[Xda,Xdz]
  refine Text.wpS_one (fun Q' hQ'=>?_);go_wp2_with fail;refine (eQ (C k) w2.drew (by omega) (by omega) (HT.o.below HR2.o.drew.bel)).mono ?_;rintro e w3 ⟨rfl,hb3⟩;have cb3:w3.cell? ⟨b11,0,none⟩=some (.int .i64 so):=(hb3.cell (p:=⟨b11,0,none⟩) (show b11<w2.heap.size from (gl HBX.o))).trans cb0;have HR3:=Lh (HR2.o.drew.below hb3);have mN:=Lh ((hb3.block b11 (gl HBX.o)).trans HBX.o);have HB3:=Lh hb3;clear hb3;go_wp2_with fail;refine⟨HB3.o,?_⟩;refine Text.wpS_seg 3 _ _ _ _ (by decide) (fun Q' hQ'=>?_);simp only[Xta,Xtz];go_wp2_with fail
  try simp only[Xda,Xdz]
  refine Text.wpS_one (fun Q' hQ'=>?_);go_wp2_with fail;refine (eQ so w3 Ik Si (HT.o.below HR3.o.bel)).mono ?_;rintro e w4 ⟨rfl,hb4⟩;have HR4:=Lh (HR3.o.below hb4);have Ig:=Lh ((hb4.block b11 (gl mN.o)).trans mN.o);have HB4:=Lh (HB3.o.trans (hb4.mono HB3.o.size));clear hb4 cb3;go_wp2_with fail;refine⟨HB4.o,?_⟩;refine Text.wpS_seg 2 _ _ _ _ (by decide) (fun Q' hQ'=>?_);simp only[Xta,Xtz];go_wp2;refine⟨by rfl,⟨fun _=>⟨_,_,rfl,co⟩,fun _=>⟨_,_,rfl,cb0⟩,trivial⟩,?_⟩;have hst:(⟨(Lib.itoa (C k)).toArray⟩:ByteArray)++⟨#[32]⟩++⟨(Lib.itoa so).toArray⟩=⟨(So m (Ke m) C k 0).toArray⟩:=by
   rw[show (⟨#[32]⟩:ByteArray)=⟨[32].toArray⟩from rfl,bV,bV,vD,HOU.o,Xd];rfl
  rw[hst];have cb1:w4.cell? ⟨b11,1,none⟩=some (.slice A4 q e4):=Xc Ig.o rfl;have HPL:=Lh (fun j hj=>cp (m:=m) (use:=Ke m) (c:=C) (i:=k) (fun k=>by have:=HCB.o k;omega) (by rw[HOU.o];exact⟨Ik,Si⟩) (fun e he=>by
   rw[yV.o]at he
   obtain⟨j,hj,rfl⟩:=Qz he
   obtain⟨_,_,cs,_,_,_,Ja,_⟩:=HU.o.get hj (by decide)
   obtain⟨_,h1,h2,_,_⟩:=Nr Ja
   exact⟨h1,h2⟩) j hj)
  clear hst co cb0 Gc eR wJ Hn HR2 HR3 HB3 HB4 HBX mN;go_wp2_with fail;go_loopw [61,12] (fun v61 v12 wt=>∃e:Nat,e<=q/\v61=.int .i64 e/\v12=wv (So m (Ke m) C k e)/\Hid (Oa w wt g xo (g+1) i C (Tx m (Ke m) C k) fun j=>if j=k then -1 else re m (Ke m) C k j)) (fun v61 _ _=>q-(intOf v61).toNat)
  exact⟨0,by omega,rfl,rfl,HR4.o⟩;clear HR4 Ig cb1;obtain⟨e,he,rfl,rfl,HR⟩:=hrel;have HR':=HR;by_cases hle:e<q
  .have eu:e<se.length:=by rw[<-HQ.o];exact hle
   obtain⟨b2,o2,cs,rfl,-,Jd,Ja,Zn⟩:=(HU.o.below HR.o.bel).get eu (by decide);obtain⟨rfl,sG,wF,sh,hy4⟩:=Nr Ja;have d0:=Zn 0 _ rfl;have d1:=Zn 1 _ rfl;clear Zn Ja;simp only[show Rc.size=2 from rfl,Yq,<-Yy]at d0 d1;have Ml:se[e]∈Mm m k:=by rw[yV.o];exact Qg eu
   have HPS:=Lh (vE (use:=Ke m) (c:=C) (show (Mm m k)[e]?=some se[e] by rw[yV.o];exact Qa eu));have hto:=HTO.o _ Ml;obtain⟨ed,hed⟩:=Xe (se[e]);rw[<-hed]at d0 d1 sG wF sh hy4 HPS hto;clear hed Ml;obtain⟨et,en0⟩:=ed;simp only at d0 d1 sG wF sh hy4 hto;obtain⟨en,rfl⟩:∃en:Nat,en0=(en:Int):=⟨en0.toNat,by omega⟩;have hen:en<i:=by rw[HN.o];omega
   rw[Yz]at HPS;have HR1:=Lh (HR.o.alloc (.cells #[.int .i64 et,.int .i64 en] 145));have Nd:=Xn wr (.cells #[.int .i64 et,.int .i64 en] 145);have hcu:=((HX.o.grown (row:=none) ⟨HR1.o.bel.os,HR1.o.bel.tape,HR1.o.bel.output,HR1.o.bel.size,fun j hj _=>HR1.o.bel.block j hj⟩ (by simp)).at_ (k:=en) (by rw[Ib];exact hen)).1;rw[Bn,Yw hen,Bool.true_and]at hcu;have HBX:=Lh Nd;clear Nd HR HR';obtain⟨b,hb⟩:=Xe (Ke m en);rw[<-hb]at hcu HPS;clear hb;cases b
   .have HPS2:=Lh (show So m (Ke m) C k (e+1)=So m (Ke m) C k e by rw[HPS.o];simp);clear HPS;go_wp2;go_roundw;exact⟨e+1,by omega,by go_num,by rw[HPS2.o],HR1.o⟩;simp[intOf];omega
   have HPS2:=Lh (show So m (Ke m) C k (e+1)=So m (Ke m) C k e++32::(Lib.itoa et++58::Lib.itoa (C en)) by rw[HPS.o];simp);clear HPS;go_wp2_with fail;generalize wr.alloc (.cells #[.int .i64 et,.int .i64 en] 145)=w5 at*;generalize wr.heap.size=b14 at*;have co:=(HR1.o.old.at_ hen).1;have cb0:w5.cell? ⟨b14,0,none⟩=some (.int .i64 et):=Xc HBX.o rfl;have cb1:w5.cell? ⟨b14,1,none⟩=some (.int .i64 en):=Xc HBX.o rfl;have hcb:=HCB.o en;have Gc:=Ti (Lib.itoa et);have eR:=Ti (Lib.itoa (C en));have hs3:=Ti (So m (Ke m) C k e);have wJ:=Lib.itoa_length_le et sG wF;have Hn:=Lib.itoa_length_le (C en) (by omega) (by omega);have hl3:=HPL.o e (by rw[yV.o,<-HQ.o];omega);have hq2:q<=2199023255552:=by have:=HEL.o;rw[yV.o,<-HQ.o]at this;exact this
   have iY:b14<w5.heap.size:=(gl HBX.o);clear d0 d1 hcu;refine Text.wp_grow [3,11] [2,8,10] [] (by kernel_rfl) (by kernel_rfl) ?_;refine Text.wpS_seg 3 _ _ _ _ (by decide) (fun Q' hQ'=>?_);simp only[Xta,Xtz];go_wp2_with fail
   try simp only[Xda,Xdz]
   refine Text.wpS_one (fun Q' hQ'=>?_);go_wp2_with fail;refine (eQ et w5.drew sG wF (HT.o.below HR1.o.drew.bel)).mono ?_;rintro e1 w6 ⟨rfl,hb6⟩;have cb6:w6.cell? ⟨b14,1,none⟩=some (.int .i64 en):=(hb6.cell (p:=⟨b14,1,none⟩) iY).trans cb1;have HR6:=Lh (HR1.o.drew.below hb6);have co6:=(HR6.o.old.at_ hen).1;have HB6:=Lh hb6;clear hb6;go_wp2_with fail;refine⟨HB6.o,?_⟩;refine Text.wpS_seg 7 _ _ _ _ (by decide) (fun Q' hQ'=>?_);simp only[Xta,Xtz];go_wp2_with fail
   try simp only[Xda,Xdz]
   refine Text.wpS_one (fun Q' hQ'=>?_);go_wp2_with fail;refine (eQ (C en) w6 (by omega) (by omega) (HT.o.below HR6.o.bel)).mono ?_;rintro e1 w7 ⟨rfl,oI⟩;have HR7:=Lh (HR6.o.below oI);have HB7:=Lh (HB6.o.trans (oI.mono HB6.o.size));clear oI cb6 co6;go_wp2_with fail;refine⟨HB7.o,?_⟩;refine Text.wpS_seg 3 _ _ _ _ (by decide) (fun Q' hQ'=>?_);simp only[Xta,Xtz];go_wp2;refine⟨by rfl,⟨fun _=>⟨_,_,rfl,cb0⟩,fun _=>⟨_,_,rfl,cb1⟩,fun _=>⟨_,_,rfl,co⟩,trivial⟩,?_⟩;have hst:(⟨(So m (Ke m) C k e).toArray⟩:ByteArray)++(⟨#[32]⟩++⟨(Lib.itoa et).toArray⟩++⟨#[58]⟩++⟨(Lib.itoa (C en)).toArray⟩)=⟨(So m (Ke m) C k (e+1)).toArray⟩:=by
    rw[show (⟨#[32]⟩:ByteArray)=⟨[32].toArray⟩from rfl,show (⟨#[58]⟩:ByteArray)=⟨[58].toArray⟩from rfl,bV,bV,bV,bV,HPS2.o];simp
   rw[hst];clear hst Gc eR hs3 co cb0 cb1;go_wp2;go_roundw;exact⟨e+1,by omega,by go_num,rfl,HR7.o⟩;simp[intOf];omega
  have heq:e=q:=by omega
  subst heq;have hpt:So m (Ke m) C k e=Ll m (Ke m) C k:=by rw[<-qgF,yV.o,<-HQ.o]
  rw[hpt];clear hpt HPL HR';obtain⟨T,hT0⟩:=Xe (Ll m (Ke m) C k);rw[<-hT0];obtain⟨g0,gf⟩:=HR.o.new.at_ hlk;have Vd:=HR.o.map.look (P:=Tryz.prog) Ki El T;by_cases Uh:T∈Tx m (Ke m) C k
  .have wJ:(Instr.lookup 147 (.map (some g)) (.string ⟨T.toArray⟩) true).run Tryz.prog wr=.ok (.tuple #[.int .i64 ((Tx m (Ke m) C k).idxOf T:Nat),.bool true]) wr:=by
    have h:=Vd.1;rw[if_pos Uh,Yw Uh]at h;exact h
   have Hn:(Instr.lookup 147 (.map (some g)) (.string ⟨T.toArray⟩) false).run Tryz.prog wr=.ok (.int .i64 ((Tx m (Ke m) C k).idxOf T:Nat)) wr:=Vd.2 Uh;have HR2:=Lt (Oa w (wr.setCell ⟨g+1,k,none⟩ (.int .i64 ((Tx m (Ke m) C k).idxOf T:Nat))) g xo (g+1) i C (Tx m (Ke m) C (k+1)) (re m (Ke m) C (k+1))) (by
    have h:=HR.o.set k (((Tx m (Ke m) C k).idxOf T:Nat):Int)
    have e1:Tz m (Ke m) C (k+1) k=(((Tx m (Ke m) C k).idxOf T:Nat):Int):=by rw[qdG lz.o.symm,<-hT0,if_pos Uh]
    have e2:Tx m (Ke m) C (k+1)=Tx m (Ke m) C k:=by rw[kM lz.o.symm,<-hT0,if_pos Uh]
    rw[e2,<-funext fun j=>qdD (m:=m) (use:=Ke m) (c:=C) (i:=k) j,e1]
    exact h)
   generalize (((Tx m (Ke m) C k).idxOf T:Nat):Int)=idx at*;clear Vd Uh hT0 HR;go_wp2;go_roundw;exact⟨k+1,by omega,by go_num,HR2.o⟩;simp[intOf];omega
  have wJ:(Instr.lookup 147 (.map (some g)) (.string ⟨T.toArray⟩) true).run Tryz.prog wr=.ok (.tuple #[.int .i64 0,.bool false]) wr:=by
   have h:=Vd.1;rw[if_neg Uh,Yx Uh]at h;exact h
  have hlen:(Builtin.len_ #[147] 3 #[.map (some g)]).run Tryz.prog wr=.ok (.int .i64 (Tx m (Ke m) C k).length) wr:=HR.o.map.len Ki;obtain⟨W1,jV,Sr,Gc⟩:=HR.o.put (P:=Tryz.prog) Ki Uh;replace jV:(Instr.mapUpdate 147 (.map (some g)) (.string ⟨T.toArray⟩) (.int .i64 (Tx m (Ke m) C k).length)).run Tryz.prog wr=.ok () W1:=jV;have v_:=(Sr.map.look (P:=Tryz.prog) Ki El T).2 (by simp);rw[List.idxOf_append,if_neg Uh]at v_;have Hn:(Instr.lookup 147 (.map (some g)) (.string ⟨T.toArray⟩) false).run Tryz.prog W1=.ok (.int .i64 (Tx m (Ke m) C k).length) W1:=by simpa using v_
  obtain⟨g1,gf1⟩:=Sr.new.at_ hlk;have HR2:=Lt (Oa w (W1.setCell ⟨g+1,k,none⟩ (.int .i64 (Tx m (Ke m) C k).length)) g xo (g+1) i C (Tx m (Ke m) C (k+1)) (re m (Ke m) C (k+1))) (by
   have h:=Sr.set k ((Tx m (Ke m) C k).length:Int)
   have e1:Tz m (Ke m) C (k+1) k=((Tx m (Ke m) C k).length:Int):=by rw[qdG lz.o.symm,<-hT0,if_neg Uh]
   have e2:Tx m (Ke m) C (k+1)=Tx m (Ke m) C k++[T]:=by rw[kM lz.o.symm,<-hT0,if_neg Uh]
   rw[e2,<-funext fun j=>qdD (m:=m) (use:=Ke m) (c:=C) (i:=k) j,e1]
   exact h)
  generalize ((Tx m (Ke m) C k).length:Int)=idx at*;clear Vd v_ Uh hT0 HR Sr Gc;go_wp2;go_roundw;exact⟨k+1,by omega,by go_num,HR2.o⟩;simp[intOf];omega
 have x_:k=i:=by omega
 subst x_;have hlen:(Builtin.len_ #[147] 3 #[.map (some g)]).run Tryz.prog wr=.ok (.int .i64 (Tx m (Ke m) C k).length) wr:=HR.o.map.len Ki;have HMO:=Lh (HC.o.more HG.o (Ir m));have HNX:=Lh (HC.o.next HG.o (Ir m));rw[<-HN.o]at HMO HNX;have HLE:=Lh (qcS m (Ke m) C k);have HIN:=Lt (Er wr (g+1) (Gw k (Tz m (Ke m) C k))) (by
  have h:=HR.o.new
  rwa [sf (g:=Tz m (Ke m) C k) fun j hj=>by unfold re;rw[if_pos hj]]at h)
 obtain⟨K,hK⟩:=Xe ((Tx m (Ke m) C k).length);rw[<-hK]at hlen HMO HNX HLE;have hgw:=HR.o.lo.2.2.1;have HBW:=Lh HR.o.bel;clear hK HR HC;by_cases hkc:(K:Int)=ft
 .have HKC:=Lh hkc;clear hkc;have hd:((K:Int)==ft)=true:=by simpa using HKC.o
  go_wp2;go_ret;exact⟨g+1,Tz m (Ke m) C k,rfl,HIN.o,hgw,HBW.o,qdF m (Ke m) C k,HMO.o.2 HKC.o⟩
 have hd:((K:Int)==ft)=false:=by simpa using hkc
 have HKC:=Lh hkc;clear hkc;go_wp2;go_roundg (gas-1);exact⟨g+1,Tz m (Ke m) C k,K,rfl,rfl,by omega,by have:=HLE.o;omega,by have:=HGK.o;have:=HMO.o.1;have:=HKC.o;omega,hgw,HIN.o,HBW.o,HNX.o,qdF m (Ke m) C k⟩;have:=HGK.o;omega
def iI(q:List Nat):List Value:=q.map fun(x:Nat)=>.int .i64 ((x:Nat):Int)
theorem qd(q:List Nat)(x:Nat):iI (q++[x])=iI q++[.int .i64 (x:Int)]:=by simp[iI]
theorem pj(rs:List (Int×Value))(r:Int×Value):Up (rs++[r])=Up rs++[.int .i64 r.1,r.2]:=by simp[Up]
def ag(W:World)(g:Nat)(cl:Nat->Int)(q:List Nat):Prop:=∃l,Mb (Value.int .i64) W g l/\∀z,Nt l z=(q.findIdx? fun x=>decide (cl x=z)).map fun n=>.int .i64 (n:Int)
theorem ag.stay{W W':World}{g:Nat}{cl:Nat->Int}{q:List Nat}(h:ag W g cl q)(hs:∀o:Obj,W.heap[g]?=some o->o.isCells=false->W'.heap[g]?=some o):ag W' g cl q:=by
 obtain⟨l,h1,h2⟩:=h;exact⟨l,h1.stay hs,h2⟩
theorem ag.look(h:ag W g cl q)(K:St P mt kt et (Value.int .i64))(hz:∀w:World,(zeroValue et).run P w=.ok (.int .i64 0) w)(z:Int) :
  (Instr.lookup mt (.map (some g)) (.int .i64 z) true).run P W=.ok (match q.findIdx? fun x=>decide (cl x=z)with|some n=>.tuple #[.int .i64 (n:Int),.bool true]|none=>.tuple #[.int .i64 0,.bool false]) W:=by
 obtain⟨l,h1,h2⟩:=h;rw[h1.lookup_ok K hz z,h2];cases q.findIdx? fun x=>decide (cl x=z) <;> rfl
theorem ag.put(h:ag W g cl q)(K:St P mt kt et (Value.int .i64))(hy:(q.findIdx? fun x=>decide (cl x=cl y))=none) :
  ∃W',(Instr.mapUpdate mt (.map (some g)) (.int .i64 (cl y)) (.int .i64 q.length)).run P W=.ok () W'/\ag W' g cl (q++[y])/\W.grownBy W' (some g)/\W'.heap.size=W.heap.size:=by
 obtain⟨l,h1,h2⟩:=h;obtain⟨W1,jV,lH,Il,Gc⟩:=h1.update K (cl y) (.int .i64 q.length);refine⟨W1,jV,⟨_,lH,fun z=>?_⟩,Il,Gc⟩;rw[Hy,h2,List.findIdx?_append];by_cases hz:z=cl y
 .subst hz;rw[if_pos rfl,hy];simp[List.findIdx?_cons]
 rw[if_neg hz];have:¬ cl y=z:=fun e=>hz e.symm;cases q.findIdx? fun x=>decide (cl x=z) <;> simp[List.findIdx?_cons,this]
structure qbR(W:World)(N:Nat)(v:Value)(rs:List (Int×Value))(es:List (List (Int×Int))):Prop where
 len:rs.length=es.length
 row:W.ownsRow N 118 2 v rs.length (Up rs)
 own:∀(i:Nat)(r:Int×Value)(l:List (Int×Int)),rs[i]?=some r->es[i]?=some l->W.ownsRow N 145 2 r.2 l.length (Lw l)
theorem qbR.sl(h:qbR W N v rs es)
  (hb1:∀r∈rs,-9223372036854775808<=r.1/\r.1<=9223372036854775807) (Jd:∀l∈es,∀e∈l,(-9223372036854775808<=e.1/\e.1<=9223372036854775807)/\-9223372036854775808<=e.2/\e.2<=9223372036854775807) :
  Je Ju W W.heap.size v ((rs.zip es).map fun p=>(p.1.1,p.2)):=by
 have hz:((rs.zip es).map fun p=>(p.1.1,p.2)).length=rs.length:=by rw[Qk,List.length_zip,h.len,Nat.min_self]
 obtain⟨A,c,hv,hc,Uw⟩:=Zp h.row;have Nu:=h.row;rw[hv]at Nu |-;refine⟨_,c,rs.map fun r=>[Value.int .i64 r.1,r.2],by rw[hz],by rw[hz];exact hc,Uw,by rw[hz,Qk],Rd.of_own Nu,fun i cs x hi hx=>?_⟩;rw[Qv]at hi hx;have Wp:i<rs.length:=by
  rcases Nat.lt_or_ge i rs.length with h|h
  .exact h
  rw[Xg h]at hi;cases hi
 have qaA:i<es.length:=by rw[<-h.len];exact Wp
 have hzl:i<(rs.zip es).length:=by rw[List.length_zip];omega
 rw[Qa Wp,Option.map_some]at hi;rw[Qa hzl,List.getElem_zip,Option.map_some]at hx;injection hi with hi;injection hx with hx;subst hi hx;have hown:=h.own i _ _ (Qa Wp) (Qa qaA);obtain⟨A',c',e,h1,h2⟩:=Zp hown;refine⟨[.int .i64 rs[i].1],[rs[i].2],rfl,⟨rfl,hb1 _ (Qg Wp)⟩,rs[i].2,rfl,?_⟩;rw[e]at hown |-;refine⟨A',c',es[i].map fun e=>[Value.int .i64 e.1,.int .i64 e.2],rfl,h1,h2,by simp,Rd.of_own hown,fun j cs y hj hy=>?_⟩;rw[Qv,hy]at hj;injection hj with hj;subst hj;obtain⟨⟨a1,a2⟩,a3,a4⟩:=Jd _ (Qg qaA) _ (Qp hy);exact⟨_,_,rfl,⟨rfl,a1,a2⟩,rfl,a3,a4⟩
theorem qbR.fresh{W':World}(h:qbR W N v rs es)(hw:∀b,N<=b->b<W.heap.size->W'.heap[b]?=W.heap[b]?):qbR W' N v rs es:=by
 have key:∀{t:TypeId}{s:Nat}{u:Value}{n:Nat}{xs:List Value},W.ownsRow N t s u n xs->W'.ownsRow N t s u n xs:=fun ho=>Vi ho fun g cur he hh=>(hw g (ho.lt g he).1 (ho.lt g he).2).trans hh;exact⟨h.len,key h.row,fun i r l hi hl=>key (h.own i r l hi hl)⟩
structure MkI(w3 W:World)(g:Nat)(cl:Nat->Int)(q:List Nat)(v6 v7:Value)(rs:List (Int×Value))(es:List (List (Int×Int))):Prop where
 map:ag W g cl q
 que:W.ownsRow w3.heap.size 3 1 v6 q.length (iI q)
 o:qbR W w3.heap.size v7 rs es
 bel:Below w3.heap.size w3 W
 lo:w3.heap.size<=g
structure mi(w3 W:World)(g mZ:Nat)(cl:Nat->Int)(q1 q2:List Nat)(v6 v7:Value)(rs:List (Int×Value))(es:List (List (Int×Int)))(so:Int)(u:Value)(l:List (Int×Int)):Prop where
 map:ag W g cl q1
 que:W.ownsRow w3.heap.size 3 1 v6 q2.length (iI q2)
 o:qbR W w3.heap.size v7 rs es
 box:W.heap[mZ]?=some (.cells #[.int .i64 so,u] 118 (0,0))
 uo:W.ownsRow w3.heap.size 145 2 u l.length (Lw l)
 ap:∀(i:Nat)(r:Int×Value)(gg:Nat),rs[i]?=some r->r.2.ownBlock=some gg->u.ownBlock≠some gg
 hne:v7.ownBlock≠some mZ
 bel:Below w3.heap.size w3 W
 lo:w3.heap.size<=g/\w3.heap.size<=mZ
section
variable {w3 W W':World} {g mZ:Nat} {cl:Nat->Int} {q q1 q2:List Nat} {v6 v7:Value} {rs:List (Int×Value)} {es:List (List (Int×Int))} {so:Int} {u:Value} {l:List (Int×Int)}
theorem Sy{t:TypeId}{s:Nat}{xs:List Value}(h:W.ownsRow N t s v n xs)(hs:∀(k:Nat)(o:Obj),W.heap[k]?=some o->W'.heap[k]?=some o):W'.ownsRow N t s v n xs:=Vi h fun _ _ _ hh=>hs _ _ hh
theorem MkI.below(h:MkI w3 W g cl q v6 v7 rs es)(hb:Below W.heap.size W W'):MkI w3 W' g cl q v6 v7 rs es:=by
 have hs:∀(k:Nat)(o:Obj),W.heap[k]?=some o->W'.heap[k]?=some o:=fun k o hk=>(hb.block k (gl hk)).trans hk;exact⟨h.map.stay fun o ho _=>hs _ _ ho,Sy h.que hs,⟨h.o.len,Sy h.o.row hs,fun i r l hi hl=>Sy (h.o.own i r l hi hl) hs⟩,h.bel.trans (hb.mono h.bel.size),h.lo⟩
theorem mi.below(h:mi w3 W g mZ cl q1 q2 v6 v7 rs es so u l)(hb:Below W.heap.size W W'):mi w3 W' g mZ cl q1 q2 v6 v7 rs es so u l:=by
 have hs:∀(k:Nat)(o:Obj),W.heap[k]?=some o->W'.heap[k]?=some o:=fun k o hk=>(hb.block k (gl hk)).trans hk;exact⟨h.map.stay fun o ho _=>hs _ _ ho,Sy h.que hs,⟨h.o.len,Sy h.o.row hs,fun i r l hi hl=>Sy (h.o.own i r l hi hl) hs⟩,hs _ _ h.box,Sy h.uo hs,h.ap,h.hne,h.bel.trans (hb.mono h.bel.size),h.lo⟩
theorem mi.alloc(h:mi w3 W g mZ cl q1 q2 v6 v7 rs es so u l)(o:Obj):mi w3 (W.alloc o) g mZ cl q1 q2 v6 v7 rs es so u l:=h.below ((Xr _ _).alloc (Yb _) _)
theorem MkI.alloc(h:MkI w3 W g cl q v6 v7 rs es)(o:Obj):MkI w3 (W.alloc o) g cl q v6 v7 rs es:=h.below ((Xr _ _).alloc (Yb _) _)
theorem MkI.open_(h:MkI w3 W g cl q v6 v7 rs es)(so:Int):mi w3 (W.alloc (.cells #[.int .i64 so,.slice none 0 0] 118)) g W.heap.size cl q q v6 v7 rs es so (.slice none 0 0) []:=by
 have h2:=h.alloc (.cells #[.int .i64 so,.slice none 0 0] 118);exact⟨h2.map,h2.que,h2.o,Xn W _,Za _ _ _ _,fun _ _ _ _ _ e=>by simp[Value.ownBlock]at e,fun e=>by have:=(h.o.row.lt _ e).2;omega,h2.bel,h.lo,h.bel.size⟩
theorem mi.put(h:mi w3 W g mZ cl q1 q2 v6 v7 rs es so u l){mt kt et:TypeId}{P:Program}(K:St P mt kt et (Value.int .i64)){y:Nat}(hy:(q1.findIdx? fun x=>decide (cl x=cl y))=none) :
  ∃W',(Instr.mapUpdate mt (.map (some g)) (.int .i64 (cl y)) (.int .i64 q1.length)).run P W=.ok () W'/\mi w3 W' g mZ cl (q1++[y]) q2 v6 v7 rs es so u l/\W'.heap.size=W.heap.size/\∀(k:Nat)(cs:Array Value)(t:TypeId)(fr:Nat×Nat),W.heap[k]?=some (.cells cs t fr)->W'.heap[k]?=some (.cells cs t fr):=by
 have ztX:∃o:Obj,W.heap[g]?=some o/\o.isCells=false:=by
  obtain⟨l,h1,_⟩:=h.map;exact h1.obj
 obtain⟨W1,jV,lH,Il,Gc⟩:=h.map.put K hy;have Nu:∀r,some g=some r->∃o:Obj,W.heap[r]?=some o/\o.isCells=false:=fun r e=>by cases e;exact ztX
 have hc:∀{k:Nat}{cs:Array Value}{t:TypeId}{fr:Nat×Nat},W.heap[k]?=some (.cells cs t fr)->W1.heap[k]?=some (.cells cs t fr):=fun hk=>Dm Il Nu hk;exact⟨W1,jV,⟨lH,Cl Il Nu h.que,⟨h.o.len,Cl Il Nu h.o.row,fun i r l hi hl=>Cl Il Nu (h.o.own i r l hi hl)⟩,hc h.box,Cl Il Nu h.uo,h.ap,h.hne,h.bel.trans ((Xr _ _).grown Il h.bel.size fun k e=>by injection e with e;have:=h.lo.1;omega),h.lo⟩,Gc,fun k cs t fr hk=>hc hk⟩
theorem mi.quep(h:mi w3 W g mZ cl q1 q2 v6 v7 rs es so u l)(hown:W'.ownsRow w3.heap.size 3 1 v (q2.length+1) (iI q2++[.int .i64 (y:Int)]))(hg:W.grownBy W' v6.ownBlock):mi w3 W' g mZ cl q1 (q2++[y]) v v7 rs es so u l:=by
 have hst:∀(k:Nat)(o:Obj),W.heap[k]?=some o->(∀cur,o≠.cells cur 3 (0,0))->W'.heap[k]?=some o:=fun k o hk hne=>Eg h.que hg hk hne;refine⟨h.map.stay (fun o ho hc=>hst _ _ ho fun cur e=>by subst e;cases hc),by rw[qd,Qe];exact hown,⟨h.o.len,Vi h.o.row (fun g' cur _ hh=>hst _ _ hh (fun cur e=>by cases e)),fun i r l hi hl=>Vi (h.o.own i r l hi hl) (fun g' cur _ hh=>hst _ _ hh (fun cur e=>by cases e))⟩,
  hst _ _ h.box (fun cur e=>by cases e),Vi h.uo (fun g' cur _ hh=>hst _ _ hh (fun cur e=>by cases e)),h.ap,h.hne,Zr h.bel hg h.que (Yb _) h.bel.size,h.lo⟩
theorem mi.edge(h:mi w3 W g mZ cl q1 q2 v6 v7 rs es so u l)(hown:W'.ownsRow w3.heap.size 145 2 v (l.length+1) (Lw (l++[e])))(hg:W.grownBy W' u.ownBlock)(hu:v.ownBlock=u.ownBlock\/v.ownBlock=some W.heap.size) :
  mi w3 (W'.setCell ⟨mZ,1,none⟩ v) g mZ cl q1 q2 v6 v7 rs es so v (l++[e]):=by
 have oE:∀(k:Nat)(o:Obj),W.heap[k]?=some o->(∀cur,o≠.cells cur 145 (0,0))->W'.heap[k]?=some o:=fun k o hk hne=>Eg h.uo hg hk hne;have lM:=oE _ _ h.box (fun cur e=>by cases e);have hst:∀(k:Nat)(o:Obj),W.heap[k]?=some o->k≠mZ->(∀cur,o≠.cells cur 145 (0,0))->(W'.setCell ⟨mZ,1,none⟩ v).heap[k]?=some o:=fun k o hk hn hne=>(Zc _ _ _ _ hn).trans (oE k o hk hne);have Jl:∀(i:Nat)(r:Int×Value)(gg:Nat),rs[i]?=some r->r.2.ownBlock=some gg->gg<W.heap.size:=fun i r gg hi hgg=>by
  have Wp:i<es.length:=by rw[<-h.o.len];exact (Qj.1 hi).1
  exact ((h.o.own i r _ hi (Qa Wp)).lt gg hgg).2
 refine⟨h.map.stay (fun o ho hc=>hst _ _ ho (fun e=>by rw[e,h.box]at ho;cases ho;cases hc) fun cur e=>by subst e;cases hc),?que,⟨h.o.len,?row,?own⟩,?box,?uo,?ap,h.hne,?bel,h.lo⟩
 case que=>exact Vi h.que fun g' cur _ hh=>hst _ _ hh (Nz hh h.box (by decide)) (fun cur e=>by cases e)
 case row=>exact Vi h.o.row fun g' cur he hh=>hst _ _ hh (fun e=>h.hne (by rw[he,e])) (fun cur e=>by cases e)
 case own =>
  intro i r l' hi hl;refine Vi (h.o.own i r l' hi hl) fun g' cur he hh=>(Zc _ _ _ _ (Nz ((hg.block g' (gl hh) fun e=>h.ap i r g' hi he e.symm).trans hh) lM (by decide))).trans ?_
  exact (hg.block g' (gl hh) fun e=>h.ap i r g' hi he e.symm).trans hh
 case box =>
  rw[Ni lM];rfl
 case uo =>
  rw[Qe];exact Vi hown fun g' cur _ hh=>(Zc _ _ _ _ (Nz hh lM (by decide))).trans hh
 case ap =>
  intro i r gg hi hgg e;rcases hu with h2|h2
  .exact h.ap i r gg hi hgg (by rw[<-h2];exact e)
  rw[h2]at e;injection e with e;have:=Jl i r gg hi hgg;omega
 case bel=>exact (Zr h.bel hg h.uo (Yb _) h.bel.size).setCell h.lo.2 _
theorem mi.done(h:mi w3 W g mZ cl q q v6 v7 rs es so u l)(hown:W'.ownsRow w3.heap.size 118 2 v (rs.length+1) (Up rs++[.int .i64 so,u]))(hg:W.grownBy W' v7.ownBlock) :
  MkI w3 W' g cl q v6 v (rs++[(so,u)]) (es++[l]):=by
 have hst:∀(k:Nat)(o:Obj),W.heap[k]?=some o->(∀cur,o≠.cells cur 118 (0,0))->W'.heap[k]?=some o:=fun k o hk hne=>Eg h.o.row hg hk hne;refine⟨h.map.stay (fun o ho hc=>hst _ _ ho fun cur e=>by subst e;cases hc),Vi h.que (fun g' cur _ hh=>hst _ _ hh (fun cur e=>by cases e)),⟨by simp[h.o.len],by rw[pj,Qe];exact hown,fun i r l' hi hl=>?_⟩,Zr h.bel hg h.o.row (Yb _) h.bel.size,h.lo.1⟩;by_cases Wp:i<rs.length
 .rw[Qo Wp]at hi;rw[Qo (by rw[<-h.o.len];exact Wp)]at hl;exact Vi (h.o.own i r l' hi hl) fun g' cur _ hh=>hst _ _ hh fun cur e=>by cases e
 have hie:i=rs.length:=by
  have:=(Qj.1 hi).1;rw[Qe,Qf]at this;omega
 subst hie;rw[Qn (Yb _),Nat.sub_self]at hi;rw[h.o.len,Qn (Yb _),Nat.sub_self]at hl;injection hi with hi;injection hl with hl;subst hi hl;exact Vi h.uo fun g' cur _ hh=>hst _ _ hh fun cur e=>by cases e
end
theorem qjU(hc:∀i<n,∀j<n,Ke m i=true->Ke m j=true->(cl i=cl j↔Rg m i j))(hq:∀x∈q,x<n/\Ke m x=true)(hy:y<n)(uy:Ke m y=true) :
  (q.findIdx? fun x=>decide (cl x=cl y))=q.findIdx? (De m y):=by
 induction q with
 |nil=>rfl
 |cons a r ih =>
  have hr:∀x∈r,x<n/\Ke m x=true:=fun x hx=>hq x (Xj _ hx);obtain⟨ha,ua⟩:=hq a (Xi ..);rw[List.findIdx?_cons,List.findIdx?_cons,ih hr];have e:decide (cl a=cl y)=De m y a:=by
   rw[Bool.eq_iff_iff,decide_eq_true_iff,hc a ha y hy ua uy,jI];exact⟨fun h=>Th h,fun h=>Th h⟩
  rw[e]
noncomputable def Fl(m:Kj)(x:Nat)(q:List Nat)(k:Nat):List Nat×List (Int×Int):=((Mm m x).take k).foldl (Es (Ke m) (De m)) (q,[])
theorem wT(m:Kj)(x:Nat)(q:List Nat):Fl m x q 0=(q,[]):=rfl
theorem wU{x:Nat}{k:Nat}(h:(Mm m x)[k]?=some e):Fl m x q (k+1)=Es (Ke m) (De m) (Fl m x q k) e:=by
 obtain⟨hk,he⟩:=Qj.1 h;unfold Fl;rw[Qc hk,List.foldl_append,he];rfl
theorem qfP(use:Nat->Bool)(a:Nat->Nat->Bool)(s:List Nat×List (Int×Int))(e:Int×Int):s.1 <+: (Es use a s e).1/\(Es use a s e).2.length<=s.2.length+1:=by
 unfold Es;split
 .split
  .exact⟨List.prefix_refl _,by simp⟩
  exact⟨List.prefix_append _ _,by simp⟩
 exact⟨List.prefix_refl _,by omega⟩
theorem eY(use:Nat->Bool)(a:Nat->Nat->Bool):∀(l:List (Int×Int))(s:List Nat×List (Int×Int)),s.1 <+: (l.foldl (Es use a) s).1/\(l.foldl (Es use a) s).2.length<=s.2.length+l.length
 |[],s=>⟨List.prefix_refl _,by simp⟩
 |e::r,s=>by
  obtain⟨h1,h2⟩:=qfP use a s e;obtain⟨h3,h4⟩:=eY use a r (Es use a s e);rw[List.foldl_cons,Qu];exact⟨h1.trans h3,by omega⟩
theorem qjI(m:Kj)(x:Nat)(q:List Nat)(k:Nat):(Fl m x q k).2.length<=k:=by
 have:=(eY (Ke m) (De m) ((Mm m x).take k) (q,[])).2;rw[Qq]at this;unfold Fl;simp only[Xu]at this;omega
theorem qjH(m:Kj)(x:Nat)(q:List Nat)(k:Nat):(Fl m x q k).1 <+: (Fl m x q (Mm m x).length).1:=by
 unfold Fl;rw[List.take_length]
 conv=>rhs;rw[<-Xp k (Mm m x),List.foldl_append]
 exact (eY _ _ _ _).1
theorem xb{x:Nat}(h:(Uo m n).1[n]?=some x):Uo m (n+1)=((Fl m x (Uo m n).1 (Mm m x).length).1,(Uo m n).2++[(No m x,(Fl m x (Uo m n).1 (Mm m x).length).2)]):=by
 unfold Fl;rw[List.take_length];have e:Uo m (n+1)=match (Uo m n).1[n]? with
  |some x=>(((Mm m x).foldl (Es (Ke m) (De m)) ((Uo m n).1,[])).1,(Uo m n).2++[(No m x,((Mm m x).foldl (Es (Ke m) (De m)) ((Uo m n).1,[])).2)])
  |none=>Uo m n:=rfl
 rw[e,h]
theorem fy(hg:Wz m)(h0:Ke m 0=true)(n:Nat):(∀x∈(Uo m n).1,x<m.length/\Ke m x=true)/\(Uo m n).1.length<=m.length/\(Uo m n).2.length=min n (Uo m n).1.length:=by
 have h:=oY hg (Ir m) (Pd m) ((Ff m 0).1 h0) n;exact⟨fun x hx=>⟨Rq hg (h.ok.use x hx).1,(Ff m x).2 (h.ok.use x hx)⟩,jl hg h.ok,h.len⟩
theorem qO(hg:Wz m)(h0:Ke m 0=true){x:Nat}(h:(Uo m n).1[n]?=some x)(k:Nat):(∀z∈(Fl m x (Uo m n).1 k).1,z<m.length/\Ke m z=true)/\(Fl m x (Uo m n).1 k).1.length<=m.length:=by
 have hp:=qjH m x (Uo m n).1 k;have h2:=fy hg h0 (n+1);rw[xb h]at h2;exact⟨fun z hz=>h2.1 z (hp.subset hz),Yd hp.length_le h2.2.1⟩
theorem fb{m:Kj}(hg:Wz m)(h0:Ke m 0=true){n x:Nat}(h:(Uo m n).1[n]?=some x)(hx:x<m.length):∀k,∀e∈(Fl m x (Uo m n).1 k).2,(∃d∈Mm m x,e.1=d.1)/\0<=e.2/\e.2<=m.length
 |0=>by
  rw[wT];simp
 |k+1=>by
  have ih:=fb hg h0 h hx k;by_cases hk:k<(Mm m x).length
  .rw[wU (Qa hk)];intro e he;unfold Es at he;have hl:=(qO hg h0 h k).2;split at he
   .split at he
    .rename_i i hi;rcases Qh.1 he with he|he
     .exact ih e he
     rw[Qi]at he;subst he;have hi2:=(List.findIdx?_eq_some_iff_getElem.1 hi).1;exact⟨⟨_,Qg hk,rfl⟩,by simp only;omega,by simp only;omega⟩
    rcases Qh.1 he with he|he
    .exact ih e he
    rw[Qi]at he;subst he;exact⟨⟨_,Qg hk,rfl⟩,by simp only;omega,by simp only;omega⟩
   exact ih e he
  have:Fl m x (Uo m n).1 (k+1)=Fl m x (Uo m n).1 k:=by
   unfold Fl;rw[Qd (by omega),Qd (by omega)]
  rw[this];exact ih
end Go.Proofs.YtmaojnmnbpomeaaGreatDoor
