/- A part. -/
import Derived.Test.YtmaojnmnbpomeaaGreatDoorVO12
set_option maxRecDepth 100000
set_option maxHeartbeats 64000000
namespace Go.Proofs.YtmaojnmnbpomeaaGreatDoor
open Go.RowKit
theorem Uo.stay{α:Type}{κ:α->Value}{w w':World}{g:Nat}{l:List (α×Value)}(h:Uo κ w g l)(hs:∀ o:Obj,w.heap[g]? = some o->o.isCells=false->w'.heap[g]? = some o):Uo κ w' g l:=by
 obtain⟨es,c,hh,_⟩:=id h;exact h.of_block ((hs _ hh rfl).trans hh.symm)
abbrev qyO(W:World)(N b:Nat)(rs:List (Int×Value))(es:List (List (Int×Int))):Prop:=Ob 118 145 W N b rs es
def Gx(ts:List Wd)(e:Nat):List (List (Int×Int)):=ts.map fun x=>Dp (ts.take e) x
structure Nl(D:Nat)(w W:World)(g1 b3 b9 bo:Nat)(ts:List Wd)(v4:Value)(a e:Nat)(out:Nat->Int):Prop where
 at_:AtR wv W g1 ts a
 box3:W.heap[b3]? = some (.cells #[.map (some g1)] 147 (0,0))
 box9:W.heap[b9]? = some (.cells #[.slice (some ⟨bo,0,none⟩) ts.length ts.length] 64 (0,0))
 own:W.ownsRow w.heap.size 9 1 v4 ts.length (Zp ts)
 outs:∃ rs,qyO W w.heap.size bo rs (Gx ts e)/\∀(j:Nat)(r:Int×Value),rs[j]? = some r->r.1=out j
 bel:Below w.heap.size w W
 lo:w.heap.size<=g1/\w.heap.size<=bo
 dfr:W.heap[D]? = some (.deferred (some []))
theorem uN:Ev Tryz.prog 116 145 2 16 (.agg #[.int .i64 0,.int .i64 0]):=Sv (by kernel_rfl) (by kernel_rfl) rfl (by omega)
theorem qfE{x:Wd}{m:Nat}(h:x.length=m+1)(hm:m<(⟨x.toArray⟩:ByteArray).size):wrap64 (((⟨x.toArray⟩:ByteArray)[m].toNat:Nat):Int)=((x.getLastD 0).toNat:Int):=by
 have h1:(⟨x.toArray⟩:ByteArray)[m]=x.getLastD 0:=by
  show x.toArray[m]=_;have hne:x≠[]:=fun e=>by subst e;simp at h
  rw[List.getLastD_eq_getLast?,List.getLast?_eq_getElem?,h,Nat.add_sub_cancel,Qa (by omega)];simp
 rw[h1];have:=(x.getLastD 0).toNat_lt;have h2:((x.getLastD 0).toNat:Int)<256:=by omega
 unfold wrap64;omega
theorem oy(n:Nat):madeCells #[.int .i64 0,.slice none 0 0] (n*2)=(Ua (List.replicate n (0,.slice none 0 0))).toArray:=by
 have hl:(Ua (List.replicate n (0,Value.slice none 0 0))).length=n*2:=by rw[vy,Qr]
 apply Array.ext
 ·rw[size_madeCells,List.size_toArray,hl]
 ·intro i h1 h2;rw[size_madeCells] at h1;have hk:(List.replicate n ((0:Int),Value.slice none 0 0))[i/2]? = some (0,.slice none 0 0):=by rw[Xg,if_pos (by omega)]
  obtain⟨g1,g2⟩:=fI hk;have hs:(Ua (List.replicate n (0,Value.slice none 0 0)))[i]? = some (Ua (List.replicate n (0,Value.slice none 0 0))).toArray[i]:=by
   rw[Qa (by omega)];rfl
  rcases Nat.mod_two_eq_zero_or_one i with h3 | h3
  ·rw[show i/2*2=i by omega,hs] at g1;injection g1 with g1;rw[g1];simp[madeCells,h3]
  ·rw[show i/2*2+1=i by omega,hs] at g2;injection g2 with g2;rw[g2];simp[madeCells,h3]
theorem vq(n:Nat)(hn:n<=2199023255552)(w:World):(Instr.makeSlice 64 (.int .i64 (n:Int)) (.int .i64 (n:Int))).run Tryz.prog w=.ok (.slice (some ⟨w.heap.size,0,none⟩) n n) (w.alloc (.cells (Ua (List.replicate n (0,.slice none 0 0))).toArray 118)):=by
 obtain⟨i,hi,hzz⟩:=Option.map_eq_some_iff.1 (show (Tryz.prog.info? 118).map (fun i=>(i.zero,i.size,i.bytes))=some (some (.agg #[.int .i64 0,.slice none 0 0]),2,32) by kernel_rfl);simp only[Prod.mk.injEq] at hzz;obtain⟨hz,hs,hb⟩:=hzz;have hr:=run_make (P:=Tryz.prog) w 64 118 i _ Tryz.underlying64 hi hz .i64 .i64 n n (by omega) (Int.le_refl _) (by rw[hb];omega) (by omega);simp only[Yw,hs] at hr;rw[<-oy];exact hr
section
variable {D:Nat} {w W W':World} {g1 b3 b9 bo a e:Nat} {ts:List Wd} {v4:Value} {out out':Nat->Int}
theorem AtR.stay{κ:Wd->Value}{g i:Nat}(h:AtR κ W g ts i)(hs:∀ o:Obj,W.heap[g]? = some o->o.isCells=false->W'.heap[g]? = some o):AtR κ W' g ts i:=by
 obtain⟨l,hm,hl⟩:=h;exact⟨l,hm.stay hs,hl⟩
theorem Nl.c3(h:Nl D w W g1 b3 b9 bo ts v4 a e out):W.cell? ⟨b3,0,none⟩=some (.map (some g1)):=Xc h.box3 rfl
theorem Nl.c9(h:Nl D w W g1 b3 b9 bo ts v4 a e out):W.cell? ⟨b9,0,none⟩=some (.slice (some ⟨bo,0,none⟩) ts.length ts.length):=Xc h.box9 rfl
theorem Sa(ts:List Wd)(e:Nat):(Gx ts e).length=ts.length:=by simp[Gx]
theorem Nl.at_out(h:Nl D w W g1 b3 b9 bo ts v4 a e out){j:Nat}(hj:j<ts.length):∃ v,W.cell? ⟨bo,j*2,none⟩=some (.int .i64 (out j))/\W.cell? ⟨bo,j*2+1,none⟩=some v/\(∀ k,W.frozen? ⟨bo,k,none⟩=false)/\∀ l,(Gx ts e)[j]? = some l->W.ownsRow w.heap.size 145 2 v l.length (Iv l):=by
 obtain⟨rs,hO,hr⟩:=h.outs;have hl:j<rs.length:=by rw[hO.len,Sa];exact hj
 have hg:=Qa hl;obtain⟨c1,c2,c3⟩:=hO.cells hg;rw[hr j _ hg] at c1;exact⟨_,c1,c2,c3,fun l Pj=>hO.own j _ l hg Pj⟩
theorem Nl.keep(h:Nl D w W g1 b3 b9 bo ts v4 a e out)(hs:∀(k:Nat)(o:Obj),W.heap[k]? = some o->o.isCells=true\/k=g1\/k=D->W'.heap[k]? = some o)(hb:Below w.heap.size W W'):Nl D w W' g1 b3 b9 bo ts v4 a e out:=by
 obtain⟨rs,hO,hr⟩:=h.outs;exact⟨h.at_.stay fun o ho _=>hs _ _ ho (.inr (.inl rfl)),hs _ _ h.box3 (.inl rfl),hs _ _ h.box9 (.inl rfl),Vd h.own fun g cur _ hh=>hs _ _ hh (.inl rfl),⟨rs,hO.keep fun g cur t _ hh=>hs _ _ hh (.inl rfl),hr⟩,h.bel.trans hb,h.lo,hs _ _ h.dfr (.inr (.inr rfl))⟩
theorem Nl.others(h:Nl D w W g1 b3 b9 bo ts v4 a e out){row:Option Nat}(hg:W.grownBy W' row)(hr:∀ r,row=some r->g1<r/\D<r/\∃ o:Obj,W.heap[r]? = some o/\o.isCells=false):Nl D w W' g1 b3 b9 bo ts v4 a e out:=by
 refine h.keep (fun k o hk hc=>(hg.block k (gl hk) fun e=>?_).trans hk) ⟨hg.os,hg.tape,hg.output,hg.size,fun k hk=>hg.block k (Yb hk h.bel.size) fun e=>by have:=(hr k e.symm).1;have:=h.lo.1;omega⟩;obtain⟨h1,h4,o',h2,h3⟩:=hr k e.symm;rcases hc with hc | hc | hc
 ·rw[hk] at h2;injection h2 with h2;subst h2;rw[hc] at h3;cases h3
 ·omega
 ·omega
theorem Nl.ext(h:Nl D w W g1 b3 b9 bo ts v4 a e out)(ho:∀ k<ts.length,out k=out' k):Nl D w W g1 b3 b9 bo ts v4 a e out':=by
 obtain⟨rs,hO,hr⟩:=h.outs;refine⟨h.at_,h.box3,h.box9,h.own,⟨rs,hO,fun j r hj=>?_⟩,h.bel,h.lo,h.dfr⟩;rw[hr j r hj];exact ho j (by rw[<-Sa ts e,<-hO.len];exact (Qj.1 hj).1)
theorem Nl.tree{rows:List Wr}(h:Nl D w W g1 b3 b9 bo ts v4 a ts.length out)(hl:ts.length<=maxLen)(ho:∀(k:Nat)(x:Wd),ts[k]? = some x->out k=Do rows x)(hb:∀ x,-9223372036854775808<=Do rows x/\Do rows x<=9223372036854775807) :
  Jb Jn W W.heap.size (.slice (some ⟨bo,0,none⟩) ts.length ts.length) (Nx rows ts):=by
 obtain⟨rs,hO,hr⟩:=h.outs;have hrl:rs.length=ts.length:=by rw[hO.len,Sa]
 have By:∀(k:Nat)(hk:k<rs.length),rs[k].1=Do rows (ts[k]'(by omega)):=fun k hk=>by
  rw[hr k _ (Qa hk)];exact ho k _ (Qa (by omega))
 have hs:=hO.sl Jn Gg rfl rfl (c:=ts.length) (by omega) hl (fun r hm=>by
  obtain⟨k,hk,rfl⟩:=Qz hm
  rw[By k hk]
  exact hb _) (fun l hm e he=>by
  unfold Gx at hm
  obtain⟨x,_,rfl⟩:=Xa.1 hm
  rw[List.take_length] at he
  obtain⟨c,j,h1,h2,h3⟩:=aY.1 (show (e.1,e.2)∈Dp ts x from he)
  have hj:=(Qj.1 h1).1
  have hc:=c.toNat_lt
  unfold maxLen at hl
  omega)
 rw[hrl] at hs;have he:((rs.zip (Gx ts ts.length)).map fun p=>(p.1.1,p.2))=Nx rows ts:=by
  apply List.ext_getElem
  ·rw[Qk,List.length_zip,Sa,hrl,Nat.min_self,Dm]
  ·intro k h1 h2;rw[Dm] at h2;simp only[List.getElem_map,List.getElem_zip,Nx,Gx,List.take_length];rw[By k (by omega)]
 rwa [he] at hs
theorem Nl.alloc(h:Nl D w W g1 b3 b9 bo ts v4 a e out)(o:Obj):Nl D w (W.alloc o) g1 b3 b9 bo ts v4 a e out :=
 h.keep (fun k _ hk _=>(Zc W o k (gl hk)).trans hk) ((Xr _ _).alloc h.bel.size _)
theorem Nl.drew(h:Nl D w W g1 b3 b9 bo ts v4 a e out):Nl D w W.drew g1 b3 b9 bo ts v4 a e out:=h.keep (fun _ _ hk _=>hk) (Xr _ _).drew
theorem Nl.look(h:Nl D w W g1 b3 b9 bo ts v4 a e out)(hn:ts.Nodup){mt kt et:TypeId}{P:Program}(K:Rv P mt kt et wv){z:Value}(hz:∀ w:World,(zeroValue et).run P w=.ok z w){j:Nat}{p:Wd}(hj:ts[j]? = some p)(hja:j<a) :
  (Instr.lookup mt (.map (some g1)) (wv p) false).run P W=.ok (.int .i64 j) W:=by
 obtain⟨l,hm,hl⟩:=h.at_;have h1:=hm.lookup K hz p;have h2:p∈ts.take a:=by
  obtain⟨b1,b2⟩:=Qj.1 hj;exact Qp (i:=j) (by rw[List.getElem?_take,if_pos hja];exact hj)
 rw[hl,qvY h2,Lq hn hj] at h1;exact h1
theorem Nl.put(h:Nl D w W g1 b3 b9 bo ts v4 a e out)(hn:ts.Nodup){x:Wd}(hx:ts[a]? = some x){mt kt et:TypeId}{P:Program}(K:Rv P mt kt et wv) :
  ∃ W',(Instr.mapUpdate mt (.map (some g1)) (wv x) (.int .i64 a)).run P W=.ok () W'/\Nl D w W' g1 b3 b9 bo ts v4 (a+1) e out/\W.grownBy W' (some g1)/\W'.heap.size=W.heap.size:=by
 obtain⟨l,hm,hl⟩:=h.at_;obtain⟨W1,gZ,jF,Cp,Ea⟩:=hm.update K x (.int .i64 a);have Nk:∀ r,some g1=some r->∃ o:Obj,W.heap[r]? = some o/\o.isCells=false:=fun r e=>by cases e;exact hm.obj
 have hst:∀(k:Nat)(cs:Array Value)(t:TypeId)(fr:Nat×Nat),W.heap[k]? = some (.cells cs t fr)->W1.heap[k]? = some (.cells cs t fr):=fun k cs t fr hk=>Da Cp Nk hk;obtain⟨rs,hO,hr⟩:=h.outs;refine⟨W1,gZ,⟨⟨_,jF,fun y=>by rw[Ps,hl,qpO hn hx]⟩,hst _ _ _ _ h.box3,hst _ _ _ _ h.box9,Bp Cp Nk h.own,⟨rs,hO.keep fun g cur t _ hh=>hst _ _ _ _ hh,hr⟩,?_,h.lo,(Cp.block D (gl h.dfr) fun e=>?_).trans h.dfr⟩,Cp,Ea⟩
 ·exact h.bel.trans ((Xr _ _).grown Cp h.bel.size fun k e=>by injection e with e;have:=h.lo.1;omega)
 ·injection e with e;obtain⟨es,c,hh,_⟩:=hm;have:=h.dfr;rw[e,hh] at this;cases this
theorem Nl.setOut(h:Nl D w W g1 b3 b9 bo ts v4 a e out){j:Nat}(hj:j<ts.length)(x:Int)(ho:∀ k,out' k=if k=j then x else out k):Nl D w (W.setCell ⟨bo,j*2,none⟩ (.int .i64 x)) g1 b3 b9 bo ts v4 a e out':=by
 obtain⟨rs,hO,hr⟩:=h.outs;have hl:j<rs.length:=by rw[hO.len,Sa];exact hj
 have hst:∀(k:Nat)(o:Obj),W.heap[k]? = some o->k≠bo->(W.setCell ⟨bo,j*2,none⟩ (.int .i64 x)).heap[k]? = some o:=fun k o hk hn=>(Yz _ _ _ _ hn).trans hk;have hbo:=hO.box;refine⟨h.at_.stay (fun o ho hc=>hst _ _ ho fun e=>by subst e;rw[hbo] at ho;cases ho;cases hc),hst _ _ h.box3 (No h.box3 hbo (by decide)),hst _ _ h.box9 (No h.box9 hbo (by decide)),Vd h.own fun g cur _ hh=>hst _ _ hh (No hh hbo (by decide)),
  ⟨_,hO.setOut (by decide) (Qa hl) x,fun k r hk=>?_⟩,h.bel.trans ((Xr _ _).setCell h.lo.2 _),h.lo,hst _ _ h.dfr fun e=>by have:=h.dfr;rw[e,hbo] at this;cases this⟩
 rw[Xu] at hk;rw[ho k];split at hk
 ·rename_i hjk;subst hjk;injection hk with hk;rw[if_pos rfl,<-hk]
 ·rename_i hjk;rw[if_neg fun e=>hjk e.symm];exact hr k r hk
theorem Nl.root(h:Nl D w W g1 b3 b9 bo ts v4 a e out)(hx:ts[e]? = some []):Nl D w W g1 b3 b9 bo ts v4 a (e+1) out:=by
 obtain⟨h1,h2,h3,h4,h5,h6,h7,h8⟩:=h;refine⟨h1,h2,h3,h4,?_,h6,h7,h8⟩;unfold Gx at h5 |-;rw[qfF hx];exact h5
theorem Nl.edge(h:Nl D w W g1 b3 b9 bo ts v4 a e out)(hn:ts.Nodup){j:Nat}{x p:Wd}(hx:ts[e]? = some x)(hne:x≠[])(hp:x.dropLast=p)(hj:ts[j]? = some p){v u:Value}(hv:W.cell? ⟨bo,j*2+1,none⟩=some v)
  (hown:W'.ownsRow w.heap.size 145 2 u ((Dp (ts.take e) p).length+1) (Iv (Dp (ts.take e) p++[(((x.getLastD 0).toNat:Int),(e:Int))]))) (hg:W.grownBy W' v.ownBlock) (hu:u.ownBlock=v.ownBlock\/u.ownBlock=some W.heap.size) :
  Nl D w (W'.setCell ⟨bo,j*2+1,none⟩ u) g1 b3 b9 bo ts v4 a (e+1) out:=by
 obtain⟨rs,hO,hr⟩:=h.outs;obtain⟨Uh,hje⟩:=Qj.1 hj;have hl:j<rs.length:=by rw[hO.len,Sa];exact Uh
 have hrj:=Qa hl;have oF:v=rs[j].2:=by
  have:=(hO.cells hrj).2.1;rw[hv] at this;injection this
 rw[oF] at hg hu;have hkj:(Gx ts e)[j]? = some (Dp (ts.take e) p):=by unfold Gx;rw[Qv,hj];rfl
 have hownj:=hO.own j _ _ hrj hkj;have ziZ:=hO.app (by decide) hrj hkj hown hg hu;have hbo:=hO.box;have lZ:∀(k:Nat)(o:Obj),W.heap[k]? = some o->(∀ cur,o≠.cells cur 145 (0,0))->W'.heap[k]? = some o:=fun k o hk hne=>Dr hownj hg hk hne;have hbo':=lZ _ _ hbo fun cur e=>by cases e
 have hst:∀(k:Nat)(o:Obj),W.heap[k]? = some o->k≠bo->(∀ cur,o≠.cells cur 145 (0,0))->(W'.setCell ⟨bo,j*2+1,none⟩ u).heap[k]? = some o:=fun k o hk hn hne=>(Yz _ _ _ _ hn).trans (lZ k o hk hne);have pr:(W'.setCell ⟨bo,j*2+1,none⟩ u).ownsRow w.heap.size 9 1 v4 ts.length (Zp ts):=Vd h.own fun g cur _ hh=>hst _ _ hh (No hh hbo (by decide)) (fun cur e=>by cases e);refine⟨h.at_.stay (fun o ho hc=>hst _ _ ho (fun e=>by subst e;rw[hbo] at ho;cases ho;cases hc) fun cur e=>by subst e;cases hc),hst _ _ h.box3 (No h.box3 hbo (by decide)) (fun cur e=>by cases e),hst _ _ h.box9 (No h.box9 hbo (by decide)) (fun cur e=>by cases e),
  pr,⟨rs.set j (rs[j].1,u),?k1,?k2⟩,?k3,h.lo,hst _ _ h.dfr (fun e=>by have:=h.dfr;rw[e,hbo] at this;cases this) (fun cur e=>by cases e)⟩
 case k1 =>
  have hk:=qmL hn hx hne hp hj;unfold Gx at ziZ |-;rw[hk];exact ziZ
 case k2 =>
  intro k r hk;rw[Xu] at hk;split at hk
  ·rename_i hjk;subst hjk;injection hk with hk;rw[<-hk];show rs[j].1=_;exact hr j _ hrj
  ·exact hr k r hk
 case k3=>exact h.bel.trans ((Zr (Xr _ _) hg hownj (Xz _) h.bel.size).setCell h.lo.2 _)
end
attribute [local go_sem] Oper.semAt_some
def Vn(ws:List Wd):List Wd:=ws.foldl (fun F w=>if w∈F then F else F++[w]) [[]]
theorem yE(ws:List Wd)(w:Wd):Vn (ws++[w])=if w∈Vn ws then Vn ws else Vn ws++[w]:=by
 unfold Vn;rw[List.foldl_append];rfl
theorem Ie(ws:List Wd):(Vn ws).Nodup/\(∀ w,w∈Vn ws↔w=[]\/w∈ws)/\(Vn ws).length<=ws.length+1:=by
 have key:∀(ws F:List Wd),F.Nodup->(ws.foldl (fun F w=>if w∈F then F else F++[w]) F).Nodup/\(∀ w,w∈ws.foldl (fun F w=>if w∈F then F else F++[w]) F↔w∈F\/w∈ws)/\(ws.foldl (fun F w=>if w∈F then F else F++[w]) F).length<=ws.length+F.length:=by
  intro ws
  induction ws with
  |nil=>intro F hF;exact⟨hF,by simp,by simp⟩
  |cons a r ih =>
   intro F hF;rw[List.foldl_cons];by_cases ha:a∈F
   ·rw[if_pos ha];obtain⟨h1,h2,h3⟩:=ih F hF;refine⟨h1,fun w=>?_,by rw[Qu];omega⟩;rw[h2,List.mem_cons];constructor
    ·rintro (h | h)
     ·exact .inl h
     ·exact .inr (.inr h)
    ·rintro (h | rfl | h)
     ·exact .inl h
     ·exact .inl ha
     ·exact .inr h
   ·rw[if_neg ha];obtain⟨h1,h2,h3⟩:=ih (F++[a]) (List.nodup_append.2 ⟨hF,by simp,fun x hx y hy=>by simp at hy;subst hy;rintro rfl;exact ha hx⟩);refine⟨h1,fun w=>?_,by rw[Qe,Qf] at h3;rw[Qu];omega⟩;rw[h2,Qh,Qi,List.mem_cons];constructor
    ·rintro ((h | rfl) | h)
     ·exact .inl h
     ·exact .inr (.inl rfl)
     ·exact .inr (.inr h)
    ·rintro (h | rfl | h)
     ·exact .inl (.inl h)
     ·exact .inl (.inr rfl)
     ·exact .inr h
 obtain⟨h1,h2,h3⟩:=key ws [[]] (by simp);refine⟨h1,fun w=>?_,h3⟩;rw[<-Qi (a:=w)];exact h2 w
def Tr(rows:List Wr):List Wd:=(Av rows).map (·.2)
theorem cv(rows:List Wr)(w:Wd):w∈Tr rows↔∃ r∈rows,w <+: r.2.1:=by
 unfold Tr Av Ts;simp only[Xa,Xt,Xy];constructor
 ·rintro⟨x,⟨r,hr,k,hk,rfl⟩,rfl⟩;exact⟨r,hr,List.take_prefix _ _⟩
 ·rintro⟨r,hr,hp⟩;refine⟨(r,w),⟨r,hr,w.length,by have:=hp.length_le;omega,?_⟩,rfl⟩;rw[<-List.prefix_iff_eq_take.1 hp]
theorem eO{rows:List Wr}{ts:List Wd}(hp:ts.Perm (Vn (Tr rows)))(hs:ts.Pairwise fun a b=>¬ Bk b a):Nw rows ts:=by
 obtain⟨h1,h2,h3⟩:=Ie (Tr rows);refine⟨fun w=>by rw[hp.mem_iff,h2,cv],?_⟩;have hn:ts.Nodup:=hp.nodup_iff.2 h1;refine (List.Pairwise.and hs hn).imp fun{a b} ⟨h4,h5⟩=>?_;rcases rO a b with h | h | h
 ·exact h
 ·exact absurd h h5
 ·exact absurd h h4
def Oo(F:List Wd):List (Wd×Value):=F.map fun w=>(w,.int .i64 0)
theorem vE{F:List Wd}{w:Wd}:Ni (Oo F) w=if w∈F then some (.int .i64 0) else none:=by
 induction F with
 |nil=>rfl
 |cons a r ih =>
  unfold Ni Oo at ih |-;rw[List.map_cons,List.find?_cons];by_cases h:a=w
  ·subst h;simp
  ·have h':w≠a:=fun e=>h e.symm;simp only[h,decide_false,List.mem_cons,h',false_or];exact ih
theorem yF{F:List Wd}{w:Wd}(h:w∉F):Wm (Oo F) w (.int .i64 0)=Oo (F++[w]):=by
 induction F with
 |nil=>rfl
 |cons a r ih =>
  have h1:a≠w:=fun e=>h (by subst e;exact Xh ..);unfold Oo at ih |-;rw[List.map_cons,Wm,if_neg h1,ih fun hm=>h (Xi _ hm)];rfl
def Rp{rows:List Wr}(pre:List (gX rows)):List Wd:=pre.map fun x=>x.1.2
theorem ut{rows:List Wr}(pre:List (gX rows))(x:gX rows):Rp (pre++[x])=Rp pre++[x.1.2]:=by simp[Rp]
theorem qcT{rows:List Wr}(pre:List (gX rows)):(Rp pre).length=pre.length:=by simp[Rp]
theorem qcU{rows:List Wr}{pre:List (gX rows)}(h:pre.map Subtype.val=Av rows):Rp pre=Tr rows:=by
 have:=congrArg (List.map Prod.snd) h;rw[List.map_map] at this;exact this
structure oY(g1 b3 b4:Nat)(w:World)(ws:List Wd)(W:World):Prop where
 map:Uo wv W g1 (Oo (Vn ws))
 box:W.heap[b3]? = some (.cells #[.map (some g1)] 147 (0,0))
 fr:∃ v,W.heap[b4]? = some (.cells #[v] 22 (0,0))/\W.ownsRow w.heap.size 9 1 v (Vn ws).length (Zp (Vn ws))
 bel:Below w.heap.size w W
theorem oY.own{g1 b3 b4 B:Nat}{w:World}{ws:List Wd}{A C:World}{row:Option Nat}(h:oY g1 b3 b4 w ws A)(hN:w.heap.size<=B)(h1:g1<B)(hg:A.grownBy C row)(hr:∀ r,row=some r->B<=r/\∃ o:Obj,A.heap[r]? = some o/\o.isCells=false):oY g1 b3 b4 w ws C:=by
 have xU:∀ r,row=some r->∃ o:Obj,A.heap[r]? = some o/\o.isCells=false:=fun r e=>(hr r e).2;refine⟨h.map.grown hg fun e=>by have:=(hr g1 e.symm).1;omega,Da hg xU h.box,?_,?_⟩
 ·obtain⟨v,a,b⟩:=h.fr;exact⟨v,Da hg xU a,Bp hg xU b⟩
 ·refine h.bel.trans ⟨hg.os,hg.tape,hg.output,hg.size,fun k hk=>?_⟩;have h2:=h.bel.size;exact hg.block k (by omega) fun e=>by have:=(hr k e.symm).1;omega
theorem vC{rows:List Wr}(hw:∀ r∈rows,r.2.1.length<=1048576):(Av rows).length<=rows.length*1048577:=by
 unfold Av
 induction rows with
 |nil=>simp
 |cons r l ih =>
  rw[List.flatMap_cons,Qe,Qu,dG];have:=ih fun x hx=>hw x (Xi _ hx);have:=hw r (Xh ..);omega
def fQ(i j:Nat):Int:=if j<i then -1 else 0
theorem nq(i k:Nat):fQ (i+1) k=if k=i then -1 else fQ i k:=by
 unfold fQ;by_cases hk:k=i
 ·subst hk;simp
 ·have:(k<i+1)=(k<i):=by apply propext;omega
  simp only[this,if_neg hk]
theorem qeV{rows:List Wr}{w W W1 w5:World}{b3 b4 B:Nat}{pre:List (gX rows)}{x:gX rows}{F:List Wd}{v4:Value}{A5:Option Addr}{c5:Nat}{xw:Wd}(hI:oY w.heap.size b3 b4 w (Rp pre) W)(hB:w.heap.size<B)(hB4:b4<B)(n4:w.heap.size<b4)
  (hE:Vn (Rp (pre++[x]))=F++[xw]) (hm:Uo wv W1 w.heap.size (Oo (F++[xw]))) (Cp:W.grownBy W1 (some w.heap.size)) (Ea:W1.heap.size=W.heap.size) (qnD:W1.ownsRow w.heap.size 9 1 v4 F.length (Zp F))
  (ziV:W1.heap[b3]? = some (.cells #[.map (some w.heap.size)] 147 (0,0))) (zbF:W1.heap[b4]? = some (.cells #[v4] 22 (0,0)))
  (Rt:w5.ownsRow w.heap.size 9 1 (.slice A5 (F.length+1) c5) (F.length+1) (Zp F++[wv xw])) (fZ:(W1.alloc (.cells #[wv xw] 9)).grownBy w5 v4.ownBlock) :
  KeepsFrom B W (w5.setCell ⟨b4,0,none⟩ (.slice A5 (F.length+1) c5))/\KpR w.heap.size W (w5.setCell ⟨b4,0,none⟩ (.slice A5 (F.length+1) c5))/\oY w.heap.size b3 b4 w (Rp (pre++[x])) (w5.setCell ⟨b4,0,none⟩ (.slice A5 (F.length+1) c5)):=by
 have hz:=hI.bel.size;have zv:∀(k:Nat)(o:Obj),W1.heap[k]? = some o->k≠b4->(∀ cur,o≠.cells cur 9 (0,0))->(w5.setCell ⟨b4,0,none⟩ (.slice A5 (F.length+1) c5)).heap[k]? = some o:=fun k o hk hn hne =>
  (Yz _ _ _ _ hn).trans (Dr (qnD.alloc _) fZ ((Zc W1 _ _ (gl hk)).trans hk) hne)
 have qbJ:∀(k:Nat)(o:Obj),W.heap[k]? = some o->k≠w.heap.size->k≠b4->(∀ cur,o≠.cells cur 9 (0,0))->(w5.setCell ⟨b4,0,none⟩ (.slice A5 (F.length+1) c5)).heap[k]? = some o:=fun k o hk h0 hn hne =>
  zv k o ((Cp.block k (gl hk) fun e=>h0 (by injection e)).trans hk) hn hne
 have hb1:Below w.heap.size W W1:=(Xr _ _).grown Cp hz (fun k e=>by injection e with e;omega);have Zy:=hb1.alloc (by omega) (.cells #[wv xw] 9);have hb3:=Zr Zy fZ (qnD.alloc _) (Xz _) (by rw[Xs];omega);have hb4:Below w.heap.size W (w5.setCell ⟨b4,0,none⟩ (.slice A5 (F.length+1) c5)):=hb3.setCell (by show _<=b4;omega) _;have qyH:w5.heap[b4]? = some (.cells #[v4] 22 (0,0)):=Dr (qnD.alloc _) fZ ((Zc W1 _ _ (gl zbF)).trans zbF) fun cur e=>by cases e
 refine⟨⟨hb4.size,fun k o hk ho hc=>qbJ k o ho (by omega) (by omega) fun cur e=>by subst e;cases hc⟩,⟨hb4,fun k cs hk=>qbJ k _ hk (fun e=>qzV hI.map hk e.symm) ?_ fun cur e=>by cases e⟩,?_,?_,?_,?_⟩
 ·obtain⟨v,hv,_⟩:=hI.fr;exact No hk hv (by decide)
 ·rw[hE];exact hm.stay fun o ho hc=>zv _ _ ho (by omega) fun cur e=>by subst e;cases hc
 ·refine zv b3 _ ziV (No ziV zbF (by decide)) fun cur e=>by cases e
 ·rw[hE];refine⟨_,by rw[Mx qyH];rfl,?_⟩;have hw:Zp (F++[xw])=Zp F++[wv xw]:=by simp[Zp]
  rw[hw,Qe];exact Vd Rt fun g cur _ hh=>(Yz _ _ _ _ (No hh qyH (by decide))).trans hh
 ·exact hI.bel.trans hb4
theorem dl(v:Value)(rows:List Wr)(w:World)(hv:Jb An w w.heap.size v rows)(hw:∀ r∈rows,r.2.1.length<=1048576)(hn:rows.length<=1048576) :
  Calls Tryz.prog 46 #[v] w fun e w'=>∃ vm F,e=.returned vm/\Nw rows F/\F.length<=1099512676353/\Jb Jn w' w'.heap.size vm (Nx rows F)/\Below w.heap.size w w':=by
 obtain⟨A,c,rfl,hc1,hc2⟩:=hv.form;unfold maxLen at hc2;have HV:=Lh hv;obtain⟨nr,xX⟩:=Xe rows.length;rw[<-xX] at hc1;clear hv;have pu:=@run_makeMap Tryz.prog;obtain⟨N0,hN0⟩:=Xe w.heap.size;refine (callsIn_wide (n:=9)).1 (callsIn_of_wp_marks (F:=Fence.wide) (n:=9) Tryz.func46 rfl trivial (wpIn_wide.2 ?_) rfl);simp only[Tryz.ntmps46,List.size_toArray,Qu,List.length_nil,Nat.reduceAdd,Nat.reduceSub,Array.replicate_succ,Array.replicate_zero,List.push_toArray,List.append_toArray,List.nil_append,List.cons_append];obtain⟨w1,gZ,jF,Cp,Ea⟩:=(Uo.made (κ:=wv) w).update Ke [] (.int .i64 0);replace gZ:(Instr.mapUpdate 147 (.map (some w.heap.size)) (.string ⟨#[]⟩) (.int .i64 0)).run Tryz.prog (w.alloc (.map #[] 0))=.ok () w1:=gZ;have HM1:=Lh jF;have HG1:=Lh Cp;have HS1:=Lh (show w1.heap.size=w.heap.size+1 by rw[Ea];simp);clear jF Cp Ea;go_wp2_with fail;have Ea:w1.heap.size=w.heap.size+1:=HS1.o;obtain⟨w2,xS⟩:=Xe ((((w1.alloc (.cells #[.map (some w.heap.size)] 147)).alloc (.cells #[.string ⟨#[]⟩] 9)).alloc (.cells #[.slice (some ⟨w1.heap.size+1,0,none⟩) 1 1] 22)));have HS2:=Lh (show w2.heap.size=w.heap.size+4 by rw[xS];simp only[Xs];omega);have HB3:=Lh (show w2.heap[w1.heap.size]? = some (.cells #[.map (some w.heap.size)] 147 (0,0)) by
  rw[xS,Zc _ _ _ (by simp only[Xs];omega),Zc _ _ _ (by simp only[Xs];omega)]
  exact Xn w1 _)
 have HR4:=Lh (show w2.heap[w1.heap.size+1]? = some (.cells #[.string ⟨#[]⟩] 9 (0,0)) by
  rw[xS,Zc _ _ _ (by simp only[Xs];omega)]
  exact Fo w1 _ _)
 have HB4:=Lh (show w2.heap[w1.heap.size+1+1]? = some (.cells #[.slice (some ⟨w1.heap.size+1,0,none⟩) 1 1] 22 (0,0)) by
  rw[xS]
  have:=Xn ((w1.alloc (.cells #[.map (some w.heap.size)] 147)).alloc (.cells #[.string ⟨#[]⟩] 9)) (.cells #[.slice (some ⟨w1.heap.size+1,0,none⟩) 1 1] 22)
  rwa [Xs,Xs] at this)
 have HM2:=Lh (show Uo wv w2 w.heap.size (Oo (Vn [])) by rw[xS];exact ((HM1.o.alloc _).alloc _).alloc _);have HBW:=Lh (show Below w.heap.size w w2 by
  rw[xS]
  have h1:Below w.heap.size w w1:=((Xr w.heap.size w).alloc (Xz _) (.map #[] 0)).grown HG1.o (by simp) (fun k e=>by cases e;exact Xz _)
  exact ((h1.alloc (by omega) _).alloc (by simp only[Xs];omega) _).alloc (by simp only[Xs];omega) _)
 rw[<-xS];clear xS HM1 HG1 gZ;obtain⟨N1,hN1⟩:=Xe w1.heap.size;rw[<-hN1] at HB3 HR4 HB4 Ea |-;clear hN1 HS1;rw[Ea] at HB3 HR4 HB4 |-;refine (bO A rows.length c w2).mono ?_;rintro e w3 ⟨rfl,ka⟩;go_wp2_with fail;have hws:∀ r∈rows,r.2.1.length<=4611686018427387904:=fun r hr=>by have:=hw r hr;omega
 have Le:w2.heap.size=w.heap.size+4:=HS2.o;have H0:=Lh (show oY w.heap.size (w.heap.size+1) (w.heap.size+1+1+1) w [] w3 from ka ▸
  ⟨HM2.o.alloc _,(Zc _ _ _ (by omega)).trans HB3.o,⟨_,(Zc _ _ _ (by omega)).trans HB4.o,⟨rfl,.inr ⟨_,1,_,rfl,by omega,(Zc _ _ _ (by omega)).trans HR4.o,by decide,by decide,rfl,rfl⟩⟩⟩,HBW.o.alloc (by omega) _⟩)
 have HS3:=Lh (show w3.heap.size=w.heap.size+5 by rw[ka,Xs];omega);have HBX:=Lh (show w3.cell? ⟨w2.heap.size,0,none⟩=some (.slice A rows.length c) by
  rw[ka]
  exact Za _ _ _ _ _ _ (Xn w2 _))
 have vV:=Lh (HV.o.below H0.o.bel);rw[<-ka];clear ka HM2 HBW HB4 HR4 HB3;rw[Le] at HBX |-;clear HS2 Le;refine (wpIn_wide (n:=9)).1 ?_;apply wpIn_rangeFunc_ownG (F:=Fence.wide) rfl (by omega) (gf:=165) (lb:=#[.pointer (some ⟨w.heap.size+4,0,none⟩)]) rfl trivial (enters_of Tryz.func165 (by kernel_rfl) rfl)
  (vB (9 - 1) (w.heap.size+4) w.heap.size _ rows hws w3 (by have:=HS3.o;omega) (by have:=HS3.o;omega) HBX.o vV.o) (fun h k=>h.trans k) (fun W l o o'=>KpR.putObj (by have:=HS3.o;omega) W l o o') (Xr _ _) (fun _=>rfl)
  (fun pre W=>oY w.heap.size (w.heap.size+1) (w.heap.size+1+1+1) w (Rp pre) W) (fun _ _ _=>False)
  (fun s A B row hs hg hr=>hs.own (by have:=HS3.o;omega) (by have:=HS3.o;omega) hg hr)
  (fun _ _ _ _ _ hs _ _=>hs) H0.o
 case hassign =>
  intro l x W K hK
  gi_wp2
  exact hK
 case hstop=>exact fun _ _ _ _ _ _ h _=>h.elim
 case hbody =>
  rintro l pre ⟨⟨xr,xw⟩,hxm⟩ W hI hlen;have hlb:(Vn (Rp pre)).length<=pre.length+1:=by have:=(Ie (Rp pre)).2.2;rwa [qcT] at this
  have cX:=vC hw;have HSN:=Lh (yE (Rp pre) xw);have HEQ:=Lh (ut pre ⟨(xr,xw),hxm⟩);generalize hF:Vn (Rp pre)=F at *;have hbd:F.length<=1099512676352:=by
   have:=Nat.mul_le_mul_right 1048577 hn;omega
  clear hlen;have HI:=Lh hI;clear hI;have c3:W.cell? ⟨w.heap.size+1,0,none⟩=some (.map (some w.heap.size)):=Za _ _ 0 _ _ _ HI.o.box;have hlk:=HI.o.map.lookup_ok Ke Dv xw;rw[hF,vE] at hlk;by_cases hx:xw∈F
  ·rw[if_pos hx] at hlk;have HX:=Lh hx;clear hx;simp only[Option.getD_some,Option.isSome_some] at hlk
   gi_wp2
   refine⟨KeepsFrom.refl _ _,⟨Xr _ _,fun _ _ h=>h⟩,?_⟩;have hE:Vn (Rp (pre++[⟨(xr,xw),hxm⟩]))=Vn (Rp pre):=by rw[HEQ.o,HSN.o,if_pos HX.o,hF]
   show oY _ _ _ _ (Rp (pre++[⟨(xr,xw),hxm⟩])) W;have h:=HI.o;exact⟨by rw[hE];exact h.map,h.box,by rw[hE];exact h.fr,h.bel⟩
  ·rw[if_neg hx] at hlk;obtain⟨v4,hb4,hown⟩:=HI.o.fr;rw[hF] at hown;have hm0:=HI.o.map;rw[hF] at hm0;obtain⟨W1,gZ,jF,Cp,zgU⟩:=hm0.update Ke xw (.int .i64 0);rw[yF hx] at jF;have HX:=Lh hx;clear hx;replace gZ:(Instr.mapUpdate 147 (.map (some w.heap.size)) (.string ⟨xw.toArray⟩) (.int .i64 0)).run Tryz.prog W=.ok () W1:=gZ;have Nk:∀ r,some w.heap.size=some r->∃ o:Obj,W.heap[r]? = some o/\o.isCells=false:=fun r e=>by cases e;exact hm0.obj
   have qyW:=Lh (Bp Cp Nk hown);have qxA:=Lh (Da Cp Nk hb4);have zxN:=Lh (Da Cp Nk HI.o.box);have HM1:=Lh jF;have HG1:=Lh Cp;have HS1:=Lh zgU;have c4:W1.cell? ⟨w.heap.size+1+1+1,0,none⟩=some v4:=Vo qxA.o;simp only[Option.getD_none,Option.isSome_none] at hlk;clear hown hm0 jF Cp zgU hb4 Nk
   gi_wp2_with (gi_at_builtin;refine wpListIn_plain rfl fun K hK=>uq (fun c h=>by cases h) (qsL (m:=1) (n:=F.length) aM rfl rfl rfl (qyW.o.alloc _) (Rd.row (B:=W1.heap.size+1) (Xn W1 _) (by omega)) rfl (by simp[Value.oneCell']) ((Zc W1 _ _ (gl qxA.o)).trans qxA.o) (by decide) ?h63 ?hby ?hbase fun A5 c5 w5 Rt fZ zhD hb5 hc5 hf5=>hK _ _ ?_))
   case h63=>simp[maxLen];omega
   case hby=>omega
   case hbase=>have:=HI.o.bel.size;have:=HS1.o;omega
   have hE:Vn (Rp (pre++[⟨(xr,xw),hxm⟩]))=F++[xw]:=by rw[HEQ.o,HSN.o,if_neg HX.o]
   exact qeV HI.o (by have:=HS3.o;omega) (by have:=HS3.o;omega) (by omega) hE HM1.o HG1.o HS1.o qyW.o zxN.o qxA.o Rt fZ
 case hdone =>
  intro Dx xs Wx hDx hxs hI hdf;rw[qcU hxs] at hI;have HFS:=Lh (fun ts=>eO (rows:=rows) (ts:=ts));obtain⟨f1,f2,f3⟩:=Ie (Tr rows);have cX:=vC hw;have hfl:(Vn (Tr rows)).length<=1099512676353:=by
   have h1:(Tr rows).length=(Av rows).length:=by simp[Tr]
   have:=Nat.mul_le_mul_right 1048577 hn;omega
  have Dh:0<(Vn (Tr rows)).length:=Qy.2 fun e=>by have:=(f2 []).2 (.inl rfl);rw[e] at this;cases this
  obtain⟨hm,hb3,⟨v4,hb4,pr⟩,pM⟩:=hI;clear f1 f2 f3 cX hxs;generalize Vn (Tr rows)=F at *;obtain⟨A4,c4,rfl,Tc,fY⟩:=Zk pr;unfold maxLen at fY;have tx:=Vo hb4;have HM:=Lh hm;have HB3:=Lh hb3;have HB4:=Lh hb4;have HO4:=Lh pr;have HBE:=Lh pM;have HZ:=Lh (show w.heap.size+5<=Wx.heap.size by have:=HS3.o;have:=(gl hdf);omega);have jo:=Lh hfl;have HDF:=Lh hdf;have HDL:=Lh (show w.heap.size<=Dx by have:=HS3.o;omega);clear hm hb3 hb4 pr pM hdf hDx hfl;obtain⟨n,hnF⟩:=Xe F.length;clear hnF;go_wp2_with fail;refine (wZ w.heap.size A4 c4 F Wx HO4.o (by have:=jo.o;omega) Dh).mono ?_;rintro e w6 ⟨rfl,ts,oH,qbK,az,qb⟩;have qmX:∀(k:Nat)(o:Obj),Wx.heap[k]? = some o->(∀ cur,o≠.cells cur 9 (0,0))->w6.heap[k]? = some o:=fun k o hk hne=>Dr HO4.o qb hk hne;have HM6:=Lh (HM.o.stay fun o ho hc=>qmX _ _ ho fun cur e=>by subst e;cases hc);have zmC:=Lh (qmX _ _ HB3.o fun cur e=>by cases e);have qiP:=Lh (qmX _ _ HB4.o fun cur e=>by cases e);have zxC:=Lh (qmX _ _ HDF.o fun cur e=>by cases e);have zmA:=Lh (Zr HBE.o qb HO4.o (Xz _) HBE.o.size);have HZ6:=Lh (Ya HZ.o qb.size);have HF:=Lh (HFS.o ts oH qbK);have HPM:=Lh oH;have Jo:F.length=ts.length:=oH.length_eq.symm;have HO6:=Lh az;rw[Jo] at HO6 qiP jo Dh Tc;clear qmX oH qbK az qb HB4 HB3 HM HBE HZ HO4 tx HFS;have tx:=Vo qiP.o;obtain⟨nt,hnt⟩:=Xe ts.length;have jl:=Lh hnt;have bA:=vq nt (by have:=jo.o;omega) w6;rw[<-hnt] at HO6 qiP jo Dh Tc tx;clear hnt;rw[show F.length=nt by rw[Jo,<-jl.o]];have zrZ:w.heap.size+1+1+1<w6.heap.size:=(gl qiP.o);obtain⟨w8,hw8⟩:=Xe ((w6.alloc (.cells (Ua (List.replicate nt (0,.slice none 0 0))).toArray 118)).alloc (.cells #[.slice (some ⟨w6.heap.size,0,none⟩) nt nt] 64));have HNS:=Lh (show Nl Dx w w8 w.heap.size (w.heap.size+1) (w6.heap.size+1) w6.heap.size ts (.slice A4 nt c4) 0 0 (fQ 0) by
   have hk:∀(k:Nat)(o:Obj),w6.heap[k]? = some o->w8.heap[k]? = some o:=fun k o hk=>by
    rw[hw8]
    have h1:=(gl hk)
    exact (Zc _ _ _ (by rw[Xs];omega)).trans ((Zc _ _ _ h1).trans hk)
   refine⟨⟨Oo F,HM6.o.stay fun o ho _=>hk _ _ ho,fun y=>?_⟩,hk _ _ zmC.o,?_,?_,⟨List.replicate nt (0,.slice none 0 0),?_,fun j r hj=>?_⟩,?_,⟨by omega,by omega⟩,hk _ _ zxC.o⟩
   ·rw[vE]
    unfold atF
    rw[List.take_zero,if_neg List.not_mem_nil]
    simp only[HPM.o.mem_iff]
   ·rw[hw8,<-jl.o]
    have:=Xn (w6.alloc (.cells (Ua (List.replicate nt (0,.slice none 0 0))).toArray 118)) (.cells #[.slice (some ⟨w6.heap.size,0,none⟩) nt nt] 64)
    rwa [Xs] at this
   ·rw[<-jl.o]
    exact Vd HO6.o fun g cur _ hh=>hk _ _ hh
   ·have h2:Gx ts 0=List.replicate nt []:=by
     unfold Gx
     rw[jl.o]
     simp only[qfH,List.map_const']
    rw[h2]
    refine Ob.mk0 ?_
    rw[hw8]
    exact (Zc _ _ _ (by rw[Xs];omega)).trans (Xn _ _)
   ·rw[Xg] at hj
    split at hj
    ·injection hj with hj
     rw[<-hj]
     simp[fQ]
    ·cases hj
   ·rw[hw8]
    exact (zmA.o.alloc (by omega) _).alloc (by rw[Xs];omega) _)
  have zsX:((w6.alloc (.cells (Ua (List.replicate nt (0,.slice none 0 0))).toArray 118)).alloc (.cells #[.slice (some ⟨w6.heap.size,0,none⟩) nt nt] 64)).cell? ⟨w.heap.size+1+1+1,0,none⟩=some (.slice A4 nt c4) :=
   Vo (t:=22) ((Zc _ _ _ (by rw[Xs];omega)).trans ((Zc _ _ _ zrZ).trans qiP.o))
  go_wp2_with fail;rw[<-hw8];have hl8:w6.heap.size+1<w8.heap.size:=by rw[hw8,Xs,Xs];omega
  have HZ8:=Lh (Ya HZ6.o (show w6.heap.size<=w8.heap.size by omega));clear hw8 bA HM6 zmC zmA qiP HO6 tx;generalize w6.heap.size=bo at *;obtain⟨g4,zuP,hv4⟩:=zM HNS.o.own (by rw[<-jl.o];exact Dh);injection hv4 with e1 e2 e3;subst e1;clear e2 e3 zuP;have HND:Hid (ts.Nodup):=HF.o.asc.imp fun h e=>by subst e;exact Cw _ h
  go_loopw [45] (fun v45 wr=>∃ i:Nat,i<=nt/\v45=.int .i64 i/\w8.heap.size<=wr.heap.size/\Hid (Nl Dx w wr w.heap.size (w.heap.size+1) (bo+1) bo ts (.slice (some ⟨g4,0,none⟩) nt c4) i i (fQ i))) (fun v45 _=>nt - (intOf v45).toNat);exact⟨0,by omega,rfl,Xz _,HNS.o⟩;clear HNS;obtain⟨i,hi,rfl,hzr,HS⟩:=hrel;by_cases zz:i<nt
  ·have Vq:i<ts.length:=by rw[<-jl.o];exact zz
   have au:=Qa Vq;obtain⟨x,hx⟩:=Xe (ts[i]);rw[<-hx] at au;clear hx;have HX:=Lh au;have c43:wr.cell? ⟨g4,i,none⟩=some (wv x):=by
    have:=HS.o.own;rw[<-jl.o] at this;rw[this.cellAt (g:=g4) (cap:=c4) i (by omega)];unfold Zp;rw[Qv,au];rfl
   obtain⟨W1,gZ,jF,Cp,Ea⟩:=HS.o.drew.put (P:=Tryz.prog) HND.o au Ke;replace gZ:(Instr.mapUpdate 147 (.map (some w.heap.size)) (.string ⟨x.toArray⟩) (.int .i64 i)).run Tryz.prog wr.drew=.ok () W1:=gZ;have c3:=HS.o.c3;have c9:=HS.o.c9;have c9':=jF.c9;rw[<-jl.o] at c9 c9';obtain⟨u1,k1,k2,k3,-⟩:=jF.at_out Vq;have k4:=k3 (i*2);clear k2 k3;have HM2:=Lh (jF.setOut Vq (-1) (nq i));have HS1:=Lh Ea;have HM1:=Lh jF;clear jF Cp Ea au;have HC9:=Lh (show (wr.cell? ⟨w.heap.size+1,0,none⟩=some (.map (some w.heap.size))/\wr.cell? ⟨bo+1,0,none⟩=some (.slice (some ⟨bo,0,none⟩) nt nt))/\(W1.cell? ⟨w.heap.size+1,0,none⟩=some (.map (some w.heap.size))/\W1.cell? ⟨bo+1,0,none⟩=some (.slice (some ⟨bo,0,none⟩) nt nt))/\((W1.setCell ⟨bo,i*2,none⟩ (.int .i64 (-1))).cell? ⟨w.heap.size+1,0,none⟩=some (.map (some w.heap.size))/\(W1.setCell ⟨bo,i*2,none⟩ (.int .i64 (-1))).cell? ⟨bo+1,0,none⟩=some (.slice (some ⟨bo,0,none⟩) nt nt)) by
    rw[jl.o]
    exact⟨⟨HS.o.c3,HS.o.c9⟩,⟨HM1.o.c3,HM1.o.c9⟩,HM2.o.c3,HM2.o.c9⟩)
   clear HM1;go_wp2_with fail;refine qsM [5,8] [0,2] [] (fun W'=>W'.cell? ⟨w.heap.size+1,0,none⟩=some (.map (some w.heap.size))/\W'.cell? ⟨bo+1,0,none⟩=some (.slice (some ⟨bo,0,none⟩) nt nt)) HC9.o.1 (by kernel_rfl) (by kernel_rfl) ?_;refine qaK 5 (by decide) (fun Q0 hQ0=>?_);simp only[Xta,Xtz];go_wp2_with fail
   try simp only[Xda,Xdz]
   refine qaL (fun Q1 hQ1=>?_);go_wp2_with fail;refine⟨HC9.o.2.1,?_⟩;refine qaK 2 (by decide) (fun Q0 hQ0=>?_);simp only[Xta,Xtz];go_wp2_with fail
   try simp only[Xda,Xdz]
   refine qaL (fun Q1 hQ1=>?_);go_wp2_with fail;refine⟨HC9.o.2.2,?_⟩;refine qsN ⟨by rfl,⟨fun _=>⟨_,fun w' hI=>qfA Tryz.underlying147 hI.1⟩,fun _=>⟨_,fun w' hI=>pc Tryz.underlying64 hI.2⟩,trivial⟩,?_⟩;have hzr2:w8.heap.size<=(W1.setCell ⟨bo,i*2,none⟩ (.int .i64 (-1))).heap.size:=by
    rw[Yy,HS1.o];exact hzr
   have hC:=HC9.o.2.2;clear HC9 c3 c9 c9' k1 k4 gZ c43 HS hzr HS1;generalize W1.setCell ⟨bo,i*2,none⟩ (.int .i64 (-1))=W2 at *;obtain⟨c3,c9⟩:=hC;by_cases hxe:x=[]
   ·subst hxe;have HM3:=Lh (HM2.o.root HX.o);go_wp2_with fail;go_roundw;exact⟨i+1,by omega,by go_num,hzr2,HM3.o⟩;simp[intOf];omega
   ·obtain⟨j,Td,hj⟩:=yD HF.o HX.o hxe;have Oj:=Lh hxe;have HJ:=Lh hj;have Uh:j<nt:=by rw[jl.o];exact (Qj.1 hj).1
    have jz:=R_ HF.o hw HX.o;obtain⟨m,hm⟩:∃ m,x.length=m+1:=⟨x.length - 1,by have:=Qy.2 hxe;omega⟩;have hlk:(Instr.lookup 147 (.map (some w.heap.size)) (.string ((⟨x.toArray⟩:ByteArray).extract 0 m)) false).run Tryz.prog W2.drew=.ok (.int .i64 j) W2.drew:=by
     rw[pX,show x.take m=x.dropLast by rw[List.dropLast_eq_take,hm];rfl];exact HM2.o.drew.look HND.o Ke Dv hj (by omega)
    rw[hm] at jz;clear hxe hj;go_wp2_with fail;refine Text.wp_grow [6] [0,1] [] (by kernel_rfl) (by kernel_rfl) ?_;refine Text.wpS_seg 6 _ _ _ _ (by decide) (fun Q' hQ'=>?_);simp only[Xta,Xtz];go_wp2_with fail
    try simp only[Xda,Xdz]
    refine Text.wpS_one (fun Q' hQ'=>?_);go_wp2_with fail;refine⟨Xr _ _,?_⟩;refine Text.wpS_seg 2 _ _ _ _ (by decide) (fun Q' hQ'=>?_);simp only[Xta,Xtz];go_wp2_with fail
    try simp only[Xda,Xdz]
    refine⟨by rfl,⟨fun _=>⟨_,_,rfl,c9⟩,fun _=>⟨_,_,rfl,c3⟩,trivial⟩,?_⟩;go_wp2_with fail;obtain⟨v5,d0,d1,df,down⟩:=HM2.o.at_out (j:=j) (by rw[<-jl.o];exact Uh);have qbR:=down (Dp (ts.take i) x.dropLast) (by unfold Gx;rw[Qv,HJ.o];rfl);have xV:(Dp (ts.take i) x.dropLast).length<=1099512676353:=by
     have h1:=aq (ts.take i) x.dropLast;rw[Qq] at h1;have:=jo.o;omega
    have vU:=Lh d1;obtain⟨q,hq⟩:=Xe ((Dp (ts.take i) x.dropLast).length);rw[<-hq] at qbR xV;obtain⟨A7,c7,rfl,hl7,hl8⟩:=Zk qbR;unfold maxLen at hl8;have HDO:=Lh qbR;have HQ:=Lh hq;have dfr:=df (j*2+1);clear df d0 down qbR hq hlk c3 c9;refine Text.wp_grow [11,12] [4] [] (by kernel_rfl) (by kernel_rfl) ?_;refine Text.wpS_seg 11 _ _ _ _ (by decide) (fun Q' hQ'=>?_);simp only[Xta,Xtz];go_wp2_with fail
    try simp only[Xda,Xdz]
    refine Text.wpS_one (fun Q' hQ'=>?_);go_wp2_with fail;refine⟨Xr _ _,?_⟩;refine Text.wpS_one (fun Q' hQ'=>?_);go_wp2_with fail;refine⟨(Xr _ _).alloc (Xz _) _,?_⟩;refine Text.wpS_seg 4 _ _ _ _ (by decide) (fun Q' hQ'=>?_);simp only[Xta,Xtz];rw[qfE hm];refine Ja uN rfl rfl rfl rfl (HDO.o.alloc _) (Rd.row (B:=W2.heap.size+1) (Xn W2 _) (by omega)) rfl (by simp[Value.oneCell']) (by unfold maxLen;omega) (by omega) (by have:=HM2.o.bel.size;show _<=(W2.alloc _).heap.size;rw[Xs];omega) fun v6 w6 az qb zhC _=>?_;obtain⟨A6,c6,rfl,hl9,qnM⟩:=Zk az;obtain⟨rs,hO,-⟩:=HM2.o.outs;have Wv:=hO.box;have jK:=(Zc W2 (.cells #[.int .i64 ((x.getLastD 0).toNat:Int),.int .i64 i] 145) _ (gl Wv)).trans Wv;have qoB:=Dr (HDO.o.alloc (.cells #[.int .i64 ((x.getLastD 0).toNat:Int),.int .i64 i] 145)) ⟨qb.os,qb.tape,qb.output,qb.size,qb.block⟩ jK (fun cur e=>by cases e);have d6:=(World.cell?_of_block (w:=W2) (a:=⟨bo,j*2+1,none⟩) (qoB.trans Wv.symm)).trans vU.o;have f6:=(World.frozen?_of_block (w:=W2) (a:=⟨bo,j*2+1,none⟩) (qoB.trans Wv.symm)).trans dfr;have HN4:=Lh ((HM2.o.alloc (.cells #[.int .i64 ((x.getLastD 0).toNat:Int),.int .i64 i] 145)).edge (W':=w6) HND.o HX.o Oj.o rfl HJ.o ((World.cell?_of_block (w:=W2) (a:=⟨bo,j*2+1,none⟩) (jK.trans Wv.symm)).trans vU.o) (by rw[bJ,<-HQ.o];exact az) ⟨qb.os,qb.tape,qb.output,qb.size,qb.block⟩ zhC);have hz6:w8.heap.size<=(w6.setCell ⟨bo,j*2+1,none⟩ (.slice A6 (q+1) c6)).heap.size:=by
     rw[Yy];have h1:(W2.alloc (.cells #[.int .i64 ((x.getLastD 0).toNat:Int),.int .i64 i] 145)).heap.size<=w6.heap.size:=qb.size;rw[Xs] at h1;omega
    clear az qb zhC hO Wv jK qoB;go_wp2_with fail;refine⟨by rfl,⟨fun _=>⟨_,_,rfl,vU.o⟩,trivial⟩,?_⟩;go_wp2_with fail;go_roundw;exact⟨i+1,by omega,by go_num,hz6,HN4.o⟩;simp[intOf];omega
  ·have Mq:i=nt:=by omega
   subst Mq;go_wp2_with fail;have HS0:=Lt (Nl Dx w wr w.heap.size (w.heap.size+1) (bo+1) bo ts (.slice (some ⟨g4,0,none⟩) i c4) ts.length ts.length (pG ts [])) (by
    have h:=HS.o.ext (out':=pG ts []) fun k hk=>by unfold fQ;rw[if_pos (by have:=jl.o;omega),qlI]
    rw[<-jl.o]
    exact h)
   clear HS;refine (bO A rows.length c wr).mono ?_;rintro e w9 ⟨rfl,hw9⟩;have HS9:=Lh (show w9.heap.size=wr.heap.size+1 by rw[hw9,Xs]);have zxJ:=Lh (show w9.cell? ⟨wr.heap.size,0,none⟩=some (.slice A rows.length c) by
    rw[hw9]
    exact Za _ _ _ _ _ _ (Xn wr _))
   have HN9:Hid (Nl Dx w w9 w.heap.size (w.heap.size+1) (bo+1) bo ts (.slice (some ⟨g4,0,none⟩) i c4) ts.length ts.length (pG ts [])):=hw9 ▸ HS0.o.alloc _;have HV9:=Lh (HV.o.below HN9.o.bel);have zdS:=Lh (gl HN9.o.dfr);have HZ9:Hid (w.heap.size+5<=wr.heap.size):=Ya HZ8.o hzr;clear hw9 HS0 zsX;go_wp2_with fail;refine (wpIn_wide (n:=9)).1 ?_;apply fB (F:=Fence.wide) rfl (by omega) (gf:=165) (lb:=#[.pointer (some ⟨wr.heap.size,0,none⟩)]) rfl trivial (enters_of Tryz.func165 (by kernel_rfl) rfl)
    (vB (9 - 1) wr.heap.size w.heap.size _ rows hws w9 (by have:=HS9.o;have:=HZ9.o;omega) (by have:=HS9.o;omega) zxJ.o HV9.o) (fun h k=>h.trans k) (fun W l o o'=>KpR.putObj (by have:=HS9.o;have:=HZ9.o;omega) W l o o') (Xr _ _) (fun _=>rfl)
    (fun pre W=>Nl Dx w W w.heap.size (w.heap.size+1) (bo+1) bo ts (.slice (some ⟨g4,0,none⟩) i c4) ts.length ts.length (pG ts (pre.map Subtype.val))) (fun _ _ _=>False)
    (fun s A B row hs hg hr=>hs.others hg fun r e=>⟨by have:=(hr r e).1;have:=HS9.o;have:=HZ9.o;omega,by have:=(hr r e).1;have:=zdS.o;omega,(hr r e).2⟩)
    (fun _ _ _ _ _ hs _ _=>hs) HN9.o (fun x=>#[.int .i64 x.1.1.1,.string ⟨x.1.1.2.1.toArray⟩,.int .i64 x.1.1.2.2]) 81
    (fun pre x W hI=>⟨⟨(Xr _ _).alloc hI.bel.size _,fun k cs hk=>(Zc W _ k (gl hk)).trans hk⟩,hI.alloc _⟩)
   case hassign =>
    intro l x W Wn b K hb hWn hK
    gi_wp2
    rw[<-hb,<-hWn];exact hK
   case hstop=>exact fun _ _ _ _ _ _ h _=>h.elim
   case hbody =>
    rintro l pre ⟨⟨⟨xa,xs1,xi⟩,xw⟩,hxm⟩ b W Wu hI -;dsimp only at Wu |-;obtain⟨r,hr,Bw⟩:=(cv rows xw).1 (Xa.2 ⟨_,hxm,rfl⟩);obtain⟨j,hj⟩:=List.getElem?_of_mem ((HF.o.mem xw).2 (.inr ⟨r,hr,Bw⟩));have Uh:=(Qj.1 hj).1;have hlk:(Instr.lookup 147 (.map (some w.heap.size)) (.string ⟨xw.toArray⟩) false).run Tryz.prog W=.ok (.int .i64 j) W:=hI.look HND.o Ke Dv hj Uh;have c3:=hI.c3;have c9:=hI.c9;rw[<-jl.o] at c9;obtain⟨v5,d0,-,df,-⟩:=hI.at_out Uh;have dfr:=df (j*2);have y1:W.cell? ⟨b,1,none⟩=some (.string ⟨xs1.toArray⟩):=Xc Wu rfl;have y2:W.cell? ⟨b,2,none⟩=some (.int .i64 xi):=Xc Wu rfl;have vX:=Lh (fun k (hk:k<ts.length)=>qeH HND.o (j:=j) (x:=((xa,xs1,xi),xw)) hj (pre.map Subtype.val) hk);have HMP:=Lh (show (pre++[(⟨((xa,xs1,xi),xw),hxm⟩:gX rows)]).map Subtype.val=pre.map Subtype.val++[((xa,xs1,xi),xw)] by simp);have Td:j<i:=by rw[jl.o];exact Uh
    have HII:=Lh hI;clear df hr Bw hj hI Wu;generalize ho:pG ts (pre.map Subtype.val) j=o at *;by_cases hse:xw=xs1
    ·subst hse;by_cases hon:o<0
     ·gi_wp2
      obtain⟨rs,hO,-⟩:=HII.o.outs;have hbo:=hO.box;change _/\_/\_;refine⟨⟨by rw[Yy];exact Xz _,fun k o' _ hk hc=>(Yz _ _ _ _ fun e=>?_).trans hk⟩,⟨(Xr _ _).setCell HII.o.lo.2 _,fun k cs hk=>(Yz _ _ _ _ (No hk hbo (by decide))).trans hk⟩,?_⟩
      ·rw[show k=bo from e,hbo] at hk;cases hk;cases hc
      ·refine (HII.o.setOut Uh xi (out':=fun k=>if k=j then xi else pG ts (pre.map Subtype.val) k) (fun k=>rfl)).ext fun k hk=>?_
       rw[HMP.o,vX.o k hk];by_cases hkj:k=j
       ·rw[if_pos hkj,if_pos (by first | exact⟨hkj,rfl,hon⟩ | exact⟨hkj,trivial,hon⟩)]
       ·rw[if_neg hkj,if_neg fun h=>hkj h.1]
     ·gi_wp2
      change _/\_/\_;refine And.intro (KeepsFrom.refl _ _) (And.intro ⟨Xr _ _,fun _ _ h=>h⟩ (HII.o.ext fun k hk=>?_));rw[HMP.o,vX.o k hk,if_neg fun h=>by have:=h.2.2;omega]
    ·have hse2:((⟨xw.toArray⟩:ByteArray)==⟨xs1.toArray⟩)=false:=by rw[qxF];simpa using hse
     gi_wp2
     change _/\_/\_;refine And.intro (KeepsFrom.refl _ _) (And.intro ⟨Xr _ _,fun _ _ h=>h⟩ (HII.o.ext fun k hk=>?_));rw[HMP.o,vX.o k hk,if_neg fun h=>hse h.2.1]
   case hdone =>
    intro Dy ys Wy hDy hys hN hdy;rw[hys] at hN;have c9:=hN.c9;rw[<-jl.o] at c9;have HNY:=Lh hN;have HDY:=Lh hdy;clear hN hdy;go_wp2_with fail;have hb:∀ x,-9223372036854775808<=Do rows x/\Do rows x<=9223372036854775807:=fun x=>by
     rcases nv rows x with h | ⟨r,hr,h⟩
     ·rw[h];omega
     ·rw[h];exact (HV.o.fitR r hr).2.2
    have hT:=HNY.o.tree (rows:=rows) (by have:=jo.o;have:=jl.o;unfold maxLen;omega) (fun k x hk=>by
     unfold pG
     rw[Qb,hk]
     exact qeJ rows x) hb
    have hne:Dy≠Dx:=by have:=zdS.o;omega
    have iB:(Wy.putObj Dy (.deferred none)).heap[Dx]? = some (.deferred (some [])):=(World.putObj_heap_other hne.symm).trans HNY.o.dfr;refine⟨by simp,.inl ⟨_,_,rfl,run_takeDeferred HDY.o,?_⟩⟩;refine⟨by simp,.inl ⟨_,_,rfl,run_takeDeferred iB,?_⟩⟩;refine⟨_,results_tmp rfl _ _ _,_,ts,rfl,HF.o,by have:=jo.o;have:=jl.o;omega,?_,?_⟩
    ·rw[World.putObj_size,World.putObj_size,jl.o];exact hT.keep fun p _=>(rx iB rfl rfl p).trans (rx HDY.o rfl rfl p)
    ·exact HNY.o.bel.trans ((belowK_b (w:=w) (Xz _) _ Dy _ _ (by have:=zdS.o;have:=HDL.o;omega) HDY.o rfl rfl).trans (belowK_b (w:=w) (Xz _) _ Dx _ _ HDL.o iB rfl rfl))
theorem rp(A:Option Addr)(c x:Nat)(m:v_)(w:World)(hv:Jb Jn w w.heap.size (.slice A m.length c) m)(hx:Ko w x (Iy m.length (Kb m)))(oE:Uj m 9223372036854775807=true)(hl:m.length<=2199023255552)(he:∀ k<m.length,(Md m k).length<=2199023255552)(ht:dR w) :
  Calls Tryz.prog 100 #[.slice A m.length c,.slice (some ⟨x,0,none⟩) m.length m.length] w (qxD m w m.length):=by
 have hc1:=hv.n_le;have jz:x<w.heap.size:=(gl hx);have HV:=Lh hv;have HX:=Lh hx;have HG:=Lh (Ft oE);have HE:=Lh he;have HT:=Lh ht;clear hv hx oE he ht;obtain⟨n,hn⟩:=Xe m.length;have HN:=Lh hn;rw[<-hn] at hc1 HV hl HX HE |-;clear hn;have bA:=qfQ n hl;go_enter Tryz.func100,Tryz.ntmps100;go_wp2_with fail;have HB0:=Lh (show Below w.heap.size w (w.alloc (.cells ((Fz n fun _=>0).map (Value.int .i64)).toArray 3)) from (Xr _ _).alloc (Xz _) _);have HI0:=Lh (show Ed (w.alloc (.cells ((Fz n fun _=>0).map (Value.int .i64)).toArray 3)) w.heap.size (Fz n fun k=>if k<0 then -1 else 0) by
  rw[show (fun k:Nat=>if k<0 then (-1:Int) else 0)=fun _=>0 from funext fun k=>if_neg (by omega)]
  exact Xn w _)
 generalize w.alloc (.cells ((Fz n fun _=>0).map (Value.int .i64)).toArray 3)=w1 at *;obtain⟨x0,au⟩:=Xe w.heap.size;rw[<-au] at HI0 |-;have HX0:=Lh au;clear au;go_loopw [22] (fun v22 wr=>∃ i:Nat,i<=n/\v22=.int .i64 i/\Hid (Ed wr x0 (Fz n fun k=>if k<i then -1 else 0))/\Hid (Below w.heap.size w wr)) (fun v22 _=>n - (intOf v22).toNat)
 exact⟨0,by omega,rfl,HI0.o,HB0.o⟩;clear HI0 HB0;obtain⟨i,hi,rfl,HI,HB⟩:=hrel;by_cases Jo:i<n
 ·obtain⟨-,c2⟩:=HI.o.at_ Jo;have HI2:=Lh (show Ed (wr.setCell ⟨x0,i,none⟩ (.int .i64 (-1))) x0 (Fz n fun k=>if k<i+1 then -1 else 0) by
   have h:=HI.o.set i (-1)
   rwa [show (fun k:Nat=>if k=i then (-1:Int) else if k<i then -1 else 0)=fun k=>if k<i+1 then -1 else 0 from funext fun k=>by
    by_cases hk:k=i
    ·subst hk;simp
    ·have:(k<i+1)=(k<i):=by apply propext;omega
     simp only[this,if_neg hk]] at h)
  have HB2:=Lh (HB.o.setCell (p:=⟨x0,i,none⟩) (show w.heap.size<=x0 by have:=HX0.o;omega) (.int .i64 (-1)));obtain⟨v0,c1⟩:∃ v0:Int,wr.cell? ⟨x0,i,none⟩=some (.int .i64 v0):=⟨_,(HI.o.at_ Jo).1⟩;clear HI HB;go_wp2_with fail;go_roundw;exact⟨i+1,by omega,by go_num,HI2.o,HB2.o⟩;simp[intOf];omega
 ·have Mq:i=n:=by omega
  subst Mq;have HIC:=Lh (show Ed wr x0 (Fz i fun _=>-1) by
   have h:=HI.o
   rwa [pj (g:=fun _=>(-1:Int)) fun k hk=>if_pos hk] at h)
  clear HI;go_wp2_with fail;go_loopg [5,7] (i+2) (fun left v5 v7 wt=>∃(xo:Nat)(C:Nat->Int)(bx:Int),v5=.slice (some ⟨xo,0,none⟩) i i/\v7=.int .i64 bx/\-1<=bx/\bx<=i/\(i:Int)+1 - bx<=left/\w.heap.size<=xo/\Hid (Ed wt xo (Fz i C))/\Hid (Below w.heap.size w wt)/\Hid (cB m (Kb m) C bx)/\Hid (∀ k,-1<=C k/\C k<=i));exact⟨x0,fun _=>-1,-1,rfl,rfl,by omega,by omega,by omega,by have:=HX0.o;omega,HIC.o,HB.o,.inl ⟨rfl,fun _ _=>rfl⟩,fun _=>⟨by show (-1:Int)<=-1;omega,by show (-1:Int)<=_;omega⟩⟩;clear HIC HB;obtain⟨xo,C,bx,rfl,rfl,hc3,tx,Vt,hxo,HI,HB,HC,HCB⟩:=hrel;obtain⟨gas,Ue⟩:=Xe gk;rw[<-Ue] at Vt;have HGK:=Lh Ue;clear Ue;generalize wr=wo at *;have pu:=@run_makeMap Tryz.prog;have zhL:=bA (wo.alloc (.map #[] 0));rw[Xs] at zhL;go_wp2_with fail;have HR0:=Lh (show Iz w ((wo.alloc (.map #[] 0)).alloc (.cells ((Fz i fun _=>0).map (Value.int .i64)).toArray 3)) wo.heap.size xo (wo.heap.size+1) i C (Tf m (Kb m) C 0) (ol m (Kb m) C 0) from
   ⟨(Nm.made wo).below ((Xr _ _).alloc (Xz _) _),(HI.o.below ((Xr _ _).alloc (Xz _) _)).below ((Xr _ _).alloc (Xz _) _),by
    rw[qlP]
    have:=Xn (wo.alloc (.map #[] 0)) (.cells ((Fz i fun _=>0).map (Value.int .i64)).toArray 3)
    rw[Xs] at this
    exact this,(HB.o.alloc HB.o.size _).alloc (by rw[Xs];have:=HB.o.size;omega) _,HB.o.size,hxo,by have:=HB.o.size;omega,by have:=(gl HI.o);omega⟩)
  have HZ:=Lh (show wo.heap.size+2<=((wo.alloc (.map #[] 0)).alloc (.cells ((Fz i fun _=>0).map (Value.int .i64)).toArray 3)).heap.size by rw[Xs,Xs];omega);clear zhL HI HB;generalize (wo.alloc (.map #[] 0)).alloc (.cells ((Fz i fun _=>0).map (Value.int .i64)).toArray 3)=wp at *;obtain⟨g,hg⟩:=Xe wo.heap.size;rw[<-hg] at HR0 HZ |-;clear hg;go_loopw [35] (fun v35 wt=>∃ k:Nat,k<=i/\v35=.int .i64 k/\Hid (Iz w wt g xo (g+1) i C (Tf m (Kb m) C k) (ol m (Kb m) C k))) (fun v35 _=>i - (intOf v35).toNat);exact⟨0,by omega,rfl,HR0.o⟩;clear HR0;obtain⟨k,hk,rfl,HR⟩:=hrel;by_cases hlk:k<i
  ·have Dl:k<m.length:=by rw[<-HN.o];exact hlk
   obtain⟨b1,o1,cs,rfl,-,hb1,Zt,Zj⟩:=(HV.o.below HR.o.bel).get Dl (by decide);obtain⟨u,rfl,hu,Sr,Fn⟩:=Mi Zt;obtain⟨A4,e4,rfl,oM,oL⟩:=hu.form;unfold maxLen at oL;have d0:=Zj 0 _ rfl;have d1:=Zj 1 _ rfl;clear Zj Zt;simp only[show Jn.size=2 from rfl,Yo,<-Yv] at d0 d1;have wR:=Lh (Al Dl);have HOU:=Lh (Bq Dl);have HEL:=Lh (HE.o k hlk);have HTO:=Lh (HG.o.tos k Dl);have HU:Hid (Jb Gg w w.heap.size (.slice A4 (m[k]).2.length e4) (m[k]).2):=hu.keep fun p hp=>(HR.o.bel.cell hp).symm;obtain⟨s,hs⟩:=Xe (m[k]);rw[<-hs] at d0 d1 wR HOU HU oM Sr Fn;clear hs hu;obtain⟨so,se⟩:=s;simp only at d0 d1 oM Sr Fn HU wR HOU;obtain⟨q,hq⟩:=Xe se.length;have HQ:=Lh hq;rw[<-hq] at d1 oM HU;clear hq;have hgl:g+1<wr.heap.size:=(gl HR.o.new);obtain⟨f0,ff⟩:=HR.o.new.at_ hlk;have HR2:=Lh ((HR.o.set k (-1)).alloc (.cells #[.int .i64 so,.slice A4 q e4] 118));have Wu:=Xn (wr.setCell ⟨g+1,k,none⟩ (.int .i64 (-1))) (.cells #[.int .i64 so,.slice A4 q e4] 118);rw[Yy] at Wu;have HBX:=Lh Wu;have hcu:=((HX.o.grown (row:=none) ⟨HR2.o.bel.os,HR2.o.bel.tape,HR2.o.bel.output,HR2.o.bel.size,fun j hj _=>HR2.o.bel.block j hj⟩ (by simp)).at_ (k:=k) (by rw[Cf];exact hlk)).1;rw[At,Yt hlk,Bool.true_and] at hcu;clear Wu HR;obtain⟨b,hb⟩:=Xe (Kb m k);rw[<-hb] at hcu;have jh:=Lh hb;clear hb;cases b
   ·have HR3:=Lt (Iz w ((wr.setCell ⟨g+1,k,none⟩ (.int .i64 (-1))).alloc (.cells #[.int .i64 so,.slice A4 q e4] 118)) g xo (g+1) i C (Tf m (Kb m) C (k+1)) (ol m (Kb m) C (k+1))) (by
     have h:=HR2.o
     rw[<-lw jh.o.symm,show (fun j=>if j=k then (-1:Int) else ol m (Kb m) C k j)=ol m (Kb m) C (k+1) from funext fun j=>qlQ jh.o.symm j] at h
     exact h)
    clear HR2;go_wp2_with fail;go_roundw;exact⟨k+1,by omega,by go_num,HR3.o⟩;simp[intOf];omega
   ·go_wp2_with fail;generalize xS:(wr.setCell ⟨g+1,k,none⟩ (.int .i64 (-1))).alloc (.cells #[.int .i64 so,.slice A4 q e4] 118)=w2 at *;clear xS;generalize wr.heap.size=b11 at *;have co:=(HR2.o.old.at_ hlk).1;have cb0:w2.cell? ⟨b11,0,none⟩=some (.int .i64 so):=Xc HBX.o rfl;have hcb:=HCB.o k;clear d0 d1 f0 ff hcu;have Ea:=Sf (Lib.itoa (C k));have Le:=Sf (Lib.itoa so);have tT:=Lib.itoa_length_le (C k) (by omega) (by omega);have Pj:=Lib.itoa_length_le so Sr Fn;have hs32:(⟨#[32]⟩:ByteArray).size=1:=rfl;have hs58:(⟨#[58]⟩:ByteArray).size=1:=rfl;refine Text.wp_grow [4,8] [3,7] [] (by kernel_rfl) (by kernel_rfl) ?_;refine Text.wpS_seg 4 _ _ _ _ (by decide) (fun Q' hQ'=>?_);simp only[Xta,Xtz];go_wp2_with fail
    try simp only[Xda,Xdz]
    refine Text.wpS_one (fun Q' hQ'=>?_);go_wp2_with fail;refine (cW (C k) w2.drew (by omega) (by omega) (HT.o.below HR2.o.drew.bel)).mono ?_;rintro e w3 ⟨rfl,hb3⟩;have cb3:w3.cell? ⟨b11,0,none⟩=some (.int .i64 so):=(hb3.cell (p:=⟨b11,0,none⟩) (show b11<w2.heap.size from (gl HBX.o))).trans cb0;have HR3:=Lh (HR2.o.drew.below hb3);have kI:=Lh ((hb3.block b11 (gl HBX.o)).trans HBX.o);have HB3:=Lh hb3;clear hb3;go_wp2_with fail;refine⟨HB3.o,?_⟩;refine Text.wpS_seg 3 _ _ _ _ (by decide) (fun Q' hQ'=>?_);simp only[Xta,Xtz];go_wp2_with fail
    try simp only[Xda,Xdz]
    refine Text.wpS_one (fun Q' hQ'=>?_);go_wp2_with fail;refine (cW so w3 Sr Fn (HT.o.below HR3.o.bel)).mono ?_;rintro e w4 ⟨rfl,hb4⟩;have HR4:=Lh (HR3.o.below hb4);have Ck:=Lh ((hb4.block b11 (gl kI.o)).trans kI.o);have HB4:=Lh (HB3.o.trans (hb4.mono HB3.o.size));clear hb4 cb3;go_wp2_with fail;refine⟨HB4.o,?_⟩;refine Text.wpS_seg 2 _ _ _ _ (by decide) (fun Q' hQ'=>?_);simp only[Xta,Xtz];go_wp2_with fail;refine⟨by rfl,⟨fun _=>⟨_,_,rfl,co⟩,fun _=>⟨_,_,rfl,cb0⟩,trivial⟩,?_⟩;have hst:(⟨(Lib.itoa (C k)).toArray⟩:ByteArray)++⟨#[32]⟩++⟨(Lib.itoa so).toArray⟩=⟨(Rs m (Kb m) C k 0).toArray⟩:=by
     rw[show (⟨#[32]⟩:ByteArray)=⟨[32].toArray⟩ from rfl,aI,aI,sP,HOU.o,Xd];rfl
    rw[hst];have cb1:w4.cell? ⟨b11,1,none⟩=some (.slice A4 q e4):=Xc Ck.o rfl;have dc:=Lh (fun j hj=>zL (m:=m) (use:=Kb m) (c:=C) (i:=k) (fun k=>by have:=HCB.o k;omega) (by rw[HOU.o];exact⟨Sr,Fn⟩) (fun e he=>by
     rw[wR.o] at he
     obtain⟨j,hj,rfl⟩:=Qz he
     obtain⟨_,_,cs,_,_,_,Zt,_⟩:=HU.o.get hj (by decide)
     obtain⟨_,h1,h2,_,_⟩:=Nh Zt
     exact⟨h1,h2⟩) j hj)
    clear hst co cb0 Ea Le tT Pj HR2 HR3 HB3 HB4 HBX kI;go_wp2_with fail;go_loopw [61,12] (fun v61 v12 wt=>∃ e:Nat,e<=q/\v61=.int .i64 e/\v12=wv (Rs m (Kb m) C k e)/\Hid (Iz w wt g xo (g+1) i C (Tf m (Kb m) C k) fun j=>if j=k then -1 else ol m (Kb m) C k j)) (fun v61 _ _=>q - (intOf v61).toNat)
    exact⟨0,by omega,rfl,rfl,HR4.o⟩;clear HR4 Ck cb1;obtain⟨e,he,rfl,rfl,HR⟩:=hrel;have HR':=HR;by_cases hle:e<q
    ·have hel:e<se.length:=by rw[<-HQ.o];exact hle
     obtain⟨b2,o2,cs,rfl,-,Zy,Zt,Zj⟩:=(HU.o.below HR.o.bel).get hel (by decide);obtain⟨rfl,qC,tP,pl,hy4⟩:=Nh Zt;have d0:=Zj 0 _ rfl;have d1:=Zj 1 _ rfl;clear Zj Zt;simp only[show Gg.size=2 from rfl,Yo,<-Yv] at d0 d1;have Uz:se[e]∈Md m k:=by rw[wR.o];exact Qg hel
     have HPS:=Lh (sQ (use:=Kb m) (c:=C) (show (Md m k)[e]? = some se[e] by rw[wR.o];exact Qa hel));have hto:=HTO.o _ Uz;obtain⟨ed,hed⟩:=Xe (se[e]);rw[<-hed] at d0 d1 qC tP pl hy4 HPS hto;clear hed Uz;obtain⟨et,en0⟩:=ed;simp only at d0 d1 qC tP pl hy4 hto;obtain⟨en,rfl⟩:∃ en:Nat,en0=(en:Int):=⟨en0.toNat,by omega⟩;have hen:en<i:=by rw[HN.o];omega
     rw[Yw] at HPS;have HR1:=Lh (HR.o.alloc (.cells #[.int .i64 et,.int .i64 en] 145));have Wu:=Xn wr (.cells #[.int .i64 et,.int .i64 en] 145);have hcu:=((HX.o.grown (row:=none) ⟨HR1.o.bel.os,HR1.o.bel.tape,HR1.o.bel.output,HR1.o.bel.size,fun j hj _=>HR1.o.bel.block j hj⟩ (by simp)).at_ (k:=en) (by rw[Cf];exact hen)).1;rw[At,Yt hen,Bool.true_and] at hcu;have HBX:=Lh Wu;clear Wu HR HR';obtain⟨b,hb⟩:=Xe (Kb m en);rw[<-hb] at hcu HPS;clear hb;cases b
     ·have HPS2:=Lh (show Rs m (Kb m) C k (e+1)=Rs m (Kb m) C k e by rw[HPS.o];simp);clear HPS;go_wp2_with fail;go_roundw;exact⟨e+1,by omega,by go_num,by rw[HPS2.o],HR1.o⟩;simp[intOf];omega
     ·have HPS2:=Lh (show Rs m (Kb m) C k (e+1)=Rs m (Kb m) C k e++32::(Lib.itoa et++58::Lib.itoa (C en)) by rw[HPS.o];simp);clear HPS;go_wp2_with fail;generalize wr.alloc (.cells #[.int .i64 et,.int .i64 en] 145)=w5 at *;generalize wr.heap.size=b14 at *;have co:=(HR1.o.old.at_ hen).1;have cb0:w5.cell? ⟨b14,0,none⟩=some (.int .i64 et):=Xc HBX.o rfl;have cb1:w5.cell? ⟨b14,1,none⟩=some (.int .i64 en):=Xc HBX.o rfl;have hcb:=HCB.o en;have Ea:=Sf (Lib.itoa et);have Le:=Sf (Lib.itoa (C en));have hs3:=Sf (Rs m (Kb m) C k e);have tT:=Lib.itoa_length_le et qC tP;have Pj:=Lib.itoa_length_le (C en) (by omega) (by omega);have hl3:=dc.o e (by rw[wR.o,<-HQ.o];omega);have tt:q<=2199023255552:=by have:=HEL.o;rw[wR.o,<-HQ.o] at this;exact this
      have cX:b14<w5.heap.size:=(gl HBX.o);clear d0 d1 hcu;refine Text.wp_grow [3,11] [2,8,10] [] (by kernel_rfl) (by kernel_rfl) ?_;refine Text.wpS_seg 3 _ _ _ _ (by decide) (fun Q' hQ'=>?_);simp only[Xta,Xtz];go_wp2_with fail
      try simp only[Xda,Xdz]
      refine Text.wpS_one (fun Q' hQ'=>?_);go_wp2_with fail;refine (cW et w5.drew qC tP (HT.o.below HR1.o.drew.bel)).mono ?_;rintro e1 w6 ⟨rfl,hb6⟩;have cb6:w6.cell? ⟨b14,1,none⟩=some (.int .i64 en):=(hb6.cell (p:=⟨b14,1,none⟩) cX).trans cb1;have HR6:=Lh (HR1.o.drew.below hb6);have co6:=(HR6.o.old.at_ hen).1;have HB6:=Lh hb6;clear hb6;go_wp2_with fail;refine⟨HB6.o,?_⟩;refine Text.wpS_seg 7 _ _ _ _ (by decide) (fun Q' hQ'=>?_);simp only[Xta,Xtz];go_wp2_with fail
      try simp only[Xda,Xdz]
      refine Text.wpS_one (fun Q' hQ'=>?_);go_wp2_with fail;refine (cW (C en) w6 (by omega) (by omega) (HT.o.below HR6.o.bel)).mono ?_;rintro e1 w7 ⟨rfl,ub⟩;have HR7:=Lh (HR6.o.below ub);have HB7:=Lh (HB6.o.trans (ub.mono HB6.o.size));clear ub cb6 co6;go_wp2_with fail;refine⟨HB7.o,?_⟩;refine Text.wpS_seg 3 _ _ _ _ (by decide) (fun Q' hQ'=>?_);simp only[Xta,Xtz];go_wp2_with fail;refine⟨by rfl,⟨fun _=>⟨_,_,rfl,cb0⟩,fun _=>⟨_,_,rfl,cb1⟩,fun _=>⟨_,_,rfl,co⟩,trivial⟩,?_⟩;have hst:(⟨(Rs m (Kb m) C k e).toArray⟩:ByteArray)++(⟨#[32]⟩++⟨(Lib.itoa et).toArray⟩++⟨#[58]⟩++⟨(Lib.itoa (C en)).toArray⟩)=⟨(Rs m (Kb m) C k (e+1)).toArray⟩:=by
       rw[show (⟨#[32]⟩:ByteArray)=⟨[32].toArray⟩ from rfl,show (⟨#[58]⟩:ByteArray)=⟨[58].toArray⟩ from rfl,aI,aI,aI,aI,HPS2.o];simp
      rw[hst];clear hst Ea Le hs3 co cb0 cb1;go_wp2_with fail;go_roundw;exact⟨e+1,by omega,by go_num,rfl,HR7.o⟩;simp[intOf];omega
    ·have heq:e=q:=by omega
     subst heq;have hpt:Rs m (Kb m) C k e=Io m (Kb m) C k:=by rw[<-qeC,wR.o,<-HQ.o]
     rw[hpt];clear hpt dc HR';obtain⟨T,hT0⟩:=Xe (Io m (Kb m) C k);rw[<-hT0];obtain⟨g0,gf⟩:=HR.o.new.at_ hlk;have Ky:=HR.o.map.look (P:=Tryz.prog) Ke Dv T;by_cases Mq:T∈Tf m (Kb m) C k
     ·have tT:(Instr.lookup 147 (.map (some g)) (.string ⟨T.toArray⟩) true).run Tryz.prog wr=.ok (.tuple #[.int .i64 ((Tf m (Kb m) C k).idxOf T:Nat),.bool true]) wr:=by
       have h:=Ky.1;rw[if_pos Mq,Yt Mq] at h;exact h
      have Pj:(Instr.lookup 147 (.map (some g)) (.string ⟨T.toArray⟩) false).run Tryz.prog wr=.ok (.int .i64 ((Tf m (Kb m) C k).idxOf T:Nat)) wr:=Ky.2 Mq;have HR2:=Lt (Iz w (wr.setCell ⟨g+1,k,none⟩ (.int .i64 ((Tf m (Kb m) C k).idxOf T:Nat))) g xo (g+1) i C (Tf m (Kb m) C (k+1)) (ol m (Kb m) C (k+1))) (by
       have h:=HR.o.set k (((Tf m (Kb m) C k).idxOf T:Nat):Int)
       have e1:Th m (Kb m) C (k+1) k=(((Tf m (Kb m) C k).idxOf T:Nat):Int):=by rw[qbE jh.o.symm,<-hT0,if_pos Mq]
       have e2:Tf m (Kb m) C (k+1)=Tf m (Kb m) C k:=by rw[iM jh.o.symm,<-hT0,if_pos Mq]
       rw[e2,<-funext fun j=>qbB (m:=m) (use:=Kb m) (c:=C) (i:=k) j,e1]
       exact h)
      generalize (((Tf m (Kb m) C k).idxOf T:Nat):Int)=idx at *;clear Ky Mq hT0 HR;go_wp2_with fail;go_roundw;exact⟨k+1,by omega,by go_num,HR2.o⟩;simp[intOf];omega
     ·have tT:(Instr.lookup 147 (.map (some g)) (.string ⟨T.toArray⟩) true).run Tryz.prog wr=.ok (.tuple #[.int .i64 0,.bool false]) wr:=by
       have h:=Ky.1;rw[if_neg Mq,Yu Mq] at h;exact h
      have hlen:(Builtin.len_ #[147] 3 #[.map (some g)]).run Tryz.prog wr=.ok (.int .i64 (Tf m (Kb m) C k).length) wr:=HR.o.map.len Ke;obtain⟨W1,gZ,Oi,Ea⟩:=HR.o.put (P:=Tryz.prog) Ke Mq;replace gZ:(Instr.mapUpdate 147 (.map (some g)) (.string ⟨T.toArray⟩) (.int .i64 (Tf m (Kb m) C k).length)).run Tryz.prog wr=.ok () W1:=gZ;have Q_:=(Oi.map.look (P:=Tryz.prog) Ke Dv T).2 (by simp);rw[List.idxOf_append,if_neg Mq] at Q_;have Pj:(Instr.lookup 147 (.map (some g)) (.string ⟨T.toArray⟩) false).run Tryz.prog W1=.ok (.int .i64 (Tf m (Kb m) C k).length) W1:=by simpa using Q_
      obtain⟨g1,gf1⟩:=Oi.new.at_ hlk;have HR2:=Lt (Iz w (W1.setCell ⟨g+1,k,none⟩ (.int .i64 (Tf m (Kb m) C k).length)) g xo (g+1) i C (Tf m (Kb m) C (k+1)) (ol m (Kb m) C (k+1))) (by
       have h:=Oi.set k ((Tf m (Kb m) C k).length:Int)
       have e1:Th m (Kb m) C (k+1) k=((Tf m (Kb m) C k).length:Int):=by rw[qbE jh.o.symm,<-hT0,if_neg Mq]
       have e2:Tf m (Kb m) C (k+1)=Tf m (Kb m) C k++[T]:=by rw[iM jh.o.symm,<-hT0,if_neg Mq]
       rw[e2,<-funext fun j=>qbB (m:=m) (use:=Kb m) (c:=C) (i:=k) j,e1]
       exact h)
      generalize ((Tf m (Kb m) C k).length:Int)=idx at *;clear Ky Q_ Mq hT0 HR Oi Ea;go_wp2_with fail;go_roundw;exact⟨k+1,by omega,by go_num,HR2.o⟩;simp[intOf];omega
  ·have X_:k=i:=by omega
   subst X_;have hlen:(Builtin.len_ #[147] 3 #[.map (some g)]).run Tryz.prog wr=.ok (.int .i64 (Tf m (Kb m) C k).length) wr:=HR.o.map.len Ke;have HMO:=Lh (HC.o.more HG.o (Cu m));have HNX:=Lh (HC.o.next HG.o (Cu m));rw[<-HN.o] at HMO HNX;have HLE:=Lh (qaR m (Kb m) C k);have HIN:=Lt (Ed wr (g+1) (Fz k (Th m (Kb m) C k))) (by
    have h:=HR.o.new
    rwa [pj (g:=Th m (Kb m) C k) fun j hj=>by unfold ol;rw[if_pos hj]] at h)
   obtain⟨K,hK⟩:=Xe ((Tf m (Kb m) C k).length);rw[<-hK] at hlen HMO HNX HLE;have hgw:=HR.o.lo.2.2.1;have HBW:=Lh HR.o.bel;clear hK HR HC;by_cases hkc:(K:Int)=bx
   ·have HKC:=Lh hkc;clear hkc;have hd:((K:Int)==bx)=true:=by simpa using HKC.o
    go_wp2_with fail;go_ret;exact⟨g+1,Th m (Kb m) C k,rfl,HIN.o,hgw,HBW.o,qbD m (Kb m) C k,HMO.o.2 HKC.o⟩
   ·have hd:((K:Int)==bx)=false:=by simpa using hkc
    have HKC:=Lh hkc;clear hkc;go_wp2_with fail;go_roundg (gas - 1);exact⟨g+1,Th m (Kb m) C k,K,rfl,rfl,by omega,by have:=HLE.o;omega,by have:=HGK.o;have:=HMO.o.1;have:=HKC.o;omega,hgw,HIN.o,HBW.o,HNX.o,qbD m (Kb m) C k⟩;have:=HGK.o;omega
def fM(q:List Nat):List Value:=q.map fun(x:Nat)=>.int .i64 ((x:Nat):Int)
theorem my(q:List Nat)(x:Nat):fM (q++[x])=fM q++[.int .i64 (x:Int)]:=by simp[fM]
theorem mb(rs:List (Int×Value))(r:Int×Value):Ua (rs++[r])=Ua rs++[.int .i64 r.1,r.2]:=by simp[Ua]
def yJ(W:World)(g:Nat)(cl:Nat->Int)(q:List Nat):Prop:=∃ l,Uo (Value.int .i64) W g l/\∀ z,Ni l z=(q.findIdx? fun x=>decide (cl x=z)).map fun n=>.int .i64 (n:Int)
theorem yJ.stay{W W':World}{g:Nat}{cl:Nat->Int}{q:List Nat}(h:yJ W g cl q)(hs:∀ o:Obj,W.heap[g]? = some o->o.isCells=false->W'.heap[g]? = some o):yJ W' g cl q:=by
 obtain⟨l,h1,h2⟩:=h;exact⟨l,h1.stay hs,h2⟩
theorem yJ.look{W:World}{g:Nat}{cl:Nat->Int}{q:List Nat}(h:yJ W g cl q){mt kt et:TypeId}{P:Program}(K:Rv P mt kt et (Value.int .i64))(hz:∀ w:World,(zeroValue et).run P w=.ok (.int .i64 0) w)(z:Int) :
  (Instr.lookup mt (.map (some g)) (.int .i64 z) true).run P W=.ok (match q.findIdx? fun x=>decide (cl x=z) with | some n=>.tuple #[.int .i64 (n:Int),.bool true] | none=>.tuple #[.int .i64 0,.bool false]) W:=by
 obtain⟨l,h1,h2⟩:=h;rw[h1.lookup_ok K hz z,h2];cases q.findIdx? fun x=>decide (cl x=z) <;> rfl
theorem yJ.put{W:World}{g:Nat}{cl:Nat->Int}{q:List Nat}(h:yJ W g cl q){mt kt et:TypeId}{P:Program}(K:Rv P mt kt et (Value.int .i64)){y:Nat}(hy:(q.findIdx? fun x=>decide (cl x=cl y))=none) :
  ∃ W',(Instr.mapUpdate mt (.map (some g)) (.int .i64 (cl y)) (.int .i64 q.length)).run P W=.ok () W'/\yJ W' g cl (q++[y])/\W.grownBy W' (some g)/\W'.heap.size=W.heap.size:=by
 obtain⟨l,h1,h2⟩:=h;obtain⟨W1,gZ,jF,Cp,Ea⟩:=h1.update K (cl y) (.int .i64 q.length);refine⟨W1,gZ,⟨_,jF,fun z=>?_⟩,Cp,Ea⟩;rw[Ps,h2,List.findIdx?_append];by_cases hz:z=cl y
 ·subst hz;rw[if_pos rfl,hy];simp[List.findIdx?_cons]
 ·rw[if_neg hz];have:¬ cl y=z:=fun e=>hz e.symm;cases q.findIdx? fun x=>decide (cl x=z) <;> simp[List.findIdx?_cons,this]
structure t_(W:World)(N:Nat)(v:Value)(rs:List (Int×Value))(es:List (List (Int×Int))):Prop where
 len:rs.length=es.length
 row:W.ownsRow N 118 2 v rs.length (Ua rs)
 own:∀(i:Nat)(r:Int×Value)(l:List (Int×Int)),rs[i]? = some r->es[i]? = some l->W.ownsRow N 145 2 r.2 l.length (Iv l)
theorem t_.sl{W:World}{N:Nat}{v:Value}{rs:List (Int×Value)}{es:List (List (Int×Int))}(h:t_ W N v rs es)
  (hb1:∀ r∈rs,-9223372036854775808<=r.1/\r.1<=9223372036854775807) (Zy:∀ l∈es,∀ e∈l,(-9223372036854775808<=e.1/\e.1<=9223372036854775807)/\-9223372036854775808<=e.2/\e.2<=9223372036854775807) :
  Jb Jn W W.heap.size v ((rs.zip es).map fun p=>(p.1.1,p.2)):=by
 have hz:((rs.zip es).map fun p=>(p.1.1,p.2)).length=rs.length:=by rw[Qk,List.length_zip,h.len,Nat.min_self]
 obtain⟨A,c,hv,hc,hc2⟩:=Zk h.row;have Nk:=h.row;rw[hv] at Nk |-;refine⟨_,c,rs.map fun r=>[Value.int .i64 r.1,r.2],by rw[hz],by rw[hz];exact hc,hc2,by rw[hz,Qk],Rd.of_own Nk,fun i cs x hi hx=>?_⟩;rw[Qv] at hi hx;have Vq:i<rs.length:=by
  rcases Nat.lt_or_ge i rs.length with h | h
  ·exact h
  ·rw[Xf h] at hi;cases hi
 have Z_:i<es.length:=by rw[<-h.len];exact Vq
 have hzl:i<(rs.zip es).length:=by rw[List.length_zip];omega
 rw[Qa Vq,Option.map_some] at hi;rw[Qa hzl,List.getElem_zip,Option.map_some] at hx;injection hi with hi;injection hx with hx;subst hi hx;have hown:=h.own i _ _ (Qa Vq) (Qa Z_);obtain⟨A',c',e,h1,h2⟩:=Zk hown;refine⟨[.int .i64 rs[i].1],[rs[i].2],rfl,⟨rfl,hb1 _ (Qg Vq)⟩,rs[i].2,rfl,?_⟩;rw[e] at hown |-;refine⟨A',c',es[i].map fun e=>[Value.int .i64 e.1,.int .i64 e.2],rfl,h1,h2,by simp,Rd.of_own hown,fun j cs y hj hy=>?_⟩;rw[Qv,hy] at hj;injection hj with hj;subst hj;obtain⟨⟨a1,a2⟩,a3,a4⟩:=Zy _ (Qg Z_) _ (Qp hy);exact⟨_,_,rfl,⟨rfl,a1,a2⟩,rfl,a3,a4⟩
theorem t_.fresh{W W':World}{N:Nat}{v:Value}{rs:List (Int×Value)}{es:List (List (Int×Int))}(h:t_ W N v rs es)(hw:∀ b,N<=b->b<W.heap.size->W'.heap[b]? = W.heap[b]?):t_ W' N v rs es:=by
 have key:∀{t:TypeId}{s:Nat}{u:Value}{n:Nat}{xs:List Value},W.ownsRow N t s u n xs->W'.ownsRow N t s u n xs:=fun ho=>Vd ho fun g cur he hh=>(hw g (ho.lt g he).1 (ho.lt g he).2).trans hh;exact⟨h.len,key h.row,fun i r l hi hl=>key (h.own i r l hi hl)⟩
structure MkI(w3 W:World)(g:Nat)(cl:Nat->Int)(q:List Nat)(v6 v7:Value)(rs:List (Int×Value))(es:List (List (Int×Int))):Prop where
 map:yJ W g cl q
 que:W.ownsRow w3.heap.size 3 1 v6 q.length (fM q)
 o:t_ W w3.heap.size v7 rs es
 bel:Below w3.heap.size w3 W
 lo:w3.heap.size<=g
structure jr(w3 W:World)(g kQ:Nat)(cl:Nat->Int)(q1 q2:List Nat)(v6 v7:Value)(rs:List (Int×Value))(es:List (List (Int×Int)))(so:Int)(u:Value)(l:List (Int×Int)):Prop where
 map:yJ W g cl q1
 que:W.ownsRow w3.heap.size 3 1 v6 q2.length (fM q2)
 o:t_ W w3.heap.size v7 rs es
 box:W.heap[kQ]? = some (.cells #[.int .i64 so,u] 118 (0,0))
 uo:W.ownsRow w3.heap.size 145 2 u l.length (Iv l)
 ap:∀(i:Nat)(r:Int×Value)(gg:Nat),rs[i]? = some r->r.2.ownBlock=some gg->u.ownBlock≠some gg
 hne:v7.ownBlock≠some kQ
 bel:Below w3.heap.size w3 W
 lo:w3.heap.size<=g/\w3.heap.size<=kQ
section
variable {w3 W W':World} {g kQ:Nat} {cl:Nat->Int} {q q1 q2:List Nat} {v6 v7:Value} {rs:List (Int×Value)} {es:List (List (Int×Int))} {so:Int} {u:Value} {l:List (Int×Int)}
theorem Rw{N:Nat}{t:TypeId}{s:Nat}{v:Value}{n:Nat}{xs:List Value}(h:W.ownsRow N t s v n xs)(hs:∀(k:Nat)(o:Obj),W.heap[k]? = some o->W'.heap[k]? = some o):W'.ownsRow N t s v n xs:=Vd h fun _ _ _ hh=>hs _ _ hh
theorem MkI.below(h:MkI w3 W g cl q v6 v7 rs es)(hb:Below W.heap.size W W'):MkI w3 W' g cl q v6 v7 rs es:=by
 have hs:∀(k:Nat)(o:Obj),W.heap[k]? = some o->W'.heap[k]? = some o:=fun k o hk=>(hb.block k (gl hk)).trans hk;exact⟨h.map.stay fun o ho _=>hs _ _ ho,Rw h.que hs,⟨h.o.len,Rw h.o.row hs,fun i r l hi hl=>Rw (h.o.own i r l hi hl) hs⟩,h.bel.trans (hb.mono h.bel.size),h.lo⟩
theorem jr.below(h:jr w3 W g kQ cl q1 q2 v6 v7 rs es so u l)(hb:Below W.heap.size W W'):jr w3 W' g kQ cl q1 q2 v6 v7 rs es so u l:=by
 have hs:∀(k:Nat)(o:Obj),W.heap[k]? = some o->W'.heap[k]? = some o:=fun k o hk=>(hb.block k (gl hk)).trans hk;exact⟨h.map.stay fun o ho _=>hs _ _ ho,Rw h.que hs,⟨h.o.len,Rw h.o.row hs,fun i r l hi hl=>Rw (h.o.own i r l hi hl) hs⟩,hs _ _ h.box,Rw h.uo hs,h.ap,h.hne,h.bel.trans (hb.mono h.bel.size),h.lo⟩
theorem jr.alloc(h:jr w3 W g kQ cl q1 q2 v6 v7 rs es so u l)(o:Obj):jr w3 (W.alloc o) g kQ cl q1 q2 v6 v7 rs es so u l:=h.below ((Xr _ _).alloc (Xz _) _)
theorem MkI.alloc(h:MkI w3 W g cl q v6 v7 rs es)(o:Obj):MkI w3 (W.alloc o) g cl q v6 v7 rs es:=h.below ((Xr _ _).alloc (Xz _) _)
theorem MkI.open_(h:MkI w3 W g cl q v6 v7 rs es)(so:Int):jr w3 (W.alloc (.cells #[.int .i64 so,.slice none 0 0] 118)) g W.heap.size cl q q v6 v7 rs es so (.slice none 0 0) []:=by
 have h2:=h.alloc (.cells #[.int .i64 so,.slice none 0 0] 118);exact⟨h2.map,h2.que,h2.o,Xn W _,Yx _ _ _ _,fun _ _ _ _ _ e=>by simp[Value.ownBlock] at e,fun e=>by have:=(h.o.row.lt _ e).2;omega,h2.bel,h.lo,h.bel.size⟩
theorem jr.put(h:jr w3 W g kQ cl q1 q2 v6 v7 rs es so u l){mt kt et:TypeId}{P:Program}(K:Rv P mt kt et (Value.int .i64)){y:Nat}(hy:(q1.findIdx? fun x=>decide (cl x=cl y))=none) :
  ∃ W',(Instr.mapUpdate mt (.map (some g)) (.int .i64 (cl y)) (.int .i64 q1.length)).run P W=.ok () W'/\jr w3 W' g kQ cl (q1++[y]) q2 v6 v7 rs es so u l/\W'.heap.size=W.heap.size/\∀(k:Nat)(cs:Array Value)(t:TypeId)(fr:Nat×Nat),W.heap[k]? = some (.cells cs t fr)->W'.heap[k]? = some (.cells cs t fr):=by
 have zrJ:∃ o:Obj,W.heap[g]? = some o/\o.isCells=false:=by
  obtain⟨l,h1,_⟩:=h.map;exact h1.obj
 obtain⟨W1,gZ,jF,Cp,Ea⟩:=h.map.put K hy;have Nk:∀ r,some g=some r->∃ o:Obj,W.heap[r]? = some o/\o.isCells=false:=fun r e=>by cases e;exact zrJ
 have hc:∀{k:Nat}{cs:Array Value}{t:TypeId}{fr:Nat×Nat},W.heap[k]? = some (.cells cs t fr)->W1.heap[k]? = some (.cells cs t fr):=fun hk=>Da Cp Nk hk;exact⟨W1,gZ,⟨jF,Bp Cp Nk h.que,⟨h.o.len,Bp Cp Nk h.o.row,fun i r l hi hl=>Bp Cp Nk (h.o.own i r l hi hl)⟩,hc h.box,Bp Cp Nk h.uo,h.ap,h.hne,h.bel.trans ((Xr _ _).grown Cp h.bel.size fun k e=>by injection e with e;have:=h.lo.1;omega),h.lo⟩,Ea,fun k cs t fr hk=>hc hk⟩
theorem jr.quep(h:jr w3 W g kQ cl q1 q2 v6 v7 rs es so u l){y:Nat}{v:Value}(hown:W'.ownsRow w3.heap.size 3 1 v (q2.length+1) (fM q2++[.int .i64 (y:Int)]))(hg:W.grownBy W' v6.ownBlock):jr w3 W' g kQ cl q1 (q2++[y]) v v7 rs es so u l:=by
 have hst:∀(k:Nat)(o:Obj),W.heap[k]? = some o->(∀ cur,o≠.cells cur 3 (0,0))->W'.heap[k]? = some o:=fun k o hk hne=>Dr h.que hg hk hne;refine⟨h.map.stay (fun o ho hc=>hst _ _ ho fun cur e=>by subst e;cases hc),by rw[my,Qe];exact hown,⟨h.o.len,Vd h.o.row (fun g' cur _ hh=>hst _ _ hh (fun cur e=>by cases e)),fun i r l hi hl=>Vd (h.o.own i r l hi hl) (fun g' cur _ hh=>hst _ _ hh (fun cur e=>by cases e))⟩,
  hst _ _ h.box (fun cur e=>by cases e),Vd h.uo (fun g' cur _ hh=>hst _ _ hh (fun cur e=>by cases e)),h.ap,h.hne,Zr h.bel hg h.que (Xz _) h.bel.size,h.lo⟩
theorem jr.edge(h:jr w3 W g kQ cl q1 q2 v6 v7 rs es so u l){e:Int×Int}{v:Value}(hown:W'.ownsRow w3.heap.size 145 2 v (l.length+1) (Iv (l++[e])))(hg:W.grownBy W' u.ownBlock)(hu:v.ownBlock=u.ownBlock\/v.ownBlock=some W.heap.size) :
  jr w3 (W'.setCell ⟨kQ,1,none⟩ v) g kQ cl q1 q2 v6 v7 rs es so v (l++[e]):=by
 have lZ:∀(k:Nat)(o:Obj),W.heap[k]? = some o->(∀ cur,o≠.cells cur 145 (0,0))->W'.heap[k]? = some o:=fun k o hk hne=>Dr h.uo hg hk hne;have jK:=lZ _ _ h.box (fun cur e=>by cases e);have hst:∀(k:Nat)(o:Obj),W.heap[k]? = some o->k≠kQ->(∀ cur,o≠.cells cur 145 (0,0))->(W'.setCell ⟨kQ,1,none⟩ v).heap[k]? = some o:=fun k o hk hn hne=>(Yz _ _ _ _ hn).trans (lZ k o hk hne);have Jo:∀(i:Nat)(r:Int×Value)(gg:Nat),rs[i]? = some r->r.2.ownBlock=some gg->gg<W.heap.size:=fun i r gg hi hgg=>by
  have Vq:i<es.length:=by rw[<-h.o.len];exact (Qj.1 hi).1
  exact ((h.o.own i r _ hi (Qa Vq)).lt gg hgg).2
 refine⟨h.map.stay (fun o ho hc=>hst _ _ ho (fun e=>by rw[e,h.box] at ho;cases ho;cases hc) fun cur e=>by subst e;cases hc),?que,⟨h.o.len,?row,?own⟩,?box,?uo,?ap,h.hne,?bel,h.lo⟩
 case que=>exact Vd h.que fun g' cur _ hh=>hst _ _ hh (No hh h.box (by decide)) (fun cur e=>by cases e)
 case row=>exact Vd h.o.row fun g' cur he hh=>hst _ _ hh (fun e=>h.hne (by rw[he,e])) (fun cur e=>by cases e)
 case own =>
  intro i r l' hi hl;refine Vd (h.o.own i r l' hi hl) fun g' cur he hh=>(Yz _ _ _ _ (No ((hg.block g' (gl hh) fun e=>h.ap i r g' hi he e.symm).trans hh) jK (by decide))).trans ?_
  ·exact (hg.block g' (gl hh) fun e=>h.ap i r g' hi he e.symm).trans hh
 case box =>
  rw[Mx jK];rfl
 case uo =>
  rw[Qe];exact Vd hown fun g' cur _ hh=>(Yz _ _ _ _ (No hh jK (by decide))).trans hh
 case ap =>
  intro i r gg hi hgg e;rcases hu with h2 | h2
  ·exact h.ap i r gg hi hgg (by rw[<-h2];exact e)
  ·rw[h2] at e;injection e with e;have:=Jo i r gg hi hgg;omega
 case bel=>exact (Zr h.bel hg h.uo (Xz _) h.bel.size).setCell h.lo.2 _
theorem jr.done(h:jr w3 W g kQ cl q q v6 v7 rs es so u l){v:Value}(hown:W'.ownsRow w3.heap.size 118 2 v (rs.length+1) (Ua rs++[.int .i64 so,u]))(hg:W.grownBy W' v7.ownBlock) :
  MkI w3 W' g cl q v6 v (rs++[(so,u)]) (es++[l]):=by
 have hst:∀(k:Nat)(o:Obj),W.heap[k]? = some o->(∀ cur,o≠.cells cur 118 (0,0))->W'.heap[k]? = some o:=fun k o hk hne=>Dr h.o.row hg hk hne;refine⟨h.map.stay (fun o ho hc=>hst _ _ ho fun cur e=>by subst e;cases hc),Vd h.que (fun g' cur _ hh=>hst _ _ hh (fun cur e=>by cases e)),⟨by simp[h.o.len],by rw[mb,Qe];exact hown,fun i r l' hi hl=>?_⟩,Zr h.bel hg h.o.row (Xz _) h.bel.size,h.lo.1⟩;by_cases Vq:i<rs.length
 ·rw[Qo Vq] at hi;rw[Qo (by rw[<-h.o.len];exact Vq)] at hl;exact Vd (h.o.own i r l' hi hl) fun g' cur _ hh=>hst _ _ hh fun cur e=>by cases e
 ·have hie:i=rs.length:=by
   have:=(Qj.1 hi).1;rw[Qe,Qf] at this;omega
  subst hie;rw[Qn (Xz _),Nat.sub_self] at hi;rw[h.o.len,Qn (Xz _),Nat.sub_self] at hl;injection hi with hi;injection hl with hl;subst hi hl;exact Vd h.uo fun g' cur _ hh=>hst _ _ hh fun cur e=>by cases e
end
theorem qhR{m:Kf}{n:Nat}{cl:Nat->Int}(hc:∀ i<n,∀ j<n,Kb m i=true->Kb m j=true->(cl i=cl j↔Gj m i j)){q:List Nat}(hq:∀ x∈q,x<n/\Kb m x=true){y:Nat}(hy:y<n)(uy:Kb m y=true) :
  (q.findIdx? fun x=>decide (cl x=cl y))=q.findIdx? (Nt m y):=by
 induction q with
 |nil=>rfl
 |cons a r ih =>
  have hr:∀ x∈r,x<n/\Kb m x=true:=fun x hx=>hq x (Xi _ hx);obtain⟨ha,ua⟩:=hq a (Xh ..);rw[List.findIdx?_cons,List.findIdx?_cons,ih hr];have e:decide (cl a=cl y)=Nt m y a:=by
   rw[Bool.eq_iff_iff,decide_eq_true_iff,hc a ha y hy ua uy,gQ];exact⟨fun h=>Se h,fun h=>Se h⟩
  rw[e]
noncomputable def Eu(m:Kf)(x:Nat)(q:List Nat)(k:Nat):List Nat×List (Int×Int):=((Md m x).take k).foldl (Ee (Kb m) (Nt m)) (q,[])
theorem uE(m:Kf)(x:Nat)(q:List Nat):Eu m x q 0=(q,[]):=rfl
theorem uF{m:Kf}{x:Nat}{q:List Nat}{k:Nat}{e:Int×Int}(h:(Md m x)[k]? = some e):Eu m x q (k+1)=Ee (Kb m) (Nt m) (Eu m x q k) e:=by
 obtain⟨hk,he⟩:=Qj.1 h;unfold Eu;rw[Qc hk,List.foldl_append,he];rfl
theorem qdM(use:Nat->Bool)(a:Nat->Nat->Bool)(s:List Nat×List (Int×Int))(e:Int×Int):s.1 <+: (Ee use a s e).1/\(Ee use a s e).2.length<=s.2.length+1:=by
 unfold Ee;split
 ·split
  ·exact⟨List.prefix_refl _,by simp⟩
  ·exact⟨List.prefix_append _ _,by simp⟩
 ·exact⟨List.prefix_refl _,by omega⟩
theorem dB(use:Nat->Bool)(a:Nat->Nat->Bool):∀(l:List (Int×Int))(s:List Nat×List (Int×Int)),s.1 <+: (l.foldl (Ee use a) s).1/\(l.foldl (Ee use a) s).2.length<=s.2.length+l.length
 |[],s=>⟨List.prefix_refl _,by simp⟩
 |e::r,s=>by
  obtain⟨h1,h2⟩:=qdM use a s e;obtain⟨h3,h4⟩:=dB use a r (Ee use a s e);rw[List.foldl_cons,Qu];exact⟨h1.trans h3,by omega⟩
theorem qhG(m:Kf)(x:Nat)(q:List Nat)(k:Nat):(Eu m x q k).2.length<=k:=by
 have:=(dB (Kb m) (Nt m) ((Md m x).take k) (q,[])).2;rw[Qq] at this;unfold Eu;simp only[List.length_nil] at this;omega
theorem qhF(m:Kf)(x:Nat)(q:List Nat)(k:Nat):(Eu m x q k).1 <+: (Eu m x q (Md m x).length).1:=by
 unfold Eu;rw[List.take_length]
 conv=>rhs;rw[<-Xm k (Md m x),List.foldl_append]
 exact (dB _ _ _ _).1
theorem sk{m:Kf}{n x:Nat}(h:(Ww m n).1[n]? = some x):Ww m (n+1)=((Eu m x (Ww m n).1 (Md m x).length).1,(Ww m n).2++[(Nd m x,(Eu m x (Ww m n).1 (Md m x).length).2)]):=by
 unfold Eu;rw[List.take_length];have e:Ww m (n+1)=match (Ww m n).1[n]? with
  |some x=>(((Md m x).foldl (Ee (Kb m) (Nt m)) ((Ww m n).1,[])).1,(Ww m n).2++[(Nd m x,((Md m x).foldl (Ee (Kb m) (Nt m)) ((Ww m n).1,[])).2)])
  |none=>Ww m n:=rfl
 rw[e,h]
theorem cp{m:Kf}(hg:Wh m)(h0:Kb m 0=true)(n:Nat):(∀ x∈(Ww m n).1,x<m.length/\Kb m x=true)/\(Ww m n).1.length<=m.length/\(Ww m n).2.length=min n (Ww m n).1.length:=by
 have h:=mQ hg (Cu m) (Lx m) ((Eo m 0).1 h0) n;exact⟨fun x hx=>⟨Gt hg (h.ok.use x hx).1,(Eo m x).2 (h.ok.use x hx)⟩,eu hg h.ok,h.len⟩
theorem oO{m:Kf}(hg:Wh m)(h0:Kb m 0=true){n x:Nat}(h:(Ww m n).1[n]? = some x)(k:Nat):(∀ z∈(Eu m x (Ww m n).1 k).1,z<m.length/\Kb m z=true)/\(Eu m x (Ww m n).1 k).1.length<=m.length:=by
 have hp:=qhF m x (Ww m n).1 k;have h2:=cp hg h0 (n+1);rw[sk h] at h2;exact⟨fun z hz=>h2.1 z (hp.subset hz),Ya hp.length_le h2.2.1⟩
theorem bm{m:Kf}(hg:Wh m)(h0:Kb m 0=true){n x:Nat}(h:(Ww m n).1[n]? = some x)(hx:x<m.length):∀ k,∀ e∈(Eu m x (Ww m n).1 k).2,(∃ d∈Md m x,e.1=d.1)/\0<=e.2/\e.2<=m.length
 |0=>by
  rw[uE];simp
 |k+1=>by
  have ih:=bm hg h0 h hx k;by_cases hk:k<(Md m x).length
  ·rw[uF (Qa hk)];intro e he;unfold Ee at he;have hl:=(oO hg h0 h k).2;split at he
   ·split at he
    ·rename_i i hi;rcases Qh.1 he with he | he
     ·exact ih e he
     ·rw[Qi] at he;subst he;have hi2:=(List.findIdx?_eq_some_iff_getElem.1 hi).1;exact⟨⟨_,Qg hk,rfl⟩,by simp only;omega,by simp only;omega⟩
    ·rcases Qh.1 he with he | he
     ·exact ih e he
     ·rw[Qi] at he;subst he;exact⟨⟨_,Qg hk,rfl⟩,by simp only;omega,by simp only;omega⟩
   ·exact ih e he
  ·have:Eu m x (Ww m n).1 (k+1)=Eu m x (Ww m n).1 k:=by
    unfold Eu;rw[Qd (by omega),Qd (by omega)]
   rw[this];exact ih
end Go.Proofs.YtmaojnmnbpomeaaGreatDoor
