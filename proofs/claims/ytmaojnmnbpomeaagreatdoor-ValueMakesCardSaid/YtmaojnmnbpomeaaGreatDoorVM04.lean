/- A part. -/
import Derived.Test.YtmaojnmnbpomeaaGreatDoorVM03
import Derived.OrdersHeld
import Derived.Great.BuildSlice
import Derived.Laws.EntriesVeiled
set_option maxRecDepth 100000
set_option maxHeartbeats 64000000
namespace Go.Proofs.YtmaojnmnbpomeaaGreatDoor.TextU
open Go Go.RowKit Go.Proofs.YtmaojnmnbpomeaaGreatDoor.Text
def Q0(K:Act->World->Prop):Exit->Act->World->Prop:=fun e a w=>e=.normal/\K a w
def need(us:List Nat)(listed:Array Bool):Prop:=∃ u∈us,listed.getD u true=false
variable {P:Program} {ops:Array Oper} {K:Act->World->Prop} {S:World->Prop} {us:List Nat}
def wpU(P:Program)(ops:Array Oper)(K:Act->World->Prop)(S:World->Prop)(us:List Nat):Nat->Array Bool->Act->World->Prop
 |0,listed,a,w=>Region.ready .any ops listed=[]/\K a w
 |fuel+1,listed,a,w=>(Region.ready .any ops listed=[]->K a w) /\
  ∀ j∈Region.ready .any ops listed,wpOp P ops (Q0 K) j (fun a' w'=>(need us (listed.setIfInBounds j true)->S w')/\wpU P ops K S us fuel (listed.setIfInBounds j true) a' w') a w
theorem any_of_U:∀(fuel:Nat)(listed:Array Bool)(a:Act)(w:World),wpU P ops K S us fuel listed a w->wpAny P .any ops (Q0 K) fuel listed a w
 |0,_,_,_,h=>⟨h.1,rfl,h.2⟩
 |fuel+1,_,_,_,h=>⟨fun h0=>⟨rfl,h.1 h0⟩,fun j hj=>wpOp_mono (fun a' w' hh=>any_of_U fuel _ a' w' hh.2) (h.2 j hj)⟩
theorem first_U{i:Nat}{oi:Oper}{v:Value}(hi:ops[i]? = some oi)(Wz:∀(j:Nat)(o:Oper) cs b,ops[j]? = some o->o.op≠.select cs b){T:World->Prop}
  (qyM:i∉us) (hT:(∀ w,T w)\/((∀ w,S w->T w)/\∃ u∈us,u≠i/\∀ o,ops[u]? = some o->∃ e∈o.after,Region.binds .any e=true/\e.on=i)) :
  ∀(fuel:Nat)(listed:Array Bool)(a:Act)(w:World),
   (∀ j oj,ops[j]? = some oj->j≠i->listed.getD j true=false->(∀ e∈oj.after,Region.binds .any e=true->e.on≠i)->oi.apart ops oj=true) ->
   i∈Region.ready .any ops listed->(∀ u∈us,(∀ o,ops[u]? = some o->∃ e∈o.after,Region.binds .any e=true/\e.on=i)->listed.getD u true=false)->YieldsIf P ops T oi v a->T w->(need us (listed.setIfInBounds i true)->S w) ->
   wpU P ops K S us fuel (listed.setIfInBounds i true) (a.put oi.dst v) w->wpU P ops K S us (fuel+1) listed a w:=by
 intro fuel
 induction fuel with
 |zero =>
  intro listed a w _ hr _ hy hTw hS H;refine⟨fun h=>(by rw[h] at hr;cases hr),fun j hj=>?_⟩;by_cases Ad:j=i
  ·subst Ad;exact hy.wpOp hi hTw ⟨hS,H⟩
  ·have:=ready_mono hj Ad;rw[H.1] at this;cases this
 |succ fuel ih =>
  intro listed a w qwA hr hus hy hTw hS H;refine⟨fun h=>(by rw[h] at hr;cases hr),fun j hj=>?_⟩;by_cases Ad:j=i
  ·subst Ad;exact hy.wpOp hi hTw ⟨hS,H⟩
  have h1:=H.2 j (ready_mono hj Ad);obtain⟨zfO,oj,wP,Uc⟩:=mem_ready.1 hj;have Ua:=(mem_ready.1 hr).1;have zeZ:∀ e∈oj.after,Region.binds .any e=true->e.on≠i:=fun e he hb heq=>by
   have h5:=Uc e he hb;rw[heq] at h5;have:listed.getD i true=listed.getD i false:=by
    unfold Array.getD;split
    ·rfl
    ·rename_i hn;unfold Array.getD at h5;rw[dif_neg hn] at h5;cases h5
   rw[this,h5] at Ua;cases Ua
  have hju:∀ u∈us,(∀ o,ops[u]? = some o->∃ e∈o.after,Region.binds .any e=true/\e.on=i)->u≠j:=fun u _ hed hju=>by
   subst hju;obtain⟨e,he,hb,hon⟩:=hed oj wP;exact zeZ e he hb hon
  have h2:=wpOp_putIf wP (qwA j oj wP Ad zfO zeZ) (fun cs b=>Wz i oi cs b hi) (fun cs b=>Wz j oj cs b wP) (fun c a w hh=>by cases hh.1) hy h1;refine wpOp_mono (fun a' w' h3=>?_) h2;obtain⟨og,hS3,H3⟩:=h3;rw[<-Array.setIfInBounds_comm _ _ Ad] at hS3 H3;have zeF:∀ u∈us,(∀ o,ops[u]? = some o->∃ e∈o.after,Region.binds .any e=true/\e.on=i)->(listed.setIfInBounds j true).getD u true=false:=fun u hu hed=>by
   rw[getD_set_ne true (Ne.symm (hju u hu hed))];exact hus u hu hed
  have hS':(need us (listed.setIfInBounds j true)->S w')/\T w':=by
   rcases hT with hT | ⟨hST,u,hu,hui,hed⟩
   ·refine⟨fun hn=>?_,hT w'⟩;by_cases yg:need us ((listed.setIfInBounds j true).setIfInBounds i true)
    ·exact hS3 yg
    ·obtain⟨u,hu,hun⟩:=hn;by_cases hui:i=u
     ·subst hui;exact absurd hu qyM
     ·exact absurd ⟨u,hu,by rw[getD_set_ne true hui];exact hun⟩ yg
   ·have yg:need us ((listed.setIfInBounds j true).setIfInBounds i true):=⟨u,hu,by rw[getD_set_ne true (Ne.symm hui)];exact zeF u hu hed⟩;exact⟨fun _=>hS3 yg,hST w' (hS3 yg)⟩
  refine⟨hS'.1,ih (listed.setIfInBounds j true) a' w' ?_ (ready_mono hr (Ne.symm Ad)) zeF og hS'.2 hS3 H3⟩;intro k ok hk hki hun hno;refine qwA k ok hk hki ?_ hno;by_cases hjk:j=k
  ·subst hjk;exact zfO
  ·rwa [getD_set_ne true hjk] at hun
theorem qiJ{o:Oper}{a:Act}{w:World}{K:Act->World->Prop}{Q:Exit->Act->World->Prop}(h:o.wp P a w K rr):o.wp P a w K Q:=by
 unfold Oper.wp at *;generalize (execOp a.eval o).run P w=r at *;cases r with
 |ok n w' =>
  cases n <;> simp only[Oper.upon] at h |- <;>
   first
    |exact h
    |exact Calls.mono h (fun e w'' he=>by cases e <;> first | exact he | (obtain⟨_,_,hh⟩:=(he:LetsOut rr);exact hh.elim) | exact (he:False).elim)
 |halt x w'=>cases x <;> simp only[Oper.upon] at h |- <;> first | exact h | exact h.elim
theorem node_U{i:Nat}{o:Oper}{a:Act}{w:World}{K':Act->World->Prop}(ho:ops[i]? = some o)(h:∀ Q':Exit->Act->World->Prop,(∀ a' w',K' a' w'->Q' .normal a' w')->wpList P ops Q' [o] a w):wpOp P ops (Q0 K) i K' a w:=by
 have h0:=h (fun e a w=>e=.normal/\K' a w) (fun a w hh=>⟨rfl,hh⟩);have Ly:¬ LetsOut (fun e a w=>e=Exit.normal/\K' a w):=fun⟨_,_,hh⟩=>by cases hh.1
 have hno:∀(e:Exit)(a:Act)(w:World),e≠.normal->¬ (e=Exit.normal/\K' a w):=fun _ _ _ hn hh=>hn hh.1;unfold wpList at h0;unfold wpOp;simp only[ho];split at h0
 ·rename_i hw;rw[if_pos hw];have h1:=h0.resolve_right fun hh=>Ly hh.2;have h2:=Oper.wp_mono (K':=K') (fun a w hh=>by
   simp only[wpList] at hh
   exact hh.2) h1
  exact .inl (qiJ (qZ hno Ly h2))
 ·rename_i hw;rw[if_neg hw];simp only[wpList] at h0;exact h0.2
end Go.Proofs.YtmaojnmnbpomeaaGreatDoor.TextU
namespace Go.Proofs.YtmaojnmnbpomeaaGreatDoor
open Go.RowKit
structure OkU(us:List Nat)(S:World->Prop)(listed:Array Bool)(w:World):Prop where
 o:TextU.need us listed->S w
theorem dv{us:List Nat}{S:World->Prop}{listed:Array Bool}{w:World}(h:S w):OkU us S listed w:=⟨fun _=>h⟩
theorem Vg{us:List Nat}{S:World->Prop}{listed:Array Bool}{w:World}(h:(us.all fun u=>listed.getD u true)=true):OkU us S listed w:=⟨fun⟨u,hu,hn⟩=>by
 have:=Xp.1 h u hu
 rw[hn] at this
 cases this⟩
section
variable {P:Program} {ops:Array Oper} {K:Act->World->Prop} {S:World->Prop} {us:List Nat} {fuel:Nat} {listed:Array Bool} {a:Act} {w:World}
theorem Gi{id:Nat}{Q:Exit->Act->World->Prop}{l:List Oper}(S:World->Prop)(us:List Nat)(n:Nat)(hm:P.follows .mixedOrders=true)(hn:l.length=n)(h:Stop (TextU.wpU P l.toArray (fun a w=>Q .normal a w) S us n (Array.replicate n false) a w.drew)):(Code.region id l.toArray true).wp P Q a w:=by
 subst hn;refine Code.wp_mono (Q:=TextU.Q0 fun a w=>Q .normal a w) ?_ (wp_region_any hm ?_)
 ·rintro e a w ⟨rfl,h⟩;exact h
 ·have:=TextU.any_of_U _ _ _ _ h.o;simpa using this
theorem qiL{i:Nat}{oi:Oper}{v:Value}(hi:ops[i]? = some oi)(hs:Region.noSelect ops=true)(hf:Region.free .any ops listed i=true)(hr:(Region.ready .any ops listed).contains i=true)(hni:us.contains i=false)(hun:(us.all fun u=>!listed.getD u true)=true)
  (hw:Region.wanted oi (yielded ops a.tmps)=true) (hy:∀ w,(execOp a.eval oi).run P w=.ok (.value v) w) (hS:S w) (h:Stop (TextU.wpU P ops K S us fuel (listed.setIfInBounds i true) (a.put oi.dst v) w)):Stop (TextU.wpU P ops K S us (fuel+1) listed a w) :=
 ⟨TextU.first_U hi (Region.noSelect_spec hs) (by simpa using hni) (T:=fun _=>True) (.inl fun _=>trivial) fuel listed a w (Region.free_spec hi hf) (by simpa using hr) (fun u hu _=>by have:=Xp.1 hun u hu;simpa using this) (.inl ⟨hw,fun w _=>hy w⟩) trivial (fun _=>hS) h.o⟩
theorem qiM{i:Nat}{oi:Oper}{v:Value}(hi:ops[i]? = some oi)(hs:Region.noSelect ops=true)(hf:Region.free .any ops listed i=true)(hr:(Region.ready .any ops listed).contains i=true)(hni:us.contains i=false)(hun:(us.all fun u=>!listed.getD u true)=true)
  (hed:(us.any fun u=>match ops[u]? with | some o=>o.after.any (fun e=>Region.binds .any e&&e.on==i) | none=>false)=true)
  (hw:Region.wanted oi (yielded ops a.tmps)=true) (hy:∀ w,S w->(execOp a.eval oi).run P w=.ok (.value v) w) (hS:S w) (h:Stop (TextU.wpU P ops K S us fuel (listed.setIfInBounds i true) (a.put oi.dst v) w)):Stop (TextU.wpU P ops K S us (fuel+1) listed a w) :=
 ⟨TextU.first_U hi (Region.noSelect_spec hs) (by simpa using hni) (T:=S) (.inr ⟨fun _ h=>h,by
  obtain⟨u,hu,h1⟩:=Xq.1 hed
  refine⟨u,hu,fun e=>?_,fun o ho=>?_⟩
  ·rw[<-e] at hni
   simp[hu] at hni
  ·simp only[ho] at h1
   obtain⟨e,he,h2⟩:=Array.any_eq_true'.1 h1
   rw[Yl,beq_iff_eq] at h2
   exact⟨e,he,h2.1,h2.2⟩⟩) fuel listed a w (Region.free_spec hi hf) (by simpa using hr) (fun u hu _=>by have:=Xp.1 hun u hu;simpa using this) (.inl ⟨hw,hy⟩) hS (fun _=>hS) h.o⟩
def okW(ops:Array Oper)(listed:Array Bool)(us:List Nat)(i:Nat):Bool:=Region.noSelect ops&&Region.free .any ops listed i&&(Region.ready .any ops listed).contains i&&!us.contains i
theorem Lg(i:Nat){oi:Oper}(v:Value)(hi:ops[i]? = some oi)(hc:(okW ops listed us i&&us.all fun u=>!listed.getD u true)=true)(hw:Region.wanted oi (yielded ops a.tmps)=true)(hy:∀ w,(execOp a.eval oi).run P w=.ok (.value v) w)(hS:S w)
    (h:Stop (TextU.wpU P ops K S us fuel (listed.setIfInBounds i true) (a.put oi.dst v) w)):Stop (TextU.wpU P ops K S us (fuel+1) listed a w):=by
  unfold okW at hc;simp only[Yl,Bool.not_eq_true'] at hc;exact qiL hi hc.1.1.1.1 hc.1.1.1.2 hc.1.1.2 hc.1.2 hc.2 hw hy hS h
theorem jp(i:Nat){oi:Oper}(v:Value)(hi:ops[i]? = some oi)(hc:((okW ops listed us i&&us.all fun u=>!listed.getD u true)&&us.any fun u=>match ops[u]? with | some o=>o.after.any (fun e=>Region.binds .any e&&e.on==i) | none=>false)=true)
    (hw:Region.wanted oi (yielded ops a.tmps)=true) (hy:∀ w,S w->(execOp a.eval oi).run P w=.ok (.value v) w) (hS:S w) (h:Stop (TextU.wpU P ops K S us fuel (listed.setIfInBounds i true) (a.put oi.dst v) w)):Stop (TextU.wpU P ops K S us (fuel+1) listed a w):=by
  obtain⟨hc,hd⟩:=Bool.and_eq_true_iff.1 hc;unfold okW at hc;simp only[Yl,Bool.not_eq_true'] at hc;exact qiM hi hc.1.1.1.1 hc.1.1.1.2 hc.1.1.2 hc.1.2 hc.2 hd hw hy hS h
theorem Jz{i:Nat}{o:Oper}(hr:Region.ready .any ops listed=[i])(ho:ops[i]? = some o)
  (h:∀ Q':Exit->Act->World->Prop,(∀ a' w',OkU us S (listed.setIfInBounds i true) w'/\Stop (TextU.wpU P ops K S us fuel (listed.setIfInBounds i true) a' w')->Q' .normal a' w')->wpList P ops Q' [o] a w):Stop (TextU.wpU P ops K S us (fuel+1) listed a w) :=
 ⟨(fun h0=>by rw[hr] at h0;cases h0),fun j hj=>by
  rw[hr,Qi] at hj
  subst hj
  exact TextU.node_U ho fun Q' hQ'=>h Q' fun a w hh=>hQ' a w ⟨hh.1.o,hh.2.o⟩⟩
theorem Cs(hr:Region.ready .any ops listed=[])(h:K a w):∀ fuel,Stop (TextU.wpU P ops K S us fuel listed a w)
 |0=>⟨hr,h⟩
 |_+1=>⟨fun _=>h,fun j hj=>by rw[hr] at hj;cases hj⟩
end
def qxK(w:World)(g n B m:Nat)(vA:Value)(cA:List Value)(e:Ending)(w':World):Prop :=
 e=.returned (.tuple #[])/\∃ Ov w2 w1,Below w.heap.size w w2/\w2.grownBy w1 vA.ownBlock/\w1.ownsRow B 228 1 Ov (m+1) (cA++[.slice none 0 0])/\w'=w1.setCell ⟨g,n*2+1,none⟩ Ov
theorem qbD(w:World)(R N g n c m:Nat)(B:Nat)(X:List Value)(x0 u1 u2:Value)(vA:Value)(cA:List Value)
  (We:w.heap[R]? = some (.cells #[.slice (some ⟨g,0,none⟩) (n+1) c,u1,u2] 219 (0,0)))
  (hl:w.ownsRow N 227 2 (.slice (some ⟨g,0,none⟩) (n+1) c) (n+1) (X++[x0,vA])) (hX:X.length=2*n)
  (hr:w.ownsRow B 228 1 vA m cA) (hB:B<=w.heap.size) (hm:m<=1048576) (hn:n<=1048576) :
  Calls Tryz.prog 268 #[.pointer (some ⟨R,0,none⟩)] w (qxK w g n B m vA cA):=by
 obtain⟨g',c',e,_,hgw,Nj,Uy,⟨cur,pK⟩,Zm,hfz⟩:=Ks hl;injection e with e1 e2 e3;injection e1 with e1;injection e1 with e1;subst e1 e3;have za:=Zm (n*2+1) vA (by rw[Qn (by omega),hX,show n*2+1 - 2*n=1 by omega];rfl);have hfA:=hfz (n*2+1);have Vh:w.cell? ⟨R,0,none⟩=some (.slice (some ⟨g,0,none⟩) (n+1) c):=Xc We rfl;have HL:=Lh hl;have HR:=Lh hr;have HX:=Lh hX;obtain⟨A,cA0,rfl,Cm,hr2⟩:=Zo hr;obtain⟨L,hL⟩:=Xe (n+1);rw[<-hL] at Vh Nj;have hLn:n<L:=by omega
 have eL:(L:Int) - 1=(n:Int):=by omega
 clear We hl hr hX Zm hfz hL;unfold maxLen at Uy hr2;go_enter Tryz.func268,Tryz.ntmps268;go_wp2_with fail;refine Text.wt (by kernel_rfl) fun Q' hQ'=>?_;go_wp2_with fail;refine⟨by rfl,?_⟩;have HWD:=Lt (Below w.heap.size w w.drew) ((Xr _ _).drew);have HL1:=Lh (Zy HL.o HWD.o);have HR1:=Lh (Zy HR.o HWD.o);have hcA1:w.drew.cell? ⟨g,n*2+1,none⟩=some (.slice A m cA0):=za;have hZ:=Lt (w.drew.heap.size=w.heap.size) (rfl);have hB1:B<=w.drew.heap.size:=hB;have Cn:g<w.drew.heap.size:=hgw;clear HL HR za hfA pK hB hgw Vh;generalize w.drew=wd at *;have Ja:Below wd.heap.size wd (wd.alloc (.cells #[.slice none 0 0] 228)):=(Xr _ _).alloc (Ya _) _;have HR2:=Lh (Zy HR1.o Ja);have HL2:=Lh (Zy HL1.o Ja);have HB2:=Lh (HWD.o.trans (Ja.mono (by rw[hZ.o];exact Ya _)));have Ci:=Lh (Xn wd (.cells #[.slice none 0 0] 228));have HS2:=Lh (Xs wd (.cells #[.slice none 0 0] 228));clear Ja HL1 HR1;go_wp2_with (at_builtin;refine Zz (m:=1) qoJ rfl rfl rfl rfl HR2.o (Rd.row (B:=wd.heap.size+1) Ci.o (Ye _)) rfl (by simp[Value.oneCell']) ?h63 ?hby ?hbase ?_)
 case h63=>simp only[maxLen];omega
 case hby=>omega
 case hbase=>rw[HS2.o];omega
 intro v' w7 Na Ta _ _;obtain⟨A8,c8,mL,_,_⟩:=Zo Na;subst mL;obtain⟨g',c',e,_,_,_,_,⟨cur7,zwT⟩,qmM,zfU⟩:=Ks (Vr HL2.o HR2.o (by decide) Ta);injection e with e1 e2 e3;injection e1 with e1;injection e1 with e1;subst e1;have Zm:=qmM (n*2+1) _ (by rw[Qn (by rw[HX.o];omega),HX.o,show n*2+1 - 2*n=1 by omega];rfl);have sk:=zfU (n*2+1);clear qmM zfU;have zhV:=Lt (qxK w g n B m (.slice A m cA0) cA (.returned (.tuple #[])) (w7.setCell ⟨g,n*2+1,none⟩ (.slice A8 (m+1) c8))) (⟨rfl,_,_,_,HB2.o,Ta,Na,rfl⟩);go_wp2_with fail;refine Zg (results_none rfl _ _ _) rfl ?_;exact zhV.o
section
variable {P:Program} {ops:Array Oper} {Q:Exit->Act->World->Prop} {a:Act} {w:World} {rest:List Oper} {o:Oper}
theorem Et{ty e:TypeId}{v:Value}{p:Addr}(hu:P.underlying ty=some (.slice e))(hc:w.cell? p=some v):(Instr.loadAt ty (.pointer (some p))).run P w=.ok v w:=by
 have mP:(isAgg ty).run P w=.ok false w:=by
  unfold isAgg;rw[Zf,run_underlying hu w];rfl
 simp[Instr.loadAt,Instr.sureAddr,loadVar,mP,hc]
end
theorem Bd{P:Program}{w:World}{ty:TypeId}{v:Value}{p:Addr}(hu:P.underlying ty=some .string)(hc:w.cell? p=some v):(Instr.loadAt ty (.pointer (some p))).run P w=.ok v w:=by
 have mP:(isAgg ty).run P w=.ok false w:=by
  unfold isAgg;rw[Zf,run_underlying hu w];rfl
 simp[Instr.loadAt,Instr.sureAddr,loadVar,mP,hc]
def yF:PSt->FuncId
 |.name _=>173
 |.colon _ _=>239
 |.item _ _ _ _=>269
def Um(R:Nat)(st:PSt):Value:=.func (.func (yF st)) #[.pointer (some ⟨R,0,none⟩)] #[]
def zdR:PSt->Bool
 |.name _=>false
 |_=>true
def zrI(w:World)(R:Nat)(vL:Value):PSt->Prop
 |.name done=>∃ css,Se 227 228 277 w (R+1) vL done css
 |.colon done nm=>∃ css B,Cl 227 228 277 w (R+1) vL done nm css B
 |.item done nm alts alt=>∃ css vA cA vI cI B1 B2,Rr 227 228 277 w (R+1) vL done nm alts alt css vA cA vI cI B1 B2
def yA(w:World)(R:Nat)(st:PSt):Prop:=∃ vL,w.heap[R]? = some (.cells #[vL,Um R st,.bool (zdR st)] 219 (0,0))/\zrI w R vL st
theorem yA.below{w w':World}{R:Nat}{st:PSt}(h:yA w R st)(hb:Below w.heap.size w w'):yA w' R st:=by
 obtain⟨vL,h1,h2⟩:=h;refine⟨vL,(hb.block R (gl h1)).trans h1,?_⟩;cases st with
 |name done=>obtain⟨css,h2⟩:=h2;exact⟨css,h2.below hb⟩
 |colon done nm=>obtain⟨css,B,h2⟩:=h2;exact⟨css,B,h2.below hb⟩
 |item done nm alts alt=>obtain⟨css,vA,cA,vI,cI,B1,B2,h2⟩:=h2;exact⟨css,vA,cA,vI,cI,B1,B2,h2.below hb⟩
def qoN(k:Nat):PSt->Prop
 |.name done=>done.length<=k
 |.colon done _=>done.length+1<=k
 |.item done _ alts alt=>done.length+1<=k/\alts.length<=k/\alt.length<=k
def ia(R:Nat)(st:PSt)(t:Kr)(w:World)(e:Ending)(w':World):Prop :=
 ∃ b,e=.returned (.bool b)/\Below R w w'/\Jg [220] w w'/\((Gx st t=none/\b=false)\/∃ st',Gx st t=some st'/\b=true/\yA w' R st')
theorem qkL(R:Nat)(done:List Ke)(k i:Nat)(txt:Wd)(w:World)(h:yA w R (.name done))(hd:done.length<=65536)(ht:(Jp txt).size<=maxLen) :
  Calls Tryz.prog 173 #[.pointer (some ⟨R,0,none⟩),.agg #[.int .i64 k,.string (Jp txt),.int .i64 i]] w (ia R (.name done) (k,txt,i) w):=by
 obtain⟨vL,We,css,Ux⟩:=h;have hRw:=(gl We);have Ag:Below w.heap.size w (w.alloc (.cells #[.int .i64 k,.string (Jp txt),.int .i64 i] 220)):=(Xr _ _).alloc (Ya _) _;have Em:=Lh ((Ag.block R hRw).trans We);have Tp:=Lh (Ux.below Ag);have HB0:=Lh (Ag.mono (Yg hRw));have ip:=Lh (Jg.of_below (ts:=[220]) Ag);have pX:=Lh (Xn w (.cells #[.int .i64 k,.string (Jp txt),.int .i64 i] 220));obtain⟨K0,jU⟩:=Xe w.heap.size;have HK0:=Lh (show R<K0 by omega);rw[<-jU] at pX;have HT:=Lh ht;clear Ag We Ux ht;go_enter Tryz.func173,Tryz.ntmps173;go_wp2_with fail;rw[<-jU];clear jU;generalize w.alloc (.cells #[.int .i64 k,.string (Jp txt),.int .i64 i] 220)=w1 at *;have hcx:∀ W:World,W.heap[R]? = some (.cells #[vL,Um R (.name done),.bool false] 219 (0,0))->W.heap[K0]? = some (.cells #[.int .i64 k,.string (Jp txt),.int .i64 i] 220 (0,0))->W.cell? ⟨R,0,none⟩=some vL/\W.cell? ⟨K0,1,none⟩=some (.string (Jp txt)):=fun W h1 h2=>⟨Xc h1 rfl,Xc h2 rfl⟩;have fI:=Lh hcx;clear hcx;have Ei:=Lh (fI.o w1.drew Em.o pX.o);refine Gi (fun w'=>w'.cell? ⟨R,0,none⟩=some vL/\w'.cell? ⟨K0,1,none⟩=some (.string (Jp txt))) [10] 13 (by kernel_rfl) rfl ?_;have Ej:=Lt (w1.drew.heap[R]? = some (.cells #[vL,Um R (.name done),.bool false] 219 (0,0))) (Em.o);have Hf:=Lt (w1.drew.heap[K0]? = some (.cells #[.int .i64 k,.string (Jp txt),.int .i64 i] 220 (0,0))) (pX.o);have fH:=Lh (Tp.o.below ((Xr w1.heap.size w1).drew));have HBD:=Lh (HB0.o.drew);have wV:=Lh (ip.o.trans (Jg.of_below ((Xr w1.heap.size w1).drew)));clear Em pX Tp HB0 ip;generalize w1.drew=wd at *;refine Lg 0 (.pointer (some ⟨R,0,none⟩)) rfl (by kernel_rfl) rfl (fun wq=>by go_simp) Ei.o ?_;generalize ha:Act.put _ _ _=z9;simp[Act.put] at ha;subst ha;refine Lg 1 (.pointer (some ⟨R,0,none⟩)) rfl (by kernel_rfl) rfl (fun wq=>by go_simp) Ei.o ?_;generalize ha:Act.put _ _ _=z9;simp[Act.put] at ha;subst ha;refine Lg 2 (.pointer (some ⟨R,0,none⟩)) rfl (by kernel_rfl) rfl (fun wq=>by go_simp) Ei.o ?_;generalize ha:Act.put _ _ _=z9;simp[Act.put] at ha;subst ha;refine Lg 3 (.pointer (some ⟨R,0,none⟩)) rfl (by kernel_rfl) rfl (fun wq=>by go_simp) Ei.o ?_;generalize ha:Act.put _ _ _=z9;simp[Act.put] at ha;subst ha;refine jp 4 (vL) rfl (by kernel_rfl) rfl (fun wq dW=>Wi rfl rfl (Et (e:=227) (by kernel_rfl) dW.1)) Ei.o ?_;generalize ha:Act.put _ _ _=z9;simp[Act.put] at ha;subst ha;refine Lg 5 (.pointer (some ⟨K0,1,none⟩)) rfl (by kernel_rfl) rfl (fun wq=>by go_simp) Ei.o ?_;generalize ha:Act.put _ _ _=z9;simp[Act.put] at ha;subst ha;refine jp 6 (.string (Jp txt)) rfl (by kernel_rfl) rfl (fun wq dW=>Wi rfl rfl (Bd (by kernel_rfl) dW.2)) Ei.o ?_;generalize ha:Act.put _ _ _=z9;simp[Act.put] at ha;subst ha;refine Jz (i:=7) (by kernel_rfl) rfl (fun Q' hQ'=>?_);go_wp2_with fail;refine⟨dv Ei.o,?_⟩;have HB3:=Lh ((Xr wd.heap.size wd).alloc (Ya _) (.cells #[.string (Jp txt),.slice none 0 0] 227));have Ss:=Lh (Xn wd (.cells #[.string (Jp txt),.slice none 0 0] 227));have ij:=Lt (wd.heap.size+1=(wd.alloc (.cells #[.string (Jp txt),.slice none 0 0] 227)).heap.size) ((Xs _ _).symm);refine Jz (i:=8) (by kernel_rfl) rfl (fun Q' hQ'=>?_);go_wp2_with fail;generalize wd.alloc (.cells #[.string (Jp txt),.slice none 0 0] 227)=w3 at *;have Gr:=Lh ((HB3.o.block R (gl Ej.o)).trans Ej.o);have wC:=Lh ((HB3.o.block K0 (gl Hf.o)).trans Hf.o);have HM3:=Lh (fH.o.below HB3.o);have dZ:=Lh (HBD.o.trans (HB3.o.mono (Yg (gl Ej.o))));have lC:=Lh (wV.o.trans (Jg.of_below HB3.o));refine⟨dv (fI.o w3 Gr.o wC.o),?_⟩;refine Jz (i:=9) (by kernel_rfl) rfl (fun Q' hQ'=>?_);refine Zz (m:=1) qkX rfl rfl rfl rfl HM3.o.lines (Rd.row (B:=w3.heap.size) Ss.o (by rw[<-ij.o];exact Ye _)) rfl (by simp[Value.oneCell']) (by simp only[maxLen];omega) (by omega) (by have:=HM3.o.nB;omega) ?_;intro vL' iO hown hg _ _;obtain⟨A8,c8,mL,_,_⟩:=Zo hown;subst mL;have Ij:=Lh (Zq HM3.o.lines hg Gr.o (by decide));have B_:=Lh (Zq HM3.o.lines hg wC.o (by decide));have Lc:=Lh (Se.name HM3.o (by decide) (by decide) HT.o hown hg);have zuD:=Lh (Zt dZ.o hg HM3.o.lines (Yh _) (Yg (gl Gr.o)));have HK4:=Lh (lC.o.trans (Jg.of_grown HM3.o.lines hg (by decide)));clear hown hg;generalize ha:Act.put _ _ _=z9;simp[Act.put] at ha;subst ha;refine hQ' _ _ ⟨dv (fI.o iO Ij.o B_.o),?_⟩;clear Gr wC HM3 dZ Ej Hf fH HBD Ei HB3 Ss ij;refine Jz (i:=10) (by kernel_rfl) rfl (fun Q' hQ'=>?_);go_wp2_with fail;refine⟨Vg (by kernel_rfl),?_⟩;refine Jz (i:=11) (by kernel_rfl) rfl (fun Q' hQ'=>?_);go_wp2_with fail;refine⟨Vg (by kernel_rfl),?_⟩;have r0:iO.cell? ⟨R,0,none⟩=some vL:=(fI.o iO Ij.o B_.o).1;have r1:iO.cell? ⟨R,1,none⟩=some (Um R (.name done)):=Xc Ij.o rfl;have r2:iO.cell? ⟨R,2,none⟩=some (.bool false):=Xc Ij.o rfl;have f0:iO.frozen? ⟨R,0,none⟩=false:=by simp[World.frozen?,Ij.o]
 have f1:iO.frozen? ⟨R,1,none⟩=false:=by simp[World.frozen?,Ij.o]
 have f2:iO.frozen? ⟨R,2,none⟩=false:=by simp[World.frozen?,Ij.o]
 have k0:iO.cell? ⟨K0,0,none⟩=some (.int .i64 k):=Xc B_.o rfl;have n1:K0≠R:=by have:=HK0.o;omega
 have n2:R≠K0:=by have:=HK0.o;omega
 refine Jz (i:=12) (by kernel_rfl) rfl (fun Q' hQ'=>?_);go_wp2_with fail;refine⟨Vg (by kernel_rfl),?_⟩;refine Cs (by kernel_rfl) ?_ _;go_wp2_with fail;go_ret;have b1:=Kj (k:=0) Ij.o (.slice A8 (done.length+1) c8);have b2:=Kj (k:=1) b1 (Um R (.colon done (Jp txt)));have b3:=Kj (k:=2) b2 (.bool true);have m1:=Lc.o.set (k:=0) Ij.o (Ye R) (by decide) (.slice A8 (done.length+1) c8);have m2:=m1.set (k:=1) b1 (Ye R) (by decide) (Um R (.colon done (Jp txt)));have m3:=m2.set (k:=2) b2 (Ye R) (by decide) (.bool true);have pN:=((zuD.o.setCell (p:=⟨R,0,none⟩) (Ya _) (.slice A8 (done.length+1) c8)).setCell (p:=⟨R,1,none⟩) (Ya _) (Um R (.colon done (Jp txt)))).setCell (p:=⟨R,2,none⟩) (Ya _) (.bool true);have qM:=((HK4.o.trans (Vm (k:=0) Ij.o (by decide) (.slice A8 (done.length+1) c8))).trans (Vm (k:=1) b1 (by decide) (Um R (.colon done (Jp txt))))).trans (Vm (k:=2) b2 (by decide) (.bool true));refine⟨_,rfl,pN,qM,?_⟩;by_cases hk:k=1
 ·subst hk;exact .inr ⟨.colon done (Jp txt),rfl,rfl,.slice A8 (done.length+1) c8,b3,css,_,m3⟩
 ·exact .inl ⟨if_neg hk,by simp;omega⟩
theorem Vd{w:World}{g k R:Nat}{o:Obj}(h:w.heap[R]? = some o)(hne:g≠R)(v:Value):(w.setCell ⟨g,k,none⟩ v).heap[R]? = some o:=by
 rw[Zb _ _ _ _ (Ne.symm hne)];exact h
theorem qgC(R:Nat)(done:List Ke)(nm:ByteArray)(k i:Nat)(txt:Wd)(w:World)(h:yA w R (.colon done nm))(hd:done.length<=65536) :
  Calls Tryz.prog 239 #[.pointer (some ⟨R,0,none⟩),.agg #[.int .i64 k,.string (Jp txt),.int .i64 i]] w (ia R (.colon done nm) (k,txt,i) w):=by
 obtain⟨vL,We,css,B,Ux⟩:=h;have hRw:=(gl We);obtain⟨g,c,rfl,Cn,aI,_,_,_,_⟩:=Ks Ux.lines;have Ag:Below w.heap.size w (w.alloc (.cells #[.int .i64 k,.string (Jp txt),.int .i64 i] 220)):=(Xr _ _).alloc (Ya _) _;have Em:=Lh ((Ag.block R hRw).trans We);have Tp:=Lh (Ux.below Ag);have HB0:=Lh (Ag.mono (Yg hRw));have ip:=Lh (Jg.of_below (ts:=[220]) Ag);have pX:=Lh (Xn w (.cells #[.int .i64 k,.string (Jp txt),.int .i64 i] 220));obtain⟨K0,jU⟩:=Xe w.heap.size;have HNE:=Lh (show R<K0/\g<K0/\R<g by omega);rw[<-jU] at pX;clear Ag We Ux;go_enter Tryz.func239,Tryz.ntmps239;go_wp2_with fail;rw[<-jU];clear jU;generalize w.alloc (.cells #[.int .i64 k,.string (Jp txt),.int .i64 i] 220)=w1 at *;refine (qbD w1 R (R+1) g done.length c 0 B css.flatten (.string nm) (Um R (.colon done nm)) (.bool true) (.slice none 0 0) [] Em.o Tp.o.lines (dJ Tp.o.dn) (Yz _ _ _ _) Tp.o.bB (Yf _) (by omega)).mono ?_;rintro e w4 ⟨rfl,Ov,w2,w3,Ja,mN,hown,rfl⟩;have HM2:=Lh (Tp.o.below Ja);have HM3:=Lh (Cl.colon HM2.o (by decide) (by decide) hown mN (k:=done.length*2+1) (by omega));have Tt:=Lh ((Ja.block R (gl Em.o)).trans Em.o);have il:=Lh ((Ja.block K0 (gl pX.o)).trans pX.o);have Gr:=Lh (Vd (g:=g) (k:=done.length*2+1) ((mN.block R (gl Tt.o) (by simp[Value.ownBlock])).trans Tt.o) (by have:=HNE.o;omega) Ov);have wC:=Lh (Vd (g:=g) (k:=done.length*2+1) ((mN.block K0 (gl il.o) (by simp[Value.ownBlock])).trans il.o) (by have:=HNE.o;omega) Ov);have HB3:=Lh ((((HB0.o.trans (Ja.mono (Yg (gl Em.o)))).grown mN (Yg (gl Tt.o)) (fun k hk=>by simp[Value.ownBlock] at hk))).setCell (p:=⟨g,done.length*2+1,none⟩) (Yg HNE.o.2.2) Ov);have qzM:Below w2.heap.size w2 w3:=(Xr _ _).grown mN (Ya _) (fun k hk=>by simp[Value.ownBlock] at hk);have lC:=Lt (Jg [220] w (w3.setCell ⟨g,done.length*2+1,none⟩ Ov)) (by
  obtain⟨g',c',e,_,_,_,_,⟨cur,pK⟩,_⟩:=Ks (HM2.o.below qzM).lines
  injection e with e
  injection e with e
  injection e with e
  subst e
  exact ((ip.o.trans (.of_below Ja)).trans (.of_below qzM)).trans (Vm pK (by decide) Ov))
 clear Ja mN hown qzM HM2 ip Tt il Tp Em pX HB0;generalize w3.setCell ⟨g,done.length*2+1,none⟩ Ov=w5 at *;have r1:w5.cell? ⟨R,1,none⟩=some (Um R (.colon done nm)):=Xc Gr.o rfl;have f1:w5.frozen? ⟨R,1,none⟩=false:=by simp[World.frozen?,Gr.o]
 have k0:w5.cell? ⟨K0,0,none⟩=some (.int .i64 k):=Xc wC.o rfl;have n1:K0≠R:=by have:=HNE.o;omega
 have n2:R≠K0:=by have:=HNE.o;omega
 go_wp2_with fail;go_ret;have b2:=Kj (k:=1) Gr.o (Um R (.item done nm [] []));have m2:=HM3.o.set (k:=1) Gr.o (Ye R) (by decide) (Um R (.item done nm [] []));have pN:=HB3.o.setCell (p:=⟨R,1,none⟩) (Ya _) (Um R (.item done nm [] []));have qM:=lC.o.trans (Vm (k:=1) Gr.o (by decide) (Um R (.item done nm [] [])));refine⟨_,rfl,pN,qM,?_⟩;by_cases hk:k=3
 ·subst hk;exact .inr ⟨.item done nm [] [],rfl,rfl,.slice (some ⟨g,0,none⟩) (done.length+1) c,b2,css,_,_,_,_,_,_,m2⟩
 ·exact .inl ⟨if_neg hk,by simp;omega⟩
theorem xd(R:Nat)(done:List Ke)(nm:ByteArray)(alts:List (List Vw))(alt:List Vw)(k i:Nat)(txt:Wd)(w:World)(h:yA w R (.item done nm alts alt))(hd:done.length<=65536)(ha:alts.length<=65536)(hi:alt.length<=65536)(ht:(Jp txt).size<=maxLen) :
  Calls Tryz.prog 269 #[.pointer (some ⟨R,0,none⟩),.agg #[.int .i64 k,.string (Jp txt),.int .i64 i]] w (ia R (.item done nm alts alt) (k,txt,i) w):=by
 obtain⟨vL,We,css,vA,cA,vI,cI,B1,B2,Ux⟩:=h;have hRw:=(gl We);obtain⟨g,c,rfl,Cn,aI,Nj,Uy,_,qO,_⟩:=Ks Ux.lines;obtain⟨gA,c2,rfl,hA1,hA2,zc,hc4,_,za,_⟩:=Ks Ux.row;have qmN:cA.length=alts.length:=by have:=Ux.al.len;rwa [Qk] at this
 have Ag:Below w.heap.size w (w.alloc (.cells #[.int .i64 k,.string (Jp txt),.int .i64 i] 220)):=(Xr _ _).alloc (Ya _) _;have Em:=Lh ((Ag.block R hRw).trans We);have Tp:=Lh (Ux.below Ag);have HB0:=Lh (Ag.mono (Yg hRw));have ip:=Lh (Jg.of_below (ts:=[220]) Ag);have pX:=Lh (Xn w (.cells #[.int .i64 k,.string (Jp txt),.int .i64 i] 220));have zgD:=qO (done.length*2+1) (.slice (some ⟨gA,0,none⟩) (alts.length+1) c2) (by rw[Qn (by rw[dJ Ux.dn];omega),dJ Ux.dn,show done.length*2+1 - 2*done.length=1 by omega];rfl);have zgE:=za alts.length vI (by rw[Qn (by omega),qmN,Nat.sub_self];rfl);have Ml:=Lh (And.intro ((Ag.cell (p:=⟨g,done.length*2+1,none⟩) aI).trans zgD) ((Ag.cell (p:=⟨gA,alts.length,none⟩) hA2).trans zgE));obtain⟨K0,jU⟩:=Xe w.heap.size;have HNE:=Lh (show R<K0/\g<K0/\gA<K0/\R<g/\R<gA by have:=Ux.nB;omega);rw[<-jU] at pX;have HT:=Lh ht;clear Ag We Ux qO za zgD zgE ht;have HCS:=Lh qmN;obtain⟨n,hn⟩:=Xe done.length;obtain⟨m,hm⟩:=Xe alts.length;obtain⟨L,hL⟩:=Xe (n+1);obtain⟨M,hM⟩:=Xe (m+1);have HEQ:=Lt (done.length=n/\alts.length=m/\n+1=L/\m+1=M) (⟨hn.symm,hm.symm,hL.symm,hM.symm⟩);rw[<-hn] at hd Nj Ml;rw[<-hm] at ha zc Ml;rw[<-hL] at Nj;rw[<-hM] at zc Ml;have l1:n<L:=by omega
 have l2:m<M:=by omega
 have e1:(L:Int) - 1=(n:Int):=by omega
 have e2:(M:Int) - 1=(m:Int):=by omega
 unfold maxLen at Uy hc4;clear hn hm hL hM qmN;have HBR:=Lh (show ∀ W:World,W.heap[R]? = some (.cells #[.slice (some ⟨g,0,none⟩) (done.length+1) c,Um R (.item done nm alts alt),.bool true] 219 (0,0))->W.cell? ⟨R,0,none⟩=some (.slice (some ⟨g,0,none⟩) L c) from fun W h=>by
  rw[Zc _ _ _ _ _ _ h,<-HEQ.o.2.2.1,<-HEQ.o.1];rfl)
 have HKR:=Lt (∀ W:World,W.heap[K0]? = some (.cells #[.int .i64 k,.string (Jp txt),.int .i64 i] 220 (0,0))->W.cell? ⟨K0,0,none⟩=some (.int .i64 k)/\W.cell? ⟨K0,1,none⟩=some (.string (Jp txt))) (fun W h=>⟨Xc h rfl,Xc h rfl⟩);have Ht:k=1\/k=2\/k=4\/k=5\/(k≠1/\k≠2/\k≠4/\k≠5):=by omega
 rcases Ht with hk | hk | hk | hk | ⟨k1,k2,k4,k5⟩
 ·subst hk;go_enter Tryz.func269,Tryz.ntmps269;go_wp2_with fail;rw[<-jU];clear jU;generalize w.alloc (.cells #[.int .i64 1,.string (Jp txt),.int .i64 i] 220)=w1 at *;have Vh:=HBR.o w1 Em.o;have qO:=Ml.o.1;have za:=Ml.o.2;refine Text.wt (by kernel_rfl) fun Q' hQ'=>?_;go_wp2_with fail;refine⟨by rfl,?_⟩;go_wp2_with fail;refine Text.wt (by kernel_rfl) fun Q' hQ'=>?_;go_wp2_with fail;refine⟨by rfl,?_⟩;have Ej:=Lt (w1.drew.drew.heap[R]? = some (.cells #[.slice (some ⟨g,0,none⟩) (done.length+1) c,Um R (.item done nm alts alt),.bool true] 219 (0,0))) (Em.o);have Hf:=Lt (w1.drew.drew.heap[K0]? = some (.cells #[.int .i64 1,.string (Jp txt),.int .i64 i] 220 (0,0))) (pX.o);have fH:=Lh (Tp.o.below ((Xr w1.heap.size w1).drew.drew));have HBD:=Lh (HB0.o.drew.drew);have wV:=Lh (ip.o.trans (Jg.of_below ((Xr w1.heap.size w1).drew.drew)));have HCD:=Lt (w1.drew.drew.cell? ⟨g,n*2+1,none⟩=some (.slice (some ⟨gA,0,none⟩) M c2)/\w1.drew.drew.cell? ⟨gA,m,none⟩=some vI) (Ml.o);clear Em pX Tp HB0 ip Ml Vh qO za;generalize w1.drew.drew=wd at *;have hk0:=(HKR.o wd Hf.o).1;go_wp2_with fail;have fI:=Lt (∀ W:World,W.heap[K0]? = some (.cells #[.int .i64 1,.string (Jp txt),.int .i64 i] 220 (0,0))->W.cell? ⟨gA,m,none⟩=some vI->W.cell? ⟨K0,0,none⟩=some (.int .i64 1)/\W.cell? ⟨K0,1,none⟩=some (.string (Jp txt))/\W.cell? ⟨gA,m,none⟩=some vI) (fun W h1 h2=>⟨(HKR.o W h1).1,(HKR.o W h1).2,h2⟩);have Ei:=Lh (fI.o wd.drew Hf.o HCD.o.2);refine Gi (fun w'=>w'.cell? ⟨K0,0,none⟩=some (.int .i64 1)/\w'.cell? ⟨K0,1,none⟩=some (.string (Jp txt))/\w'.cell? ⟨gA,m,none⟩=some vI) [12] 14 (by kernel_rfl) rfl ?_;have Tt:=Lt (wd.drew.heap[R]? = some (.cells #[.slice (some ⟨g,0,none⟩) (done.length+1) c,Um R (.item done nm alts alt),.bool true] 219 (0,0))) (Ej.o);have il:=Lt (wd.drew.heap[K0]? = some (.cells #[.int .i64 1,.string (Jp txt),.int .i64 i] 220 (0,0))) (Hf.o);have HM2:=Lh (fH.o.below ((Xr wd.heap.size wd).drew));have HB2:=Lh (HBD.o.drew);have HK2:=Lh (wV.o.trans (Jg.of_below ((Xr wd.heap.size wd).drew)));have wX:=Lt (wd.drew.cell? ⟨gA,m,none⟩=some vI) (HCD.o.2);clear Ej Hf fH HBD wV HCD hk0;generalize wd.drew=w2 at *;refine Lg 0 (.pointer (some ⟨gA,m,none⟩)) rfl (by kernel_rfl) rfl (fun wq=>by go_simp) Ei.o ?_;generalize ha:Act.put _ _ _=z9;simp[Act.put] at ha;subst ha;refine Lg 1 (.pointer (some ⟨gA,m,none⟩)) rfl (by kernel_rfl) rfl (fun wq=>by go_simp) Ei.o ?_;generalize ha:Act.put _ _ _=z9;simp[Act.put] at ha;subst ha;refine Lg 2 (.pointer (some ⟨gA,m,none⟩)) rfl (by kernel_rfl) rfl (fun wq=>by go_simp) Ei.o ?_;generalize ha:Act.put _ _ _=z9;simp[Act.put] at ha;subst ha;refine jp 3 (vI) rfl (by kernel_rfl) rfl (fun wq dW=>Wi rfl rfl (Et (e:=277) (by kernel_rfl) dW.2.2)) Ei.o ?_;generalize ha:Act.put _ _ _=z9;simp[Act.put] at ha;subst ha;refine Lg 4 (.pointer (some ⟨K0,0,none⟩)) rfl (by kernel_rfl) rfl (fun wq=>by go_simp) Ei.o ?_;generalize ha:Act.put _ _ _=z9;simp[Act.put] at ha;subst ha;refine jp 5 (.int .i64 1) rfl (by kernel_rfl) rfl (fun wq dW=>Wi rfl rfl (nk (k:=.i64) (by kernel_rfl) dW.1)) Ei.o ?_;generalize ha:Act.put _ _ _=z9;simp[Act.put] at ha;subst ha;refine Lg 6 (.bool false) rfl (by kernel_rfl) rfl (fun wq=>by go_simp) Ei.o ?_;generalize ha:Act.put _ _ _=z9;simp[Act.put] at ha;subst ha;refine Lg 7 (.pointer (some ⟨K0,1,none⟩)) rfl (by kernel_rfl) rfl (fun wq=>by go_simp) Ei.o ?_;generalize ha:Act.put _ _ _=z9;simp[Act.put] at ha;subst ha;refine jp 8 (.string (Jp txt)) rfl (by kernel_rfl) rfl (fun wq dW=>Wi rfl rfl (Bd (by kernel_rfl) dW.2.1)) Ei.o ?_;generalize ha:Act.put _ _ _=z9;simp[Act.put] at ha;subst ha;refine Jz (i:=9) (by kernel_rfl) rfl (fun Q' hQ'=>?_);go_wp2_with fail;refine⟨dv Ei.o,?_⟩;have HB3:=Lh ((Xr w2.heap.size w2).alloc (Ya _) (.cells #[.bool false,.string (Jp txt)] 277));have Ss:=Lh (Xn w2 (.cells #[.bool false,.string (Jp txt)] 277));have ij:=Lt (w2.heap.size+1=(w2.alloc (.cells #[.bool false,.string (Jp txt)] 277)).heap.size) ((Xs _ _).symm);refine Jz (i:=10) (by kernel_rfl) rfl (fun Q' hQ'=>?_);go_wp2_with fail;generalize w2.alloc (.cells #[.bool false,.string (Jp txt)] 277)=w3 at *;have Gr:=Lh ((HB3.o.block R (gl Tt.o)).trans Tt.o);have wC:=Lh ((HB3.o.block K0 (gl il.o)).trans il.o);have HM3:=Lh (HM2.o.below HB3.o);have dZ:=Lh (HB2.o.trans (HB3.o.mono (Yg (gl Tt.o))));have HC3:=Lh ((HB3.o.cell (p:=⟨gA,m,none⟩) (by have h1:=HM2.o.row;obtain⟨g',c',e,_,h2,_⟩:=Ks h1;injection e with e;injection e with e;injection e with e;rw[e];exact h2)).trans wX.o);have lC:=Lh (HK2.o.trans (Jg.of_below HB3.o));refine⟨dv (fI.o w3 wC.o HC3.o),?_⟩;refine Jz (i:=11) (by kernel_rfl) rfl (fun Q' hQ'=>?_);refine Zz (m:=1) nz rfl rfl rfl rfl HM3.o.last (Rd.row (B:=w3.heap.size) Ss.o (by rw[<-ij.o];exact Ye _)) rfl (by simp[Value.oneCell']) (by simp only[maxLen];omega) (by omega) HM3.o.b2 ?_;intro j_ iO hown hg _ _;obtain⟨A8,c8,mL,_,_⟩:=Zo hown;subst mL;have Ij:=Lh (Zq HM3.o.last hg Gr.o (by decide));have B_:=Lh (Zq HM3.o.last hg wC.o (by decide));have Lc:=Lh (Rr.item HM3.o (by decide) (by decide) (by decide) HT.o hown hg);have HB4:=Lh (Zt dZ.o hg HM3.o.last (by have h1:=HM3.o.nB;have h2:=HM3.o.b12;omega) (Yg (gl Gr.o)));have HRW:=Lh (Vr HM3.o.row HM3.o.last (by decide) hg);obtain⟨g',c',e,_,_,_,_,⟨zrA,qmK⟩,pf,qmI⟩:=Ks HRW.o;injection e with e1' e2' e3';injection e1' with e1';injection e1' with e1';subst e1';have qzH:=pf m vI (by rw[Qn (by rw[HCS.o,HEQ.o.2.1];exact Ya _),HCS.o,HEQ.o.2.1,Nat.sub_self];rfl);have zpI:=qmI m;have HK4:=Lh ((lC.o.trans (Jg.of_grown HM3.o.last hg (by decide))).trans (Vm (k:=m) qmK (by decide) (.slice A8 (alt.length+1) c8)));rw[HEQ.o.2.1] at Lc;clear hown hg pf qmI;generalize ha:Act.put _ _ _=z9;simp[Act.put] at ha;subst ha;refine hQ' _ _ ⟨dv (fI.o iO B_.o qzH),?_⟩;refine Jz (i:=12) (by kernel_rfl) rfl (fun Q' hQ'=>?_);go_wp2_with fail;refine⟨Vg (by kernel_rfl),?_⟩;refine Jz (i:=13) (by kernel_rfl) rfl (fun Q' hQ'=>?_);go_wp2_with fail;refine⟨Vg (by kernel_rfl),?_⟩;refine Cs (by kernel_rfl) ?_ _;go_wp2_with fail;go_ret;have b3:=Vd (g:=gA) (k:=m) Ij.o (by have:=HNE.o;omega) (.slice A8 (alt.length+1) c8);have pN:=HB4.o.setCell (p:=⟨gA,m,none⟩) (Yg HNE.o.2.2.2.2) (.slice A8 (alt.length+1) c8);exact⟨true,rfl,pN,HK4.o,.inr ⟨.item done nm alts (alt++[(false,Jp txt)]),rfl,rfl,_,b3,css,_,_,_,_,_,_,Lc.o⟩⟩
 ·subst hk;go_enter Tryz.func269,Tryz.ntmps269;go_wp2_with fail;rw[<-jU];clear jU;generalize w.alloc (.cells #[.int .i64 2,.string (Jp txt),.int .i64 i] 220)=w1 at *;have Vh:=HBR.o w1 Em.o;have qO:=Ml.o.1;have za:=Ml.o.2;refine Text.wt (by kernel_rfl) fun Q' hQ'=>?_;go_wp2_with fail;refine⟨by rfl,?_⟩;go_wp2_with fail;refine Text.wt (by kernel_rfl) fun Q' hQ'=>?_;go_wp2_with fail;refine⟨by rfl,?_⟩;have Ej:=Lt (w1.drew.drew.heap[R]? = some (.cells #[.slice (some ⟨g,0,none⟩) (done.length+1) c,Um R (.item done nm alts alt),.bool true] 219 (0,0))) (Em.o);have Hf:=Lt (w1.drew.drew.heap[K0]? = some (.cells #[.int .i64 2,.string (Jp txt),.int .i64 i] 220 (0,0))) (pX.o);have fH:=Lh (Tp.o.below ((Xr w1.heap.size w1).drew.drew));have HBD:=Lh (HB0.o.drew.drew);have wV:=Lh (ip.o.trans (Jg.of_below ((Xr w1.heap.size w1).drew.drew)));have HCD:=Lt (w1.drew.drew.cell? ⟨g,n*2+1,none⟩=some (.slice (some ⟨gA,0,none⟩) M c2)/\w1.drew.drew.cell? ⟨gA,m,none⟩=some vI) (Ml.o);clear Em pX Tp HB0 ip Ml Vh qO za;generalize w1.drew.drew=wd at *;have hk0:=(HKR.o wd Hf.o).1;go_wp2_with fail;have fI:=Lt (∀ W:World,W.heap[K0]? = some (.cells #[.int .i64 2,.string (Jp txt),.int .i64 i] 220 (0,0))->W.cell? ⟨gA,m,none⟩=some vI->W.cell? ⟨K0,0,none⟩=some (.int .i64 2)/\W.cell? ⟨K0,1,none⟩=some (.string (Jp txt))/\W.cell? ⟨gA,m,none⟩=some vI) (fun W h1 h2=>⟨(HKR.o W h1).1,(HKR.o W h1).2,h2⟩);have Ei:=Lh (fI.o wd.drew Hf.o HCD.o.2);refine Gi (fun w'=>w'.cell? ⟨K0,0,none⟩=some (.int .i64 2)/\w'.cell? ⟨K0,1,none⟩=some (.string (Jp txt))/\w'.cell? ⟨gA,m,none⟩=some vI) [12] 14 (by kernel_rfl) rfl ?_;have Tt:=Lt (wd.drew.heap[R]? = some (.cells #[.slice (some ⟨g,0,none⟩) (done.length+1) c,Um R (.item done nm alts alt),.bool true] 219 (0,0))) (Ej.o);have il:=Lt (wd.drew.heap[K0]? = some (.cells #[.int .i64 2,.string (Jp txt),.int .i64 i] 220 (0,0))) (Hf.o);have HM2:=Lh (fH.o.below ((Xr wd.heap.size wd).drew));have HB2:=Lh (HBD.o.drew);have HK2:=Lh (wV.o.trans (Jg.of_below ((Xr wd.heap.size wd).drew)));have wX:=Lt (wd.drew.cell? ⟨gA,m,none⟩=some vI) (HCD.o.2);clear Ej Hf fH HBD wV HCD hk0;generalize wd.drew=w2 at *;refine Lg 0 (.pointer (some ⟨gA,m,none⟩)) rfl (by kernel_rfl) rfl (fun wq=>by go_simp) Ei.o ?_;generalize ha:Act.put _ _ _=z9;simp[Act.put] at ha;subst ha;refine Lg 1 (.pointer (some ⟨gA,m,none⟩)) rfl (by kernel_rfl) rfl (fun wq=>by go_simp) Ei.o ?_;generalize ha:Act.put _ _ _=z9;simp[Act.put] at ha;subst ha;refine Lg 2 (.pointer (some ⟨gA,m,none⟩)) rfl (by kernel_rfl) rfl (fun wq=>by go_simp) Ei.o ?_;generalize ha:Act.put _ _ _=z9;simp[Act.put] at ha;subst ha;refine jp 3 (vI) rfl (by kernel_rfl) rfl (fun wq dW=>Wi rfl rfl (Et (e:=277) (by kernel_rfl) dW.2.2)) Ei.o ?_;generalize ha:Act.put _ _ _=z9;simp[Act.put] at ha;subst ha;refine Lg 4 (.pointer (some ⟨K0,0,none⟩)) rfl (by kernel_rfl) rfl (fun wq=>by go_simp) Ei.o ?_;generalize ha:Act.put _ _ _=z9;simp[Act.put] at ha;subst ha;refine jp 5 (.int .i64 2) rfl (by kernel_rfl) rfl (fun wq dW=>Wi rfl rfl (nk (k:=.i64) (by kernel_rfl) dW.1)) Ei.o ?_;generalize ha:Act.put _ _ _=z9;simp[Act.put] at ha;subst ha;refine Lg 6 (.bool true) rfl (by kernel_rfl) rfl (fun wq=>by go_simp) Ei.o ?_;generalize ha:Act.put _ _ _=z9;simp[Act.put] at ha;subst ha;refine Lg 7 (.pointer (some ⟨K0,1,none⟩)) rfl (by kernel_rfl) rfl (fun wq=>by go_simp) Ei.o ?_;generalize ha:Act.put _ _ _=z9;simp[Act.put] at ha;subst ha;refine jp 8 (.string (Jp txt)) rfl (by kernel_rfl) rfl (fun wq dW=>Wi rfl rfl (Bd (by kernel_rfl) dW.2.1)) Ei.o ?_;generalize ha:Act.put _ _ _=z9;simp[Act.put] at ha;subst ha;refine Jz (i:=9) (by kernel_rfl) rfl (fun Q' hQ'=>?_);go_wp2_with fail;refine⟨dv Ei.o,?_⟩;have HB3:=Lh ((Xr w2.heap.size w2).alloc (Ya _) (.cells #[.bool true,.string (Jp txt)] 277));have Ss:=Lh (Xn w2 (.cells #[.bool true,.string (Jp txt)] 277));have ij:=Lt (w2.heap.size+1=(w2.alloc (.cells #[.bool true,.string (Jp txt)] 277)).heap.size) ((Xs _ _).symm);refine Jz (i:=10) (by kernel_rfl) rfl (fun Q' hQ'=>?_);go_wp2_with fail;generalize w2.alloc (.cells #[.bool true,.string (Jp txt)] 277)=w3 at *;have Gr:=Lh ((HB3.o.block R (gl Tt.o)).trans Tt.o);have wC:=Lh ((HB3.o.block K0 (gl il.o)).trans il.o);have HM3:=Lh (HM2.o.below HB3.o);have dZ:=Lh (HB2.o.trans (HB3.o.mono (Yg (gl Tt.o))));have HC3:=Lh ((HB3.o.cell (p:=⟨gA,m,none⟩) (by have h1:=HM2.o.row;obtain⟨g',c',e,_,h2,_⟩:=Ks h1;injection e with e;injection e with e;injection e with e;rw[e];exact h2)).trans wX.o);have lC:=Lh (HK2.o.trans (Jg.of_below HB3.o));refine⟨dv (fI.o w3 wC.o HC3.o),?_⟩;refine Jz (i:=11) (by kernel_rfl) rfl (fun Q' hQ'=>?_);refine Zz (m:=1) nz rfl rfl rfl rfl HM3.o.last (Rd.row (B:=w3.heap.size) Ss.o (by rw[<-ij.o];exact Ye _)) rfl (by simp[Value.oneCell']) (by simp only[maxLen];omega) (by omega) HM3.o.b2 ?_;intro j_ iO hown hg _ _;obtain⟨A8,c8,mL,_,_⟩:=Zo hown;subst mL;have Ij:=Lh (Zq HM3.o.last hg Gr.o (by decide));have B_:=Lh (Zq HM3.o.last hg wC.o (by decide));have Lc:=Lh (Rr.item HM3.o (by decide) (by decide) (by decide) HT.o hown hg);have HB4:=Lh (Zt dZ.o hg HM3.o.last (by have h1:=HM3.o.nB;have h2:=HM3.o.b12;omega) (Yg (gl Gr.o)));have HRW:=Lh (Vr HM3.o.row HM3.o.last (by decide) hg);obtain⟨g',c',e,_,_,_,_,⟨zrA,qmK⟩,pf,qmI⟩:=Ks HRW.o;injection e with e1' e2' e3';injection e1' with e1';injection e1' with e1';subst e1';have qzH:=pf m vI (by rw[Qn (by rw[HCS.o,HEQ.o.2.1];exact Ya _),HCS.o,HEQ.o.2.1,Nat.sub_self];rfl);have zpI:=qmI m;have HK4:=Lh ((lC.o.trans (Jg.of_grown HM3.o.last hg (by decide))).trans (Vm (k:=m) qmK (by decide) (.slice A8 (alt.length+1) c8)));rw[HEQ.o.2.1] at Lc;clear hown hg pf qmI;generalize ha:Act.put _ _ _=z9;simp[Act.put] at ha;subst ha;refine hQ' _ _ ⟨dv (fI.o iO B_.o qzH),?_⟩;refine Jz (i:=12) (by kernel_rfl) rfl (fun Q' hQ'=>?_);go_wp2_with fail;refine⟨Vg (by kernel_rfl),?_⟩;refine Jz (i:=13) (by kernel_rfl) rfl (fun Q' hQ'=>?_);go_wp2_with fail;refine⟨Vg (by kernel_rfl),?_⟩;refine Cs (by kernel_rfl) ?_ _;go_wp2_with fail;go_ret;have b3:=Vd (g:=gA) (k:=m) Ij.o (by have:=HNE.o;omega) (.slice A8 (alt.length+1) c8);have pN:=HB4.o.setCell (p:=⟨gA,m,none⟩) (Yg HNE.o.2.2.2.2) (.slice A8 (alt.length+1) c8);exact⟨true,rfl,pN,HK4.o,.inr ⟨.item done nm alts (alt++[(true,Jp txt)]),rfl,rfl,_,b3,css,_,_,_,_,_,_,Lc.o⟩⟩
 ·subst hk;go_enter Tryz.func269,Tryz.ntmps269;go_wp2_with fail;rw[<-jU];clear jU;generalize w.alloc (.cells #[.int .i64 4,.string (Jp txt),.int .i64 i] 220)=w1 at *;have Vh:=HBR.o w1 Em.o;have qO:=Ml.o.1;have za:=Ml.o.2;refine Text.wt (by kernel_rfl) fun Q' hQ'=>?_;go_wp2_with fail;refine⟨by rfl,?_⟩;go_wp2_with fail;refine Text.wt (by kernel_rfl) fun Q' hQ'=>?_;go_wp2_with fail;refine⟨by rfl,?_⟩;have Ej:=Lt (w1.drew.drew.heap[R]? = some (.cells #[.slice (some ⟨g,0,none⟩) (done.length+1) c,Um R (.item done nm alts alt),.bool true] 219 (0,0))) (Em.o);have Hf:=Lt (w1.drew.drew.heap[K0]? = some (.cells #[.int .i64 4,.string (Jp txt),.int .i64 i] 220 (0,0))) (pX.o);have fH:=Lh (Tp.o.below ((Xr w1.heap.size w1).drew.drew));have HBD:=Lh (HB0.o.drew.drew);have wV:=Lh (ip.o.trans (Jg.of_below ((Xr w1.heap.size w1).drew.drew)));have HCD:=Lt (w1.drew.drew.cell? ⟨g,n*2+1,none⟩=some (.slice (some ⟨gA,0,none⟩) M c2)/\w1.drew.drew.cell? ⟨gA,m,none⟩=some vI) (Ml.o);clear Em pX Tp HB0 ip Ml Vh qO za;generalize w1.drew.drew=wd at *;have hk0:=(HKR.o wd Hf.o).1;go_wp2_with fail;refine (qbD wd R (R+1) g done.length c (alts.length+1) B1 css.flatten (.string nm) (Um R (.item done nm alts alt)) (.bool true) (.slice (some ⟨gA,0,none⟩) (alts.length+1) c2) (cA++[vI]) Ej.o fH.o.lines (dJ fH.o.dn) fH.o.row (by have h1:=fH.o.b12;have h2:=fH.o.b2;omega) (by have:=HEQ.o;omega) (by have:=HEQ.o;omega)).mono ?_;rintro e w4 ⟨rfl,Ov,w2,w3,Ja,mN,hown,rfl⟩;have HM2:=Lh (fH.o.below Ja);have HM3:=Lh (Rr.bar HM2.o (by decide) (by decide) (by decide) hown mN (k:=done.length*2+1) (by omega));have Tt:=Lh ((Ja.block R (gl Ej.o)).trans Ej.o);have Gr:=Lh (Vd (g:=g) (k:=done.length*2+1) (Zq HM2.o.row mN Tt.o (by decide)) (by have:=HNE.o;omega) Ov);have HB3:=Lh ((Zt (HBD.o.trans (Ja.mono (Yg (gl Ej.o)))) mN HM2.o.row (by have:=HM2.o.nB;omega) (Yg (gl Tt.o))).setCell (p:=⟨g,done.length*2+1,none⟩) (Yg HNE.o.2.2.2.1) Ov);have lC:=Lt (Jg [220] w (w3.setCell ⟨g,done.length*2+1,none⟩ Ov)) (by
   obtain⟨g',c',e,_,_,_,_,⟨cur,pK⟩,_⟩:=Ks (Vr HM2.o.lines HM2.o.row (by decide) mN)
   injection e with e
   injection e with e
   injection e with e
   subst e
   exact ((wV.o.trans (.of_below Ja)).trans (.of_grown HM2.o.row mN (by decide))).trans (Vm pK (by decide) Ov))
  clear Ja mN hown HM2 Tt wV;generalize w3.setCell ⟨g,done.length*2+1,none⟩ Ov=w5 at *;go_wp2_with fail;go_ret;exact⟨true,rfl,HB3.o,lC.o,.inr ⟨.item done nm (alts++[alt]) [],rfl,rfl,_,Gr.o,css,_,_,_,_,_,_,HM3.o⟩⟩
 ·subst hk;go_enter Tryz.func269,Tryz.ntmps269;go_wp2_with fail;rw[<-jU];clear jU;generalize w.alloc (.cells #[.int .i64 5,.string (Jp txt),.int .i64 i] 220)=w1 at *;have Vh:=HBR.o w1 Em.o;have qO:=Ml.o.1;have za:=Ml.o.2;refine Text.wt (by kernel_rfl) fun Q' hQ'=>?_;go_wp2_with fail;refine⟨by rfl,?_⟩;go_wp2_with fail;refine Text.wt (by kernel_rfl) fun Q' hQ'=>?_;go_wp2_with fail;refine⟨by rfl,?_⟩;have Ej:=Lt (w1.drew.drew.heap[R]? = some (.cells #[.slice (some ⟨g,0,none⟩) (done.length+1) c,Um R (.item done nm alts alt),.bool true] 219 (0,0))) (Em.o);have Hf:=Lt (w1.drew.drew.heap[K0]? = some (.cells #[.int .i64 5,.string (Jp txt),.int .i64 i] 220 (0,0))) (pX.o);have fH:=Lh (Tp.o.below ((Xr w1.heap.size w1).drew.drew));have HBD:=Lh (HB0.o.drew.drew);have wV:=Lh (ip.o.trans (Jg.of_below ((Xr w1.heap.size w1).drew.drew)));have HCD:=Lt (w1.drew.drew.cell? ⟨g,n*2+1,none⟩=some (.slice (some ⟨gA,0,none⟩) M c2)/\w1.drew.drew.cell? ⟨gA,m,none⟩=some vI) (Ml.o);clear Em pX Tp HB0 ip Ml Vh qO za;generalize w1.drew.drew=wd at *;have hk0:=(HKR.o wd Hf.o).1;have r1:wd.cell? ⟨R,1,none⟩=some (Um R (.item done nm alts alt)):=Xc Ej.o rfl;have r2:wd.cell? ⟨R,2,none⟩=some (.bool true):=Xc Ej.o rfl;have f1:wd.frozen? ⟨R,1,none⟩=false:=by simp[World.frozen?,Ej.o]
  have f2:wd.frozen? ⟨R,2,none⟩=false:=by simp[World.frozen?,Ej.o]
  go_wp2_with fail;go_ret;have hs:=fH.o.semi;have b2:=Kj (k:=1) Ej.o (Um R (.name (done++[(nm,alts++[alt])])));have b3:=Kj (k:=2) b2 (.bool false);have m2:=hs.set (k:=1) Ej.o (Ye R) (by decide) (Um R (.name (done++[(nm,alts++[alt])])));have m3:=m2.set (k:=2) b2 (Ye R) (by decide) (.bool false);have pN:=(HBD.o.setCell (p:=⟨R,1,none⟩) (Ya _) (Um R (.name (done++[(nm,alts++[alt])])))).setCell (p:=⟨R,2,none⟩) (Ya _) (.bool false);have qM:=(wV.o.trans (Vm (k:=1) Ej.o (by decide) (Um R (.name (done++[(nm,alts++[alt])]))))).trans (Vm (k:=2) b2 (by decide) (.bool false));exact⟨true,rfl,pN,qM,.inr ⟨.name (done++[(nm,alts++[alt])]),rfl,rfl,_,b3,_,m3⟩⟩
 ·have d1:((k:Int)==1)=false:=by simp;omega
  have d2:((k:Int)==2)=false:=by simp;omega
  have d4:((k:Int)==4)=false:=by simp;omega
  have d5:((k:Int)==5)=false:=by simp;omega
  have HST:=Lt (Gx (.item done nm alts alt) (k,txt,i)=none) (by
   show (if k=1\/k=2 then _ else if k=4 then _ else if k=5 then _ else none)=none
   rw[if_neg (by omega),if_neg k4,if_neg k5])
  go_enter Tryz.func269,Tryz.ntmps269;go_wp2_with fail;rw[<-jU];clear jU;generalize w.alloc (.cells #[.int .i64 k,.string (Jp txt),.int .i64 i] 220)=w1 at *;have Vh:=HBR.o w1 Em.o;have qO:=Ml.o.1;have za:=Ml.o.2;refine Text.wt (by kernel_rfl) fun Q' hQ'=>?_;go_wp2_with fail;refine⟨by rfl,?_⟩;go_wp2_with fail;refine Text.wt (by kernel_rfl) fun Q' hQ'=>?_;go_wp2_with fail;refine⟨by rfl,?_⟩;have Ej:=Lt (w1.drew.drew.heap[R]? = some (.cells #[.slice (some ⟨g,0,none⟩) (done.length+1) c,Um R (.item done nm alts alt),.bool true] 219 (0,0))) (Em.o);have Hf:=Lt (w1.drew.drew.heap[K0]? = some (.cells #[.int .i64 k,.string (Jp txt),.int .i64 i] 220 (0,0))) (pX.o);have fH:=Lh (Tp.o.below ((Xr w1.heap.size w1).drew.drew));have HBD:=Lh (HB0.o.drew.drew);have wV:=Lh (ip.o.trans (Jg.of_below ((Xr w1.heap.size w1).drew.drew)));have HCD:=Lt (w1.drew.drew.cell? ⟨g,n*2+1,none⟩=some (.slice (some ⟨gA,0,none⟩) M c2)/\w1.drew.drew.cell? ⟨gA,m,none⟩=some vI) (Ml.o);clear Em pX Tp HB0 ip Ml Vh qO za;generalize w1.drew.drew=wd at *;have hk0:=(HKR.o wd Hf.o).1;go_wp2_with fail;go_ret;exact⟨false,rfl,HBD.o,wV.o,.inl ⟨HST.o,rfl⟩⟩
theorem qbV{l:Wd}{t:Nat×Wd×Nat}(h:Er l=.ok t):t.2.1.length<=32:=by
 cases l with
 |nil=>cases h
 |cons c r =>
  change Bg c r=_ at h;unfold Bg at h
  repeat' split at h
  all_goals first
   |(cases h;done)
   |(injection h with h;subst h;show List.length _<=32;first | (simp;done) | (rw[Qq];omega))
def quA(s:Wd)(st:Nat×List Kr):Prop:=st.2.length<=st.1/\st.2.length<=s.length/\∀ t∈st.2,t.2.1.length<=32
theorem qrM{s:Wd}{a b:Nat×List Kr}(h:Gj s a=some b)(ha:quA s a):quA s b:=by
 have Ji:=(ke h);obtain⟨h1,h2,h3⟩:=ha;unfold Gj at h;split at h
 ·cases h
 ·split at h
  ·injection h with h;subst h;exact⟨Nat.le_succ_of_le h1,h2,h3⟩
  ·split at h
   ·injection h with h;subst h;exact⟨Yb h1 (Nat.le_add_right _ _),h2,h3⟩
   ·split at h
    ·rename_i t ht;injection h with h;subst h;have hp:=cU ht;refine⟨?_,?_,fun x hx=>?_⟩
     ·rw[Qe,Qf];omega
     ·rw[Qe,Qf];omega
     ·rcases Qh.1 hx with hx | hx
      ·exact h3 x hx
      ·rw[Qi.1 hx];show t.2.1.length<=32;exact qbV ht
    ·cases h
theorem qjN{s:Wd}:∀(f:Nat)(a:Nat×List Kr),quA s a->quA s (dj s f a)
 |0,_,h=>h
 |f+1,a,h=>by
  unfold dj;split
  ·exact h
  ·rename_i b hb;exact qjN f b (qrM hb h)
theorem vw(s:Wd):(Rv s).1.length<=65536/\∀ t∈(Rv s).1,t.2.1.length<=32:=by
 unfold Rv;split
 ·exact⟨Yf _,fun t ht=>by cases ht⟩
 ·rename_i hl;have hs:=qjN s.length (0,[]) (s:=s) ⟨Ya _,Yf _,fun t ht=>by cases ht⟩;unfold pz;split
  ·exact⟨by have:=hs.2.1;simp only;omega,hs.2.2⟩
  ·split <;> exact⟨Yf _,fun t ht=>by cases ht⟩
theorem fR{l:List Kr}{k:Nat}(h:k<l.length):(Dz l)[k*3]? = some (.int .i64 l[k].1)/\(Dz l)[k*3+1]? = some (.string (Jp l[k].2.1))/\(Dz l)[k*3+2]? = some (.int .i64 l[k].2.2):=by
 have hg:(l.map lI)[k]? = some (lI l[k]):=by rw[Qv,Qa h];rfl
 have hl:∀ cs∈l.map lI,cs.length=3:=fun cs hcs=>by obtain⟨t,_,rfl⟩:=Xa.1 hcs;rfl
 have h0:=Ob 3 (l.map lI) hl k 0 (lI l[k]) (.int .i64 l[k].1) hg rfl;have h1:=Ob 3 (l.map lI) hl k 1 (lI l[k]) (.string (Jp l[k].2.1)) hg rfl;have h2:=Ob 3 (l.map lI) hl k 2 (lI l[k]) (.int .i64 l[k].2.2) hg rfl;exact⟨h0,h1,h2⟩
theorem qjH{k:Nat}{st st':PSt}{t:Kr}(h:Gx st t=some st')(hs:qoN k st):qoN (k+1) st':=by
 cases st with
 |name done =>
  change (if t.1=1 then some (PSt.colon done (Jp t.2.1)) else none)=some st' at h
  split at h
  ·injection h with h;subst h;exact Nat.succ_le_succ hs
  ·cases h
 |colon done nm =>
  change (if t.1=3 then some (PSt.item done nm [] []) else none)=some st' at h
  split at h
  ·injection h with h;subst h;exact⟨Nat.le_succ_of_le hs,Yf _,Yf _⟩
  ·cases h
 |item done nm alts alt =>
  obtain⟨h1,h2,h3⟩:=hs;change (if t.1=1\/t.1=2 then some (PSt.item done nm alts (alt++[(decide (t.1=2),Jp t.2.1)])) else if t.1=4 then some (PSt.item done nm (alts++[alt]) []) else if t.1=5 then some (PSt.name (done++[(nm,alts++[alt])])) else none)=some st' at h
  split at h
  ·injection h with h;subst h;exact⟨by omega,by omega,by rw[Qe,Qf];omega⟩
  ·split at h
   ·injection h with h;subst h;exact⟨by omega,by rw[Qe,Qf];omega,Yf _⟩
   ·split at h
    ·injection h with h;subst h;show List.length _<=_;rw[Qe,Qf];omega
    ·cases h
theorem rK(l:Wd):(Jp l).size=l.length:=by
 show l.toArray.size=_;simp
theorem qiO(R:Nat)(st:PSt)(t:Kr)(w:World)(h:yA w R st)(hl:qoN 65535 st)(ht:t.2.1.length<=32):Calls Tryz.prog (yF st) #[.pointer (some ⟨R,0,none⟩),.agg #[.int .i64 t.1,.string (Jp t.2.1),.int .i64 t.2.2]] w (ia R st t w):=by
 have hs:(Jp t.2.1).size<=maxLen:=by rw[rK];unfold maxLen;omega
 cases st with
 |name done=>exact qkL R done t.1 t.2.2 t.2.1 w h (by have:done.length<=65535:=hl;omega) hs
 |colon done nm=>exact qgC R done nm t.1 t.2.2 t.2.1 w h (by have:done.length+1<=65535:=hl;omega)
 |item done nm alts alt =>
  obtain⟨h1,h2,h3⟩:=hl;exact xd R done nm alts alt t.1 t.2.2 t.2.1 w h (by omega) (by omega) (by omega) hs
theorem qbO(st:PSt)(args:Array Value)(w:World):(callFunc (yF st) args).run Tryz.prog w=.ok (.enter (yF st) args) w:=by
 cases st <;> kernel_rfl
def sn:fJ Ke:=Ca Nk (Th (Th (Ca bh Nk)))
def Mm(l:Wd)(w:World)(e:Ending)(w':World):Prop:=∃ v,e=.returned (.tuple #[v,.int .i64 (Ms l).2.1,.int .i64 (Ms l).2.2])/\Je sn w' w'.heap.size v (Ms l).1/\Below w.heap.size w w'
theorem Mm.of{l:Wd}{w w':World}{v:Value}{d:List Ke}{i e:Nat}(h:Ms l=(d,i,e))(ho:Je sn w' w'.heap.size v d)(hb:Below w.heap.size w w'):Mm l w (.returned (.tuple #[v,.int .i64 i,.int .i64 e])) w':=by
 unfold Mm;rw[h];exact⟨v,rfl,ho,hb⟩
theorem qgS(s:ByteArray)(w:World)(hs:s.size<=maxLen):Calls Tryz.prog 110 #[.string s] w (Mm s.data.toList w):=by
 have Ab:=hs;unfold maxLen at hs;have Nh:=Lh (show s.data.toList.length=s.size by simp);have pY:=Lh (vw s.data.toList);have HLX:=Lh (vy s w Ab);obtain⟨toks,xS,er,hF⟩:∃ toks xS er,Rv s.data.toList=(toks,xS,er):=⟨_,_,_,rfl⟩;have HF:=Lh hF;rw[hF] at pY;unfold pA at HLX;rw[hF] at HLX;simp only at pY HLX;clear hF;by_cases her:er=0
 ·subst her;go_enter Tryz.func110,Tryz.ntmps110;go_wp2_with fail;refine HLX.o.mono ?_;rintro e w1 ⟨vT,rfl,hown,hb1⟩;obtain⟨AT,cT,rfl,hT1,hT2⟩:=Zo hown;unfold maxLen at hT2;have HOWN:=Lh hown;have HB1:=Lh hb1;clear hown hb1;obtain⟨n,hn⟩:=Xe toks.length;rw[<-hn] at hT1 HOWN |-;have HN:=Lh hn;clear hn;go_wp2_with fail;obtain⟨R,hR⟩:=Xe w1.heap.size;have HW2:=Lh (Xn w1 (.cells #[.slice none 0 0,Um R (.name []),.bool false] 219));have HZ2:=Lh (Xs w1 (.cells #[.slice none 0 0,Um R (.name []),.bool false] 219));have Ja:Below w1.heap.size w1 (w1.alloc (.cells #[.slice none 0 0,Um R (.name []),.bool false] 219)):=(Xr _ _).alloc (Ya _) _;have zhX:=Lh (Zy HOWN.o Ja);have HB2:=Lh (HB1.o.trans (Ja.mono HB1.o.size));have HRW:=Lh (show w.heap.size<=R by rw[hR];exact HB1.o.size);have HTR:=Lh (show ∀ b off,AT=some ⟨b,off,none⟩->b<R from fun b off e=>by
   rcases HOWN.o.2 with ⟨h0,_⟩ | ⟨g,cap,cur,hv,_,hh,_⟩
   ·injection h0 with h0;rw[e] at h0;cases h0
   ·injection hv with hv
    rw[e] at hv
    injection hv with hv
    injection hv with hv
    rw[hv,hR]
    exact (gl hh))
  rw[<-hR] at HW2 HZ2 |-;clear Ja hR HOWN;change Code.wp _ _ _ _ (w1.alloc (.cells #[.slice none 0 0,Um R (.name []),.bool false] 219));generalize w1.alloc (.cells #[.slice none 0 0,Um R (.name []),.bool false] 219)=w2 at *;have HR0:=Lt (yA w2 R (.name [])) (⟨_,HW2.o,[],Yz _ _ _ _,Vj.nil _ _ _,by rw[HZ2.o];exact Ya _⟩);have HBW:=Lh (Xr R w2);have HRUN0:=Lt (Lp (.name []) (toks.take 0)=some (.name [])) (rfl);have HLE0:=Lt (qoN 0 (.name [])) (Ya _);go_loopw [30] (fun v30 wr=>∃(k:Nat)(st:PSt),k<=n/\v30=.int .i64 k/\Hid (Lp (.name []) (toks.take k)=some st)/\Hid (qoN k st)/\Hid (yA wr R st)/\Hid (Below R w2 wr)) (fun v30 _=>n - (intOf v30).toNat);exact⟨0,.name [],by omega,rfl,HRUN0.o,HLE0.o,HR0.o,HBW.o⟩;clear HR0 HBW HRUN0 HLE0;obtain⟨k,st,hk,rfl,HRUN,HLE,HR,HB⟩:=hrel;by_cases Ji:k<n
  ·have qM:k<toks.length:=by rw[<-HN.o];exact Ji
   have hk5:k<=65535:=by have:=pY.o.1;omega
   obtain⟨t0,t1,t2⟩:=fR qM;obtain⟨bT,oT,hAT,_,hcT⟩:=Rd.of_own zhX.o (fun e=>by rw[e] at t0;simp at t0);have hbR:=HTR.o bT oT hAT;have c0:=(HB.o.cell (p:=⟨bT,oT+k*3,none⟩) hbR).trans (hcT _ _ t0);have c1:=(HB.o.cell (p:=⟨bT,oT+(k*3+1),none⟩) hbR).trans (hcT _ _ t1);have c2:=(HB.o.cell (p:=⟨bT,oT+(k*3+2),none⟩) hbR).trans (hcT _ _ t2);rw[<-Yx] at c1 c2;have qwX:=Lh (pY.o.2 toks[k] (Qg qM));have yD:=Lt (toks.take (k+1)=toks.take k++[toks[k]]) (Qc qM);have Rw:=Lh (fun hb=>sY (len:=s.data.toList.length) qM HRUN.o hb);clear hcT t0 t1 t2;subst hAT;generalize toks[k]=tk at *;clear qM;obtain⟨kd,txt,ti⟩:=tk;simp only at c0 c1 c2 qwX Rw;obtain⟨vL,We,Ux⟩:=HR.o;have zgN:=(gl We);have hb3:Below wr.heap.size wr (wr.alloc (.cells #[.int .i64 kd,.string (Jp txt),.int .i64 ti] 220)):=(Xr _ _).alloc (Ya _) _;have Gr:=Lh ((hb3.block R zgN).trans We);have HR3:=Lh (HR.o.below hb3);have HB3:=Lh (HB.o.trans (hb3.mono (Yg zgN)));have HTK:=Lh (Xn wr (.cells #[.int .i64 kd,.string (Jp txt),.int .i64 ti] 220));obtain⟨K0,jU⟩:=Xe wr.heap.size;rw[<-jU] at HTK;clear We Ux hb3 HR;go_wp2_with fail;rw[<-jU];clear jU c0 c1 c2;generalize wr.alloc (.cells #[.int .i64 kd,.string (Jp txt),.int .i64 ti] 220)=w3 at *;have r1:w3.cell? ⟨R,1,none⟩=some (Um R st):=Xc Gr.o rfl;have k0:w3.cell? ⟨K0,0,none⟩=some (.int .i64 kd):=Xc HTK.o rfl;have k1:w3.cell? ⟨K0,1,none⟩=some (.string (Jp txt)):=Xc HTK.o rfl;have k2:w3.cell? ⟨K0,2,none⟩=some (.int .i64 ti):=Xc HTK.o rfl;have HW:=Lh (qiO R st (kd,txt,ti) w3.drew (HR3.o.below ((Xr w3.heap.size w3).drew)) (by
    have:=HLE.o
    cases st with
    |name done=>exact Yb this hk5
    |colon done nm=>exact Yb this hk5
    |item done nm alts alt=>exact⟨Yb this.1 hk5,Yb this.2.1 hk5,Yb this.2.2 hk5⟩) qwX.o)
   have hF:=qbO st;rw[show Um R st=.func (.func (yF st)) #[.pointer (some ⟨R,0,none⟩)] #[] from rfl] at r1;generalize yF st=F at *;refine Text.wt (by kernel_rfl) fun Q' hQ'=>?_;go_wp2_with fail;refine HW.o.mono ?_;rintro e w4 ⟨b,rfl,hb4,yo,hst⟩;have HB4:=Lh (HB3.o.drew.trans hb4);rcases hst with ⟨hn,rfl⟩ | ⟨st',hs',rfl,xQ⟩
   ·have k4:w4.cell? ⟨K0,2,none⟩=some (.int .i64 ti):=by
     rw[Zc _ _ _ _ _ _ (yo.2 K0 _ _ (by simp) (show w3.drew.heap[K0]? = _ from HTK.o))];rfl
    have Ju:=Lh (show Ms s.data.toList=([],ti,14) by
     unfold Ms
     rw[HF.o,if_neg (by simp)]
     exact Rw.o hn)
    have sr:=Lh (HB2.o.trans (HB4.o.mono HRW.o));clear hb4 yo hn;go_wp2_with fail;refine⟨by rfl,?_⟩;go_wp2_with fail;refine Text.wt (by kernel_rfl) fun Q' hQ'=>?_;go_wp2_with fail;refine⟨by rfl,?_⟩;go_wp2_with fail;refine Zg (Zh rfl _ _ _) rfl ?_;exact Mm.of Ju.o Je.nil_ sr.o.drew
   ·have HR':=Lh xQ;have HRUN':=Lh (show Lp (.name []) (toks.take (k+1))=some st' by rw[yD.o];exact cZ HRUN.o hs');have HLE':=Lh (qjH hs' HLE.o);clear hb4 yo xQ hs';go_wp2_with fail;refine⟨by rfl,?_⟩;go_wp2_with fail;go_roundw;exact⟨k+1,st',by omega,by go_num,HRUN'.o,HLE'.o,HR'.o,HB4.o⟩;simp[intOf];omega
  ·obtain rfl:k=n:=by omega
   have Cq:=Lh (show Ms s.data.toList=jk s.data.toList.length st [] by
    unfold Ms
    rw[HF.o,if_neg (by simp)]
    have h:=HRUN.o
    rw[Qd (by rw[<-HN.o];exact Ya _)] at h
    exact gC h)
   rw[Nh.o] at Cq;have sr:=Lh (HB2.o.trans (HB.o.mono HRW.o));cases st with
   |name done =>
    obtain⟨vL,We,css,Ux⟩:=HR.o;obtain⟨AL,cL,rfl,hL1,hL2⟩:=Zo Ux.lines;have r0:wr.cell? ⟨R,0,none⟩=some (.slice AL done.length cL):=Xc We rfl;have r2:wr.cell? ⟨R,2,none⟩=some (.bool false):=Xc We rfl;have HSL:=Lt (Je sn wr wr.heap.size (.slice AL done.length cL) done) (Ux.sl);clear We Ux HR;by_cases hd:done=[]
    ·have Ju:=Lt (Ms s.data.toList=([],s.size,14)) (Cq.o.trans (if_pos hd));subst hd;go_wp2_with fail;refine Zg (Zh rfl _ _ _) rfl ?_;exact Mm.of Ju.o Je.nil_ sr.o
    ·have Ju:=Lt (Ms s.data.toList=(done,0,0)) (Cq.o.trans (if_neg hd));have Dg:((done.length:Int)==0)=false:=by
      have:=Qy.2 hd;simp;exact hd
     go_wp2_with fail;refine Zg (Zh rfl _ _ _) rfl ?_;exact Mm.of Ju.o HSL.o sr.o
   |colon done nm =>
    obtain⟨vL,We,_⟩:=HR.o;have r2:wr.cell? ⟨R,2,none⟩=some (.bool true):=Xc We rfl;have Ju:=Lt (Ms s.data.toList=([],s.size,14)) (Cq.o);clear We;go_wp2_with fail;refine Zg (Zh rfl _ _ _) rfl ?_;exact Mm.of Ju.o Je.nil_ sr.o
   |item done nm alts alt =>
    obtain⟨vL,We,_⟩:=HR.o;have r2:wr.cell? ⟨R,2,none⟩=some (.bool true):=Xc We rfl;have Ju:=Lt (Ms s.data.toList=([],s.size,14)) (Cq.o);clear We;go_wp2_with fail;refine Zg (Zh rfl _ _ _) rfl ?_;exact Mm.of Ju.o Je.nil_ sr.o
 ·have g0:((er:Int) != 0)=true:=by simp;omega
  have Ju:=Lh (show Ms s.data.toList=([],xS,er) by
   unfold Ms
   rw[if_pos (by rw[HF.o];exact her),HF.o])
  go_enter Tryz.func110,Tryz.ntmps110;go_wp2_with fail;refine HLX.o.mono ?_;rintro e w1 ⟨vT,rfl,hown,hb1⟩;have HB1:=Lh hb1;clear hown hb1;go_wp2_with fail;refine Zg (Zh rfl _ _ _) rfl ?_;exact Mm.of Ju.o Je.nil_ HB1.o
theorem Oc{w:World}{B:Nat}{cs:List Value}{x:Ke}(h:sn.rep w B cs x):∃ v,cs=[.string x.1,v]/\x.1.size<=maxLen/\Je (Th (Ca bh Nk)) w B v x.2:=by
 obtain⟨c1,c2,rfl,⟨rfl,h1⟩,v,rfl,hs⟩:=h;exact⟨v,rfl,h1,hs⟩
def Da(l:List Ke):Nat:=(l.map fun x=>x.2.length).sum
def Hp(l:List Ke):Bool:=l.any fun x=>x.2.any fun a=>decide (64<a.length)
theorem mQ(l:List Ke):Rh l=(Hp l||decide (4096<Da l)||decide (256<l.length)):=rfl
theorem Hb(l:List Ke){k:Nat}(h:k<l.length):Da (l.take (k+1))=Da (l.take k)+l[k].2.length:=by
 unfold Da;rw[Qc h,Qt,List.sum_append];simp
theorem tQ(l:List Ke){k:Nat}(h:k<l.length):Hp (l.take (k+1))=(Hp (l.take k)||l[k].2.any fun a=>decide (64<a.length)):=by
 unfold Hp;rw[Qc h,List.any_append];simp
theorem zY(l:List Ke){k:Nat}(h:k<l.length)(ha:(l[k].2.any fun a=>decide (64<a.length))=true):Hp l=true:=by
 unfold Hp;rw[Xq];exact⟨l[k],Qg h,ha⟩
theorem qfK(v:Value)(l:List Ke)(w:World)(h:Je sn w w.heap.size v l)(hn:l.length<=1048576)(Or:∀ x∈l,x.2.length<=1048576) :
  Calls Tryz.prog 174 #[v] w fun e w'=>e=.returned (.bool (Rh l))/\Below w.heap.size w w':=by
 obtain⟨A1,c1,rfl,uD,wT⟩:=h.form;unfold maxLen at wT;have H:=Lh h;have iM:=Lh Or;clear h Or;obtain⟨n,hn'⟩:=Xe l.length;rw[<-hn'] at H uD hn |-;have HN:=Lh hn';clear hn';have HGR:=Lh (mQ l);go_enter Tryz.func174,Tryz.ntmps174;go_wp2_with fail;have H0:=Lt (Da (l.take 0)=0/\Hp (l.take 0)=false) (⟨rfl,rfl⟩);have HB0:=Lh (Xr w.heap.size w);go_loopw [3,10] (fun v3 v10 wr=>∃ k m:Nat,k<=n/\m<=k*1048576/\v3=.int .i64 m/\v10=.int .i64 k/\Hid (Da (l.take k)=m)/\Hid (Hp (l.take k)=false)/\Hid (Below w.heap.size w wr)) (fun _ v10 _=>n - (intOf v10).toNat);exact⟨0,0,by omega,by omega,rfl,rfl,H0.o.1,H0.o.2,HB0.o⟩;clear H0 HB0;obtain⟨k,m,hk,hm,rfl,rfl,HM,HL,HB⟩:=hrel;by_cases Ji:k<n
 ·have Eu:k<l.length:=by rw[<-HN.o];exact Ji
  obtain⟨b,off,cs,rfl,_,_,Zx,Zm⟩:=(H.o.below HB.o).get Eu (by decide);obtain⟨v2,rfl,_,Mi⟩:=Oc Zx;obtain⟨A2,c2,rfl,Ic,kX⟩:=Mi.form;unfold maxLen at kX;have dz:=Zm 0 _ rfl;have Cm:=Zm 1 _ rfl;simp only[show sn.size=2 from rfl,Yp,<-Yx] at dz Cm;have HS1:=Lh (Hb l Eu);have HS2:=Lh (tQ l Eu);have HS3:=Lh (zY l Eu);have si:=iM.o l[k] (Qg Eu);have HSL:=Lh (Mi.below ((Xr w.heap.size wr).alloc HB.o.size (.cells #[.string l[k].1,.slice A2 l[k].2.length c2] 227)));have HBX:=Lh (HB.o.alloc HB.o.size (.cells #[.string l[k].1,.slice A2 l[k].2.length c2] 227));clear Zm Mi Zx;generalize l[k]=x at *;obtain⟨nm,al⟩:=x;simp only at dz Cm HS1 HS2 HS3 si HSL HBX Ic;obtain⟨p,hp⟩:=Xe al.length;rw[<-hp] at Cm HS1 si HSL HBX Ic;have HP:=Lh hp;clear hp Eu;go_wp2_with fail;generalize wr.alloc (.cells #[.string nm,.slice A2 p c2] 227)=wx at *;have HQ0:=Lt (∀(j:Nat)(h:j<al.length),j<0->¬ 64<al[j].length) (fun j _ h=>by omega);have HBY:=Lh (Xr wx.heap.size wx);go_loopw [22] (fun v22 wy=>∃ j:Nat,j<=p/\v22=.int .i64 j/\Hid (∀(i:Nat)(h:i<al.length),i<j->¬ 64<al[i].length)/\Hid (Below wx.heap.size wx wy)) (fun v22 _=>p - (intOf v22).toNat);exact⟨0,by omega,rfl,HQ0.o,HBY.o⟩;clear HQ0 HBY;obtain⟨j,hj,rfl,HQ,HBY⟩:=hrel;by_cases Mn:j<p
  ·have hja:j<al.length:=by rw[<-HP.o];exact Mn
   obtain⟨b7,o7,cs,rfl,_,_,Zx,Zm⟩:=(HSL.o.below (HBY.o.mono HBX.o.size)).get hja (by decide);obtain⟨v7,rfl,hs7⟩:=Zx;obtain⟨A7,c7,rfl,hl7,yn⟩:=hs7.form;unfold maxLen at yn;have zb:=Zm 0 _ rfl;simp only[show (Th (Ca bh Nk)).size=1 from rfl,Yr,Yp] at zb;clear Zm hs7;by_cases zh:64<al[j].length
   ·have Ld:=Lh (show Rh l=true by
     rw[HGR.o,HS3.o (Xq.2 ⟨al[j],Qg hja,by simpa using zh⟩)];rfl)
    have g0:decide ((64:Int)<(al[j].length:Int))=true:=by simp;omega
    generalize al[j]=a at *;generalize a.length=q at *;clear zh;go_wp2_with fail;go_ret;exact⟨Kx (Zv Ld.o.symm),HBX.o.trans (HBY.o.mono HBX.o.size)⟩
   ·have g0:decide ((64:Int)<(al[j].length:Int))=false:=by simp;omega
    have HQ':=Lh (show ∀(i:Nat)(h:i<al.length),i<j+1->¬ 64<al[i].length from fun i h hi=>by
     by_cases e:i=j
     ·subst e;exact zh
     ·exact HQ.o i h (by omega))
    generalize al[j]=a at *;generalize a.length=q at *;clear zh;go_wp2_with fail;go_roundw;exact⟨j+1,by omega,by go_num,HQ'.o,HBY.o⟩;simp[intOf];omega
  ·obtain rfl:j=p:=by omega
   have HL':=Lh (show Hp (l.take (k+1))=false by
    rw[HS2.o,HL.o,Ys,List.any_eq_false]
    intro a ha
    obtain⟨i,hi,rfl⟩:=Qz ha
    have:=HQ.o i hi (by rw[HP.o];exact hi)
    simpa using this)
   have HM':=Lh (show Da (l.take (k+1))=m+j by rw[HS1.o,HM.o]);have HBZ:=Lh (HBX.o.trans (HBY.o.mono HBX.o.size));go_wp2_with fail;go_roundw;exact⟨k+1,m+j,by omega,by omega,by go_num,by go_num,HM'.o,HL'.o,HBZ.o⟩;simp[intOf];omega
 ·obtain rfl:k=n:=by omega
  have HTK:=Lt (l.take k=l) (Qd (by rw[<-HN.o];exact Ya _));rw[HTK.o] at HM HL;have Ju:=Lh (show Rh l=(decide (4096<m)||decide (256<k)) by rw[HGR.o,HL.o,HM.o,<-HN.o,Ys]);by_cases h1:4096<m
  ·have g1:decide ((4096:Int)<(m:Int))=true:=by simp;omega
   have HR1:=Lh (Ju.o.trans (show _=true by rw[Yv h1,Bool.true_or]));clear h1;go_wp2_with fail;go_ret;exact⟨Kx (Zv HR1.o.symm),HB.o⟩
  ·have g1:decide ((4096:Int)<(m:Int))=false:=by simp;omega
   have HR1:=Lh (Ju.o.trans (by rw[Yw h1,Ys]:_=decide (256<k)));have HR2:=Lh (show decide ((256:Int)<(k:Int))=decide (256<k) by rw[decide_eq_decide];omega);clear h1;go_wp2_with fail;go_ret;exact⟨Kx (Zv (by rw[HR1.o];first | exact HR2.o | (simp;done) | rfl)),HB.o⟩
def Gm:fJ (Int×Int):=Ca Wo Wo
theorem fD(s:ByteArray)(c:Nat):∀(j:Nat)(u:Value),(Rl s.data.toList)[j]? = some u->(bytesRow s c)[j]? = some u:=by
 intro j u hu;have hj:j<s.data.size:=by
  have:=(Qj.1 hu).1;rw[fF] at this;simpa using this
 rw[bytesRow_at s c j hj];unfold Rl at hu;rw[Qv,Qa (by simpa using hj)] at hu;simpa[ri] using hu
theorem qnM{P:Program}(w:World)(src dst e:TypeId)(s:ByteArray)(hs:P.underlying src=some .string)(hd:P.underlying dst=some (.slice e))(he:P.underlying e=some (.int .u8)) :
  ∃ w' c,(convert src dst (.string s)).run P w=.ok (.slice (some ⟨w.heap.size,0,none⟩) s.size c) w'/\Below w.heap.size w w'/\w'.heap.size=w.heap.size+1/\Rd w' (w.heap.size+1) (some ⟨w.heap.size,0,none⟩) (Rl s.data.toList):=by
 refine⟨_,_,run_bytes_of_string w src dst e s hs hd he,((Xr _ _).drew).alloc (Ya _) _,by simp,?_⟩;have Zm:=Rd.row (w:=w.drew.alloc (.cells (bytesRow s (grownCap w s.size 0 e)) e ((bytesRow s (grownCap w s.size 0 e)).size,(bytesRow s (grownCap w s.size 0 e)).size+1))) (B:=w.heap.size+1) (g:=w.heap.size) (heap_alloc_new w.drew _) (Ye _);intro hne;obtain⟨b,off,e1,hb,hc⟩:=Zm (by
  intro e1
  cases hl:Rl s.data.toList with
  |nil=>exact hne hl
  |cons u r =>
   have:=fD s (grownCap w s.size 0 e) 0 u (by rw[hl];rfl)
   rw[<-Array.getElem?_toList,e1] at this
   cases this)
 refine⟨b,off,e1,hb,fun j u hu=>hc j u ?_⟩;rw[Array.getElem?_toList];exact fD s _ j u hu
abbrev A_:=List (Int×List (Int×Int))
def Js:fJ (Int×List (Int×Int)):=Ca Wo (Th Gm)
theorem Me{w:World}{B:Nat}{cs:List Value}{r:Int×List (Int×Int)}(h:Js.rep w B cs r):∃ v,cs=[.int .i64 r.1,v]/\Je Gm w B v r.2/\-9223372036854775808<=r.1/\r.1<=9223372036854775807:=by
 obtain⟨c1,c2,rfl,⟨rfl,h1,h2⟩,v,rfl,hs⟩:=h;exact⟨v,rfl,hs,h1,h2⟩
theorem Nf{w:World}{B:Nat}{cs:List Value}{r:Int×Int}(h:Gm.rep w B cs r):cs=[.int .i64 r.1,.int .i64 r.2]/\-9223372036854775808<=r.1/\r.1<=9223372036854775807/\-9223372036854775808<=r.2/\r.2<=9223372036854775807:=by
 obtain⟨c1,c2,rfl,⟨rfl,h1,h2⟩,rfl,h3,h4⟩:=h;exact⟨rfl,h1,h2,h3,h4⟩
abbrev Sta:=Int×List (Int×Int)
abbrev Kf:=List Sta
def My(m:Kf)(k:Nat):Int:=(m.getD k (0,[])).1
def Mb(m:Kf)(k:Nat):List (Int×Int):=(m.getD k (0,[])).2
def Nw(m:Kf)(k:Nat)(sym:Int):Option Nat:=match (m.getD k (0,[])).2.find? (fun e=>decide (e.1=sym)) with
 |some e=>if 0<=e.2/\e.2<m.length then some e.2.toNat else none
 |none=>none
def dR(m:Kf):Nat->List Int->Option Nat
 |k,[]=>some k
 |k,b::r=>match Nw m k b with | some j=>dR m j r | none=>none
def Uq(m:Kf)(k:Nat)(l:List Int):Int:=match dR m k l with | some j=>My m j | none=>-1
theorem lJ(m:Kf)(k:Nat):Uq m k []=My m k:=rfl
theorem Vt(m:Kf)(k:Nat)(b:Int)(r:List Int):Uq m k (b::r)=match Nw m k b with | some j=>Uq m j r | none=>-1:=by
 simp only[Uq,dR];cases Nw m k b <;> rfl
def Mv(terms Gy:Int):Int->List (Int×Int)->Bool
 |_,[]=>true
 |last,e::r=>decide (last<e.1)&&decide (e.1<terms)&&decide (0<=e.2)&&decide (e.2<Gy)&&Mv terms Gy e.1 r
def Un(m:Kf)(terms:Int):Bool:=m.all (fun s=>decide (-1<=s.1)&&Mv terms m.length (-1) s.2)&&decide (m≠[])
theorem Pe{t s:Int}:∀{l:List (Int×Int)}{last:Int},Mv t s last l=true->(∀ e∈l,last<e.1/\e.1<t/\0<=e.2/\e.2<s)/\l.Pairwise (fun a b=>a.1<b.1)
 |[],_,_=>⟨by simp,List.Pairwise.nil⟩
 |e::r,last,h=>by
  simp only[Mv,Yl,Yj] at h;obtain⟨⟨⟨⟨h1,h2⟩,h3⟩,h4⟩,h5⟩:=h;obtain⟨g1,g2⟩:=Pe h5;refine⟨fun x hx=>?_,Qx.2 ⟨fun x hx=>(g1 x hx).1,g2⟩⟩;rcases List.mem_cons.1 hx with rfl | hx
  ·exact⟨h1,h2,h3,h4⟩
  ·obtain⟨k1,k2,k3,k4⟩:=g1 x hx;exact⟨by omega,k2,k3,k4⟩
theorem zA{t s:Int}:∀{l:List (Int×Int)}{last:Int},(∀ e∈l,last<e.1/\e.1<t/\0<=e.2/\e.2<s)->l.Pairwise (fun a b=>a.1<b.1)->Mv t s last l=true
 |[],_,_,_=>rfl
 |e::r,last,h1,h2=>by
  obtain⟨k1,k2,k3,k4⟩:=h1 e (Xh ..);obtain⟨g1,g2⟩:=Qx.1 h2;simp only[Mv,Yl,Yj];refine⟨⟨⟨⟨k1,k2⟩,k3⟩,k4⟩,zA (fun x hx=>?_) g2⟩;obtain⟨k1',k2',k3',k4'⟩:=h1 x (Xi _ hx);exact⟨g1 x hx,k2',k3',k4'⟩
structure Wm(m:Kf):Prop where
 some:m≠[]
 o:∀ k<m.length,-1<=My m k
 tos:∀ k<m.length,∀ e∈Mb m k,0<=e.1/\0<=e.2/\e.2<m.length
 rise:∀ k<m.length,(Mb m k).Pairwise (fun a b=>a.1<b.1)
theorem Bq{m:Kf}{k:Nat}(h:k<m.length):My m k=m[k].1:=by
 unfold My;rw[Qb,Qa h];rfl
theorem Ai{m:Kf}{k:Nat}(h:k<m.length):Mb m k=m[k].2:=by
 unfold Mb;rw[Qb,Qa h];rfl
theorem Fy{m:Kf}{t:Int}(h:Un m t=true):Wm m:=by
 unfold Un at h;simp only[Yl,Xp,Yj] at h;obtain⟨h1,h2⟩:=h;refine⟨h2,fun k hk=>?_,fun k hk e he=>?_,fun k hk=>?_⟩
 ·rw[Bq hk];exact (h1 _ (Qg hk)).1
 ·rw[Ai hk] at he;obtain⟨a,b,c,d⟩:=(Pe (h1 _ (Qg hk)).2).1 e he;exact⟨by omega,c,d⟩
 ·rw[Ai hk];exact (Pe (h1 _ (Qg hk)).2).2
theorem ta{m:Kf}{t:Int}(h:Un m t=true){k:Nat}(hk:k<m.length){e:Int×Int}(he:e∈Mb m k):e.1<t:=by
 unfold Un at h;simp only[Yl,Xp,Yj] at h;rw[Ai hk] at he;exact ((Pe (h.1 _ (Qg hk)).2).1 e he).2.1
theorem gQ{m:Kf}{t:Int}(h:Wm m)(ht:∀ k<m.length,∀ e∈Mb m k,e.1<t):Un m t=true:=by
 unfold Un;simp only[Yl,Xp,Yj];refine⟨fun s hs=>?_,h.some⟩;obtain⟨k,hk,rfl⟩:=Qz hs;refine⟨by rw[<-Bq hk];exact h.o k hk,zA (fun e he=>?_) ?_⟩
 ·rw[<-Ai hk] at he;obtain⟨a,b,c⟩:=h.tos k hk e he;exact⟨by omega,ht k hk e he,b,c⟩
 ·rw[<-Ai hk];exact h.rise k hk
theorem qfV{l:List (Int×Int)}(h:l.Pairwise (fun a b=>a.1<b.1)){e:Int×Int}(he:e∈l):l.find? (fun x=>decide (x.1=e.1))=some e:=by
 induction l with
 |nil=>cases he
 |cons a r ih =>
  obtain⟨g1,g2⟩:=Qx.1 h;rcases List.mem_cons.1 he with rfl | he
  ·rw[List.find?_cons_of_pos (by simp)]
  ·rw[List.find?_cons_of_neg (by have:=g1 e he;simp only[Yj];omega)];exact ih g2 he
theorem Vx{m:Kf}(hg:Wm m){k:Nat}(hk:k<m.length)(t:Int)(j:Nat):Nw m k t=some j↔(t,(j:Int))∈Mb m k:=by
 have hr:=hg.rise k hk;have ht:=hg.tos k hk;unfold Nw;unfold Mb at hr ht |-;constructor
 ·intro h;split at h
  ·rename_i e he;split at h
   ·rename_i h2;have h3:=List.mem_of_find?_eq_some he;have h4:=List.find?_some he;simp only[Yj] at h4;injection h with h;have:e=(t,(j:Int)):=Prod.ext h4 (by show e.2=(j:Int);omega)
    rwa [<-this]
   ·cases h
  ·cases h
 ·intro h;have h2:=qfV hr h;simp only at h2;rw[h2];have h3:=(ht _ h).2;simp only at h3 |-;rw[if_pos h3];simp
theorem De{m:Kf}{k:Nat}{t:Int}{j:Nat}(h:Nw m k t=some j):j<m.length:=by
 unfold Nw at h;split at h
 ·split at h
  ·cases h;omega
  ·cases h
 ·cases h
theorem nT(m:Kf):∀(a b:List Int)(k:Nat),dR m k (a++b)=(dR m k a).bind fun j=>dR m j b
 |[],_,_=>rfl
 |x::r,b,k=>by
  simp only[List.cons_append,dR];cases Nw m k x with
  |none=>rfl
  |some j=>exact nT m r b j
theorem tw{m:Kf}:∀{l:List Int}{k j:Nat},k<m.length->dR m k l=some j->j<m.length
 |[],k,j,hk,h=>by unfold dR at h;cases h;exact hk
 |b::r,k,j,hk,h=>by
  unfold dR at h;split at h
  ·rename_i i hi;exact tw (De hi) h
  ·cases h
def Oi(m:Kf)(i:Nat):Prop:=∃ l,dR m 0 l=some i
def kH(m:Kf)(i:Nat):Prop:=∃ l,Uq m i l≠-1
def Gs(m:Kf)(i j:Nat):Prop:=∀ l,Uq m i l=Uq m j l
def bX(m:Kf)(i:Nat):Prop:=Oi m i/\kH m i
theorem Ra{m:Kf}(hg:Wm m){i:Nat}(h:Oi m i):i<m.length:=by
 obtain⟨l,hl⟩:=h;exact tw (Qy.2 hg.some) hl
theorem Bl(m:Kf):Oi m 0:=⟨[],rfl⟩
theorem Bm{m:Kf}(hg:Wm m){i:Nat}(h:Oi m i){e:Int×Int}(he:e∈Mb m i):Oi m e.2.toNat:=by
 have hi:=Ra hg h;obtain⟨l,hl⟩:=h;have h2:=(hg.tos i hi e he).2;have h3:Nw m i e.1=some e.2.toNat:=(Vx hg hi e.1 e.2.toNat).2 (by rw[show ((e.2.toNat:Nat):Int)=e.2 by omega];exact he);refine⟨l++[e.1],?_⟩;rw[nT,hl];simp only[Option.bind_some,dR,h3]
theorem uf{m:Kf}(hg:Wm m){P:Nat->Prop}(h0:P 0)(hc:∀ i<m.length,P i->∀ e∈Mb m i,P e.2.toNat):∀{i:Nat},Oi m i->P i:=by
 intro i ⟨l,hl⟩;have key:∀(l:List Int)(k:Nat),k<m.length->P k->dR m k l=some i->P i:=by
  intro l
  induction l with
  |nil=>intro k _ hp h;unfold dR at h;cases h;exact hp
  |cons b r ih =>
   intro k hk hp h;unfold dR at h;split at h
   ·rename_i j hj;have h1:=(Vx hg hk b j).1 hj;have:=hc k hk hp _ h1;simp only[Yy] at this;exact ih j (De hj) this h
   ·cases h
 exact key l 0 (Qy.2 hg.some) h0 hl
theorem th{m:Kf}(hg:Wm m){i:Nat}(hi:i<m.length){e:Int×Int}(he:e∈Mb m i)(h:kH m e.2.toNat):kH m i:=by
 obtain⟨l,hl⟩:=h;have h2:=(hg.tos i hi e he).2;have h3:Nw m i e.1=some e.2.toNat:=(Vx hg hi e.1 e.2.toNat).2 (by rw[show ((e.2.toNat:Nat):Int)=e.2 by omega];exact he);refine⟨e.1::l,?_⟩;rw[Vt,h3];exact hl
theorem qbY{m:Kf}{i:Nat}(h:0<=My m i):kH m i:=⟨[],by rw[lJ];omega⟩
theorem tg{m:Kf}(hg:Wm m){P:Nat->Prop}(h0:∀ i<m.length,0<=My m i->P i)(hc:∀ i<m.length,∀ e∈Mb m i,P e.2.toNat->P i):∀{i:Nat},i<m.length->kH m i->P i:=by
 intro i hi ⟨l,hl⟩
 induction l generalizing i with
 |nil =>
  rw[lJ] at hl;have:=hg.o i hi;exact h0 i hi (by omega)
 |cons b r ih =>
  rw[Vt] at hl;split at hl
  ·rename_i j hj;have h1:=(Vx hg hi b j).1 hj;exact hc i hi _ h1 (by simp only[Yy];exact ih (De hj) hl)
  ·exact absurd rfl hl
theorem pC{m:Kf}{i j:Nat}(h:Gs m i j)(t:Int)(r:List Int):(match Nw m i t with | some x=>Uq m x r | none=>-1)=(match Nw m j t with | some x=>Uq m x r | none=>-1):=by
 have:=h (t::r)
 rwa [Vt,Vt] at this
theorem zO{m:Kf}{i:Nat}(h:¬ kH m i)(l:List Int):Uq m i l=-1:=Classical.byContradiction fun h2=>h ⟨l,h2⟩
theorem Sr{m:Kf}{i j:Nat}(h:Gs m i j):Gs m j i:=fun l=>(h l).symm
def Ry(m:Kf)(use:Nat->Bool)(c:Nat->Int)(i:Nat):Int×Int×List (Int×Int):=(c i,My m i,((Mb m i).filter fun e=>use e.2.toNat).map fun e=>(e.1,c e.2.toNat))
def Og(m:Kf)(use:Nat->Bool):Prop:=∀ i<m.length,use i=true↔bX m i
theorem Bb{m:Kf}(hg:Wm m){use:Nat->Bool}{c:Nat->Int}{i:Nat}(hi:i<m.length)(b v:Int):(b,v)∈(Ry m use c i).2.2↔∃ x,Nw m i b=some x/\use x=true/\c x=v:=by
 unfold Ry;simp only[Xa,Qw,Prod.mk.injEq];constructor
 ·rintro⟨e,⟨he,hu⟩,rfl,rfl⟩;have h2:=(hg.tos i hi e he).2;exact⟨e.2.toNat,(Vx hg hi e.1 e.2.toNat).2 (by rw[show ((e.2.toNat:Nat):Int)=e.2 by omega];exact he),hu,rfl⟩
 ·rintro⟨x,hx,hu,rfl⟩;exact⟨(b,(x:Int)),⟨(Vx hg hi b x).1 hx,by simpa using hu⟩,rfl,by simp⟩
theorem lM{m:Kf}(hg:Wm m){use:Nat->Bool}(hu:Og m use){i:Nat}(hr:Oi m i)(b:Int)(r:List Int)(h:¬ ∃ x,Nw m i b=some x/\use x=true):Uq m i (b::r)=-1:=by
 rw[Vt];split
 ·rename_i x hx;have hi:=Ra hg hr;have hn:¬ bX m x:=fun h2=>h ⟨x,hx,(hu x (De hx)).2 h2⟩;have hrx:Oi m x:=by
   have:=Bm hg hr ((Vx hg hi b x).1 hx);simpa using this
  exact zO (fun ht=>hn ⟨hrx,ht⟩) r
 ·rfl
theorem db{m:Kf}(hg:Wm m){use:Nat->Bool}(hu:Og m use){c:Nat->Int}(hs:∀ i<m.length,∀ j<m.length,use i=true->use j=true->c i=c j->Ry m use c i=Ry m use c j) :
  ∀(l:List Int)(i j:Nat),i<m.length->j<m.length->use i=true->use j=true->c i=c j->Uq m i l=Uq m j l:=by
 intro l
 induction l with
 |nil =>
  intro i j hi hj ui uj hc;have:=hs i hi j hj ui uj hc;simp only[Ry,Prod.mk.injEq] at this;exact this.2.1
 |cons b r ih =>
  intro i j hi hj ui uj hc;have hsg:=hs i hi j hj ui uj hc;have hri:=((hu i hi).1 ui).1;have hrj:=((hu j hj).1 uj).1;by_cases h:∃ x,Nw m i b=some x/\use x=true
  ·obtain⟨x,hx,ux⟩:=h;have h1:(b,c x)∈(Ry m use c i).2.2:=(Bb hg hi b (c x)).2 ⟨x,hx,ux,rfl⟩;rw[hsg] at h1;obtain⟨y,hy,uy,hcy⟩:=(Bb hg hj b (c x)).1 h1;rw[Vt,Vt,hx,hy];exact ih x y (De hx) (De hy) ux uy hcy.symm
  ·rw[lM hg hu hri b r h];refine (lM hg hu hrj b r ?_).symm;rintro⟨y,hy,uy⟩;have h1:(b,c y)∈(Ry m use c j).2.2:=(Bb hg hj b (c y)).2 ⟨y,hy,uy,rfl⟩;rw[<-hsg] at h1;obtain⟨x,hx,ux,_⟩:=(Bb hg hi b (c y)).1 h1;exact h ⟨x,hx,ux⟩
theorem li:∀{l k:List (Int×Int)},l.Pairwise (fun a b=>a.1<b.1)->k.Pairwise (fun a b=>a.1<b.1)->(∀ e,e∈l↔e∈k)->l=k
 |[],k,_,_,h=>by
  cases k with
  |nil=>rfl
  |cons a r=>exact absurd ((h a).2 (Xh ..)) (by simp)
 |a::r,[],_,_,h=>absurd ((h a).1 (Xh ..)) (by simp)
 |a::r,b::s,h1,h2,h=>by
  obtain⟨p1,q1⟩:=Qx.1 h1;obtain⟨p2,q2⟩:=Qx.1 h2;have Lj:a=b:=by
   rcases List.mem_cons.1 ((h a).1 (Xh ..)) with e | e
   ·exact e
   ·rcases List.mem_cons.1 ((h b).2 (Xh ..)) with e2 | e2
    ·exact e2.symm
    ·have:=p2 a e;have:=p1 b e2;omega
  subst Lj;congr 1;refine li q1 q2 fun e=>⟨fun he=>?_,fun he=>?_⟩
  ·rcases List.mem_cons.1 ((h e).1 (Xi _ he)) with e2 | e2
   ·subst e2;have:=p1 e he;omega
   ·exact e2
  ·rcases List.mem_cons.1 ((h e).2 (Xi _ he)) with e2 | e2
   ·subst e2;have:=p2 e he;omega
   ·exact e2
theorem yU{m:Kf}(hg:Wm m)(use:Nat->Bool)(c:Nat->Int){i:Nat}(hi:i<m.length):(Ry m use c i).2.2.Pairwise (fun a b=>a.1<b.1):=by
 unfold Ry;simp only;rw[List.pairwise_map];exact List.Pairwise.filter _ (hg.rise i hi)
theorem vO{m:Kf}(hg:Wm m){use:Nat->Bool}(hu:Og m use){i j:Nat}(hj:j<m.length)(uj:use j=true)(ha:Gs m i j){b:Int}{x:Nat}(hx:Nw m i b=some x)(ux:use x=true) :
  ∃ y,Nw m j b=some y/\use y=true/\Gs m x y:=by
 obtain⟨l,hl⟩:=((hu x (De hx)).1 ux).2;have hb:=fun r=>pC ha b r;rw[hx] at hb;simp only at hb;cases hy:Nw m j b with
 |none =>
  have:=hb l;rw[hy] at this;exact absurd this hl
 |some y =>
  have Or:Gs m x y:=fun r=>by
   have:=hb r
   rwa [hy] at this
  refine⟨y,rfl,(hu y (De hy)).2 ⟨?_,l,?_⟩,Or⟩
  ·have:=Bm hg ((hu j hj).1 uj).1 ((Vx hg hj b y).1 hy);simpa using this
  ·rw[<-Or l];exact hl
theorem M_{m:Kf}(hg:Wm m){use:Nat->Bool}(hu:Og m use){c:Nat->Int}(hc:∀ i<m.length,∀ j<m.length,use i=true->use j=true->Gs m i j->c i=c j)
  {i j:Nat} (hi:i<m.length) (hj:j<m.length) (ui:use i=true) (uj:use j=true) (ha:Gs m i j):Ry m use c i=Ry m use c j:=by
 have h1:(Ry m use c i).2.2=(Ry m use c j).2.2:=by
  refine li (yU hg use c hi) (yU hg use c hj) fun e=>?_;obtain⟨b,v⟩:=e;rw[Bb hg hi,Bb hg hj];constructor
  ·rintro⟨x,hx,ux,rfl⟩;obtain⟨y,hy,uy,Or⟩:=vO hg hu hj uj ha hx ux;exact⟨y,hy,uy,(hc x (De hx) y (De hy) ux uy Or).symm⟩
  ·rintro⟨x,hx,ux,rfl⟩;obtain⟨y,hy,uy,Or⟩:=vO hg hu hi ui (Sr ha) hx ux;exact⟨y,hy,uy,(hc x (De hx) y (De hy) ux uy Or).symm⟩
 have h2:My m i=My m j:=ha [];exact Prod.ext (hc i hi j hj ui uj ha) (Prod.ext h2 h1)
theorem mW:∀(n:Nat)(l:List Nat),(∀ k<n,k∈l)->n<=l.length
 |0,_,_=>Yf _
 |n+1,l,h=>by
  have h1:=h n (by omega);have:=mW n (l.erase n) fun k hk=>(List.mem_erase_of_ne (by omega)).2 (h k (by omega));rw[List.length_erase_of_mem h1] at this;have:=List.length_pos_of_mem h1;omega
theorem oU:∀(n:Nat)(l:List Nat),l.length<=n->(∀ k<n,k∈l)->l.Nodup
 |0,l,h,_=>by
  have:l=[]:=Xw (by omega);subst this;exact List.nodup_nil
 |n+1,l,h,hc=>by
  have h1:=hc n (by omega);have hl:=List.length_erase_of_mem h1;have hcv:∀ k<n,k∈l.erase n:=fun k hk=>(List.mem_erase_of_ne (by omega)).2 (hc k (by omega));have h2:=oU n (l.erase n) (by omega) hcv;have h3:n∉l.erase n:=by
   intro h4;have h5:=mW n ((l.erase n).erase n) fun k hk=>(List.mem_erase_of_ne (by omega)).2 (hcv k hk);rw[List.length_erase_of_mem h4,hl] at h5;have:=List.length_pos_of_mem h1;have:=List.length_pos_of_mem h4;omega
  exact (List.perm_cons_erase h1).nodup_iff.2 (List.nodup_cons.2 ⟨h3,h2⟩)
theorem zP:∀(n:Nat)(l:List Nat),l.Nodup->(∀ x∈l,x<n)->l.length<=n
 |0,l,_,h=>by
  cases l with
  |nil=>simp
  |cons a r=>exact absurd (h a (Xh ..)) (by omega)
 |n+1,l,hn,h=>by
  have:=zP n (l.erase n) (hn.erase n) fun x hx=>by
   have h1:=h x (List.mem_of_mem_erase hx);have h2:x≠n:=fun e=>by subst e;exact (List.Nodup.not_mem_erase hn) hx
   omega
  by_cases h1:n∈l
  ·rw[List.length_erase_of_mem h1] at this;omega
  ·rw[List.erase_of_not_mem h1] at this;omega
def Ec(use:Nat->Bool)(a:Nat->Nat->Bool)(s:List Nat×List (Int×Int))(e:Int×Int):List Nat×List (Int×Int) :=
 if use e.2.toNat then (match s.1.findIdx? (a e.2.toNat) with
  |some n=>(s.1,s.2++[(e.1,(n:Int))])
  |none=>(s.1++[e.2.toNat],s.2++[(e.1,(s.1.length:Int))])) else s
def aC(m:Kf)(use:Nat->Bool)(a:Nat->Nat->Bool):Nat->List Nat×Kf
 |0=>([0],[])
 |n+1=>match (aC m use a n).1[n]? with
  |some x=>(((Mb m x).foldl (Ec use a) ((aC m use a n).1,[])).1,(aC m use a n).2++[(My m x,((Mb m x).foldl (Ec use a) ((aC m use a n).1,[])).2)])
  |none=>aC m use a n
def Pg:Nat->List (Int×Int)->Option Nat
 |n,[]=>some n
 |n,e::r=>if (n:Int)<e.2 then none else if e.2=(n:Int) then Pg (n+1) r else Pg n r
theorem Gk:∀(l k:List (Int×Int))(n:Nat),Pg n (l++k)=(Pg n l).bind fun j=>Pg j k
 |[],_,_=>rfl
 |e::r,k,n=>by
  simp only[List.cons_append,Pg];split
  ·rfl
  ·split
   ·exact Gk r k (n+1)
   ·exact Gk r k n
def e_(m:Kf)(q:List Nat)(es l:List (Int×Int)):Prop:=∀ t n,(t,n)∈l->∃(y k:Nat)(z:Nat),(t,(y:Int))∈es/\bX m y/\n=(k:Int)/\q[k]? = some z/\Gs m z y
theorem e_.mono{m:Kf}{q q':List Nat}{es l:List (Int×Int)}(h:e_ m q es l)(hp:q <+: q'):e_ m q' es l:=by
 intro t n hn;obtain⟨y,k,z,h1,h2,h3,h4,h5⟩:=h t n hn;obtain⟨u,rfl⟩:=hp;refine⟨y,k,z,h1,h2,h3,?_,h5⟩;rw[Qo (Qj.1 h4).1];exact h4
structure QOk(m:Kf)(q:List Nat):Prop where
 zero:q[0]? = some 0
 use:∀ x∈q,bX m x
 apart:q.Pairwise fun x y=>¬ Gs m x y
structure iw(m:Kf)(use:Nat->Bool)(q0 q:List Nat)(es l:List (Int×Int)):Prop where
 pre:q0 <+: q
 ok:QOk m q
 tos:e_ m q es l
 all:∀ e∈es,use e.2.toNat=true->∃ n,(e.1,n)∈l
 rise:l.Pairwise fun a b=>a.1<b.1
 ord:Pg q0.length l=some q.length
 new:∀ k,q0.length<=k->k<q.length->∃ t,(t,(k:Int))∈l
def qW(m:Kf)(a:Nat->Nat->Bool):Prop:=∀ i j,bX m i->bX m j->(a i j=true↔Gs m i j)
theorem be{m:Kf}{q:List Nat}{es l:List (Int×Int)}{e:Int×Int}{n:Nat}{z:Nat}(h:e_ m q es l)(he:0<=e.2)(hu:bX m e.2.toNat)(hz:q[n]? = some z)(ha:Gs m z e.2.toNat):e_ m q (es++[e]) (l++[(e.1,(n:Int))]):=by
 intro t k hk;rcases Qh.1 hk with hk | hk
 ·obtain⟨y,i,z',h1,h2⟩:=h t k hk;exact⟨y,i,z',List.mem_append_left _ h1,h2⟩
 ·simp only[Qi,Prod.mk.injEq] at hk;obtain⟨rfl,rfl⟩:=hk;refine⟨e.2.toNat,n,z,List.mem_append_right _ ?_,hu,rfl,hz,ha⟩;rw[show ((e.2.toNat:Nat):Int)=e.2 by omega];simp
theorem qfR{m:Kf}(hg:Wm m){use:Nat->Bool}(hu:Og m use){a:Nat->Nat->Bool}(Or:qW m a){x:Nat}(hx:bX m x){q0 q:List Nat}{done rest l:List (Int×Int)}{e:Int×Int}(hd:done++e::rest=Mb m x)
  (h:iw m use q0 q done l):iw m use q0 (Ec use a (q,l) e).1 (done++[e]) (Ec use a (q,l) e).2:=by
 have si:=Ra hg hx.1;have hem:e∈Mb m x:=by rw[<-hd];simp
 have het:=hg.tos x si e hem;have hr:=hg.rise x si;rw[<-hd] at hr;have Ji:∀ u∈l,u.1<e.1:=by
  intro u qJ;obtain⟨y,k,z,h1,-⟩:=h.tos u.1 u.2 qJ;exact (List.pairwise_append.1 hr).2.2 _ h1 e (Xh ..)
 have hlen:e.2.toNat<m.length:=by omega
 unfold Ec;by_cases hue:use e.2.toNat=true
 ·rw[if_pos hue];have qlJ:=(hu _ hlen).1 hue;simp only;cases hf:q.findIdx? (a e.2.toNat) with
  |some n =>
   simp only;rw[List.findIdx?_eq_some_iff_getElem] at hf;obtain⟨hn,hp,-⟩:=hf;have hz:=h.ok.use _ (Qg hn);have hA:=(Or _ _ qlJ hz).1 hp;refine⟨h.pre,h.ok,be h.tos het.2.1 qlJ (Qa hn) (Sr hA),?_,?_,?_,?_⟩
   ·intro e' wS ue';rcases Qh.1 wS with wS | wS
    ·obtain⟨k,hk⟩:=h.all e' wS ue';exact⟨k,List.mem_append_left _ hk⟩
    ·rw[Qi] at wS;subst wS;exact⟨n,by simp⟩
   ·refine List.pairwise_append.2 ⟨h.rise,List.pairwise_singleton ..,fun u qJ v hv=>?_⟩;rw[Qi] at hv;subst hv;exact Ji u qJ
   ·rw[Gk,h.ord];simp only[Option.bind_some,Pg];rw[if_neg (by omega),if_neg (by omega)]
   ·intro k h1 h2;obtain⟨t,ht⟩:=h.new k h1 h2;exact⟨t,List.mem_append_left _ ht⟩
  |none =>
   simp only;rw[List.findIdx?_eq_none_iff] at hf;have Bw:q <+: q++[e.2.toNat]:=List.prefix_append ..;have hq0:0<q.length:=by
    have:=(Qj.1 h.ok.zero).1;exact this
   refine⟨h.pre.trans Bw,⟨?_,?_,?_⟩,be (h.tos.mono Bw) het.2.1 qlJ (z:=e.2.toNat) (by simp) (fun _=>rfl),?_,?_,?_,?_⟩
   ·rw[Qo hq0];exact h.ok.zero
   ·intro y hy;rcases Qh.1 hy with hy | hy
    ·exact h.ok.use y hy
    ·rw[Qi] at hy;subst hy;exact qlJ
   ·refine List.pairwise_append.2 ⟨h.ok.apart,List.pairwise_singleton ..,fun u qJ v hv=>?_⟩;rw[Qi] at hv;subst hv;intro hA;have h1:=hf u qJ;have:=(Or _ _ qlJ (h.ok.use u qJ)).2 (Sr hA);simp[this] at h1
   ·intro e' wS ue';rcases Qh.1 wS with wS | wS
    ·obtain⟨k,hk⟩:=h.all e' wS ue';exact⟨k,List.mem_append_left _ hk⟩
    ·rw[Qi] at wS;subst wS;exact⟨q.length,by simp⟩
   ·refine List.pairwise_append.2 ⟨h.rise,List.pairwise_singleton ..,fun u qJ v hv=>?_⟩;rw[Qi] at hv;subst hv;exact Ji u qJ
   ·rw[Gk,h.ord];simp[Pg]
   ·intro k h1 h2;by_cases hk:k<q.length
    ·obtain⟨t,ht⟩:=h.new k h1 hk;exact⟨t,List.mem_append_left _ ht⟩
    ·simp only[Qe,Qf] at h2;have:k=q.length:=by omega
     subst this;exact⟨e.1,by simp⟩
 ·rw[if_neg hue];refine⟨h.pre,h.ok,?_,?_,h.rise,h.ord,h.new⟩
  ·intro t k hk;obtain⟨y,i,z',h1,h2⟩:=h.tos t k hk;exact⟨y,i,z',List.mem_append_left _ h1,h2⟩
  ·intro e' wS ue';rcases Qh.1 wS with wS | wS
   ·exact h.all e' wS ue'
   ·rw[Qi] at wS;subst wS;exact absurd ue' hue
theorem pt{m:Kf}(hg:Wm m){use:Nat->Bool}(hu:Og m use){a:Nat->Nat->Bool}(Or:qW m a){x:Nat}(hx:bX m x){q0:List Nat}:∀(rest done:List (Int×Int))(s:List Nat×List (Int×Int)),done++rest=Mb m x ->
  iw m use q0 s.1 done s.2->iw m use q0 (rest.foldl (Ec use a) s).1 (Mb m x) (rest.foldl (Ec use a) s).2
 |[],done,s,hd,h=>by
  rw[List.append_nil] at hd;rw[<-hd];exact h
 |e::r,done,s,hd,h=>by
  rw[List.foldl_cons];exact pt hg hu Or hx r (done++[e]) _ (by simpa using hd) (qfR hg hu Or hx hd h)
theorem qcN{m:Kf}{q:List Nat}(h:QOk m q):q.Nodup:=h.apart.imp fun hn e=>hn (by subst e;exact fun _=>rfl)
theorem dp{m:Kf}(hg:Wm m){q:List Nat}(h:QOk m q):q.length<=m.length:=zP _ _ (qcN h) fun x hx=>Ra hg (h.use x hx).1
structure qpP(m:Kf)(use:Nat->Bool)(n:Nat)(q:List Nat)(out:Kf):Prop where
 ok:QOk m q
 len:out.length=min n q.length
 st:∀ k<out.length,∃ x,q[k]? = some x/\My out k=My m x/\e_ m q (Mb m x) (Mb out k)/\(∀ e∈Mb m x,use e.2.toNat=true->∃ n,(e.1,n)∈Mb out k)/\(Mb out k).Pairwise fun a b=>a.1<b.1
 ord:∀ k≤out.length,∃ i,Pg 1 ((out.take k).flatMap fun s=>s.2)=some i/\(k<q.length->k<i)/\(k=out.length->i=q.length)
 new:∀ k,0<k->k<q.length->∃ p<k,∃ t,(t,(k:Int))∈Mb out p
theorem Sk{m k:Kf}{i:Nat}(h:i<m.length):My (m++k) i=My m i/\Mb (m++k) i=Mb m i:=by
 unfold My Mb;simp only[Qb,Qo h];exact⟨trivial,trivial⟩
theorem lY{m:Kf}{s:Sta}:My (m++[s]) m.length=s.1/\Mb (m++[s]) m.length=s.2:=by
 unfold My Mb;simp
theorem qnW{m:Kf}{use:Nat->Bool}(h:bX m 0):qpP m use 0 [0] [] :=
 ⟨⟨rfl,by simpa using h,List.pairwise_singleton ..⟩,rfl,by simp,fun k hk=>⟨1,by simp[Pg],fun h=>h,fun _=>rfl⟩,fun k h1 h2=>by simp at h2;omega⟩
theorem nA{m:Kf}(hg:Wm m){use:Nat->Bool}(hu:Og m use){a:Nat->Nat->Bool}(Or:qW m a)(h0:bX m 0):∀ n,qpP m use n (aC m use a n).1 (aC m use a n).2
 |0=>qnW h0
 |n+1=>by
  have ih:=nA hg hu Or h0 n;unfold aC;rcases hs:aC m use a n with ⟨q,out⟩;rw[hs] at ih;simp only at ih |-;cases hq:q[n]? with
  |none =>
   simp only;have h1:=List.getElem?_eq_none_iff.1 hq;exact⟨ih.ok,by rw[ih.len];omega,ih.st,ih.ord,ih.new⟩
  |some x =>
   simp only;have Ly:=(Qj.1 hq).1;have hx:=ih.ok.use x (Qp hq);have hF:=pt hg hu Or hx (q0:=q) (Mb m x) [] (q,[]) rfl ⟨List.prefix_refl _,ih.ok,by intro t k hk;simp at hk,by simp,List.Pairwise.nil,rfl,fun k h1 h2=>by simp only at h2;omega⟩;rcases Mi:(Mb m x).foldl (Ec use a) (q,[]) with ⟨q',l⟩;rw[Mi] at hF;simp only at hF |-;have hol:out.length=n:=by rw[ih.len];omega
   have ou:q.length<=q'.length:=hF.pre.length_le;have dV:∀{k y:Nat},q[k]? = some y->q'[k]? = some y:=by
    intro k y hk;obtain⟨u,hu⟩:=hF.pre;rw[<-hu,Qo (Qj.1 hk).1];exact hk
   refine⟨hF.ok,by simp only[Qe,Qf];omega,?_,?_,?_⟩
   ·intro k hk;by_cases hkn:k<out.length
    ·obtain⟨y,h1,h2,h3,h4,h5⟩:=ih.st k hkn;rw[(Sk hkn).1,(Sk hkn).2];exact⟨y,dV h1,h2,h3.mono hF.pre,h4,h5⟩
    ·simp only[Qe,Qf] at hk;have:k=out.length:=by omega
     subst this;rw[lY.1,lY.2];exact⟨x,dV (by rw[hol];exact hq),rfl,hF.tos,hF.all,hF.rise⟩
   ·intro k hk;simp only[Qe,Qf] at hk |-;by_cases hkn:k<=out.length
    ·obtain⟨i,h1,h2,h3⟩:=ih.ord k hkn;refine⟨i,by rw[List.take_append_of_le_length hkn];exact h1,fun Ji=>?_,fun e=>by omega⟩;by_cases h4:k<q.length
     ·exact h2 h4
     ·omega
    ·have hke:k=out.length+1:=by omega
     subst hke;obtain⟨i,h1,h2,h3⟩:=ih.ord out.length (Ya _);have h4:=h3 rfl;subst h4;refine⟨q'.length,?_,fun h=>h,fun _=>rfl⟩;rw[Qd (by simp),List.flatMap_append,Gk];rw[Qd (Ya _)] at h1;rw[h1];simpa using hF.ord
   ·intro k h1 h2;by_cases hkn:k<q.length
    ·obtain⟨p,hp,t,ht⟩:=ih.new k h1 hkn;refine⟨p,hp,t,?_⟩;by_cases hpl:p<out.length
     ·rw[(Sk hpl).2];exact ht
     ·exfalso;unfold Mb at ht;rw[Qb,Xf (by omega)] at ht;simp at ht
    ·obtain⟨t,ht⟩:=hF.new k (by omega) h2;refine⟨out.length,by omega,t,?_⟩;rw[lY.2];exact ht
end Go.Proofs.YtmaojnmnbpomeaaGreatDoor
