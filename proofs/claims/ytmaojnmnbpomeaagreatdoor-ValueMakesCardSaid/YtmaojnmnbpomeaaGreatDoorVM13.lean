/- A part. -/
import Derived.Test.YtmaojnmnbpomeaaGreatDoorVM12
set_option maxRecDepth 100000
set_option maxHeartbeats 64000000
namespace Go.Proofs.YtmaojnmnbpomeaaGreatDoor
open Go.RowKit
attribute [local go_sem] Oper.semAt_some
def Vn(ws:List Wd):List Wd:=ws.foldl (fun F w=>if w∈F then F else F++[w]) [[]]
theorem xW(ws:List Wd)(w:Wd):Vn (ws++[w])=if w∈Vn ws then Vn ws else Vn ws++[w]:=by
 unfold Vn;rw[List.foldl_append];rfl
theorem Id(ws:List Wd):(Vn ws).Nodup/\(∀ w,w∈Vn ws↔w=[]\/w∈ws)/\(Vn ws).length<=ws.length+1:=by
 have key:∀(ws F:List Wd),F.Nodup->(ws.foldl (fun F w=>if w∈F then F else F++[w]) F).Nodup/\(∀ w,w∈ws.foldl (fun F w=>if w∈F then F else F++[w]) F↔w∈F\/w∈ws)/\(ws.foldl (fun F w=>if w∈F then F else F++[w]) F).length<=ws.length+F.length:=by
  intro ws
  induction ws with
  |nil=>intro F hF;exact⟨hF,by simp,by simp⟩
  |cons a r ih =>
   intro F hF;rw[List.foldl_cons];by_cases ha:a∈F
   ·rw[if_pos ha];obtain⟨h1,h2,h3⟩:=ih F hF;refine⟨h1,fun w=>?_,by rw[Qu];omega⟩;rw[h2,List.mem_cons];constructor
    ·rintro (h | h)
     ·exact .inl h
     ·exact .inr (.inr h)
    ·rintro (h | rfl | h)
     ·exact .inl h
     ·exact .inl ha
     ·exact .inr h
   ·rw[if_neg ha];obtain⟨h1,h2,h3⟩:=ih (F++[a]) (List.nodup_append.2 ⟨hF,by simp,fun x hx y hy=>by simp at hy;subst hy;rintro rfl;exact ha hx⟩);refine⟨h1,fun w=>?_,by rw[Qe,Qf] at h3;rw[Qu];omega⟩;rw[h2,Qh,Qi,List.mem_cons];constructor
    ·rintro ((h | rfl) | h)
     ·exact .inl h
     ·exact .inr (.inl rfl)
     ·exact .inr (.inr h)
    ·rintro (h | rfl | h)
     ·exact .inl (.inl h)
     ·exact .inl (.inr rfl)
     ·exact .inr h
 obtain⟨h1,h2,h3⟩:=key ws [[]] (by simp);refine⟨h1,fun w=>?_,h3⟩;rw[<-Qi (a:=w)];exact h2 w
def Tr(rows:List Ud):List Wd:=(Aq rows).map (·.2)
theorem bu(rows:List Ud)(w:Wd):w∈Tr rows↔∃ r∈rows,w <+: r.2.1:=by
 unfold Tr Aq Ts;simp only[Xa,Xu,Xz];constructor
 ·rintro⟨x,⟨r,hr,k,hk,rfl⟩,rfl⟩;exact⟨r,hr,List.take_prefix _ _⟩
 ·rintro⟨r,hr,hp⟩;refine⟨(r,w),⟨r,hr,w.length,by have:=hp.length_le;omega,?_⟩,rfl⟩;rw[<-List.prefix_iff_eq_take.1 hp]
theorem eZ{rows:List Ud}{ts:List Wd}(hp:ts.Perm (Vn (Tr rows)))(hs:ts.Pairwise fun a b=>¬ Bj b a):Nu rows ts:=by
 obtain⟨h1,h2,h3⟩:=Id (Tr rows);refine⟨fun w=>by rw[hp.mem_iff,h2,bu],?_⟩;have hn:ts.Nodup:=hp.nodup_iff.2 h1;refine (List.Pairwise.and hs hn).imp fun{a b} ⟨h4,h5⟩=>?_;rcases rX a b with h | h | h
 ·exact h
 ·exact absurd h h5
 ·exact absurd h h4
def Pa(F:List Wd):List (Wd×Value):=F.map fun w=>(w,.int .i64 0)
theorem vK{F:List Wd}{w:Wd}:Ni (Pa F) w=if w∈F then some (.int .i64 0) else none:=by
 induction F with
 |nil=>rfl
 |cons a r ih =>
  unfold Ni Pa at ih |-;rw[List.map_cons,List.find?_cons];by_cases h:a=w
  ·subst h;simp
  ·have h':w≠a:=fun e=>h e.symm;simp only[h,decide_false,List.mem_cons,h',false_or];exact ih
theorem xX{F:List Wd}{w:Wd}(h:w∉F):Wv (Pa F) w (.int .i64 0)=Pa (F++[w]):=by
 induction F with
 |nil=>rfl
 |cons a r ih =>
  have h1:a≠w:=fun e=>h (by subst e;exact Xh ..);unfold Pa at ih |-;rw[List.map_cons,Wv,if_neg h1,ih fun hm=>h (Xi _ hm)];rfl
def Rx{rows:List Ud}(pre:List (iE rows)):List Wd:=pre.map fun x=>x.1.2
theorem sx{rows:List Ud}(pre:List (iE rows))(x:iE rows):Rx (pre++[x])=Rx pre++[x.1.2]:=by simp[Rx]
theorem qbM{rows:List Ud}(pre:List (iE rows)):(Rx pre).length=pre.length:=by simp[Rx]
theorem qbN{rows:List Ud}{pre:List (iE rows)}(h:pre.map Subtype.val=Aq rows):Rx pre=Tr rows:=by
 have:=congrArg (List.map Prod.snd) h;rw[List.map_map] at this;exact this
structure oZ(g1 b3 b4:Nat)(w:World)(ws:List Wd)(W:World):Prop where
 map:Up wv W g1 (Pa (Vn ws))
 box:W.heap[b3]? = some (.cells #[.map (some g1)] 147 (0,0))
 fr:∃ v,W.heap[b4]? = some (.cells #[v] 22 (0,0))/\W.ownsRow w.heap.size 9 1 v (Vn ws).length (Jf (Vn ws))
 bel:Below w.heap.size w W
theorem oZ.own{g1 b3 b4 B:Nat}{w:World}{ws:List Wd}{A C:World}{row:Option Nat}(h:oZ g1 b3 b4 w ws A)(hN:w.heap.size<=B)(h1:g1<B)(hg:A.grownBy C row)(hr:∀ r,row=some r->B<=r/\∃ o:Obj,A.heap[r]? = some o/\o.isCells=false):oZ g1 b3 b4 w ws C:=by
 have xQ:∀ r,row=some r->∃ o:Obj,A.heap[r]? = some o/\o.isCells=false:=fun r e=>(hr r e).2;refine⟨h.map.grown hg fun e=>by have:=(hr g1 e.symm).1;omega,Nz hg xQ h.box,?_,?_⟩
 ·obtain⟨v,a,b⟩:=h.fr;exact⟨v,Nz hg xQ a,Bp hg xQ b⟩
 ·refine h.bel.trans ⟨hg.os,hg.tape,hg.output,hg.size,fun k hk=>?_⟩;have h2:=h.bel.size;exact hg.block k (by omega) fun e=>by have:=(hr k e.symm).1;omega
theorem vH{rows:List Ud}(hw:∀ r∈rows,r.2.1.length<=1048576):(Aq rows).length<=rows.length*1048577:=by
 unfold Aq
 induction rows with
 |nil=>simp
 |cons r l ih =>
  rw[List.flatMap_cons,Qe,Qu,dM];have:=ih fun x hx=>hw x (Xi _ hx);have:=hw r (Xh ..);omega
def gE(i j:Nat):Int:=if j<i then -1 else 0
theorem mf(i k:Nat):gE (i+1) k=if k=i then -1 else gE i k:=by
 unfold gE;by_cases hk:k=i
 ·subst hk;simp
 ·have:(k<i+1)=(k<i):=by apply propext;omega
  simp only[this,if_neg hk]
theorem qdI{rows:List Ud}{w W W1 w5:World}{b3 b4 B:Nat}{pre:List (iE rows)}{x:iE rows}{F:List Wd}{v4:Value}{A5:Option Addr}{c5:Nat}{xw:Wd}(hI:oZ w.heap.size b3 b4 w (Rx pre) W)(hB:w.heap.size<B)(hB4:b4<B)(n4:w.heap.size<b4)
  (hE:Vn (Rx (pre++[x]))=F++[xw]) (hm:Up wv W1 w.heap.size (Pa (F++[xw]))) (Cn:W.grownBy W1 (some w.heap.size)) (Ft:W1.heap.size=W.heap.size) (qlT:W1.ownsRow w.heap.size 9 1 v4 F.length (Jf F))
  (zgI:W1.heap[b3]? = some (.cells #[.map (some w.heap.size)] 147 (0,0))) (qzL:W1.heap[b4]? = some (.cells #[v4] 22 (0,0)))
  (Sd:w5.ownsRow w.heap.size 9 1 (.slice A5 (F.length+1) c5) (F.length+1) (Jf F++[wv xw])) (aB:(W1.alloc (.cells #[wv xw] 9)).grownBy w5 v4.ownBlock) :
  KeepsFrom B W (w5.setCell ⟨b4,0,none⟩ (.slice A5 (F.length+1) c5))/\KpR w.heap.size W (w5.setCell ⟨b4,0,none⟩ (.slice A5 (F.length+1) c5))/\oZ w.heap.size b3 b4 w (Rx (pre++[x])) (w5.setCell ⟨b4,0,none⟩ (.slice A5 (F.length+1) c5)):=by
 have hz:=hI.bel.size;have xx:∀(k:Nat)(o:Obj),W1.heap[k]? = some o->k≠b4->(∀ cur,o≠.cells cur 9 (0,0))->(w5.setCell ⟨b4,0,none⟩ (.slice A5 (F.length+1) c5)).heap[k]? = some o:=fun k o hk hn hne =>
  (Zb _ _ _ _ hn).trans (Dq (qlT.alloc _) aB ((Ze W1 _ _ (gl hk)).trans hk) hne)
 have qaJ:∀(k:Nat)(o:Obj),W.heap[k]? = some o->k≠w.heap.size->k≠b4->(∀ cur,o≠.cells cur 9 (0,0))->(w5.setCell ⟨b4,0,none⟩ (.slice A5 (F.length+1) c5)).heap[k]? = some o:=fun k o hk h0 hn hne =>
  xx k o ((Cn.block k (gl hk) fun e=>h0 (by injection e)).trans hk) hn hne
 have hb1:Below w.heap.size W W1:=(Xr _ _).grown Cn hz (fun k e=>by injection e with e;omega);have Ja:=hb1.alloc (by omega) (.cells #[wv xw] 9);have hb3:=Zt Ja aB (qlT.alloc _) (Ya _) (by rw[Xs];omega);have hb4:Below w.heap.size W (w5.setCell ⟨b4,0,none⟩ (.slice A5 (F.length+1) c5)):=hb3.setCell (by show _<=b4;omega) _;have qwE:w5.heap[b4]? = some (.cells #[v4] 22 (0,0)):=Dq (qlT.alloc _) aB ((Ze W1 _ _ (gl qzL)).trans qzL) fun cur e=>by cases e
 refine⟨⟨hb4.size,fun k o hk ho hc=>qaJ k o ho (by omega) (by omega) fun cur e=>by subst e;cases hc⟩,⟨hb4,fun k cs hk=>qaJ k _ hk (fun e=>qxU hI.map hk e.symm) ?_ fun cur e=>by cases e⟩,?_,?_,?_,?_⟩
 ·obtain⟨v,hv,_⟩:=hI.fr;exact No hk hv (by decide)
 ·rw[hE];exact hm.stay fun o ho hc=>xx _ _ ho (by omega) fun cur e=>by subst e;cases hc
 ·refine xx b3 _ zgI (No zgI qzL (by decide)) fun cur e=>by cases e
 ·rw[hE];refine⟨_,by rw[Mu qwE];rfl,?_⟩;have hw:Jf (F++[xw])=Jf F++[wv xw]:=by simp[Jf]
  rw[hw,Qe];exact Vb Sd fun g cur _ hh=>(Zb _ _ _ _ (No hh qwE (by decide))).trans hh
 ·exact hI.bel.trans hb4
theorem cp(v:Value)(rows:List Ud)(w:World)(hv:Je Aj w w.heap.size v rows)(hw:∀ r∈rows,r.2.1.length<=1048576)(hn:rows.length<=1048576) :
  Calls Tryz.prog 46 #[v] w fun e w'=>∃ vm F,e=.returned vm/\Nu rows F/\F.length<=1099512676353/\Je Js w' w'.heap.size vm (Nv rows F)/\Below w.heap.size w w':=by
 obtain⟨A,c,rfl,Nj,Uy⟩:=hv.form;unfold maxLen at Uy;have HV:=Lh hv;obtain⟨nr,ow⟩:=Xe rows.length;rw[<-ow] at Nj;clear hv;have hmm:=@run_makeMap Tryz.prog;obtain⟨N0,hN0⟩:=Xe w.heap.size;refine (callsIn_wide (n:=9)).1 (callsIn_of_wp_marks (F:=Fence.wide) (n:=9) Tryz.func46 rfl trivial (wpIn_wide.2 ?_) rfl);simp only[Tryz.ntmps46,List.size_toArray,Qu,Xt,Nat.reduceAdd,Nat.reduceSub,Array.replicate_succ,Array.replicate_zero,List.push_toArray,List.append_toArray,List.nil_append,List.cons_append];obtain⟨w1,iG,jO,Cn,Ft⟩:=(Up.made (κ:=wv) w).update Kd [] (.int .i64 0);replace iG:(Instr.mapUpdate 147 (.map (some w.heap.size)) (.string ⟨#[]⟩) (.int .i64 0)).run Tryz.prog (w.alloc (.map #[] 0))=.ok () w1:=iG;have HM1:=Lh jO;have HG1:=Lh Cn;have HS1:=Lh (show w1.heap.size=w.heap.size+1 by rw[Ft];simp);clear jO Cn Ft;go_wp2_with fail;have Ft:w1.heap.size=w.heap.size+1:=HS1.o;obtain⟨w2,xv⟩:=Xe ((((w1.alloc (.cells #[.map (some w.heap.size)] 147)).alloc (.cells #[.string ⟨#[]⟩] 9)).alloc (.cells #[.slice (some ⟨w1.heap.size+1,0,none⟩) 1 1] 22)));have HS2:=Lh (show w2.heap.size=w.heap.size+4 by rw[xv];simp only[Xs];omega);have HB3:=Lh (show w2.heap[w1.heap.size]? = some (.cells #[.map (some w.heap.size)] 147 (0,0)) by
  rw[xv,Ze _ _ _ (by simp only[Xs];omega),Ze _ _ _ (by simp only[Xs];omega)]
  exact Xn w1 _)
 have HR4:=Lh (show w2.heap[w1.heap.size+1]? = some (.cells #[.string ⟨#[]⟩] 9 (0,0)) by
  rw[xv,Ze _ _ _ (by simp only[Xs];omega)]
  exact Fu w1 _ _)
 have HB4:=Lh (show w2.heap[w1.heap.size+1+1]? = some (.cells #[.slice (some ⟨w1.heap.size+1,0,none⟩) 1 1] 22 (0,0)) by
  rw[xv]
  have:=Xn ((w1.alloc (.cells #[.map (some w.heap.size)] 147)).alloc (.cells #[.string ⟨#[]⟩] 9)) (.cells #[.slice (some ⟨w1.heap.size+1,0,none⟩) 1 1] 22)
  rwa [Xs,Xs] at this)
 have HM2:=Lh (show Up wv w2 w.heap.size (Pa (Vn [])) by rw[xv];exact ((HM1.o.alloc _).alloc _).alloc _);have HBW:=Lh (show Below w.heap.size w w2 by
  rw[xv]
  have h1:Below w.heap.size w w1:=((Xr w.heap.size w).alloc (Ya _) (.map #[] 0)).grown HG1.o (by simp) (fun k e=>by cases e;exact Ya _)
  exact ((h1.alloc (by omega) _).alloc (by simp only[Xs];omega) _).alloc (by simp only[Xs];omega) _)
 rw[<-xv];clear xv HM1 HG1 iG;obtain⟨N1,hN1⟩:=Xe w1.heap.size;rw[<-hN1] at HB3 HR4 HB4 Ft |-;clear hN1 HS1;rw[Ft] at HB3 HR4 HB4 |-;refine (bR A rows.length c w2).mono ?_;rintro e w3 ⟨rfl,xu⟩;go_wp2_with fail;have hws:∀ r∈rows,r.2.1.length<=4611686018427387904:=fun r hr=>by have:=hw r hr;omega
 have eX:w2.heap.size=w.heap.size+4:=HS2.o;have H0:=Lh (show oZ w.heap.size (w.heap.size+1) (w.heap.size+1+1+1) w [] w3 from xu ▸
  ⟨HM2.o.alloc _,(Ze _ _ _ (by omega)).trans HB3.o,⟨_,(Ze _ _ _ (by omega)).trans HB4.o,⟨rfl,.inr ⟨_,1,_,rfl,by omega,(Ze _ _ _ (by omega)).trans HR4.o,by decide,by decide,rfl,rfl⟩⟩⟩,HBW.o.alloc (by omega) _⟩)
 have HS3:=Lh (show w3.heap.size=w.heap.size+5 by rw[xu,Xs];omega);have HBX:=Lh (show w3.cell? ⟨w2.heap.size,0,none⟩=some (.slice A rows.length c) by
  rw[xu]
  exact Zc _ _ _ _ _ _ (Xn w2 _))
 have wB:=Lh (HV.o.below H0.o.bel);rw[<-xu];clear xu HM2 HBW HB4 HR4 HB3;rw[eX] at HBX |-;clear HS2 eX;refine (wpIn_wide (n:=9)).1 ?_;apply wpIn_rangeFunc_ownG (F:=Fence.wide) rfl (by omega) (gf:=165) (lb:=#[.pointer (some ⟨w.heap.size+4,0,none⟩)]) rfl trivial (enters_of Tryz.func165 (by kernel_rfl) rfl)
  (vG (9 - 1) (w.heap.size+4) w.heap.size _ rows hws w3 (by have:=HS3.o;omega) (by have:=HS3.o;omega) HBX.o wB.o) (fun h k=>h.trans k) (fun W l o o'=>KpR.putObj (by have:=HS3.o;omega) W l o o') (Xr _ _) (fun _=>rfl)
  (fun pre W=>oZ w.heap.size (w.heap.size+1) (w.heap.size+1+1+1) w (Rx pre) W) (fun _ _ _=>False)
  (fun s A B row hs hg hr=>hs.own (by have:=HS3.o;omega) (by have:=HS3.o;omega) hg hr)
  (fun _ _ _ _ _ hs _ _=>hs) H0.o
 case hassign =>
  intro l x W K hK
  gi_wp2
  exact hK
 case hstop=>exact fun _ _ _ _ _ _ h _=>h.elim
 case hbody =>
  rintro l pre ⟨⟨xr,xw⟩,hxm⟩ W hI hlen;have hlb:(Vn (Rx pre)).length<=pre.length+1:=by have:=(Id (Rx pre)).2.2;rwa [qbM] at this
  have pM:=vH hw;have HSN:=Lh (xW (Rx pre) xw);have HEQ:=Lh (sx pre ⟨(xr,xw),hxm⟩);generalize hF:Vn (Rx pre)=F at *;have hbd:F.length<=1099512676352:=by
   have:=Nat.mul_le_mul_right 1048577 hn;omega
  clear hlen;have HI:=Lh hI;clear hI;have c3:W.cell? ⟨w.heap.size+1,0,none⟩=some (.map (some w.heap.size)):=Zc _ _ 0 _ _ _ HI.o.box;have hlk:=HI.o.map.lookup_ok Kd Du xw;rw[hF,vK] at hlk;by_cases hx:xw∈F
  ·rw[if_pos hx] at hlk;have HX:=Lh hx;clear hx;simp only[Option.getD_some,Option.isSome_some] at hlk
   gi_wp2
   refine⟨KeepsFrom.refl _ _,⟨Xr _ _,fun _ _ h=>h⟩,?_⟩;have hE:Vn (Rx (pre++[⟨(xr,xw),hxm⟩]))=Vn (Rx pre):=by rw[HEQ.o,HSN.o,if_pos HX.o,hF]
   show oZ _ _ _ _ (Rx (pre++[⟨(xr,xw),hxm⟩])) W;have h:=HI.o;exact⟨by rw[hE];exact h.map,h.box,by rw[hE];exact h.fr,h.bel⟩
  ·rw[if_neg hx] at hlk;obtain⟨v4,hb4,hown⟩:=HI.o.fr;rw[hF] at hown;have hm0:=HI.o.map;rw[hF] at hm0;obtain⟨W1,iG,jO,Cn,zeP⟩:=hm0.update Kd xw (.int .i64 0);rw[xX hx] at jO;have HX:=Lh hx;clear hx;replace iG:(Instr.mapUpdate 147 (.map (some w.heap.size)) (.string ⟨xw.toArray⟩) (.int .i64 0)).run Tryz.prog W=.ok () W1:=iG;have El:∀ r,some w.heap.size=some r->∃ o:Obj,W.heap[r]? = some o/\o.isCells=false:=fun r e=>by cases e;exact hm0.obj
   have qwV:=Lh (Bp Cn El hown);have quX:=Lh (Nz Cn El hb4);have zuH:=Lh (Nz Cn El HI.o.box);have HM1:=Lh jO;have HG1:=Lh Cn;have HS1:=Lh zeP;have c4:W1.cell? ⟨w.heap.size+1+1+1,0,none⟩=some v4:=Vo quX.o;simp only[Option.getD_none,Option.isSome_none] at hlk;clear hown hm0 jO Cn zeP hb4 El
   gi_wp2_with (gi_at_builtin;refine wpListIn_plain rfl fun K hK=>sv (fun c h=>by cases h) (qqY (m:=1) (n:=F.length) aO rfl rfl rfl (qwV.o.alloc _) (Rd.row (B:=W1.heap.size+1) (Xn W1 _) (by omega)) rfl (by simp[Value.oneCell']) ((Ze W1 _ _ (gl quX.o)).trans quX.o) (by decide) ?h63 ?hby ?hbase fun A5 c5 w5 Sd aB zeW hb5 hc5 hf5=>hK _ _ ?_))
   case h63=>simp[maxLen];omega
   case hby=>omega
   case hbase=>have:=HI.o.bel.size;have:=HS1.o;omega
   have hE:Vn (Rx (pre++[⟨(xr,xw),hxm⟩]))=F++[xw]:=by rw[HEQ.o,HSN.o,if_neg HX.o]
   exact qdI HI.o (by have:=HS3.o;omega) (by have:=HS3.o;omega) (by omega) hE HM1.o HG1.o HS1.o qwV.o zuH.o quX.o Sd aB
 case hdone =>
  intro Dx xs Wx hDx hxs hI hdf;rw[qbN hxs] at hI;have HFS:=Lh (fun ts=>eZ (rows:=rows) (ts:=ts));obtain⟨f1,f2,f3⟩:=Id (Tr rows);have pM:=vH hw;have hfl:(Vn (Tr rows)).length<=1099512676353:=by
   have h1:(Tr rows).length=(Aq rows).length:=by simp[Tr]
   have:=Nat.mul_le_mul_right 1048577 hn;omega
  have Dg:0<(Vn (Tr rows)).length:=Qy.2 fun e=>by have:=(f2 []).2 (.inl rfl);rw[e] at this;cases this
  obtain⟨hm,hb3,⟨v4,hb4,Gl⟩,pN⟩:=hI;clear f1 f2 f3 pM hxs;generalize Vn (Tr rows)=F at *;obtain⟨A4,c4,rfl,Ic,kX⟩:=Zo Gl;unfold maxLen at kX;have hc4:=Vo hb4;have HM:=Lh hm;have HB3:=Lh hb3;have HB4:=Lh hb4;have HO4:=Lh Gl;have HBE:=Lh pN;have HZ:=Lh (show w.heap.size+5<=Wx.heap.size by have:=HS3.o;have:=(gl hdf);omega);have a_:=Lh hfl;have HDF:=Lh hdf;have HDL:=Lh (show w.heap.size<=Dx by have:=HS3.o;omega);clear hm hb3 hb4 Gl pN hdf hDx hfl;obtain⟨n,hnF⟩:=Xe F.length;clear hnF;go_wp2_with fail;refine (xC w.heap.size A4 c4 F Wx HO4.o (by have:=a_.o;omega) Dg).mono ?_;rintro e w6 ⟨rfl,ts,oN,qaK,an,pd⟩;have qlO:∀(k:Nat)(o:Obj),Wx.heap[k]? = some o->(∀ cur,o≠.cells cur 9 (0,0))->w6.heap[k]? = some o:=fun k o hk hne=>Dq HO4.o pd hk hne;have HM6:=Lh (HM.o.stay fun o ho hc=>qlO _ _ ho fun cur e=>by subst e;cases hc);have zjC:=Lh (qlO _ _ HB3.o fun cur e=>by cases e);have qhC:=Lh (qlO _ _ HB4.o fun cur e=>by cases e);have ztX:=Lh (qlO _ _ HDF.o fun cur e=>by cases e);have ziZ:=Lh (Zt HBE.o pd HO4.o (Ya _) HBE.o.size);have HZ6:=Lh (Yb HZ.o pd.size);have HF:=Lh (HFS.o ts oN qaK);have HPM:=Lh oN;have Ji:F.length=ts.length:=oN.length_eq.symm;have HO6:=Lh an;rw[Ji] at HO6 qhC a_ Dg Ic;clear qlO oN qaK an pd HB4 HB3 HM HBE HZ HO4 hc4 HFS;have hc4:=Vo qhC.o;obtain⟨nt,hnt⟩:=Xe ts.length;have yE:=Lh hnt;have qL:=tm nt (by have:=a_.o;omega) w6;rw[<-hnt] at HO6 qhC a_ Dg Ic hc4;clear hnt;rw[show F.length=nt by rw[Ji,<-yE.o]];have zoW:w.heap.size+1+1+1<w6.heap.size:=(gl qhC.o);obtain⟨w8,hw8⟩:=Xe ((w6.alloc (.cells (Ug (List.replicate nt (0,.slice none 0 0))).toArray 118)).alloc (.cells #[.slice (some ⟨w6.heap.size,0,none⟩) nt nt] 64));have HNS:=Lh (show Nm Dx w w8 w.heap.size (w.heap.size+1) (w6.heap.size+1) w6.heap.size ts (.slice A4 nt c4) 0 0 (gE 0) by
   have hk:∀(k:Nat)(o:Obj),w6.heap[k]? = some o->w8.heap[k]? = some o:=fun k o hk=>by
    rw[hw8]
    have h1:=(gl hk)
    exact (Ze _ _ _ (by rw[Xs];omega)).trans ((Ze _ _ _ h1).trans hk)
   refine⟨⟨Pa F,HM6.o.stay fun o ho _=>hk _ _ ho,fun y=>?_⟩,hk _ _ zjC.o,?_,?_,⟨List.replicate nt (0,.slice none 0 0),?_,fun j r hj=>?_⟩,?_,⟨by omega,by omega⟩,hk _ _ ztX.o⟩
   ·rw[vK]
    unfold atF
    rw[List.take_zero,if_neg List.not_mem_nil]
    simp only[HPM.o.mem_iff]
   ·rw[hw8,<-yE.o]
    have:=Xn (w6.alloc (.cells (Ug (List.replicate nt (0,.slice none 0 0))).toArray 118)) (.cells #[.slice (some ⟨w6.heap.size,0,none⟩) nt nt] 64)
    rwa [Xs] at this
   ·rw[<-yE.o]
    exact Vb HO6.o fun g cur _ hh=>hk _ _ hh
   ·have h2:Rf ts 0=List.replicate nt []:=by
     unfold Rf
     rw[yE.o]
     simp only[qdU,List.map_const']
    rw[h2]
    refine Oj.mk0 ?_
    rw[hw8]
    exact (Ze _ _ _ (by rw[Xs];omega)).trans (Xn _ _)
   ·rw[Xg] at hj
    split at hj
    ·injection hj with hj
     rw[<-hj]
     simp[gE]
    ·cases hj
   ·rw[hw8]
    exact (ziZ.o.alloc (by omega) _).alloc (by rw[Xs];omega) _)
  have zpT:((w6.alloc (.cells (Ug (List.replicate nt (0,.slice none 0 0))).toArray 118)).alloc (.cells #[.slice (some ⟨w6.heap.size,0,none⟩) nt nt] 64)).cell? ⟨w.heap.size+1+1+1,0,none⟩=some (.slice A4 nt c4) :=
   Vo (t:=22) ((Ze _ _ _ (by rw[Xs];omega)).trans ((Ze _ _ _ zoW).trans qhC.o))
  go_wp2_with fail;rw[<-hw8];have yn:w6.heap.size+1<w8.heap.size:=by rw[hw8,Xs,Xs];omega
  have HZ8:=Lh (Yb HZ6.o (show w6.heap.size<=w8.heap.size by omega));clear hw8 qL HM6 zjC ziZ qhC HO6 hc4;generalize w6.heap.size=bo at *;obtain⟨g4,zrC,hv4⟩:=zG HNS.o.own (by rw[<-yE.o];exact Dg);injection hv4 with e1 e2 e3;subst e1;clear e2 e3 zrC;have HND:=Lt (ts.Nodup) (HF.o.asc.imp fun h e=>by subst e;exact Cv _ h);go_loopw [45] (fun v45 wr=>∃ i:Nat,i<=nt/\v45=.int .i64 i/\w8.heap.size<=wr.heap.size/\Hid (Nm Dx w wr w.heap.size (w.heap.size+1) (bo+1) bo ts (.slice (some ⟨g4,0,none⟩) nt c4) i i (gE i))) (fun v45 _=>nt - (intOf v45).toNat);exact⟨0,by omega,rfl,Ya _,HNS.o⟩;clear HNS;obtain⟨i,hi,rfl,hzr,HS⟩:=hrel;by_cases ef:i<nt
  ·have Wt:i<ts.length:=by rw[<-yE.o];exact ef
   have ai:=Qa Wt;obtain⟨x,hx⟩:=Xe (ts[i]);rw[<-hx] at ai;clear hx;have HX:=Lh ai;have c43:wr.cell? ⟨g4,i,none⟩=some (wv x):=by
    have:=HS.o.own;rw[<-yE.o] at this;rw[this.cellAt (g:=g4) (cap:=c4) i (by omega)];unfold Jf;rw[Qv,ai];rfl
   obtain⟨W1,iG,jO,Cn,Ft⟩:=HS.o.drew.put (P:=Tryz.prog) HND.o ai Kd;replace iG:(Instr.mapUpdate 147 (.map (some w.heap.size)) (.string ⟨x.toArray⟩) (.int .i64 i)).run Tryz.prog wr.drew=.ok () W1:=iG;have c3:=HS.o.c3;have c9:=HS.o.c9;have c9':=jO.c9;rw[<-yE.o] at c9 c9';obtain⟨u1,k1,k2,k3,-⟩:=jO.at_out Wt;have k4:=k3 (i*2);clear k2 k3;have HM2:=Lh (jO.setOut Wt (-1) (mf i));have HS1:=Lh Ft;have HM1:=Lh jO;clear jO Cn Ft ai;have HC9:=Lh (show (wr.cell? ⟨w.heap.size+1,0,none⟩=some (.map (some w.heap.size))/\wr.cell? ⟨bo+1,0,none⟩=some (.slice (some ⟨bo,0,none⟩) nt nt))/\(W1.cell? ⟨w.heap.size+1,0,none⟩=some (.map (some w.heap.size))/\W1.cell? ⟨bo+1,0,none⟩=some (.slice (some ⟨bo,0,none⟩) nt nt))/\((W1.setCell ⟨bo,i*2,none⟩ (.int .i64 (-1))).cell? ⟨w.heap.size+1,0,none⟩=some (.map (some w.heap.size))/\(W1.setCell ⟨bo,i*2,none⟩ (.int .i64 (-1))).cell? ⟨bo+1,0,none⟩=some (.slice (some ⟨bo,0,none⟩) nt nt)) by
    rw[yE.o]
    exact⟨⟨HS.o.c3,HS.o.c9⟩,⟨HM1.o.c3,HM1.o.c9⟩,HM2.o.c3,HM2.o.c9⟩)
   clear HM1;go_wp2_with fail;refine qqZ [5,8] [0,2] [] (fun W'=>W'.cell? ⟨w.heap.size+1,0,none⟩=some (.map (some w.heap.size))/\W'.cell? ⟨bo+1,0,none⟩=some (.slice (some ⟨bo,0,none⟩) nt nt)) HC9.o.1 (by kernel_rfl) (by kernel_rfl) ?_;refine f_ 5 (by decide) (fun Q0 hQ0=>?_);simp only[Xta,Xtz];go_wp2_with fail
   try simp only[Xda,Xdz]
   refine i_ (fun Q1 hQ1=>?_);go_wp2_with fail;refine⟨HC9.o.2.1,?_⟩;refine f_ 2 (by decide) (fun Q0 hQ0=>?_);simp only[Xta,Xtz];go_wp2_with fail
   try simp only[Xda,Xdz]
   refine i_ (fun Q1 hQ1=>?_);go_wp2_with fail;refine⟨HC9.o.2.2,?_⟩;refine qrA ⟨by rfl,⟨fun _=>⟨_,fun w' hI=>qdP Tryz.underlying147 hI.1⟩,fun _=>⟨_,fun w' hI=>np Tryz.underlying64 hI.2⟩,trivial⟩,?_⟩;have hzr2:w8.heap.size<=(W1.setCell ⟨bo,i*2,none⟩ (.int .i64 (-1))).heap.size:=by
    rw[Za,HS1.o];exact hzr
   have hC:=HC9.o.2.2;clear HC9 c3 c9 c9' k1 k4 iG c43 HS hzr HS1;generalize W1.setCell ⟨bo,i*2,none⟩ (.int .i64 (-1))=W2 at *;obtain⟨c3,c9⟩:=hC;by_cases hxe:x=[]
   ·subst hxe;have HM3:=Lh (HM2.o.root HX.o);go_wp2_with fail;go_roundw;exact⟨i+1,by omega,by go_num,hzr2,HM3.o⟩;simp[intOf];omega
   ·obtain⟨j,Ad,hj⟩:=xV HF.o HX.o hxe;have Ot:=Lh hxe;have HJ:=Lh hj;have Mn:j<nt:=by rw[yE.o];exact (Qj.1 hj).1
    have si:=zj HF.o hw HX.o;obtain⟨m,hm⟩:∃ m,x.length=m+1:=⟨x.length - 1,by have:=Qy.2 hxe;omega⟩;have hlk:(Instr.lookup 147 (.map (some w.heap.size)) (.string ((⟨x.toArray⟩:ByteArray).extract 0 m)) false).run Tryz.prog W2.drew=.ok (.int .i64 j) W2.drew:=by
     rw[qD,show x.take m=x.dropLast by rw[List.dropLast_eq_take,hm];rfl];exact HM2.o.drew.look HND.o Kd Du hj (by omega)
    rw[hm] at si;clear hxe hj;go_wp2_with fail;refine Text.wp_grow [6] [0,1] [] (by kernel_rfl) (by kernel_rfl) ?_;refine Text.wpS_seg 6 _ _ _ _ (by decide) (fun Q' hQ'=>?_);simp only[Xta,Xtz];go_wp2_with fail
    try simp only[Xda,Xdz]
    refine Text.wpS_one (fun Q' hQ'=>?_);go_wp2_with fail;refine⟨Xr _ _,?_⟩;refine Text.wpS_seg 2 _ _ _ _ (by decide) (fun Q' hQ'=>?_);simp only[Xta,Xtz];go_wp2_with fail
    try simp only[Xda,Xdz]
    refine⟨by rfl,⟨fun _=>⟨_,_,rfl,c9⟩,fun _=>⟨_,_,rfl,c3⟩,trivial⟩,?_⟩;go_wp2_with fail;obtain⟨v5,d0,d1,df,down⟩:=HM2.o.at_out (j:=j) (by rw[<-yE.o];exact Mn);have qaQ:=down (Do (ts.take i) x.dropLast) (by unfold Rf;rw[Qv,HJ.o];rfl);have ou:(Do (ts.take i) x.dropLast).length<=1099512676353:=by
     have h1:=af (ts.take i) x.dropLast;rw[Qq] at h1;have:=a_.o;omega
    have wA:=Lh d1;obtain⟨q,hq⟩:=Xe ((Do (ts.take i) x.dropLast).length);rw[<-hq] at qaQ ou;obtain⟨A7,c7,rfl,hl7,yn⟩:=Zo qaQ;unfold maxLen at yn;have HDO:=Lh qaQ;have HQ:=Lh hq;have dfr:=df (j*2+1);clear df d0 down qaQ hq hlk c3 c9;refine Text.wp_grow [11,12] [4] [] (by kernel_rfl) (by kernel_rfl) ?_;refine Text.wpS_seg 11 _ _ _ _ (by decide) (fun Q' hQ'=>?_);simp only[Xta,Xtz];go_wp2_with fail
    try simp only[Xda,Xdz]
    refine Text.wpS_one (fun Q' hQ'=>?_);go_wp2_with fail;refine⟨Xr _ _,?_⟩;refine Text.wpS_one (fun Q' hQ'=>?_);go_wp2_with fail;refine⟨(Xr _ _).alloc (Ya _) _,?_⟩;refine Text.wpS_seg 4 _ _ _ _ (by decide) (fun Q' hQ'=>?_);simp only[Xta,Xtz];rw[qdR hm];refine Zz uV rfl rfl rfl rfl (HDO.o.alloc _) (Rd.row (B:=W2.heap.size+1) (Xn W2 _) (by omega)) rfl (by simp[Value.oneCell']) (by unfold maxLen;omega) (by omega) (by have:=HM2.o.bel.size;show _<=(W2.alloc _).heap.size;rw[Xs];omega) fun v6 w6 an pd zeV _=>?_;obtain⟨A6,c6,rfl,hl9,qmD⟩:=Zo an;obtain⟨rs,hO,-⟩:=HM2.o.outs;have We:=hO.box;have jT:=(Ze W2 (.cells #[.int .i64 ((x.getLastD 0).toNat:Int),.int .i64 i] 145) _ (gl We)).trans We;have qmP:=Dq (HDO.o.alloc (.cells #[.int .i64 ((x.getLastD 0).toNat:Int),.int .i64 i] 145)) ⟨pd.os,pd.tape,pd.output,pd.size,pd.block⟩ jT (fun cur e=>by cases e);have d6:=(World.cell?_of_block (w:=W2) (a:=⟨bo,j*2+1,none⟩) (qmP.trans We.symm)).trans wA.o;have f6:=(World.frozen?_of_block (w:=W2) (a:=⟨bo,j*2+1,none⟩) (qmP.trans We.symm)).trans dfr;have HN4:=Lh ((HM2.o.alloc (.cells #[.int .i64 ((x.getLastD 0).toNat:Int),.int .i64 i] 145)).edge (W':=w6) HND.o HX.o Ot.o rfl HJ.o ((World.cell?_of_block (w:=W2) (a:=⟨bo,j*2+1,none⟩) (jT.trans We.symm)).trans wA.o) (by rw[bO,<-HQ.o];exact an) ⟨pd.os,pd.tape,pd.output,pd.size,pd.block⟩ zeV);have hz6:w8.heap.size<=(w6.setCell ⟨bo,j*2+1,none⟩ (.slice A6 (q+1) c6)).heap.size:=by
     rw[Za];have h1:(W2.alloc (.cells #[.int .i64 ((x.getLastD 0).toNat:Int),.int .i64 i] 145)).heap.size<=w6.heap.size:=pd.size;rw[Xs] at h1;omega
    clear an pd zeV hO We jT qmP;go_wp2_with fail;refine⟨by rfl,⟨fun _=>⟨_,_,rfl,wA.o⟩,trivial⟩,?_⟩;go_wp2_with fail;go_roundw;exact⟨i+1,by omega,by go_num,hz6,HN4.o⟩;simp[intOf];omega
  ·have Ua:i=nt:=by omega
   subst Ua;go_wp2_with fail;have HS0:=Lt (Nm Dx w wr w.heap.size (w.heap.size+1) (bo+1) bo ts (.slice (some ⟨g4,0,none⟩) i c4) ts.length ts.length (pF ts [])) (by
    have h:=HS.o.ext (out':=pF ts []) fun k hk=>by unfold gE;rw[if_pos (by have:=yE.o;omega),qkA]
    rw[<-yE.o]
    exact h)
   clear HS;refine (bR A rows.length c wr).mono ?_;rintro e w9 ⟨rfl,hw9⟩;have HS9:=Lh (show w9.heap.size=wr.heap.size+1 by rw[hw9,Xs]);have zuB:=Lh (show w9.cell? ⟨wr.heap.size,0,none⟩=some (.slice A rows.length c) by
    rw[hw9]
    exact Zc _ _ _ _ _ _ (Xn wr _))
   have HN9:=Lt (Nm Dx w w9 w.heap.size (w.heap.size+1) (bo+1) bo ts (.slice (some ⟨g4,0,none⟩) i c4) ts.length ts.length (pF ts [])) (hw9 ▸ HS0.o.alloc _);have HV9:=Lh (HV.o.below HN9.o.bel);have zbN:=Lh (gl HN9.o.dfr);have HZ9:=Lt (w.heap.size+5<=wr.heap.size) (Yb HZ8.o hzr);clear hw9 HS0 zpT;go_wp2_with fail;refine (wpIn_wide (n:=9)).1 ?_;apply fN (F:=Fence.wide) rfl (by omega) (gf:=165) (lb:=#[.pointer (some ⟨wr.heap.size,0,none⟩)]) rfl trivial (enters_of Tryz.func165 (by kernel_rfl) rfl)
    (vG (9 - 1) wr.heap.size w.heap.size _ rows hws w9 (by have:=HS9.o;have:=HZ9.o;omega) (by have:=HS9.o;omega) zuB.o HV9.o) (fun h k=>h.trans k) (fun W l o o'=>KpR.putObj (by have:=HS9.o;have:=HZ9.o;omega) W l o o') (Xr _ _) (fun _=>rfl)
    (fun pre W=>Nm Dx w W w.heap.size (w.heap.size+1) (bo+1) bo ts (.slice (some ⟨g4,0,none⟩) i c4) ts.length ts.length (pF ts (pre.map Subtype.val))) (fun _ _ _=>False)
    (fun s A B row hs hg hr=>hs.others hg fun r e=>⟨by have:=(hr r e).1;have:=HS9.o;have:=HZ9.o;omega,by have:=(hr r e).1;have:=zbN.o;omega,(hr r e).2⟩)
    (fun _ _ _ _ _ hs _ _=>hs) HN9.o (fun x=>#[.int .i64 x.1.1.1,.string ⟨x.1.1.2.1.toArray⟩,.int .i64 x.1.1.2.2]) 81
    (fun pre x W hI=>⟨⟨(Xr _ _).alloc hI.bel.size _,fun k cs hk=>(Ze W _ k (gl hk)).trans hk⟩,hI.alloc _⟩)
   case hassign =>
    intro l x W Wn b K hb hWn hK
    gi_wp2
    rw[<-hb,<-hWn];exact hK
   case hstop=>exact fun _ _ _ _ _ _ h _=>h.elim
   case hbody =>
    rintro l pre ⟨⟨⟨xa,xs1,xi⟩,xw⟩,hxm⟩ b W Mo hI -;dsimp only at Mo |-;obtain⟨r,hr,Bw⟩:=(bu rows xw).1 (Xa.2 ⟨_,hxm,rfl⟩);obtain⟨j,hj⟩:=List.getElem?_of_mem ((HF.o.mem xw).2 (.inr ⟨r,hr,Bw⟩));have Mn:=(Qj.1 hj).1;have hlk:(Instr.lookup 147 (.map (some w.heap.size)) (.string ⟨xw.toArray⟩) false).run Tryz.prog W=.ok (.int .i64 j) W:=hI.look HND.o Kd Du hj Mn;have c3:=hI.c3;have c9:=hI.c9;rw[<-yE.o] at c9;obtain⟨v5,d0,-,df,-⟩:=hI.at_out Mn;have dfr:=df (j*2);have y1:W.cell? ⟨b,1,none⟩=some (.string ⟨xs1.toArray⟩):=Xc Mo rfl;have y2:W.cell? ⟨b,2,none⟩=some (.int .i64 xi):=Xc Mo rfl;have HSTEP:=Lh (fun k (hk:k<ts.length)=>qcX HND.o (j:=j) (x:=((xa,xs1,xi),xw)) hj (pre.map Subtype.val) hk);have HMP:=Lh (show (pre++[(⟨((xa,xs1,xi),xw),hxm⟩:iE rows)]).map Subtype.val=pre.map Subtype.val++[((xa,xs1,xi),xw)] by simp);have Ad:j<i:=by rw[yE.o];exact Mn
    have HII:=Lh hI;clear df hr Bw hj hI Mo;generalize ho:pF ts (pre.map Subtype.val) j=o at *;by_cases hse:xw=xs1
    ·subst hse;by_cases hon:o<0
     ·gi_wp2
      obtain⟨rs,hO,-⟩:=HII.o.outs;have hbo:=hO.box;change _/\_/\_;refine⟨⟨by rw[Za];exact Ya _,fun k o' _ hk hc=>(Zb _ _ _ _ fun e=>?_).trans hk⟩,⟨(Xr _ _).setCell HII.o.lo.2 _,fun k cs hk=>(Zb _ _ _ _ (No hk hbo (by decide))).trans hk⟩,?_⟩
      ·rw[show k=bo from e,hbo] at hk;cases hk;cases hc
      ·refine (HII.o.setOut Mn xi (out':=fun k=>if k=j then xi else pF ts (pre.map Subtype.val) k) (fun k=>rfl)).ext fun k hk=>?_
       rw[HMP.o,HSTEP.o k hk];by_cases hkj:k=j
       ·rw[if_pos hkj,if_pos (by first | exact⟨hkj,rfl,hon⟩ | exact⟨hkj,trivial,hon⟩)]
       ·rw[if_neg hkj,if_neg fun h=>hkj h.1]
     ·gi_wp2
      change _/\_/\_;refine And.intro (KeepsFrom.refl _ _) (And.intro ⟨Xr _ _,fun _ _ h=>h⟩ (HII.o.ext fun k hk=>?_));rw[HMP.o,HSTEP.o k hk,if_neg fun h=>by have:=h.2.2;omega]
    ·have hse2:((⟨xw.toArray⟩:ByteArray)==⟨xs1.toArray⟩)=false:=by rw[qvD];simpa using hse
     gi_wp2
     change _/\_/\_;refine And.intro (KeepsFrom.refl _ _) (And.intro ⟨Xr _ _,fun _ _ h=>h⟩ (HII.o.ext fun k hk=>?_));rw[HMP.o,HSTEP.o k hk,if_neg fun h=>hse h.2.1]
   case hdone =>
    intro Dy ys Wy hDy hys hN hdy;rw[hys] at hN;have c9:=hN.c9;rw[<-yE.o] at c9;have HNY:=Lh hN;have HDY:=Lh hdy;clear hN hdy;go_wp2_with fail;have hb:∀ x,-9223372036854775808<=Dn rows x/\Dn rows x<=9223372036854775807:=fun x=>by
     rcases mh rows x with h | ⟨r,hr,h⟩
     ·rw[h];omega
     ·rw[h];exact (HV.o.fitR r hr).2.2
    have hT:=HNY.o.tree (rows:=rows) (by have:=a_.o;have:=yE.o;unfold maxLen;omega) (fun k x hk=>by
     unfold pF
     rw[Qb,hk]
     exact qcZ rows x) hb
    have hne:Dy≠Dx:=by have:=zbN.o;omega
    have jR:(Wy.putObj Dy (.deferred none)).heap[Dx]? = some (.deferred (some [])):=(World.putObj_heap_other hne.symm).trans HNY.o.dfr;refine⟨by simp,.inl ⟨_,_,rfl,run_takeDeferred HDY.o,?_⟩⟩;refine⟨by simp,.inl ⟨_,_,rfl,run_takeDeferred jR,?_⟩⟩;refine⟨_,results_tmp rfl _ _ _,_,ts,rfl,HF.o,by have:=a_.o;have:=yE.o;omega,?_,?_⟩
    ·rw[World.putObj_size,World.putObj_size,yE.o];exact hT.keep fun p _=>(qr jR rfl rfl p).trans (qr HDY.o rfl rfl p)
    ·exact HNY.o.bel.trans ((belowK_b (w:=w) (Ya _) _ Dy _ _ (by have:=zbN.o;have:=HDL.o;omega) HDY.o rfl rfl).trans (belowK_b (w:=w) (Ya _) _ Dx _ _ HDL.o jR rfl rfl))
theorem qk(A:Option Addr)(c x:Nat)(m:A_)(w:World)(hv:Je Js w w.heap.size (.slice A m.length c) m)(hx:Kk w x (Iz m.length (Ka m)))(oL:Un m 9223372036854775807=true)(hl:m.length<=2199023255552)(he:∀ k<m.length,(Mb m k).length<=2199023255552)(ht:dX w) :
  Calls Tryz.prog 100 #[.slice A m.length c,.slice (some ⟨x,0,none⟩) m.length m.length] w (qvB m w m.length):=by
 have Nj:=hv.n_le;have si:x<w.heap.size:=(gl hx);have HV:=Lh hv;have HX:=Lh hx;have HG:=Lh (Fy oL);have HE:=Lh he;have HT:=Lh ht;clear hv hx oL he ht;obtain⟨n,hn⟩:=Xe m.length;have HN:=Lh hn;rw[<-hn] at Nj HV hl HX HE |-;clear hn;have qL:=qeD n hl;go_enter Tryz.func100,Tryz.ntmps100;go_wp2_with fail;have HB0:=Lh (show Below w.heap.size w (w.alloc (.cells ((Ge n fun _=>0).map (Value.int .i64)).toArray 3)) from (Xr _ _).alloc (Ya _) _);have HI0:=Lh (show Eb (w.alloc (.cells ((Ge n fun _=>0).map (Value.int .i64)).toArray 3)) w.heap.size (Ge n fun k=>if k<0 then -1 else 0) by
  rw[show (fun k:Nat=>if k<0 then (-1:Int) else 0)=fun _=>0 from funext fun k=>if_neg (by omega)]
  exact Xn w _)
 generalize w.alloc (.cells ((Ge n fun _=>0).map (Value.int .i64)).toArray 3)=w1 at *;obtain⟨x0,ai⟩:=Xe w.heap.size;rw[<-ai] at HI0 |-;have HX0:=Lh ai;clear ai;go_loopw [22] (fun v22 wr=>∃ i:Nat,i<=n/\v22=.int .i64 i/\Hid (Eb wr x0 (Ge n fun k=>if k<i then -1 else 0))/\Hid (Below w.heap.size w wr)) (fun v22 _=>n - (intOf v22).toNat)
 exact⟨0,by omega,rfl,HI0.o,HB0.o⟩;clear HI0 HB0;obtain⟨i,hi,rfl,HI,HB⟩:=hrel;by_cases Ji:i<n
 ·obtain⟨-,c2⟩:=HI.o.at_ Ji;have HI2:=Lh (show Eb (wr.setCell ⟨x0,i,none⟩ (.int .i64 (-1))) x0 (Ge n fun k=>if k<i+1 then -1 else 0) by
   have h:=HI.o.set i (-1)
   rwa [show (fun k:Nat=>if k=i then (-1:Int) else if k<i then -1 else 0)=fun k=>if k<i+1 then -1 else 0 from funext fun k=>by
    by_cases hk:k=i
    ·subst hk;simp
    ·have:(k<i+1)=(k<i):=by apply propext;omega
     simp only[this,if_neg hk]] at h)
  have HB2:=Lh (HB.o.setCell (p:=⟨x0,i,none⟩) (show w.heap.size<=x0 by have:=HX0.o;omega) (.int .i64 (-1)));obtain⟨v0,c1⟩:∃ v0:Int,wr.cell? ⟨x0,i,none⟩=some (.int .i64 v0):=⟨_,(HI.o.at_ Ji).1⟩;clear HI HB;go_wp2_with fail;go_roundw;exact⟨i+1,by omega,by go_num,HI2.o,HB2.o⟩;simp[intOf];omega
 ·have Ua:i=n:=by omega
  subst Ua;have HIC:=Lh (show Eb wr x0 (Ge i fun _=>-1) by
   have h:=HI.o
   rwa [od (g:=fun _=>(-1:Int)) fun k hk=>if_pos hk] at h)
  clear HI;go_wp2_with fail;go_loopg [5,7] (i+2) (fun left v5 v7 wt=>∃(xo:Nat)(C:Nat->Int)(bj:Int),v5=.slice (some ⟨xo,0,none⟩) i i/\v7=.int .i64 bj/\-1<=bj/\bj<=i/\(i:Int)+1 - bj<=left/\w.heap.size<=xo/\Hid (Eb wt xo (Ge i C))/\Hid (Below w.heap.size w wt)/\Hid (cJ m (Ka m) C bj)/\Hid (∀ k,-1<=C k/\C k<=i));exact⟨x0,fun _=>-1,-1,rfl,rfl,by omega,by omega,by omega,by have:=HX0.o;omega,HIC.o,HB.o,.inl ⟨rfl,fun _ _=>rfl⟩,fun _=>⟨by show (-1:Int)<=-1;omega,by show (-1:Int)<=_;omega⟩⟩;clear HIC HB;obtain⟨xo,C,bj,rfl,rfl,zc,hc4,Dp,hxo,HI,HB,HC,HCB⟩:=hrel;obtain⟨gas,Gf⟩:=Xe gk;rw[<-Gf] at Dp;have HGK:=Lh Gf;clear Gf;generalize wr=wo at *;have hmm:=@run_makeMap Tryz.prog;have zfG:=qL (wo.alloc (.map #[] 0));rw[Xs] at zfG;go_wp2_with fail;have HR0:=Lh (show La w ((wo.alloc (.map #[] 0)).alloc (.cells ((Ge i fun _=>0).map (Value.int .i64)).toArray 3)) wo.heap.size xo (wo.heap.size+1) i C (Ti m (Ka m) C 0) (mu m (Ka m) C 0) from
   ⟨(Nn.made wo).below ((Xr _ _).alloc (Ya _) _),(HI.o.below ((Xr _ _).alloc (Ya _) _)).below ((Xr _ _).alloc (Ya _) _),by
    rw[qkF]
    have:=Xn (wo.alloc (.map #[] 0)) (.cells ((Ge i fun _=>0).map (Value.int .i64)).toArray 3)
    rw[Xs] at this
    exact this,(HB.o.alloc HB.o.size _).alloc (by rw[Xs];have:=HB.o.size;omega) _,HB.o.size,hxo,by have:=HB.o.size;omega,by have:=(gl HI.o);omega⟩)
  have HZ:=Lh (show wo.heap.size+2<=((wo.alloc (.map #[] 0)).alloc (.cells ((Ge i fun _=>0).map (Value.int .i64)).toArray 3)).heap.size by rw[Xs,Xs];omega);clear zfG HI HB;generalize (wo.alloc (.map #[] 0)).alloc (.cells ((Ge i fun _=>0).map (Value.int .i64)).toArray 3)=wp at *;obtain⟨g,hg⟩:=Xe wo.heap.size;rw[<-hg] at HR0 HZ |-;clear hg;go_loopw [35] (fun v35 wt=>∃ k:Nat,k<=i/\v35=.int .i64 k/\Hid (La w wt g xo (g+1) i C (Ti m (Ka m) C k) (mu m (Ka m) C k))) (fun v35 _=>i - (intOf v35).toNat);exact⟨0,by omega,rfl,HR0.o⟩;clear HR0;obtain⟨k,hk,rfl,HR⟩:=hrel;by_cases hlk:k<i
  ·have Eu:k<m.length:=by rw[<-HN.o];exact hlk
   obtain⟨b1,o1,cs,rfl,-,hb1,Zx,Zm⟩:=(HV.o.below HR.o.bel).get Eu (by decide);obtain⟨u,rfl,hu,Ib,Sc⟩:=Me Zx;obtain⟨A4,e4,rfl,av,qN⟩:=hu.form;unfold maxLen at qN;have d0:=Zm 0 _ rfl;have d1:=Zm 1 _ rfl;clear Zm Zx;simp only[show Js.size=2 from rfl,Yp,<-Yx] at d0 d1;have wW:=Lh (Ai Eu);have HOU:=Lh (Bq Eu);have HEL:=Lh (HE.o k hlk);have HTO:=Lh (HG.o.tos k Eu);have HU:=Lt (Je Gm w w.heap.size (.slice A4 (m[k]).2.length e4) (m[k]).2) (hu.keep fun p hp=>(HR.o.bel.cell hp).symm);obtain⟨s,hs⟩:=Xe (m[k]);rw[<-hs] at d0 d1 wW HOU HU av Ib Sc;clear hs hu;obtain⟨so,se⟩:=s;simp only at d0 d1 av Ib Sc HU wW HOU;obtain⟨q,hq⟩:=Xe se.length;have HQ:=Lh hq;rw[<-hq] at d1 av HU;clear hq;have hgl:g+1<wr.heap.size:=(gl HR.o.new);obtain⟨f0,ff⟩:=HR.o.new.at_ hlk;have HR2:=Lh ((HR.o.set k (-1)).alloc (.cells #[.int .i64 so,.slice A4 q e4] 118));have Mo:=Xn (wr.setCell ⟨g+1,k,none⟩ (.int .i64 (-1))) (.cells #[.int .i64 so,.slice A4 q e4] 118);rw[Za] at Mo;have HBX:=Lh Mo;have hcu:=((HX.o.grown (row:=none) ⟨HR2.o.bel.os,HR2.o.bel.tape,HR2.o.bel.output,HR2.o.bel.size,fun j hj _=>HR2.o.bel.block j hj⟩ (by simp)).at_ (k:=k) (by rw[Ce];exact hlk)).1;rw[Ap,Yv hlk,Bool.true_and] at hcu;clear Mo HR;obtain⟨b,hb⟩:=Xe (Ka m k);rw[<-hb] at hcu;have ik:=Lh hb;clear hb;cases b
   ·have HR3:=Lt (La w ((wr.setCell ⟨g+1,k,none⟩ (.int .i64 (-1))).alloc (.cells #[.int .i64 so,.slice A4 q e4] 118)) g xo (g+1) i C (Ti m (Ka m) C (k+1)) (mu m (Ka m) C (k+1))) (by
     have h:=HR2.o
     rw[<-kp ik.o.symm,show (fun j=>if j=k then (-1:Int) else mu m (Ka m) C k j)=mu m (Ka m) C (k+1) from funext fun j=>qkG ik.o.symm j] at h
     exact h)
    clear HR2;go_wp2_with fail;go_roundw;exact⟨k+1,by omega,by go_num,HR3.o⟩;simp[intOf];omega
   ·go_wp2_with fail;generalize xv:(wr.setCell ⟨g+1,k,none⟩ (.int .i64 (-1))).alloc (.cells #[.int .i64 so,.slice A4 q e4] 118)=w2 at *;clear xv;generalize wr.heap.size=b11 at *;have co:=(HR2.o.old.at_ hlk).1;have cb0:w2.cell? ⟨b11,0,none⟩=some (.int .i64 so):=Xc HBX.o rfl;have hcb:=HCB.o k;clear d0 d1 f0 ff hcu;have Ft:=St (Lib.itoa (C k));have eX:=St (Lib.itoa so);have wR:=Lib.itoa_length_le (C k) (by omega) (by omega);have dD:=Lib.itoa_length_le so Ib Sc;have hs32:(⟨#[32]⟩:ByteArray).size=1:=rfl;have hs58:(⟨#[58]⟩:ByteArray).size=1:=rfl;refine Text.wp_grow [4,8] [3,7] [] (by kernel_rfl) (by kernel_rfl) ?_;refine Text.wpS_seg 4 _ _ _ _ (by decide) (fun Q' hQ'=>?_);simp only[Xta,Xtz];go_wp2_with fail
    try simp only[Xda,Xdz]
    refine Text.wpS_one (fun Q' hQ'=>?_);go_wp2_with fail;refine (dB (C k) w2.drew (by omega) (by omega) (HT.o.below HR2.o.drew.bel)).mono ?_;rintro e w3 ⟨rfl,hb3⟩;have cb3:w3.cell? ⟨b11,0,none⟩=some (.int .i64 so):=(hb3.cell (p:=⟨b11,0,none⟩) (show b11<w2.heap.size from (gl HBX.o))).trans cb0;have HR3:=Lh (HR2.o.drew.below hb3);have kQ:=Lh ((hb3.block b11 (gl HBX.o)).trans HBX.o);have HB3:=Lh hb3;clear hb3;go_wp2_with fail;refine⟨HB3.o,?_⟩;refine Text.wpS_seg 3 _ _ _ _ (by decide) (fun Q' hQ'=>?_);simp only[Xta,Xtz];go_wp2_with fail
    try simp only[Xda,Xdz]
    refine Text.wpS_one (fun Q' hQ'=>?_);go_wp2_with fail;refine (dB so w3 Ib Sc (HT.o.below HR3.o.bel)).mono ?_;rintro e w4 ⟨rfl,hb4⟩;have HR4:=Lh (HR3.o.below hb4);have Cj:=Lh ((hb4.block b11 (gl kQ.o)).trans kQ.o);have HB4:=Lh (HB3.o.trans (hb4.mono HB3.o.size));clear hb4 cb3;go_wp2_with fail;refine⟨HB4.o,?_⟩;refine Text.wpS_seg 2 _ _ _ _ (by decide) (fun Q' hQ'=>?_);simp only[Xta,Xtz];go_wp2_with fail;refine⟨by rfl,⟨fun _=>⟨_,_,rfl,co⟩,fun _=>⟨_,_,rfl,cb0⟩,trivial⟩,?_⟩;have hst:(⟨(Lib.itoa (C k)).toArray⟩:ByteArray)++⟨#[32]⟩++⟨(Lib.itoa so).toArray⟩=⟨(Sa m (Ka m) C k 0).toArray⟩:=by
     rw[show (⟨#[32]⟩:ByteArray)=⟨[32].toArray⟩ from rfl,aL,aL,sW,HOU.o,Xd];rfl
    rw[hst];have cb1:w4.cell? ⟨b11,1,none⟩=some (.slice A4 q e4):=Xc Cj.o rfl;have O_:=Lh (fun j hj=>zF (m:=m) (use:=Ka m) (c:=C) (i:=k) (fun k=>by have:=HCB.o k;omega) (by rw[HOU.o];exact⟨Ib,Sc⟩) (fun e he=>by
     rw[wW.o] at he
     obtain⟨j,hj,rfl⟩:=Qz he
     obtain⟨_,_,cs,_,_,_,Zx,_⟩:=HU.o.get hj (by decide)
     obtain⟨_,h1,h2,_,_⟩:=Nf Zx
     exact⟨h1,h2⟩) j hj)
    clear hst co cb0 Ft eX wR dD HR2 HR3 HB3 HB4 HBX kQ;go_wp2_with fail;go_loopw [61,12] (fun v61 v12 wt=>∃ e:Nat,e<=q/\v61=.int .i64 e/\v12=wv (Sa m (Ka m) C k e)/\Hid (La w wt g xo (g+1) i C (Ti m (Ka m) C k) fun j=>if j=k then -1 else mu m (Ka m) C k j)) (fun v61 _ _=>q - (intOf v61).toNat)
    exact⟨0,by omega,rfl,rfl,HR4.o⟩;clear HR4 Cj cb1;obtain⟨e,he,rfl,rfl,HR⟩:=hrel;have HR':=HR;by_cases hle:e<q
    ·have ar:e<se.length:=by rw[<-HQ.o];exact hle
     obtain⟨b2,o2,cs,rfl,-,Ja,Zx,Zm⟩:=(HU.o.below HR.o.bel).get ar (by decide);obtain⟨rfl,tX,wM,og,hy4⟩:=Nf Zx;have d0:=Zm 0 _ rfl;have d1:=Zm 1 _ rfl;clear Zm Zx;simp only[show Gm.size=2 from rfl,Yp,<-Yx] at d0 d1;have Ux:se[e]∈Mb m k:=by rw[wW.o];exact Qg ar
     have HPS:=Lh (sX (use:=Ka m) (c:=C) (show (Mb m k)[e]? = some se[e] by rw[wW.o];exact Qa ar));have hto:=HTO.o _ Ux;obtain⟨ed,hed⟩:=Xe (se[e]);rw[<-hed] at d0 d1 tX wM og hy4 HPS hto;clear hed Ux;obtain⟨et,en0⟩:=ed;simp only at d0 d1 tX wM og hy4 hto;obtain⟨en,rfl⟩:∃ en:Nat,en0=(en:Int):=⟨en0.toNat,by omega⟩;have hen:en<i:=by rw[HN.o];omega
     rw[Yy] at HPS;have HR1:=Lh (HR.o.alloc (.cells #[.int .i64 et,.int .i64 en] 145));have Mo:=Xn wr (.cells #[.int .i64 et,.int .i64 en] 145);have hcu:=((HX.o.grown (row:=none) ⟨HR1.o.bel.os,HR1.o.bel.tape,HR1.o.bel.output,HR1.o.bel.size,fun j hj _=>HR1.o.bel.block j hj⟩ (by simp)).at_ (k:=en) (by rw[Ce];exact hen)).1;rw[Ap,Yv hen,Bool.true_and] at hcu;have HBX:=Lh Mo;clear Mo HR HR';obtain⟨b,hb⟩:=Xe (Ka m en);rw[<-hb] at hcu HPS;clear hb;cases b
     ·have HPS2:=Lh (show Sa m (Ka m) C k (e+1)=Sa m (Ka m) C k e by rw[HPS.o];simp);clear HPS;go_wp2_with fail;go_roundw;exact⟨e+1,by omega,by go_num,by rw[HPS2.o],HR1.o⟩;simp[intOf];omega
     ·have HPS2:=Lh (show Sa m (Ka m) C k (e+1)=Sa m (Ka m) C k e++32::(Lib.itoa et++58::Lib.itoa (C en)) by rw[HPS.o];simp);clear HPS;go_wp2_with fail;generalize wr.alloc (.cells #[.int .i64 et,.int .i64 en] 145)=w5 at *;generalize wr.heap.size=b14 at *;have co:=(HR1.o.old.at_ hen).1;have cb0:w5.cell? ⟨b14,0,none⟩=some (.int .i64 et):=Xc HBX.o rfl;have cb1:w5.cell? ⟨b14,1,none⟩=some (.int .i64 en):=Xc HBX.o rfl;have hcb:=HCB.o en;have Ft:=St (Lib.itoa et);have eX:=St (Lib.itoa (C en));have hs3:=St (Sa m (Ka m) C k e);have wR:=Lib.itoa_length_le et tX wM;have dD:=Lib.itoa_length_le (C en) (by omega) (by omega);have hl3:=O_.o e (by rw[wW.o,<-HQ.o];omega);have hq2:q<=2199023255552:=by have:=HEL.o;rw[wW.o,<-HQ.o] at this;exact this
      have pM:b14<w5.heap.size:=(gl HBX.o);clear d0 d1 hcu;refine Text.wp_grow [3,11] [2,8,10] [] (by kernel_rfl) (by kernel_rfl) ?_;refine Text.wpS_seg 3 _ _ _ _ (by decide) (fun Q' hQ'=>?_);simp only[Xta,Xtz];go_wp2_with fail
      try simp only[Xda,Xdz]
      refine Text.wpS_one (fun Q' hQ'=>?_);go_wp2_with fail;refine (dB et w5.drew tX wM (HT.o.below HR1.o.drew.bel)).mono ?_;rintro e1 w6 ⟨rfl,hb6⟩;have cb6:w6.cell? ⟨b14,1,none⟩=some (.int .i64 en):=(hb6.cell (p:=⟨b14,1,none⟩) pM).trans cb1;have HR6:=Lh (HR1.o.drew.below hb6);have co6:=(HR6.o.old.at_ hen).1;have HB6:=Lh hb6;clear hb6;go_wp2_with fail;refine⟨HB6.o,?_⟩;refine Text.wpS_seg 7 _ _ _ _ (by decide) (fun Q' hQ'=>?_);simp only[Xta,Xtz];go_wp2_with fail
      try simp only[Xda,Xdz]
      refine Text.wpS_one (fun Q' hQ'=>?_);go_wp2_with fail;refine (dB (C en) w6 (by omega) (by omega) (HT.o.below HR6.o.bel)).mono ?_;rintro e1 w7 ⟨rfl,Ae⟩;have HR7:=Lh (HR6.o.below Ae);have HB7:=Lh (HB6.o.trans (Ae.mono HB6.o.size));clear Ae cb6 co6;go_wp2_with fail;refine⟨HB7.o,?_⟩;refine Text.wpS_seg 3 _ _ _ _ (by decide) (fun Q' hQ'=>?_);simp only[Xta,Xtz];go_wp2_with fail;refine⟨by rfl,⟨fun _=>⟨_,_,rfl,cb0⟩,fun _=>⟨_,_,rfl,cb1⟩,fun _=>⟨_,_,rfl,co⟩,trivial⟩,?_⟩;have hst:(⟨(Sa m (Ka m) C k e).toArray⟩:ByteArray)++(⟨#[32]⟩++⟨(Lib.itoa et).toArray⟩++⟨#[58]⟩++⟨(Lib.itoa (C en)).toArray⟩)=⟨(Sa m (Ka m) C k (e+1)).toArray⟩:=by
       rw[show (⟨#[32]⟩:ByteArray)=⟨[32].toArray⟩ from rfl,show (⟨#[58]⟩:ByteArray)=⟨[58].toArray⟩ from rfl,aL,aL,aL,aL,HPS2.o];simp
      rw[hst];clear hst Ft eX hs3 co cb0 cb1;go_wp2_with fail;go_roundw;exact⟨e+1,by omega,by go_num,rfl,HR7.o⟩;simp[intOf];omega
    ·have heq:e=q:=by omega
     subst heq;have hpt:Sa m (Ka m) C k e=Ip m (Ka m) C k:=by rw[<-qcS,wW.o,<-HQ.o]
     rw[hpt];clear hpt O_ HR';obtain⟨T,hT0⟩:=Xe (Ip m (Ka m) C k);rw[<-hT0];obtain⟨g0,gf⟩:=HR.o.new.at_ hlk;have Ku:=HR.o.map.look (P:=Tryz.prog) Kd Du T;by_cases Ua:T∈Ti m (Ka m) C k
     ·have wR:(Instr.lookup 147 (.map (some g)) (.string ⟨T.toArray⟩) true).run Tryz.prog wr=.ok (.tuple #[.int .i64 ((Ti m (Ka m) C k).idxOf T:Nat),.bool true]) wr:=by
       have h:=Ku.1;rw[if_pos Ua,Yv Ua] at h;exact h
      have dD:(Instr.lookup 147 (.map (some g)) (.string ⟨T.toArray⟩) false).run Tryz.prog wr=.ok (.int .i64 ((Ti m (Ka m) C k).idxOf T:Nat)) wr:=Ku.2 Ua;have HR2:=Lt (La w (wr.setCell ⟨g+1,k,none⟩ (.int .i64 ((Ti m (Ka m) C k).idxOf T:Nat))) g xo (g+1) i C (Ti m (Ka m) C (k+1)) (mu m (Ka m) C (k+1))) (by
       have h:=HR.o.set k (((Ti m (Ka m) C k).idxOf T:Nat):Int)
       have e1:Tk m (Ka m) C (k+1) k=(((Ti m (Ka m) C k).idxOf T:Nat):Int):=by rw[qaD ik.o.symm,<-hT0,if_pos Ua]
       have e2:Ti m (Ka m) C (k+1)=Ti m (Ka m) C k:=by rw[iW ik.o.symm,<-hT0,if_pos Ua]
       rw[e2,<-funext fun j=>qaA (m:=m) (use:=Ka m) (c:=C) (i:=k) j,e1]
       exact h)
      generalize (((Ti m (Ka m) C k).idxOf T:Nat):Int)=idx at *;clear Ku Ua hT0 HR;go_wp2_with fail;go_roundw;exact⟨k+1,by omega,by go_num,HR2.o⟩;simp[intOf];omega
     ·have wR:(Instr.lookup 147 (.map (some g)) (.string ⟨T.toArray⟩) true).run Tryz.prog wr=.ok (.tuple #[.int .i64 0,.bool false]) wr:=by
       have h:=Ku.1;rw[if_neg Ua,Yw Ua] at h;exact h
      have hlen:(Builtin.len_ #[147] 3 #[.map (some g)]).run Tryz.prog wr=.ok (.int .i64 (Ti m (Ka m) C k).length) wr:=HR.o.map.len Kd;obtain⟨W1,iG,Cm,Ft⟩:=HR.o.put (P:=Tryz.prog) Kd Ua;replace iG:(Instr.mapUpdate 147 (.map (some g)) (.string ⟨T.toArray⟩) (.int .i64 (Ti m (Ka m) C k).length)).run Tryz.prog wr=.ok () W1:=iG;have yh:=(Cm.map.look (P:=Tryz.prog) Kd Du T).2 (by simp);rw[List.idxOf_append,if_neg Ua] at yh;have dD:(Instr.lookup 147 (.map (some g)) (.string ⟨T.toArray⟩) false).run Tryz.prog W1=.ok (.int .i64 (Ti m (Ka m) C k).length) W1:=by simpa using yh
      obtain⟨g1,gf1⟩:=Cm.new.at_ hlk;have HR2:=Lt (La w (W1.setCell ⟨g+1,k,none⟩ (.int .i64 (Ti m (Ka m) C k).length)) g xo (g+1) i C (Ti m (Ka m) C (k+1)) (mu m (Ka m) C (k+1))) (by
       have h:=Cm.set k ((Ti m (Ka m) C k).length:Int)
       have e1:Tk m (Ka m) C (k+1) k=((Ti m (Ka m) C k).length:Int):=by rw[qaD ik.o.symm,<-hT0,if_neg Ua]
       have e2:Ti m (Ka m) C (k+1)=Ti m (Ka m) C k++[T]:=by rw[iW ik.o.symm,<-hT0,if_neg Ua]
       rw[e2,<-funext fun j=>qaA (m:=m) (use:=Ka m) (c:=C) (i:=k) j,e1]
       exact h)
      generalize ((Ti m (Ka m) C k).length:Int)=idx at *;clear Ku yh Ua hT0 HR Cm Ft;go_wp2_with fail;go_roundw;exact⟨k+1,by omega,by go_num,HR2.o⟩;simp[intOf];omega
  ·have hki:k=i:=by omega
   subst hki;have hlen:(Builtin.len_ #[147] 3 #[.map (some g)]).run Tryz.prog wr=.ok (.int .i64 (Ti m (Ka m) C k).length) wr:=HR.o.map.len Kd;have HMO:=Lh (HC.o.more HG.o (Ct m));have HNX:=Lh (HC.o.next HG.o (Ct m));rw[<-HN.o] at HMO HNX;have HLE:=Lh (o_ m (Ka m) C k);have HIN:=Lt (Eb wr (g+1) (Ge k (Tk m (Ka m) C k))) (by
    have h:=HR.o.new
    rwa [od (g:=Tk m (Ka m) C k) fun j hj=>by unfold mu;rw[if_pos hj]] at h)
   obtain⟨K,hK⟩:=Xe ((Ti m (Ka m) C k).length);rw[<-hK] at hlen HMO HNX HLE;have hgw:=HR.o.lo.2.2.1;have HBW:=Lh HR.o.bel;clear hK HR HC;by_cases hkc:(K:Int)=bj
   ·have HKC:=Lh hkc;clear hkc;have hd:((K:Int)==bj)=true:=by simpa using HKC.o
    go_wp2_with fail;go_ret;exact⟨g+1,Tk m (Ka m) C k,rfl,HIN.o,hgw,HBW.o,qaC m (Ka m) C k,HMO.o.2 HKC.o⟩
   ·have hd:((K:Int)==bj)=false:=by simpa using hkc
    have HKC:=Lh hkc;clear hkc;go_wp2_with fail;go_roundg (gas - 1);exact⟨g+1,Tk m (Ka m) C k,K,rfl,rfl,by omega,by have:=HLE.o;omega,by have:=HGK.o;have:=HMO.o.1;have:=HKC.o;omega,hgw,HIN.o,HBW.o,HNX.o,qaC m (Ka m) C k⟩;have:=HGK.o;omega
def fX(q:List Nat):List Value:=q.map fun(x:Nat)=>.int .i64 ((x:Nat):Int)
theorem lw(q:List Nat)(x:Nat):fX (q++[x])=fX q++[.int .i64 (x:Int)]:=by simp[fX]
theorem ku(rs:List (Int×Value))(r:Int×Value):Ug (rs++[r])=Ug rs++[.int .i64 r.1,r.2]:=by simp[Ug]
def yB(W:World)(g:Nat)(cl:Nat->Int)(q:List Nat):Prop:=∃ l,Up (Value.int .i64) W g l/\∀ z,Ni l z=(q.findIdx? fun x=>decide (cl x=z)).map fun n=>.int .i64 (n:Int)
theorem yB.stay{W W':World}{g:Nat}{cl:Nat->Int}{q:List Nat}(h:yB W g cl q)(hs:∀ o:Obj,W.heap[g]? = some o->o.isCells=false->W'.heap[g]? = some o):yB W' g cl q:=by
 obtain⟨l,h1,h2⟩:=h;exact⟨l,h1.stay hs,h2⟩
theorem yB.look{W:World}{g:Nat}{cl:Nat->Int}{q:List Nat}(h:yB W g cl q){mt kt et:TypeId}{P:Program}(K:Sf P mt kt et (Value.int .i64))(hz:∀ w:World,(zeroValue et).run P w=.ok (.int .i64 0) w)(z:Int) :
  (Instr.lookup mt (.map (some g)) (.int .i64 z) true).run P W=.ok (match q.findIdx? fun x=>decide (cl x=z) with | some n=>.tuple #[.int .i64 (n:Int),.bool true] | none=>.tuple #[.int .i64 0,.bool false]) W:=by
 obtain⟨l,h1,h2⟩:=h;rw[h1.lookup_ok K hz z,h2];cases q.findIdx? fun x=>decide (cl x=z) <;> rfl
theorem yB.put{W:World}{g:Nat}{cl:Nat->Int}{q:List Nat}(h:yB W g cl q){mt kt et:TypeId}{P:Program}(K:Sf P mt kt et (Value.int .i64)){y:Nat}(hy:(q.findIdx? fun x=>decide (cl x=cl y))=none) :
  ∃ W',(Instr.mapUpdate mt (.map (some g)) (.int .i64 (cl y)) (.int .i64 q.length)).run P W=.ok () W'/\yB W' g cl (q++[y])/\W.grownBy W' (some g)/\W'.heap.size=W.heap.size:=by
 obtain⟨l,h1,h2⟩:=h;obtain⟨W1,iG,jO,Cn,Ft⟩:=h1.update K (cl y) (.int .i64 q.length);refine⟨W1,iG,⟨_,jO,fun z=>?_⟩,Cn,Ft⟩;rw[Ha,h2,List.findIdx?_append];by_cases hz:z=cl y
 ·subst hz;rw[if_pos rfl,hy];simp[List.findIdx?_cons]
 ·rw[if_neg hz];have:¬ cl y=z:=fun e=>hz e.symm;cases q.findIdx? fun x=>decide (cl x=z) <;> simp[List.findIdx?_cons,this]
structure R_(W:World)(N:Nat)(v:Value)(rs:List (Int×Value))(es:List (List (Int×Int))):Prop where
 len:rs.length=es.length
 row:W.ownsRow N 118 2 v rs.length (Ug rs)
 own:∀(i:Nat)(r:Int×Value)(l:List (Int×Int)),rs[i]? = some r->es[i]? = some l->W.ownsRow N 145 2 r.2 l.length (Iw l)
theorem R_.sl{W:World}{N:Nat}{v:Value}{rs:List (Int×Value)}{es:List (List (Int×Int))}(h:R_ W N v rs es)
  (hb1:∀ r∈rs,-9223372036854775808<=r.1/\r.1<=9223372036854775807) (Ja:∀ l∈es,∀ e∈l,(-9223372036854775808<=e.1/\e.1<=9223372036854775807)/\-9223372036854775808<=e.2/\e.2<=9223372036854775807) :
  Je Js W W.heap.size v ((rs.zip es).map fun p=>(p.1.1,p.2)):=by
 have hz:((rs.zip es).map fun p=>(p.1.1,p.2)).length=rs.length:=by rw[Qk,List.length_zip,h.len,Nat.min_self]
 obtain⟨A,c,hv,hc,Uy⟩:=Zo h.row;have El:=h.row;rw[hv] at El |-;refine⟨_,c,rs.map fun r=>[Value.int .i64 r.1,r.2],by rw[hz],by rw[hz];exact hc,Uy,by rw[hz,Qk],Rd.of_own El,fun i cs x hi hx=>?_⟩;rw[Qv] at hi hx;have Wt:i<rs.length:=by
  rcases Nat.lt_or_ge i rs.length with h | h
  ·exact h
  ·rw[Xf h] at hi;cases hi
 have yu:i<es.length:=by rw[<-h.len];exact Wt
 have hzl:i<(rs.zip es).length:=by rw[List.length_zip];omega
 rw[Qa Wt,Option.map_some] at hi;rw[Qa hzl,List.getElem_zip,Option.map_some] at hx;injection hi with hi;injection hx with hx;subst hi hx;have hown:=h.own i _ _ (Qa Wt) (Qa yu);obtain⟨A',c',e,h1,h2⟩:=Zo hown;refine⟨[.int .i64 rs[i].1],[rs[i].2],rfl,⟨rfl,hb1 _ (Qg Wt)⟩,rs[i].2,rfl,?_⟩;rw[e] at hown |-;refine⟨A',c',es[i].map fun e=>[Value.int .i64 e.1,.int .i64 e.2],rfl,h1,h2,by simp,Rd.of_own hown,fun j cs y hj hy=>?_⟩;rw[Qv,hy] at hj;injection hj with hj;subst hj;obtain⟨⟨a1,a2⟩,a3,a4⟩:=Ja _ (Qg yu) _ (Qp hy);exact⟨_,_,rfl,⟨rfl,a1,a2⟩,rfl,a3,a4⟩
theorem R_.fresh{W W':World}{N:Nat}{v:Value}{rs:List (Int×Value)}{es:List (List (Int×Int))}(h:R_ W N v rs es)(hw:∀ b,N<=b->b<W.heap.size->W'.heap[b]? = W.heap[b]?):R_ W' N v rs es:=by
 have key:∀{t:TypeId}{s:Nat}{u:Value}{n:Nat}{xs:List Value},W.ownsRow N t s u n xs->W'.ownsRow N t s u n xs:=fun ho=>Vb ho fun g cur he hh=>(hw g (ho.lt g he).1 (ho.lt g he).2).trans hh;exact⟨h.len,key h.row,fun i r l hi hl=>key (h.own i r l hi hl)⟩
structure MkI(w3 W:World)(g:Nat)(cl:Nat->Int)(q:List Nat)(v6 v7:Value)(rs:List (Int×Value))(es:List (List (Int×Int))):Prop where
 map:yB W g cl q
 que:W.ownsRow w3.heap.size 3 1 v6 q.length (fX q)
 o:R_ W w3.heap.size v7 rs es
 bel:Below w3.heap.size w3 W
 lo:w3.heap.size<=g
structure iy(w3 W:World)(g lB:Nat)(cl:Nat->Int)(q1 q2:List Nat)(v6 v7:Value)(rs:List (Int×Value))(es:List (List (Int×Int)))(so:Int)(u:Value)(l:List (Int×Int)):Prop where
 map:yB W g cl q1
 que:W.ownsRow w3.heap.size 3 1 v6 q2.length (fX q2)
 o:R_ W w3.heap.size v7 rs es
 box:W.heap[lB]? = some (.cells #[.int .i64 so,u] 118 (0,0))
 uo:W.ownsRow w3.heap.size 145 2 u l.length (Iw l)
 ap:∀(i:Nat)(r:Int×Value)(gg:Nat),rs[i]? = some r->r.2.ownBlock=some gg->u.ownBlock≠some gg
 hne:v7.ownBlock≠some lB
 bel:Below w3.heap.size w3 W
 lo:w3.heap.size<=g/\w3.heap.size<=lB
section
variable {w3 W W':World} {g lB:Nat} {cl:Nat->Int} {q q1 q2:List Nat} {v6 v7:Value} {rs:List (Int×Value)} {es:List (List (Int×Int))} {so:Int} {u:Value} {l:List (Int×Int)}
theorem Sj{N:Nat}{t:TypeId}{s:Nat}{v:Value}{n:Nat}{xs:List Value}(h:W.ownsRow N t s v n xs)(hs:∀(k:Nat)(o:Obj),W.heap[k]? = some o->W'.heap[k]? = some o):W'.ownsRow N t s v n xs:=Vb h fun _ _ _ hh=>hs _ _ hh
theorem MkI.below(h:MkI w3 W g cl q v6 v7 rs es)(hb:Below W.heap.size W W'):MkI w3 W' g cl q v6 v7 rs es:=by
 have hs:∀(k:Nat)(o:Obj),W.heap[k]? = some o->W'.heap[k]? = some o:=fun k o hk=>(hb.block k (gl hk)).trans hk;exact⟨h.map.stay fun o ho _=>hs _ _ ho,Sj h.que hs,⟨h.o.len,Sj h.o.row hs,fun i r l hi hl=>Sj (h.o.own i r l hi hl) hs⟩,h.bel.trans (hb.mono h.bel.size),h.lo⟩
theorem iy.below(h:iy w3 W g lB cl q1 q2 v6 v7 rs es so u l)(hb:Below W.heap.size W W'):iy w3 W' g lB cl q1 q2 v6 v7 rs es so u l:=by
 have hs:∀(k:Nat)(o:Obj),W.heap[k]? = some o->W'.heap[k]? = some o:=fun k o hk=>(hb.block k (gl hk)).trans hk;exact⟨h.map.stay fun o ho _=>hs _ _ ho,Sj h.que hs,⟨h.o.len,Sj h.o.row hs,fun i r l hi hl=>Sj (h.o.own i r l hi hl) hs⟩,hs _ _ h.box,Sj h.uo hs,h.ap,h.hne,h.bel.trans (hb.mono h.bel.size),h.lo⟩
theorem iy.alloc(h:iy w3 W g lB cl q1 q2 v6 v7 rs es so u l)(o:Obj):iy w3 (W.alloc o) g lB cl q1 q2 v6 v7 rs es so u l:=h.below ((Xr _ _).alloc (Ya _) _)
theorem MkI.alloc(h:MkI w3 W g cl q v6 v7 rs es)(o:Obj):MkI w3 (W.alloc o) g cl q v6 v7 rs es:=h.below ((Xr _ _).alloc (Ya _) _)
theorem MkI.open_(h:MkI w3 W g cl q v6 v7 rs es)(so:Int):iy w3 (W.alloc (.cells #[.int .i64 so,.slice none 0 0] 118)) g W.heap.size cl q q v6 v7 rs es so (.slice none 0 0) []:=by
 have h2:=h.alloc (.cells #[.int .i64 so,.slice none 0 0] 118);exact⟨h2.map,h2.que,h2.o,Xn W _,Yz _ _ _ _,fun _ _ _ _ _ e=>by simp[Value.ownBlock] at e,fun e=>by have:=(h.o.row.lt _ e).2;omega,h2.bel,h.lo,h.bel.size⟩
theorem iy.put(h:iy w3 W g lB cl q1 q2 v6 v7 rs es so u l){mt kt et:TypeId}{P:Program}(K:Sf P mt kt et (Value.int .i64)){y:Nat}(hy:(q1.findIdx? fun x=>decide (cl x=cl y))=none) :
  ∃ W',(Instr.mapUpdate mt (.map (some g)) (.int .i64 (cl y)) (.int .i64 q1.length)).run P W=.ok () W'/\iy w3 W' g lB cl (q1++[y]) q2 v6 v7 rs es so u l/\W'.heap.size=W.heap.size/\∀(k:Nat)(cs:Array Value)(t:TypeId)(fr:Nat×Nat),W.heap[k]? = some (.cells cs t fr)->W'.heap[k]? = some (.cells cs t fr):=by
 have zoD:∃ o:Obj,W.heap[g]? = some o/\o.isCells=false:=by
  obtain⟨l,h1,_⟩:=h.map;exact h1.obj
 obtain⟨W1,iG,jO,Cn,Ft⟩:=h.map.put K hy;have El:∀ r,some g=some r->∃ o:Obj,W.heap[r]? = some o/\o.isCells=false:=fun r e=>by cases e;exact zoD
 have hc:∀{k:Nat}{cs:Array Value}{t:TypeId}{fr:Nat×Nat},W.heap[k]? = some (.cells cs t fr)->W1.heap[k]? = some (.cells cs t fr):=fun hk=>Nz Cn El hk;exact⟨W1,iG,⟨jO,Bp Cn El h.que,⟨h.o.len,Bp Cn El h.o.row,fun i r l hi hl=>Bp Cn El (h.o.own i r l hi hl)⟩,hc h.box,Bp Cn El h.uo,h.ap,h.hne,h.bel.trans ((Xr _ _).grown Cn h.bel.size fun k e=>by injection e with e;have:=h.lo.1;omega),h.lo⟩,Ft,fun k cs t fr hk=>hc hk⟩
theorem iy.quep(h:iy w3 W g lB cl q1 q2 v6 v7 rs es so u l){y:Nat}{v:Value}(hown:W'.ownsRow w3.heap.size 3 1 v (q2.length+1) (fX q2++[.int .i64 (y:Int)]))(hg:W.grownBy W' v6.ownBlock):iy w3 W' g lB cl q1 (q2++[y]) v v7 rs es so u l:=by
 have hst:∀(k:Nat)(o:Obj),W.heap[k]? = some o->(∀ cur,o≠.cells cur 3 (0,0))->W'.heap[k]? = some o:=fun k o hk hne=>Dq h.que hg hk hne;refine⟨h.map.stay (fun o ho hc=>hst _ _ ho fun cur e=>by subst e;cases hc),by rw[lw,Qe];exact hown,⟨h.o.len,Vb h.o.row (fun g' cur _ hh=>hst _ _ hh (fun cur e=>by cases e)),fun i r l hi hl=>Vb (h.o.own i r l hi hl) (fun g' cur _ hh=>hst _ _ hh (fun cur e=>by cases e))⟩,
  hst _ _ h.box (fun cur e=>by cases e),Vb h.uo (fun g' cur _ hh=>hst _ _ hh (fun cur e=>by cases e)),h.ap,h.hne,Zt h.bel hg h.que (Ya _) h.bel.size,h.lo⟩
theorem iy.edge(h:iy w3 W g lB cl q1 q2 v6 v7 rs es so u l){e:Int×Int}{v:Value}(hown:W'.ownsRow w3.heap.size 145 2 v (l.length+1) (Iw (l++[e])))(hg:W.grownBy W' u.ownBlock)(hu:v.ownBlock=u.ownBlock\/v.ownBlock=some W.heap.size) :
  iy w3 (W'.setCell ⟨lB,1,none⟩ v) g lB cl q1 q2 v6 v7 rs es so v (l++[e]):=by
 have mM:∀(k:Nat)(o:Obj),W.heap[k]? = some o->(∀ cur,o≠.cells cur 145 (0,0))->W'.heap[k]? = some o:=fun k o hk hne=>Dq h.uo hg hk hne;have jT:=mM _ _ h.box (fun cur e=>by cases e);have hst:∀(k:Nat)(o:Obj),W.heap[k]? = some o->k≠lB->(∀ cur,o≠.cells cur 145 (0,0))->(W'.setCell ⟨lB,1,none⟩ v).heap[k]? = some o:=fun k o hk hn hne=>(Zb _ _ _ _ hn).trans (mM k o hk hne);have Ji:∀(i:Nat)(r:Int×Value)(gg:Nat),rs[i]? = some r->r.2.ownBlock=some gg->gg<W.heap.size:=fun i r gg hi hgg=>by
  have Wt:i<es.length:=by rw[<-h.o.len];exact (Qj.1 hi).1
  exact ((h.o.own i r _ hi (Qa Wt)).lt gg hgg).2
 refine⟨h.map.stay (fun o ho hc=>hst _ _ ho (fun e=>by rw[e,h.box] at ho;cases ho;cases hc) fun cur e=>by subst e;cases hc),?que,⟨h.o.len,?row,?own⟩,?box,?uo,?ap,h.hne,?bel,h.lo⟩
 case que=>exact Vb h.que fun g' cur _ hh=>hst _ _ hh (No hh h.box (by decide)) (fun cur e=>by cases e)
 case row=>exact Vb h.o.row fun g' cur he hh=>hst _ _ hh (fun e=>h.hne (by rw[he,e])) (fun cur e=>by cases e)
 case own =>
  intro i r l' hi hl;refine Vb (h.o.own i r l' hi hl) fun g' cur he hh=>(Zb _ _ _ _ (No ((hg.block g' (gl hh) fun e=>h.ap i r g' hi he e.symm).trans hh) jT (by decide))).trans ?_
  ·exact (hg.block g' (gl hh) fun e=>h.ap i r g' hi he e.symm).trans hh
 case box =>
  rw[Mu jT];rfl
 case uo =>
  rw[Qe];exact Vb hown fun g' cur _ hh=>(Zb _ _ _ _ (No hh jT (by decide))).trans hh
 case ap =>
  intro i r gg hi hgg e;rcases hu with h2 | h2
  ·exact h.ap i r gg hi hgg (by rw[<-h2];exact e)
  ·rw[h2] at e;injection e with e;have:=Ji i r gg hi hgg;omega
 case bel=>exact (Zt h.bel hg h.uo (Ya _) h.bel.size).setCell h.lo.2 _
theorem iy.done(h:iy w3 W g lB cl q q v6 v7 rs es so u l){v:Value}(hown:W'.ownsRow w3.heap.size 118 2 v (rs.length+1) (Ug rs++[.int .i64 so,u]))(hg:W.grownBy W' v7.ownBlock) :
  MkI w3 W' g cl q v6 v (rs++[(so,u)]) (es++[l]):=by
 have hst:∀(k:Nat)(o:Obj),W.heap[k]? = some o->(∀ cur,o≠.cells cur 118 (0,0))->W'.heap[k]? = some o:=fun k o hk hne=>Dq h.o.row hg hk hne;refine⟨h.map.stay (fun o ho hc=>hst _ _ ho fun cur e=>by subst e;cases hc),Vb h.que (fun g' cur _ hh=>hst _ _ hh (fun cur e=>by cases e)),⟨by simp[h.o.len],by rw[ku,Qe];exact hown,fun i r l' hi hl=>?_⟩,Zt h.bel hg h.o.row (Ya _) h.bel.size,h.lo.1⟩;by_cases Wt:i<rs.length
 ·rw[Qo Wt] at hi;rw[Qo (by rw[<-h.o.len];exact Wt)] at hl;exact Vb (h.o.own i r l' hi hl) fun g' cur _ hh=>hst _ _ hh fun cur e=>by cases e
 ·have yv:i=rs.length:=by
   have:=(Qj.1 hi).1;rw[Qe,Qf] at this;omega
  subst yv;rw[Qn (Ya _),Nat.sub_self] at hi;rw[h.o.len,Qn (Ya _),Nat.sub_self] at hl;injection hi with hi;injection hl with hl;subst hi hl;exact Vb h.uo fun g' cur _ hh=>hst _ _ hh fun cur e=>by cases e
end
theorem qgD{m:Kf}{n:Nat}{cl:Nat->Int}(hc:∀ i<n,∀ j<n,Ka m i=true->Ka m j=true->(cl i=cl j↔Gs m i j)){q:List Nat}(hq:∀ x∈q,x<n/\Ka m x=true){y:Nat}(hy:y<n)(uy:Ka m y=true) :
  (q.findIdx? fun x=>decide (cl x=cl y))=q.findIdx? (Nt m y):=by
 induction q with
 |nil=>rfl
 |cons a r ih =>
  have hr:∀ x∈r,x<n/\Ka m x=true:=fun x hx=>hq x (Xi _ hx);obtain⟨ha,ua⟩:=hq a (Xh ..);rw[List.findIdx?_cons,List.findIdx?_cons,ih hr];have e:decide (cl a=cl y)=Nt m y a:=by
   rw[Bool.eq_iff_iff,decide_eq_true_iff,hc a ha y hy ua uy,gY];exact⟨fun h=>Sr h,fun h=>Sr h⟩
  rw[e]
noncomputable def Ex(m:Kf)(x:Nat)(q:List Nat)(k:Nat):List Nat×List (Int×Int):=((Mb m x).take k).foldl (Ec (Ka m) (Nt m)) (q,[])
theorem uL(m:Kf)(x:Nat)(q:List Nat):Ex m x q 0=(q,[]):=rfl
theorem uM{m:Kf}{x:Nat}{q:List Nat}{k:Nat}{e:Int×Int}(h:(Mb m x)[k]? = some e):Ex m x q (k+1)=Ec (Ka m) (Nt m) (Ex m x q k) e:=by
 obtain⟨hk,he⟩:=Qj.1 h;unfold Ex;rw[Qc hk,List.foldl_append,he];rfl
theorem qcD(use:Nat->Bool)(a:Nat->Nat->Bool)(s:List Nat×List (Int×Int))(e:Int×Int):s.1 <+: (Ec use a s e).1/\(Ec use a s e).2.length<=s.2.length+1:=by
 unfold Ec;split
 ·split
  ·exact⟨List.prefix_refl _,by simp⟩
  ·exact⟨List.prefix_append _ _,by simp⟩
 ·exact⟨List.prefix_refl _,by omega⟩
theorem dH(use:Nat->Bool)(a:Nat->Nat->Bool):∀(l:List (Int×Int))(s:List Nat×List (Int×Int)),s.1 <+: (l.foldl (Ec use a) s).1/\(l.foldl (Ec use a) s).2.length<=s.2.length+l.length
 |[],s=>⟨List.prefix_refl _,by simp⟩
 |e::r,s=>by
  obtain⟨h1,h2⟩:=qcD use a s e;obtain⟨h3,h4⟩:=dH use a r (Ec use a s e);rw[List.foldl_cons,Qu];exact⟨h1.trans h3,by omega⟩
theorem qfT(m:Kf)(x:Nat)(q:List Nat)(k:Nat):(Ex m x q k).2.length<=k:=by
 have:=(dH (Ka m) (Nt m) ((Mb m x).take k) (q,[])).2;rw[Qq] at this;unfold Ex;simp only[Xt] at this;omega
theorem qfS(m:Kf)(x:Nat)(q:List Nat)(k:Nat):(Ex m x q k).1 <+: (Ex m x q (Mb m x).length).1:=by
 unfold Ex;rw[List.take_length]
 conv=>rhs;rw[<-Xm k (Mb m x),List.foldl_append]
 exact (dH _ _ _ _).1
theorem re{m:Kf}{n x:Nat}(h:(Uf m n).1[n]? = some x):Uf m (n+1)=((Ex m x (Uf m n).1 (Mb m x).length).1,(Uf m n).2++[(My m x,(Ex m x (Uf m n).1 (Mb m x).length).2)]):=by
 unfold Ex;rw[List.take_length];have e:Uf m (n+1)=match (Uf m n).1[n]? with
  |some x=>(((Mb m x).foldl (Ec (Ka m) (Nt m)) ((Uf m n).1,[])).1,(Uf m n).2++[(My m x,((Mb m x).foldl (Ec (Ka m) (Nt m)) ((Uf m n).1,[])).2)])
  |none=>Uf m n:=rfl
 rw[e,h]
theorem br{m:Kf}(hg:Wm m)(h0:Ka m 0=true)(n:Nat):(∀ x∈(Uf m n).1,x<m.length/\Ka m x=true)/\(Uf m n).1.length<=m.length/\(Uf m n).2.length=min n (Uf m n).1.length:=by
 have h:=nA hg (Ct m) (Of m) ((Ep m 0).1 h0) n;exact⟨fun x hx=>⟨Ra hg (h.ok.use x hx).1,(Ep m x).2 (h.ok.use x hx)⟩,dp hg h.ok,h.len⟩
theorem oR{m:Kf}(hg:Wm m)(h0:Ka m 0=true){n x:Nat}(h:(Uf m n).1[n]? = some x)(k:Nat):(∀ z∈(Ex m x (Uf m n).1 k).1,z<m.length/\Ka m z=true)/\(Ex m x (Uf m n).1 k).1.length<=m.length:=by
 have hp:=qfS m x (Uf m n).1 k;have h2:=br hg h0 (n+1);rw[re h] at h2;exact⟨fun z hz=>h2.1 z (hp.subset hz),Yb hp.length_le h2.2.1⟩
theorem ay{m:Kf}(hg:Wm m)(h0:Ka m 0=true){n x:Nat}(h:(Uf m n).1[n]? = some x)(hx:x<m.length):∀ k,∀ e∈(Ex m x (Uf m n).1 k).2,(∃ d∈Mb m x,e.1=d.1)/\0<=e.2/\e.2<=m.length
 |0=>by
  rw[uL];simp
 |k+1=>by
  have ih:=ay hg h0 h hx k;by_cases hk:k<(Mb m x).length
  ·rw[uM (Qa hk)];intro e he;unfold Ec at he;have hl:=(oR hg h0 h k).2;split at he
   ·split at he
    ·rename_i i hi;rcases Qh.1 he with he | he
     ·exact ih e he
     ·rw[Qi] at he;subst he;have hi2:=(List.findIdx?_eq_some_iff_getElem.1 hi).1;exact⟨⟨_,Qg hk,rfl⟩,by simp only;omega,by simp only;omega⟩
    ·rcases Qh.1 he with he | he
     ·exact ih e he
     ·rw[Qi] at he;subst he;exact⟨⟨_,Qg hk,rfl⟩,by simp only;omega,by simp only;omega⟩
   ·exact ih e he
  ·have:Ex m x (Uf m n).1 (k+1)=Ex m x (Uf m n).1 k:=by
    unfold Ex;rw[Qd (by omega),Qd (by omega)]
   rw[this];exact ih
theorem qlD:Dc Tryz.prog 61 3 1 8 (.int .i64 0):=Gq Tryz.underlying61 (by kernel_rfl) rfl (by omega)
theorem qcE:Dc Tryz.prog 64 118 2 32 (.agg #[.int .i64 0,.slice none 0 0]):=Gq (by kernel_rfl) (by kernel_rfl) rfl (by omega)
theorem bH:Sf Tryz.prog 143 3 3 (Value.int .i64):=qdW (by kernel_rfl) (by kernel_rfl)
def zaI(m:Kf)(w:World)(e:Ending)(w':World):Prop:=∃ vm,e=.returned vm/\(∀ w'':World,(∀ b,w.heap.size<=b->b<w'.heap.size->w''.heap[b]? = w'.heap[b]?)->Je Js w'' w''.heap.size vm (Ny m))/\Below w.heap.size w w'
theorem jJ(v:Value)(m:A_)(w:World)(hv:Je Js w w.heap.size v m)(hl:m.length<=2199023255552)(he:∀ k<m.length,(Mb m k).length<=2199023255552)(ht:dX w) :
  Calls Tryz.prog 45 #[v] w (zaI m w):=by
 have HR:=Lh (eO v m w hv);obtain⟨A,c,rfl,-,-⟩:=hv.form;have Nj:=hv.n_le;have HV:=Lh hv;have HE:=Lh he;have HT:=Lh ht;clear hv he ht;by_cases oL:Un m 9223372036854775807=true
 ·rw[oL] at HR;have HVD:=Lh oL;have HG:=Lh (Fy oL);clear oL;obtain⟨n,hn⟩:=Xe m.length;have HN:=Lh hn;rw[<-hn] at Nj HV hl HE HR |-;clear hn;have Dg:0<n:=by rw[HN.o];exact Qy.2 HG.o.some
  go_enter Tryz.func45,Tryz.ntmps45;go_wp2_with fail;refine HR.o.mono ?_;rintro e w1 ⟨rfl,hb1⟩;have HB1:=Lh hb1;have HU:=Lh (tc (.slice A m.length c) m w1 (by have:=HV.o.fut hb1 (Ya _) hb1.size;rwa [HN.o] at this) HVD.o (by rw[<-HN.o];exact hl));rw[<-HN.o] at HU;clear hb1 HR;go_wp2_with fail;refine HU.o.mono ?_;rintro e w2 ⟨x,rfl,hx,si,Ja⟩;have HX:=Lh hx;have HB2:=Lh (HB1.o.trans (Ja.mono HB1.o.size));have c0:=(hx.at_ (k:=0) (by rw[Ce];exact Dg)).1;rw[Ap,Yv Dg,Bool.true_and] at c0;clear hx Ja HU HB1;obtain⟨b,hb⟩:=Xe (Ka m 0);rw[<-hb] at c0;have ik:=Lh hb;clear hb;cases b
  ·have HM:Hid (Ny m=[(-1,[])]):=by
    show _=_;unfold Ny;rw[if_pos HVD.o,<-ik.o];rfl
   go_wp2_with fail;go_ret;refine⟨_,rfl,fun w'' hw=>?_,HB2.o.alloc HB2.o.size _⟩;have hO:qwO w'' w2.heap.size w2.heap.size (List.replicate 1 (-1,.slice none 0 0)) (List.replicate 1 []):=Oj.mk0 ((hw _ HB2.o.size (by rw[Xs];omega)).trans (Xn w2 _));have hs:=hO.sl Js Gm rfl rfl (c:=1) (by simp) (by simp[maxLen]) (fun r hr=>by simp at hr;subst hr;omega) (fun l hl e he=>by simp at hl;subst hl;simp at he);rw[HM.o];exact hs
  ·have HC:=Lh (qk A c x m w2 (by have:=HV.o.fut HB2.o (Ya _) HB2.o.size;rwa [HN.o] at this) (by rw[<-HN.o];exact HX.o) HVD.o (by rw[<-HN.o];exact hl) (by rw[<-HN.o];exact HE.o) (HT.o.below HB2.o));rw[<-HN.o] at HC;go_wp2_with fail;refine HC.o.mono ?_;rintro e w3 ⟨y,cl,rfl,hy,hyl,hb3,hcb,hca⟩;have HY:=Lh hy;have HB3:=Lh (HB2.o.trans (hb3.mono HB2.o.size));have HX3:=Lt (Kk w3 x (Iz n (Ka m))) ((hb3.block x (gl HX.o)).trans HX.o);have HCA:=Lh hca;have hyw:y<w3.heap.size:=(gl hy);have c1:=(hy.at_ Dg).1;have hmm:=@run_makeMap Tryz.prog;obtain⟨W1,iG,jO,Cn,Ft⟩:=(Up.made (κ:=Value.int .i64) w3).update bH (cl 0) (.int .i64 0);have HM1:=Lh jO;have HG1:=Lh Cn;have HS1:=Lh Ft;clear hy hb3 hcb hca HX HB2 HC jO Cn Ft c0;go_wp2_with fail;have HMK:=Lt (MkI w3 (W1.alloc (.cells #[.int .i64 0] 3)) w3.heap.size cl [0] (.slice (some ⟨W1.heap.size,0,none⟩) 1 1) (.slice none 0 0) [] []) (by
    have hB1:Below w3.heap.size w3 W1:=((Xr w3.heap.size w3).alloc (Ya _) (.map #[] 0)).grown HG1.o (by rw[Xs];omega) (fun k e=>by injection e with e;omega)
    have hz:w3.heap.size<W1.heap.size:=by rw[HS1.o,Xs];omega
    refine⟨⟨_,HM1.o.alloc _,fun z=>?_⟩,⟨rfl,.inr ⟨_,1,_,rfl,by omega,Xn W1 _,by decide,by decide,rfl,rfl⟩⟩,⟨rfl,Yz _ _ _ _,fun i r l hr=>by simp at hr⟩,hB1.alloc (by omega) _,Ya _⟩
    rw[Ha]
    by_cases hz:z=cl 0
    ·subst hz
     simp[List.findIdx?_cons]
    ·have:¬ cl 0=z:=fun e=>hz e.symm
     rw[if_neg hz]
     simp[List.findIdx?_cons,this,Ni])
   generalize W1.alloc (.cells #[.int .i64 0] 3)=wq at *;generalize hv6:(Value.slice (some ⟨W1.heap.size,0,none⟩) 1 1)=v6 at *;clear hv6 iG HG1 HS1 HM1 c1;obtain⟨g,hg⟩:=Xe w3.heap.size;have HMK':=Lt (MkI w3 wq g cl [0] v6 (.slice none 0 0) [] []) (hg ▸ HMK.o);rw[<-hg];clear hg HMK;have h0:Ka m 0=true:=ik.o.symm;have HQU:=Lh (br HG.o h0);have HFQ:=Lh (fun(n x:Nat)(h:(Uf m n).1[n]? = some x)(k:Nat)=>oR HG.o h0 h k);have HFN:=Lh (fun(n x:Nat)(h:(Uf m n).1[n]? = some x)(hx:x<m.length)=>ay HG.o h0 h hx);clear h0;go_loopw [8,6,7] (fun v8 v6 v7 wr=>∃(i:Nat)(q:List Nat)(rs:List (Int×Value))(es:List (List (Int×Int))),v8=.int .i64 i/\i<=q.length/\q.length<=n/\Hid (q=(Uf m i).1)/\Hid (rs.length=i)/\Hid ((rs.zip es).map (fun p=>(p.1.1,p.2))=(Uf m i).2) /\
    Hid (∀ r∈rs,-9223372036854775808<=r.1/\r.1<=9223372036854775807)/\Hid (∀ l∈es,∀ e∈l,(-9223372036854775808<=e.1/\e.1<=9223372036854775807)/\-9223372036854775808<=e.2/\e.2<=9223372036854775807)/\Hid (MkI w3 wr g cl q v6 v7 rs es)) (fun v8 _ _ _=>n+1 - (intOf v8).toNat)
   exact⟨0,[0],[],[],rfl,by simp,by simp;omega,rfl,rfl,rfl,fun r hr=>by simp at hr,fun l hl=>by simp at hl,HMK'.o⟩;clear HMK';obtain⟨i,q,rs,es,rfl,hi,hqn,HQ,HRL,HZ,HB1,HB2,HK⟩:=hrel;obtain⟨A6,c6,rfl,Ic,kX⟩:=Zo HK.o.que;obtain⟨A7,c7,rfl,hl7,yn⟩:=Zo HK.o.o.row;unfold maxLen at kX yn;by_cases Ji:i<q.length
   ·obtain⟨g6,zrB,hv6⟩:=zG HK.o.que (by omega);injection hv6 with e1 e2 e3;subst e1;clear e2 e3 zrB;obtain⟨xq,hxq⟩:∃ xq,q[i]? = some xq:=⟨_,Qa Ji⟩;have cq:wr.cell? ⟨g6,i,none⟩=some (.int .i64 xq):=by
     rw[(HK.o.que).cellAt (g:=g6) (cap:=c6) i (by omega)];unfold fX;rw[Qv,hxq];rfl
    have HXQ:=Lh (show (Uf m i).1[i]? = some xq by rw[<-HQ.o];exact hxq);have hxn:xq<n:=by
     have h:=((HQU.o i).1 xq (Qp HXQ.o)).1;rw[HN.o];exact h
    have hxm:xq<m.length:=by rw[<-HN.o];exact hxn
    have HBW:=Lh (HB3.o.trans (HK.o.bel.mono HB3.o.size));obtain⟨b1,o1,cs,rfl,-,hb1,Zx,Zm⟩:=(HV.o.below HBW.o).get hxm (by decide);obtain⟨u0,rfl,hu,Ib,Sc⟩:=Me Zx;obtain⟨A4,e4,rfl,av,qN⟩:=hu.form;unfold maxLen at qN;have d0:=Zm 0 _ rfl;have d1:=Zm 1 _ rfl;clear Zm Zx;simp only[show Js.size=2 from rfl,Yp,<-Yx] at d0 d1;have wW:=Lh (Ai hxm);have HOU:=Lh (Bq hxm);have HEL:=Lh (HE.o xq hxn);have HTO:=Lh (HG.o.tos xq hxm);have HU:=Lt (Je Gm w w.heap.size (.slice A4 (m[xq]).2.length e4) (m[xq]).2) (hu.keep fun p hp=>(HBW.o.cell hp).symm);obtain⟨s,hs⟩:=Xe (m[xq]);rw[<-hs] at d0 d1 wW HOU HU av Ib Sc;clear hs hu;obtain⟨so,se⟩:=s;simp only at d0 d1 av Ib Sc HU wW HOU;obtain⟨qe,hqe⟩:=Xe se.length;have HQE:=Lh hqe;rw[<-hqe] at d1 av HU;clear hqe;have HK2:=Lh ((HK.o.alloc (.cells #[.int .i64 so,.slice A4 qe e4] 118)).open_ so);have zg:(wr.alloc (.cells #[.int .i64 so,.slice A4 qe e4] 118)).heap.size=wr.heap.size+1:=Xs ..;rw[zg] at HK2;clear zg;go_wp2_with fail;generalize (wr.alloc (.cells #[.int .i64 so,.slice A4 qe e4] 118)).alloc (.cells #[.int .i64 so,.slice none 0 0] 118)=wa at *;generalize wr.heap.size+1=lB at *;go_loopw [54,6] (fun v54 v6 wt=>∃(k:Nat)(q2:List Nat)(l:List (Int×Int))(u:Value),v54=.int .i64 k/\k<=qe/\Hid (Ex m xq (Uf m i).1 k=(q2,l))/\Hid (iy w3 wt g lB cl q2 q2 v6 (.slice A7 rs.length c7) rs es so u l)) (fun v54 _ _=>qe - (intOf v54).toNat);exact⟨0,q,[],.slice none 0 0,rfl,by omega,(uL m xq _).trans (by rw[HQ.o]),HK2.o⟩;clear HK2 HK cq d0 d1;obtain⟨k,q2,l,u,rfl,hk,HF,HK⟩:=hrel;obtain⟨A9,c9,rfl,hl5',zoV⟩:=Zo HK.o.que;obtain⟨Au,cu,rfl,hlu,zoP⟩:=Zo HK.o.uo;unfold maxLen at zoV zoP;have HQ2:=Lh (HFQ.o i xq HXQ.o k);rw[HF.o,<-HN.o] at HQ2;have hq2n:q2.length<=n:=HQ2.o.2;have hlk2:l.length<=k:=by
     have h:=qfT m xq (Uf m i).1 k;rw[HF.o] at h;exact h
    have hqeb:qe<=2199023255552:=by
     have h:=HEL.o;rw[wW.o,<-HQE.o] at h;exact h
    by_cases hlk:k<qe
    ·have Eu:k<se.length:=by rw[<-HQE.o];exact hlk
     have ziX:=Lh (HB3.o.trans (HK.o.bel.mono HB3.o.size));obtain⟨b2,o2,cs,rfl,-,Ja,Zx,Zm⟩:=(HU.o.below ziX.o).get Eu (by decide);obtain⟨rfl,tX,wM,og,hy4⟩:=Nf Zx;have d0:=Zm 0 _ rfl;have d1:=Zm 1 _ rfl;clear Zm Zx;simp only[show Gm.size=2 from rfl,Yp,<-Yx] at d0 d1;have Ux:se[k]∈Mb m xq:=by rw[wW.o];exact Qg Eu
     have HST:=Lh (uM (q:=(Uf m i).1) (show (Mb m xq)[k]? = some se[k] by rw[wW.o];exact Qa Eu));rw[HF.o] at HST;have hto:=HTO.o _ Ux;obtain⟨ed,hed⟩:=Xe (se[k]);rw[<-hed] at d0 d1 tX wM og hy4 HST hto;clear hed Ux;obtain⟨et,en0⟩:=ed;simp only at d0 d1 tX wM og hy4 hto;obtain⟨en,rfl⟩:∃ en:Nat,en0=(en:Int):=⟨en0.toNat,by omega⟩;have hen:en<n:=by rw[HN.o];omega
     have HE1:=Lh (HK.o.alloc (.cells #[.int .i64 et,.int .i64 en] 145));have hcu:=((show Kk (wr.alloc (.cells #[.int .i64 et,.int .i64 en] 145)) x (Iz n (Ka m)) from (HE1.o.bel.block x (gl HX3.o)).trans HX3.o).at_ (k:=en) (by rw[Ce];exact hen)).1;rw[Ap,Yv hen,Bool.true_and] at hcu;have hcy:=((show Eb (wr.alloc (.cells #[.int .i64 et,.int .i64 en] 145)) y (Ge n cl) from (HE1.o.bel.block y hyw).trans HY.o).at_ hen).1;have Mo:=Xn wr (.cells #[.int .i64 et,.int .i64 en] 145);have HBX:=Lh Mo;clear Mo HK ziX HF;obtain⟨b,hb⟩:=Xe (Ka m en);rw[<-hb] at hcu;have HUE:=Lh hb;clear hb;cases b
     ·have HFK:=Lh (show Ex m xq (Uf m i).1 (k+1)=(q2,l) by
       rw[HST.o]
       unfold Ec
       simp only[Yy]
       rw[<-HUE.o]
       rfl)
      clear HST;go_wp2_with fail;go_roundw;exact⟨k+1,q2,l,.slice Au l.length cu,by go_num,by omega,HFK.o,HE1.o⟩;simp[intOf];omega
     ·have hfi:=qgD (m:=m) HCA.o HQ2.o.1 hen HUE.o.symm;have Ku:=HE1.o.map.look (P:=Tryz.prog) bH Du (cl en);rw[hfi] at Ku;have cbx:(wr.alloc (.cells #[.int .i64 et,.int .i64 en] 145)).cell? ⟨lB,1,none⟩=some (.slice Au l.length cu):=Xc HE1.o.box rfl;cases hf:q2.findIdx? (Nt m en) with
      |some nn =>
       rw[hf] at Ku;simp only at Ku;have yf:nn<q2.length:=(List.findIdx?_eq_some_iff_getElem.1 hf).1;have HFK:=Lh (show Ex m xq (Uf m i).1 (k+1)=(q2,l++[(et,(nn:Int))]) by
        rw[HST.o]
        unfold Ec
        simp only[Yy]
        rw[<-HUE.o,if_pos rfl,hf])
       clear HST hf hfi;go_wp2_with (refine Zs (some 97) rfl ?_);refine Stop.go (Zz (m:=1) (n:=l.length) uV rfl rfl rfl rfl (HE1.o.uo.alloc _) (Rd.row (B:=wr.heap.size+2) (Fu wr _ _) (by omega)) rfl (by simp[Value.oneCell']) ?h63 ?hby ?hbase ?_)
       case h63=>simp only[maxLen];omega
       case hby=>omega
       case hbase=>have h:=HE1.o.bel.size;rw[Xs] at h;simp only[Xs];omega
       intro v8 w8 Fn pI ye _;obtain⟨A8,c8,rfl,hl9,qmD⟩:=Zo Fn;have qmO:=(Ze (wr.alloc (.cells #[.int .i64 et,.int .i64 en] 145)) (.cells #[.int .i64 et,.int .i64 nn] 145) _ (gl HE1.o.box)).trans HE1.o.box;have zd:=Dq (HE1.o.uo.alloc (.cells #[.int .i64 et,.int .i64 nn] 145)) pI qmO (fun cur e=>by cases e);have hc8:w8.cell? ⟨lB,1,none⟩=some (.slice Au l.length cu):=Xc zd rfl;have hf8:w8.frozen? ⟨lB,1,none⟩=false:=by simp[World.frozen?,zd]
       have HE9:=Lh ((HE1.o.alloc (.cells #[.int .i64 et,.int .i64 nn] 145)).edge (W':=w8) (e:=(et,(nn:Int))) (by rw[bO];exact Fn) pI ye);clear Fn pI ye qmO zd;go_wp2_with fail;go_roundw;exact⟨k+1,q2,l++[(et,(nn:Int))],.slice A8 (l.length+1) c8,by go_num,by omega,HFK.o,HE9.o⟩;simp[intOf];omega
      |none =>
       rw[hf] at Ku;simp only at Ku;have hf2:(q2.findIdx? fun x=>decide (cl x=cl en))=none:=by rw[hfi,hf]
       obtain⟨W4,iG,hE4,-,zeJ⟩:=HE1.o.put (P:=Tryz.prog) bH hf2;have qtL:=zeJ _ _ _ _ HBX.o;have e40:W4.cell? ⟨wr.heap.size,0,none⟩=some (.int .i64 et):=Xc qtL rfl;have e41:W4.cell? ⟨wr.heap.size,1,none⟩=some (.int .i64 en):=Xc qtL rfl;have Cj:=Lh qtL;have HE4:=Lh hE4;have hz4:=hE4.bel.size;have HFK:=Lh (show Ex m xq (Uf m i).1 (k+1)=(q2++[en],l++[(et,(q2.length:Int))]) by
        rw[HST.o]
        unfold Ec
        simp only[Yy]
        rw[<-HUE.o,if_pos rfl,hf])
       clear HST hf hfi hf2 hE4 qtL zeJ;go_wp2_with (refine Zs (some 89) rfl ?_);refine Stop.go (Zz (m:=1) (n:=q2.length) qlD rfl rfl rfl rfl (HE4.o.que.alloc _) (Rd.row (B:=W4.heap.size+1) (Xn W4 (.cells #[.int .i64 en] 3)) (by omega)) rfl (by simp[Value.oneCell']) ?h63 ?hby ?hbase ?_)
       case h63=>simp only[maxLen];omega
       case hby=>omega
       case hbase=>rw[Xs];omega
       intro v5 w5 Sd aB zeW _;obtain⟨A5,c5,rfl,zoX,hl12⟩:=Zo Sd;have zgH:=Dq (HE4.o.que.alloc (.cells #[.int .i64 en] 3)) aB ((Ze W4 _ _ (gl Cj.o)).trans Cj.o) (fun cur e=>by cases e);have f50:w5.cell? ⟨wr.heap.size,0,none⟩=some (.int .i64 et):=Xc zgH rfl;have HE5:=Lh ((HE4.o.alloc (.cells #[.int .i64 en] 3)).quep (y:=en) Sd aB);have cbx5:w5.cell? ⟨lB,1,none⟩=some (.slice Au l.length cu):=Xc HE5.o.box rfl;clear Sd aB zeW zgH e40 e41;go_wp2_with (refine Zs (some 97) rfl ?_);refine Stop.go (Zz (m:=1) (n:=l.length) uV rfl rfl rfl rfl (HE5.o.uo.alloc _) (Rd.row (B:=w5.heap.size+1) (Xn w5 _) (by omega)) rfl (by simp[Value.oneCell']) ?h63 ?hby ?hbase ?_)
       case h63=>simp only[maxLen];omega
       case hby=>omega
       case hbase=>have h:=HE5.o.bel.size;rw[Xs];omega
       intro v8 w8 Fn pI ye _;obtain⟨A8,c8,rfl,hl9,qmD⟩:=Zo Fn;have qmO:=(Ze w5 (.cells #[.int .i64 et,.int .i64 (q2.length:Int)] 145) _ (gl HE5.o.box)).trans HE5.o.box;have zd:=Dq (HE5.o.uo.alloc (.cells #[.int .i64 et,.int .i64 (q2.length:Int)] 145)) pI qmO (fun cur e=>by cases e);have hc8:w8.cell? ⟨lB,1,none⟩=some (.slice Au l.length cu):=Xc zd rfl;have hf8:w8.frozen? ⟨lB,1,none⟩=false:=by simp[World.frozen?,zd]
       have HE9:=Lh ((HE5.o.alloc (.cells #[.int .i64 et,.int .i64 (q2.length:Int)] 145)).edge (W':=w8) (e:=(et,(q2.length:Int))) (by rw[bO];exact Fn) pI ye);clear Fn pI ye qmO zd;go_wp2_with fail;go_roundw;exact⟨k+1,q2++[en],l++[(et,(q2.length:Int))],.slice A8 (l.length+1) c8,by go_num,by omega,HFK.o,HE9.o⟩;simp[intOf];omega
    ·have hkq:k=qe:=by omega
     subst hkq;have Db:=Lh (re HXQ.o);have hke:k=(Mb m xq).length:=by rw[wW.o,HQE.o]
     rw[<-hke,HF.o,HOU.o] at Db;have Bw:(Uf m i).1.length<=q2.length:=by
      have h:=(dH (Ka m) (Nt m) ((Mb m xq).take k) ((Uf m i).1,[])).1.length_le;have h2:=HF.o;unfold Ex at h2;rw[h2] at h;exact h
     rw[<-HQ.o] at Bw;have HNM:=Lh (HFN.o i xq HXQ.o hxm k);rw[HF.o] at HNM;have HEB:=Lh (fun e (he:e∈l)=>by
      obtain⟨⟨d,hd,h1⟩,h2,h3⟩:=HNM.o e he
      rw[wW.o] at hd
      obtain⟨j,hj,rfl⟩:=Qz hd
      obtain⟨_,_,cs,_,_,_,Zx,_⟩:=HU.o.get hj (by decide)
      obtain⟨_,h4,h5,_,_⟩:=Nf Zx
      exact (show (-9223372036854775808<=e.1/\e.1<=9223372036854775807)/\-9223372036854775808<=e.2/\e.2<=9223372036854775807 from ⟨by rw[h1];exact⟨h4,h5⟩,by omega,by rw[<-HN.o] at h3;omega⟩))
     have b0:wr.cell? ⟨lB,0,none⟩=some (.int .i64 so):=Xc HK.o.box rfl;have b1':wr.cell? ⟨lB,1,none⟩=some (.slice Au l.length cu):=Xc HK.o.box rfl;have hrn:rs.length<=n:=by rw[HRL.o];omega
     clear hke hxq;go_wp2_with (refine Zs (some 103) rfl ?_);refine Stop.go (Zz (m:=1) (n:=rs.length) qcE rfl rfl rfl rfl (HK.o.o.row.alloc _) (Rd.row (B:=wr.heap.size+1) (Xn wr _) (by omega)) rfl (by simp[Value.oneCell']) ?h63 ?hby ?hbase ?_)
     case h63=>simp only[maxLen];omega
     case hby=>omega
     case hbase=>have h:=HK.o.bel.size;rw[Xs];omega
     intro v8 w8 Fn pI ye _;have HD:=Lh ((HK.o.alloc (.cells #[.int .i64 so,.slice Au l.length cu] 118)).done Fn pI);clear Fn pI ye;go_wp2_with fail;go_roundw
     case rel =>
      refine⟨i+1,q2,rs++[(so,Value.slice Au l.length cu)],es++[l],by go_num,by omega,by omega,?_,?_,?_,?_,?_,HD.o⟩
      ·show q2=_;rw[Db.o]
      ·show _=_;rw[Qe,HRL.o];rfl
      ·show _=_;rw[Db.o,<-HZ.o,List.zip_append HK.o.o.len,Qt];rfl
      ·intro r hr;rcases Qh.1 hr with hr | hr
       ·exact HB1.o r hr
       ·rw[Qi] at hr;subst hr;exact⟨Ib,Sc⟩
      ·intro l' kY e he;rcases Qh.1 kY with kY | kY
       ·exact HB2.o l' kY e he
       ·rw[Qi] at kY;subst kY;exact HEB.o e he
     case measure=>simp[intOf];omega
   ·have hiq:i=q.length:=by omega
    have HM:Hid (Ny m=(Uf m i).2):=by
     show _=_;unfold Ny;rw[if_pos HVD.o,if_pos ik.o.symm];exact congrArg Prod.snd (qtV HG.o ((Ep m 0).1 ik.o.symm) (by rw[<-HQ.o];exact hiq.symm))
    have HSL:=Lh (fun(w'':World)(hw:∀ b,w.heap.size<=b->b<wr.heap.size->w''.heap[b]? = wr.heap[b]?)=>by
     have hs:=(HK.o.o.fresh (W':=w'') fun b h1 h2=>hw b (Yb HB3.o.size h1) h2).sl HB1.o HB2.o
     rw[HZ.o,<-HM.o] at hs
     exact hs)
    have sr:=Lh (HB3.o.trans (HK.o.bel.mono HB3.o.size));clear HK;go_wp2_with fail;go_ret;exact⟨_,rfl,HSL.o,sr.o⟩
 ·rw[show Un m 9223372036854775807=false by simpa using oL] at HR;have HM:=Lh (qkO oL);clear oL;go_enter Tryz.func45,Tryz.ntmps45;go_wp2_with fail;refine HR.o.mono ?_;rintro e w1 ⟨rfl,hb1⟩;go_wp2_with fail;go_ret;exact⟨_,rfl,fun w'' _=>by rw[HM.o];exact Je.nil_,hb1⟩
noncomputable def Ay(rows:List Ds):List Wd:=@dite _ (∃ F,Nu rows F) (Classical.propDecidable _) (fun h=>Classical.choose h) (fun _=>[])
theorem Ow{rows:List Ds}{F:List Wd}(h:Nu rows F):Ay rows=F:=by
 have hx:∃ F,Nu rows F:=⟨F,h⟩;unfold Ay;rw[dif_pos hx];exact xU (Classical.choose_spec hx) h
noncomputable def Hh(rows:List Ds):Kf:=Nv rows (Ay rows)
noncomputable def Te(rows:List Ds):Kf:=Ny (Hh rows)
noncomputable def Gd(rows:List Ds)(n:Nat):List Kf:=(List.range n).map fun(left:Nat)=>Te (Wr ((left:Nat):Int) rows)
def qoT(m:Kf)(w:World)(e:Ending)(w':World):Prop:=∃ vm,e=.returned vm/\(∀ w'':World,(∀ b,w.heap.size<=b->b<w'.heap.size->w''.heap[b]? = w'.heap[b]?)->Je Js w'' w''.heap.size vm m)/\Below w.heap.size w w'
structure Hc(rows:List Ud):Prop where
 n:rows.length<=1048576
 w:∀ r∈rows,r.2.1.length<=1048576
theorem Hc.of{rows:List Ud}(h:Hc rows)(left:Int):Hc (Wr left rows):=by
 have hs:(Wr left rows).Sublist rows:=List.filter_sublist;exact⟨Yb hs.length_le h.n,fun r hr=>h.w r (hs.subset hr)⟩
theorem qsL(v:Value)(rows:List Ud)(b3 left:Nat)(w:World)(hv:Je Aj w w.heap.size v rows)(hf:Hc rows)(h3:w.cell? ⟨b3,0,none⟩=some v)(ht:dX w) :
  Calls Tryz.prog 44 #[.int .i64 left,.pointer (some ⟨b3,0,none⟩)] w (qoT (Te (Wr left rows)) w):=by
 obtain⟨A,c,rfl,Nj,Uy⟩:=hv.form;unfold maxLen at Uy;have HV:=Lh hv;have HF:=Lh (hf.of left);have HFR:=Lh hf.n;have HT:=Lh ht;clear hv hf ht;obtain⟨nr,ow⟩:=Xe rows.length;rw[<-ow] at h3 Nj HV;clear ow;go_enter Tryz.func44,Tryz.ntmps44;go_wp2_with fail;refine (qsF _ left rows w HV.o HFR.o).mono ?_;rintro e w1 ⟨v1,rfl,ho1,hb1⟩;have Ev:qpK (Wr left rows):=fun x hx=>HV.o.fitR x (Qw.1 hx).1;have HS1:=Lh (n_ Ev ho1);have HB1:=Lh hb1;clear ho1 hb1;go_wp2_with fail;refine (cp v1 (Wr left rows) w1 HS1.o HF.o.w HF.o.n).mono ?_;rintro e w2 ⟨v2,F,rfl,hF,hFl,eX,Ja⟩;have htr:Nv (Wr left rows) F=Hh (Wr left rows):=by unfold Hh;rw[Ow hF]
 have HL2:=Lh (show (Hh (Wr left rows)).length<=1099512676353 by rw[<-htr,Dm];exact hFl);have b_:=Lh (show ∀ k<(Hh (Wr left rows)).length,(Mb (Hh (Wr left rows)) k).length<=2199023255552 from fun k hk=>by
  rw[<-htr] at hk |-
  rw[Dm] at hk
  rw[(Gw (Qa hk)).2]
  have:=af F F[k]
  omega)
 rw[htr] at eX;have HS2:=Lh eX;have HB2:=Lh (HB1.o.trans (Ja.mono HB1.o.size));clear eX Ja htr hF hFl HS1;go_wp2_with fail;refine (jJ v2 (Hh (Wr left rows)) w2 HS2.o (by have:=HL2.o;omega) b_.o (HT.o.below HB2.o)).mono ?_;rintro e w3 ⟨v3,rfl,hs3,hb3⟩;have HS3:=Lh hs3;have HB3:=Lh (HB2.o.trans (hb3.mono HB2.o.size));clear hs3 hb3;go_wp2_with fail;go_ret;exact⟨_,rfl,fun w'' hw=>HS3.o w'' fun b h1 h2=>hw b (Yb HB2.o.size h1) h2,HB3.o⟩
structure Oo(W:World)(N:Nat)(v:Value)(vs:List Value)(ms:List Kf):Prop where
 len:vs.length=ms.length
 row:W.ownsRow N 64 1 v vs.length vs
 el:∀(i:Nat)(u:Value)(x:Kf),vs[i]? = some u->ms[i]? = some x->∃ s e,(N<=s/\e<=W.heap.size)/\(∀ g,v.ownBlock=some g->g<s\/e<=g)/\∀ w'':World,(∀ b,s<=b->b<e->w''.heap[b]? = W.heap[b]?)->Je Js w'' w''.heap.size u x
theorem Oo.nil(W:World)(N:Nat):Oo W N (.slice none 0 0) [] []:=⟨rfl,Yz _ _ _ _,fun i u x h=>by simp at h⟩
theorem Oo.below{W W':World}{N:Nat}{v:Value}{vs:List Value}{ms:List Kf}(h:Oo W N v vs ms)(hb:Below W.heap.size W W'):Oo W' N v vs ms:=by
 refine⟨h.len,Zy h.row hb,fun i u x hu hx=>?_⟩;obtain⟨s,e,h1,h2,h3⟩:=h.el i u x hu hx;exact⟨s,e,⟨h1.1,Yb h1.2 hb.size⟩,h2,fun w'' hw=>h3 w'' fun b hb1 Ja=>(hw b hb1 Ja).trans (hb.block b (by omega))⟩
theorem Oo.snoc{W0 W W':World}{N:Nat}{v v' vm:Value}{vs:List Value}{ms:List Kf}{m:Kf}(h:Oo W0 N v vs ms)(hN:N<=W0.heap.size)(hb:Below W0.heap.size W0 W)(hm:∀ w'':World,(∀ b,W0.heap.size<=b->b<W.heap.size->w''.heap[b]? = W.heap[b]?)->Je Js w'' w''.heap.size vm m)
  (o:Obj) (hown:W'.ownsRow N 64 1 v' (vs.length+1) (vs++[vm])) (hg:(W.alloc o).grownBy W' v.ownBlock) (hv:v'.ownBlock=v.ownBlock\/v'.ownBlock=some (W.alloc o).heap.size):Oo W' N v' (vs++[vm]) (ms++[m]):=by
 have hz:W.heap.size<W'.heap.size:=by have:=hg.size;rw[Xs] at this;omega
 have Ji:∀ g,v.ownBlock=some g->g<W0.heap.size:=fun g pJ=>(h.row.lt g pJ).2;have qvL:∀ b,b<W.heap.size->some b≠v.ownBlock->W'.heap[b]? = W.heap[b]? := fun b h1 h2=>(hg.block b (by rw[Xs];omega) h2).trans (Ze W o b h1);refine⟨by simp[h.len],by rw[Qe];exact hown,fun i u x hu hx=>?_⟩;by_cases Wt:i<vs.length
 ·rw[Qo Wt] at hu;rw[Qo (by rw[<-h.len];exact Wt)] at hx;obtain⟨s,e,h1,h2,h3⟩:=(h.below hb).el i u x hu hx;have h1':e<=W0.heap.size\/W0.heap.size<=e:=by omega
  refine⟨s,e,by omega,fun g pJ=>?_,fun w'' hw=>h3 w'' fun b hb1 Ja=>(hw b hb1 Ja).trans (qvL b (by omega) fun e'=>?_)⟩
  ·rcases hv with h4 | h4
   ·exact h2 g (by rw[<-h4];exact pJ)
   ·rw[h4] at pJ;injection pJ with pJ;rw[Xs] at pJ;exact .inr (by omega)
  ·rcases h2 b e'.symm with h5 | h5 <;> omega
 ·have yv:i=vs.length:=by
   have:=(Qj.1 hu).1;rw[Qe,Qf] at this;omega
  subst yv;rw[Qn (Ya _),Nat.sub_self] at hu;rw[h.len,Qn (Ya _),Nat.sub_self] at hx;injection hu with hu;injection hx with hx;subst hu hx;refine⟨W0.heap.size,W.heap.size,by omega,fun g pJ=>?_,fun w'' hw=>hm w'' fun b hb1 Ja=>(hw b hb1 Ja).trans (qvL b Ja fun e'=>?_)⟩
  ·rcases hv with h4 | h4
   ·exact .inl (Ji g (by rw[<-h4];exact pJ))
   ·rw[h4] at pJ;injection pJ with pJ;rw[Xs] at pJ;exact .inr (by omega)
  ·have:=Ji b e'.symm;omega
theorem lW{w w':World}{N base:Nat}{e:TypeId}{size:Nat}{v:Value}{n:Nat}{xs:List Value}(h:w.ownsRow base e size v n xs)(hN:N<=base)(hw:∀ b,N<=b->b<w.heap.size->w'.heap[b]? = w.heap[b]?):w'.ownsRow base e size v n xs:=by
 refine⟨h.1,?_⟩;rcases h.2 with h' | ⟨g,cap,cur,rfl,hg,hh,r⟩
 ·exact .inl h'
 ·exact .inr ⟨g,cap,cur,rfl,hg,(hw g (Yb hN hg) (gl hh)).trans hh,r⟩
theorem Oo.fresh{W:World}{N:Nat}{v:Value}{vs:List Value}{ms:List Kf}(h:Oo W N v vs ms)(w'':World)(hw:∀ b,N<=b->b<W.heap.size->w''.heap[b]? = W.heap[b]?):Je (Th Js) w'' w''.heap.size v ms:=by
 have El:=lW h.row (Ya N) hw;obtain⟨A,c,hv,hc,Uy⟩:=Zo El;rw[hv] at El |-;refine⟨A,c,vs.map fun u=>[u],by rw[h.len],by rw[<-h.len];exact hc,Uy,by rw[Qk];exact h.len,?_,fun i cs x hi hx=>?_⟩
 ·have:(vs.map fun u=>[u]).flatten=vs:=by
   generalize vs=l
   induction l with
   |nil=>rfl
   |cons u l ih=>rw[List.map_cons,List.flatten_cons,ih];rfl
  rw[this];exact Rd.of_own El
 ·rw[Qv] at hi;cases hu:vs[i]? with
  |none=>rw[hu] at hi;cases hi
  |some u =>
   rw[hu] at hi;injection hi with hi;subst hi;obtain⟨s,e,h1,h2,h3⟩:=h.el i u x hu hx;exact⟨u,rfl,h3 w'' fun b hb1 Ja=>hw b (Yb h1.1 hb1) (Yd Ja h1.2)⟩
end Go.Proofs.YtmaojnmnbpomeaaGreatDoor
