import Derived.Test.YtfpihflepeiagaaGreatDoorLN13
namespace Go.Proofs.YtfpihflepeiagaaGreatDoor
open Go.RowKit

theorem setE_zero (T:TabD) (a p:Nat) (ends:List Bool):setE T a p ends 0=T:=by
 cases T
 simp[setE]
theorem setE_at (T:TabD) (a p m:Nat) (ends:List Bool):(setE T a p ends m).E a p m=T.E a p m:=by simp[setE]
theorem setE_yes {T:TabD} {a p m:Nat} {ends:List Bool} (h:ends.getD m false=true):setE T a p ends (m+1)=⟨putE (setE T a p ends m).E a p m,(setE T a p ends m).F⟩:=by
 unfold setE putE
 congr 1
 funext a' p' q'
 show (T.E a' p' q'||_)=((T.E a' p' q'||_)||_)
 rw[Bool.or_assoc]
 congr 1
 by_cases e:q'=m
 ·subst e
  rw[h]
  simp
 ·rw[show decide (q'<m+1)=decide (q'<m) by rw[decide_eq_decide];omega,show decide (q'=m)=false by simpa using e]
  simp
theorem setE_no {T:TabD} {a p m:Nat} {ends:List Bool} (h:ends.getD m false=false∨T.E a p m=true):setE T a p ends (m+1)=setE T a p ends m:=by
 unfold setE
 congr 1
 funext a' p' q'
 by_cases e:a'=a∧p'=p∧q'=m
 ·obtain⟨rfl,rfl,rfl⟩:=e
  rcases h with h | h
  ·simp only[h,Bool.and_false]
  ·simp only[h,Bool.true_or]
 ·by_cases e2:a'=a∧p'=p
  ·have e3:q'≠m:=fun e3=>e ⟨e2.1,e2.2,e3⟩
   rw[show decide (q'<m+1)=decide (q'<m) by rw[decide_eq_decide];omega]
  ·rw[show (decide (a'=a)&&decide (p'=p))=false by
    rw[Bool.and_eq_false_iff]
    simp only[decide_eq_false_iff_not]
    by_cases e3:a'=a
    ·exact .inr fun e4=>e2 ⟨e3,e4⟩
    ·exact .inl e3]
   simp
theorem newE_succ (T:TabD) (a p m:Nat) (ends:List Bool):newE T a p ends (m+1)=(newE T a p ends m||(ends.getD m false&&!T.E a p m)):=by
 unfold newE
 rw[List.range_succ,List.any_append]
 simp
theorem newE_zero (T:TabD) (a p:Nat) (ends:List Bool):newE T a p ends 0=false:=rfl
theorem range_drop {n p:Nat} (h:p<n):(List.range n).drop p=p :: (List.range n).drop (p+1):=by
 rw[List.drop_eq_getElem_cons (by simpa using h),List.getElem_range]
theorem bl_false (L:Nat):bcellsB (bl L fun _=>false)=List.replicate (L+1) (Value.bool false):=by
 apply List.ext_getElem?
 intro i
 unfold bcellsB
 rw[List.getElem?_map]
 by_cases hi:i≤L
 ·rw[bl_get hi,List.getElem?_replicate,if_pos (by omega)];rfl
 ·rw[List.getElem?_eq_none (by rw[bl_len];omega),List.getElem?_eq_none (by simp;omega)];rfl
theorem Ta.grow {wo wl w1 w2 w4 w5:World} {base i L x:Nat} {vE vF vE' vF' ve:Value} {es:List Value} {xs:List (List Nat)} {fs l:List Nat} {T:TabD} {p4 p5:Addr} {u4 u5:Value}
  (h:Ta wo base i L vE vF es xs fs T) (hne:∀ u∈es,u.ownBlock=none∨u.ownBlock≠vF.ownBlock) (hl:Sq wl wo.heap.size (L+1) L ve l (T.E i)) (hb1:Below wo.heap.size wo wl) (hb2:Below wl.heap.size wl w1)
  (ho1:w2.ownsRow base 64 1 vE' (i+1) (es++[ve])) (hg1:w1.grownBy w2 vE.ownBlock) (h4:p4.block<base)
  (hb4:Below (w2.setCell p4 u4).heap.size (w2.setCell p4 u4) w4) (hx:BlkB w4 x L (T.F i)) (hxw:(w2.setCell p4 u4).heap.size≤x)
  (ho2:w5.ownsRow base 60 1 vF' (i+1) (blks L fs++[.slice (some ⟨x,0,none⟩) (L+1) (L+1)])) (hg2:w4.grownBy w5 vF.ownBlock) (hblk:vF'.ownBlock=vF.ownBlock∨vF'.ownBlock=some w4.heap.size) (h5:p5.block<base) (hbase:base≤wo.heap.size) :
  Ta (w5.setCell p5 u5) base (i+1) L vE' vF' (es++[ve]) (xs++[l]) (fs++[x]) T∧(∀ u∈es++[ve],u.ownBlock=none∨u.ownBlock≠vF'.ownBlock):=by
 have hs2:(w2.setCell p4 u4).heap.size=w2.heap.size:=by simp[World.setCell]
 have hwl:wo.heap.size≤wl.heap.size:=hb1.size
 have hw1:wl.heap.size≤w1.heap.size:=hb2.size
 have hw2:w1.heap.size≤w2.heap.size:=hg1.size
 have hw4:w2.heap.size≤w4.heap.size:=by have:=hb4.size;omega
 have hl':Sq wl base (L+1) L ve l (T.E i):=hl.more hbase
 have hfr:∀ y∈l,y∉xs.flatten:=fun y hy hm=>by
  have a:=(hl.lt hy).1
  have b:=(h.cu.lt hm).2
  omega
 -- the cube
 have cl:=h.cu.below hb1
 have c2:Cu w2 base (i+1) L vE' (es++[ve]) (xs++[l]) T.E:=cl.snoc hl' hfr hb2 ho1 hg1
 have c3:=c2.low h4 u4
 have c4:=c3.below hb4
 -- the square
 have s1:=(h.sq.below hb1).below hb2
 have cl1:=cl.below hb2
 have s2:Sq w2 base i L vF fs T.F:=s1.kept hg1 (own_ne s1.own cl1.own (by decide)) (fun y hy=>by
  obtain⟨a,ha,rfl⟩:=List.getElem_of_mem hy
  exact own_blkB cl1.own (by decide) (s1.blk a _ (List.getElem?_eq_getElem ha)).2)
 have s3:=s2.low h4 u4
 have s4:=s3.below hb4
 have s5:Sq w5 base (i+1) L vF' (fs++[x]) T.F:=s3.snoc hb4 hx hxw (by omega) ho2 hg2
 -- the rows' blocks
 have hvF:∀ g,vF.ownBlock=some g→g<wo.heap.size:=fun g hg=>(h.sq.own.lt g hg).2
 have hne2:∀ u∈es++[ve],u.ownBlock=none∨u.ownBlock≠vF.ownBlock:=fun u hu=>by
  rcases List.mem_append.1 hu with hu | hu
  ·exact hne u hu
  ·rw[List.mem_singleton] at hu
   subst hu
   cases hb:u.ownBlock with
   |none=>exact .inl rfl
   |some g =>
    right
    intro e
    have a:=(hl.own.lt g hb).1
    have b:=hvF g e.symm
    omega
 have c5:Cu w5 base (i+1) L vE' (es++[ve]) (xs++[l]) T.E:=c4.kept hg2 (own_ne c4.own s4.own (by decide)) hne2 (fun y hy=>by
  obtain⟨m,hm,hym⟩:=List.mem_flatten.1 hy
  obtain⟨a,u,_,_,hs⟩:=c4.row_of hm
  obtain⟨b,hb,rfl⟩:=List.getElem_of_mem hym
  exact own_blkB s4.own (by decide) (hs.blk b _ (List.getElem?_eq_getElem hb)).2)
 refine⟨⟨c5.low h5 u5,s5.low h5 u5,fun y hy hm=>?_⟩,fun u hu=>?_⟩
 ·rcases List.mem_append.1 hy with hy | hy
  ·rw[List.flatten_append] at hm
   rcases List.mem_append.1 hm with hm | hm
   ·exact h.apart y hy hm
   ·simp at hm
    have a:=(hl.lt hm).1
    have b:=(h.sq.lt hy).2
    omega
  ·rw[List.mem_singleton] at hy
   subst hy
   have:=(c3.lt hm).2
   omega
 ·rcases hblk with hb | hb
  ·rw[hb];exact hne2 u hu
  ·cases hu2:u.ownBlock with
   |none=>exact .inl rfl
   |some g =>
    right
    rw[hb]
    intro e
    injection e with e
    have:g<w4.heap.size:=by
     obtain⟨a,ha,rfl⟩:=List.getElem_of_mem hu
     have hax:a<(xs++[l]).length:=by rw[c4.lx,←c4.le];exact ha
     exact ((c4.row a _ _ (List.getElem?_eq_getElem ha) (List.getElem?_eq_getElem hax)).own.lt g hu2).2
    omega
def MakeTabTo (A1 A2 A3:Option Addr) (n m q c1 c2 c3:Nat) (wd:Wd) (rs:RuleL) (w:World) (e:Ending) (w':World):Prop :=
 ∃ (AE AF:Option Addr) (ce cf:Nat) (T:TabD),e=.returned (tabV A1 A2 A3 n m q c1 c2 c3 wd AE ce AF cf)∧TabTo wd rs n T∧TabR w' w'.heap.size AE ce AF cf n wd.length T∧(∀ w'':World,(∀ b,w.heap.size≤b→b<w'.heap.size→w''.heap[b]? = w'.heap[b]?)→TabR w'' w''.heap.size AE ce AF cf n wd.length T)∧Below w.heap.size w w'
abbrev TBox (w:World) (g:Nat) (A1 A2 A3:Option Addr) (n m q c1 c2 c3:Nat) (X:ByteArray) (vE vF:Value):Prop:=w.heap[g]? = some (.cells #[.slice A1 n c1,.slice A2 m c2,.slice A3 q c3,.string X,vE,vF] 66 (0,0))
theorem ret_tab {fn:Func} {p:Tmp} {Q:Ending→World→Prop} (h:fn.results=#[.cell p 66]) {a:Act} {w:World} {g:Nat} {c0 c1 c2 c3 c4 c5:Value} {fr:Nat×Nat} {t:TypeId} (hd:a.defers=[])
  (hp:a.tmps.getD p undef=.pointer (some ⟨g,0,none⟩)) (hg:w.heap[g]? = some (.cells #[c0,c1,c2,c3,c4,c5] t fr)) (hq:Q (.returned (.agg #[c0,c1,c2,c3,c4,c5])) w):bodyPost Tryz.prog fn Q .ret a w :=
 bodyPost_ret (v:=.agg #[c0,c1,c2,c3,c4,c5]) (results_cell_row h _ w g t _ fr _ hp hg Tryz.underlying66 rfl (by kernel_rfl)) hd hq
theorem store_tab {w:World} {g:Nat} {A1 A2 A3 AE AF:Option Addr} {n m q c1 c2 c3 ce cf:Nat} {X:ByteArray} {d0 d1 d2 d3 d4 d5:Value} (hg:w.heap[g]? = some (.cells #[d0,d1,d2,d3,d4,d5] 66 (0,0))) :
  (Instr.storeAt 66 (.pointer (some ⟨g,0,none⟩)) (.agg #[.slice A1 n c1,.slice A2 m c2,.slice A3 q c3,.string X,.slice AE n ce,.slice AF n cf])).run Tryz.prog w=.ok () (w.setRow g #[.slice A1 n c1,.slice A2 m c2,.slice A3 q c3,.string X,.slice AE n ce,.slice AF n cf]) :=
 store_agg (P:=Tryz.prog) (vs:=[.slice A1 n c1,.slice A2 m c2,.slice A3 q c3,.string X,.slice AE n ce,.slice AF n cf]) (off:=0) rfl (by kernel_rfl) hg (by simp) (by simp[Value.oneCell'])
theorem Sq.high {w w':World} {base n L:Nat} {v:Value} {fs:List Nat} {F:Nat→Nat→Bool} (h:Sq w base n L v fs F) (hk:∀ b,base≤b→w'.heap[b]? = w.heap[b]?):Sq w' base n L v fs F :=
 ⟨h.len,own_keep20 h.own fun g _ hg _ _=>hk g hg,fun a x hx=>⟨(h.blk a x hx).1,(hk x (h.blk a x hx).1).trans (h.blk a x hx).2⟩,h.nd⟩
theorem Ta.high {w w':World} {base n L:Nat} {vE vF:Value} {es:List Value} {xs:List (List Nat)} {fs:List Nat} {T:TabD} (h:Ta w base n L vE vF es xs fs T) (hk:∀ b,base≤b→w'.heap[b]? = w.heap[b]?):Ta w' base n L vE vF es xs fs T :=
 ⟨⟨h.cu.le,h.cu.lx,own_keep20 h.cu.own fun g _ hg _ _=>hk g hg,fun a u l hu hl=>(h.cu.row a u l hu hl).high hk,h.cu.nd⟩,h.sq.high hk,h.apart⟩
theorem Sq.high2 {w w':World} {base n L:Nat} {v:Value} {fs:List Nat} {F:Nat→Nat→Bool} (h:Sq w base n L v fs F) (hk:∀ b,base≤b→b<w.heap.size→w'.heap[b]? = w.heap[b]?):Sq w' base n L v fs F :=
 ⟨h.len,own_keep20 h.own fun g _ hg _ hh=>hk g hg (Array.getElem?_eq_some_iff.1 hh).1,fun a x hx=>⟨(h.blk a x hx).1,(hk x (h.blk a x hx).1 (Array.getElem?_eq_some_iff.1 (h.blk a x hx).2).1).trans (h.blk a x hx).2⟩,h.nd⟩
theorem Ta.high2 {w w':World} {base n L:Nat} {vE vF:Value} {es:List Value} {xs:List (List Nat)} {fs:List Nat} {T:TabD} (h:Ta w base n L vE vF es xs fs T) (hk:∀ b,base≤b→b<w.heap.size→w'.heap[b]? = w.heap[b]?):Ta w' base n L vE vF es xs fs T :=
 ⟨⟨h.cu.le,h.cu.lx,own_keep20 h.cu.own fun g _ hg _ hh=>hk g hg (Array.getElem?_eq_some_iff.1 hh).1,fun a u l hu hl=>(h.cu.row a u l hu hl).high2 hk,h.cu.nd⟩,h.sq.high2 hk,h.apart⟩
theorem tbox4 {w:World} {g:Nat} {A1 A2 A3:Option Addr} {n m q c1 c2 c3:Nat} {X:ByteArray} {vE vF:Value} (h:TBox w g A1 A2 A3 n m q c1 c2 c3 X vE vF) (v:Value):TBox (w.setCell ⟨g,4,none⟩ v) g A1 A2 A3 n m q c1 c2 c3 X v vF:=by
 show (w.setCell ⟨g,4,none⟩ v).heap[g]? = _
 simp only[World.setCell,Array.getElem?_modify,if_true,h,Option.map_some]
 rfl
theorem tbox5 {w:World} {g:Nat} {A1 A2 A3:Option Addr} {n m q c1 c2 c3:Nat} {X:ByteArray} {vE vF:Value} (h:TBox w g A1 A2 A3 n m q c1 c2 c3 X vE vF) (v:Value):TBox (w.setCell ⟨g,5,none⟩ v) g A1 A2 A3 n m q c1 c2 c3 X vE v:=by
 show (w.setCell ⟨g,5,none⟩ v).heap[g]? = _
 simp only[World.setCell,Array.getElem?_modify,if_true,h,Option.map_some]
 rfl
theorem tbox_frozen {w:World} {g k:Nat} {A1 A2 A3:Option Addr} {n m q c1 c2 c3:Nat} {X:ByteArray} {vE vF:Value} (h:TBox w g A1 A2 A3 n m q c1 c2 c3 X vE vF):w.frozen? ⟨g,k,none⟩=false:=by simp[World.frozen?,h]
theorem grown_low {w w':World} {base b:Nat} {e:TypeId} {size:Nat} {v:Value} {n:Nat} {xs:List Value} (h:w.ownsRow base e size v n xs) (hg:w.grownBy w' v.ownBlock) (hb:b<base) (hw:b<w.heap.size):w'.heap[b]? = w.heap[b]? :=
 hg.block b hw fun e=>by have:=(h.lt b e.symm).1;omega
set_option maxRecDepth 100000 in
set_option maxHeartbeats 40000000 in
theorem makeTab_any {A1 A2 A3:Option Addr} {n m q c1 c2 c3:Nat} {rs:RuleL} (wd:Wd) (w:World) (hR:SlR eRule w w.heap.size (.slice A3 q c3) rs) (hw:∀ r∈rs,0≤r.1∧r.1<(n:Int)∧∀ s∈r.2,s<(n:Int)∧-256≤s) (hL:wd.length≤4096) (hn:n≤4096) (hq4:q≤1048576) :
  Calls Tryz.prog 24 #[gramV A1 A2 A3 n m q c1 c2 c3,wv wd] w (MakeTabTo A1 A2 A3 n m q c1 c2 c3 wd rs w):=by
 have HEN0:=Lib.hid (fun (T:TabD) (AE AF:Option Addr) (ce cf:Nat) (w':World) (right:List Int) (Ar:Option Addr) (p cr at_:Nat) (hT:TabR w' w'.heap.size AE ce AF cf n wd.length T) (hr:SlR eInt w' w'.heap.size (.slice Ar p cr) right) (hs:∀ s∈right,s<(n:Int)∧-256≤s) (ha:at_≤wd.length)=>ends_any (A1:=A1) (A2:=A2) (A3:=A3) (m:=m) (q:=q) (c1:=c1) (c2:=c2) (c3:=c3) wd right at_ w' hT hr hs ha hL hn)
 have HBE0:=Lib.hid (fun (T:TabD) (AE AF:Option Addr) (ce cf:Nat) (w':World) (right:List Int) (Ar:Option Addr) (p cr at_:Nat) (hT:TabR w' w'.heap.size AE ce AF cf n wd.length T) (hr:SlR eInt w' w'.heap.size (.slice Ar p cr) right) (hs:∀ s∈right,s<(n:Int)∧-256≤s) (ha:at_≤wd.length)=>begins_any (A1:=A1) (A2:=A2) (A3:=A3) (m:=m) (q:=q) (c1:=c1) (c2:=c2) (c3:=c3) wd right at_ w' hT hr hs ha hL hn)
 obtain⟨X,hX⟩:∃ X:ByteArray,X=⟨wd.toArray⟩:=⟨_,rfl⟩
 have hXs:X.size=wd.length:=by rw[hX];rfl
 unfold tabV at HEN0 HBE0
 have HEN:=Lib.hid (show ∀ (T:TabD) (AE AF:Option Addr) (ce cf:Nat) (w':World) (right:List Int) (Ar:Option Addr) (p cr at_:Nat),TabR w' w'.heap.size AE ce AF cf n wd.length T→SlR eInt w' w'.heap.size (.slice Ar p cr) right→(∀ s∈right,s<(n:Int)∧-256≤s)→at_≤wd.length→Calls Tryz.prog 45 #[.agg #[.slice A1 n c1,.slice A2 m c2,.slice A3 q c3,.string X,.slice AE n ce,.slice AF n cf],.slice Ar p cr,.int .i64 at_] w' (OwnBools w' (endsL wd T.E right at_)) from fun T AE AF ce cf w' right Ar p cr at_ h1 h2 h3 h4=>by rw[hX];exact HEN0.out T AE AF ce cf w' right Ar p cr at_ h1 h2 h3 h4)
 have HBE:=Lib.hid (show ∀ (T:TabD) (AE AF:Option Addr) (ce cf:Nat) (w':World) (right:List Int) (Ar:Option Addr) (p cr at_:Nat),TabR w' w'.heap.size AE ce AF cf n wd.length T→SlR eInt w' w'.heap.size (.slice Ar p cr) right→(∀ s∈right,s<(n:Int)∧-256≤s)→at_≤wd.length→Calls Tryz.prog 46 #[.agg #[.slice A1 n c1,.slice A2 m c2,.slice A3 q c3,.string X,.slice AE n ce,.slice AF n cf],.slice Ar p cr,.int .i64 at_] w' (fun e w''=>e=.returned (.bool (beginsL wd T right at_))∧Below w'.heap.size w' w'') from fun T AE AF ce cf w' right Ar p cr at_ h1 h2 h3 h4=>by rw[hX];exact HBE0.out T AE AF ce cf w' right Ar p cr at_ h1 h2 h3 h4)
 rw[show wv wd=Value.string X by rw[hX]]
 have HPOST:=Lib.hid (show ∀ (AE AF:Option Addr) (ce cf:Nat) (T:TabD) (w':World),TabTo wd rs n T→TabR w' w'.heap.size AE ce AF cf n wd.length T→(∀ w'':World,(∀ b,w.heap.size≤b→b<w'.heap.size→w''.heap[b]? = w'.heap[b]?)→TabR w'' w''.heap.size AE ce AF cf n wd.length T)→Below w.heap.size w w'→MakeTabTo A1 A2 A3 n m q c1 c2 c3 wd rs w (.returned (.agg #[.slice A1 n c1,.slice A2 m c2,.slice A3 q c3,.string X,.slice AE n ce,.slice AF n cf])) w' from fun AE AF ce cf T w' h1 h2 h3 h4=>⟨AE,AF,ce,cf,T,by rw[hX],h1,h2,h3,h4⟩)
 have HR:=Lib.hid hR
 have HW:=Lib.hid hw
 have HQ:=Lib.hid hR.n_eq
 have hcq:=hR.n_le
 obtain⟨L,hLL⟩:∃ L,L=wd.length:=⟨_,rfl⟩
 rw[←hLL] at hXs HEN HBE HPOST hL
 have HLW:=Lib.hid hLL
 clear hX hLL hR HEN0 HBE0 hw
 go_enter Tryz.func24,Tryz.ntmps24
 go_wp2_with fail
 have hb1:=(Below.refl w.heap.size w).alloc (Nat.le_refl _) (.cells #[.slice A1 n c1,.slice A2 m c2,.slice A3 q c3] 25)
 have hb2:=hb1.alloc (by rw[World.size_alloc];omega) (.cells #[.slice none 0 0,.slice none 0 0,.slice none 0 0,.string ⟨#[]⟩,.slice none 0 0,.slice none 0 0] 66)
 have HB3:=Lib.hid (hb2.alloc (by rw[World.size_alloc,World.size_alloc];omega) (.cells #[.slice A1 n c1,.slice A2 m c2,.slice A3 q c3,.string X,.slice none 0 0,.slice none 0 0] 66))
 have HZ3:=Lib.hid (show (((w.alloc (.cells #[.slice A1 n c1,.slice A2 m c2,.slice A3 q c3] 25)).alloc (.cells #[.slice none 0 0,.slice none 0 0,.slice none 0 0,.string ⟨#[]⟩,.slice none 0 0,.slice none 0 0] 66)).alloc (.cells #[.slice A1 n c1,.slice A2 m c2,.slice A3 q c3,.string X,.slice none 0 0,.slice none 0 0] 66)).heap.size=w.heap.size+3 by rw[World.size_alloc,World.size_alloc,World.size_alloc])
 have HK0:=Lib.hid (show (((w.alloc (.cells #[.slice A1 n c1,.slice A2 m c2,.slice A3 q c3] 25)).alloc (.cells #[.slice none 0 0,.slice none 0 0,.slice none 0 0,.string ⟨#[]⟩,.slice none 0 0,.slice none 0 0] 66)).alloc (.cells #[.slice A1 n c1,.slice A2 m c2,.slice A3 q c3,.string X,.slice none 0 0,.slice none 0 0] 66)).heap[w.heap.size]? = some (.cells #[.slice A1 n c1,.slice A2 m c2,.slice A3 q c3] 25 (0,0)) by
  rw[heap_alloc_old _ _ (by rw[World.size_alloc,World.size_alloc];omega),heap_alloc_old _ _ (by rw[World.size_alloc];omega)]
  exact Go.heap_alloc_new w _)
 have HK1:=Lib.hid (show (((w.alloc (.cells #[.slice A1 n c1,.slice A2 m c2,.slice A3 q c3] 25)).alloc (.cells #[.slice none 0 0,.slice none 0 0,.slice none 0 0,.string ⟨#[]⟩,.slice none 0 0,.slice none 0 0] 66)).alloc (.cells #[.slice A1 n c1,.slice A2 m c2,.slice A3 q c3,.string X,.slice none 0 0,.slice none 0 0] 66)).heap[w.heap.size+1]? = some (.cells #[.slice none 0 0,.slice none 0 0,.slice none 0 0,.string ⟨#[]⟩,.slice none 0 0,.slice none 0 0] 66 (0,0)) by
  rw[heap_alloc_old _ _ (by rw[World.size_alloc,World.size_alloc];omega)]
  exact heap_two w _ _)
 have HK2:=Lib.hid (show TBox (((w.alloc (.cells #[.slice A1 n c1,.slice A2 m c2,.slice A3 q c3] 25)).alloc (.cells #[.slice none 0 0,.slice none 0 0,.slice none 0 0,.string ⟨#[]⟩,.slice none 0 0,.slice none 0 0] 66)).alloc (.cells #[.slice A1 n c1,.slice A2 m c2,.slice A3 q c3,.string X,.slice none 0 0,.slice none 0 0] 66)) (w.heap.size+1+1) A1 A2 A3 n m q c1 c2 c3 X (.slice none 0 0) (.slice none 0 0) by
  have:=heap_two (w.alloc (.cells #[.slice A1 n c1,.slice A2 m c2,.slice A3 q c3] 25)) (.cells #[.slice none 0 0,.slice none 0 0,.slice none 0 0,.string ⟨#[]⟩,.slice none 0 0,.slice none 0 0] 66) (.cells #[.slice A1 n c1,.slice A2 m c2,.slice A3 q c3,.string X,.slice none 0 0,.slice none 0 0] 66)
  rw[World.size_alloc] at this
  exact this)
 clear hb1 hb2
 generalize (((w.alloc (.cells #[.slice A1 n c1,.slice A2 m c2,.slice A3 q c3] 25)).alloc (.cells #[.slice none 0 0,.slice none 0 0,.slice none 0 0,.string ⟨#[]⟩,.slice none 0 0,.slice none 0 0] 66)).alloc (.cells #[.slice A1 n c1,.slice A2 m c2,.slice A3 q c3,.string X,.slice none 0 0,.slice none 0 0] 66))=w3 at *
 have HCG:Hid (∀ w2:World,w2.heap[w.heap.size]? = some (.cells #[.slice A1 n c1,.slice A2 m c2,.slice A3 q c3] 25 (0,0))→w2.cell? ⟨w.heap.size,0,none⟩=some (.slice A1 n c1)∧w2.cell? ⟨w.heap.size,2,none⟩=some (.slice A3 q c3)):=fun w2 hk=>⟨by rw[cell_of_row _ _ _ _ _ _ hk];rfl,by rw[cell_of_row _ _ _ _ _ _ hk];rfl⟩
 have HCT:Hid (∀ (w2:World) (vE vF:Value),TBox w2 (w.heap.size+1+1) A1 A2 A3 n m q c1 c2 c3 X vE vF→w2.cell? ⟨w.heap.size+1+1,0,none⟩=some (.slice A1 n c1)∧w2.cell? ⟨w.heap.size+1+1,1,none⟩=some (.slice A2 m c2)∧w2.cell? ⟨w.heap.size+1+1,2,none⟩=some (.slice A3 q c3)∧w2.cell? ⟨w.heap.size+1+1,3,none⟩=some (.string X)∧w2.cell? ⟨w.heap.size+1+1,4,none⟩=some vE∧w2.cell? ⟨w.heap.size+1+1,5,none⟩=some vF):=fun w2 vE vF hk=>⟨by rw[cell_of_row _ _ _ _ _ _ hk];rfl,by rw[cell_of_row _ _ _ _ _ _ hk];rfl,by rw[cell_of_row _ _ _ _ _ _ hk];rfl,by rw[cell_of_row _ _ _ _ _ _ hk];rfl,by rw[cell_of_row _ _ _ _ _ _ hk];rfl,by rw[cell_of_row _ _ _ _ _ _ hk];rfl⟩
 obtain⟨T0,hT0⟩:∃ T0,T0=tabStart wd n:=⟨_,rfl⟩
 have HT0:=Lib.hid hT0
 have HT0E:=Lib.hid (show ∀ i,T0.E i=fun _ _=>false from fun i=>by rw[hT0];rfl)
 have HT0F:=Lib.hid (show ∀ i,i<n→bl L (T0.F i)=bl L (fun x=>false||decide (x=L)) from fun i hi=>by rw[hT0];exact bl_ext fun k _=>by show (decide (i<n)&&decide (k=wd.length))=_;rw[←HLW.out];simp[hi])
 clear hT0
 go_loopg [6] n (fun left v6 wr=>∃ (i:Nat) (vE vF:Value) (es:List Value) (xs:List (List Nat)) (fs:List Nat),i≤n∧n - i≤left∧v6=.int .i64 i∧Hid (Ta wr (w.heap.size+3) i L vE vF es xs fs T0)∧Hid (∀ u∈es,u.ownBlock=none∨u.ownBlock≠vF.ownBlock)∧Hid (TBox wr (w.heap.size+1+1) A1 A2 A3 n m q c1 c2 c3 X vE vF)∧Hid (Below (w.heap.size+1+1) w3 wr))
 case atStart =>
  refine⟨0,.slice none 0 0,.slice none 0 0,[],[],[],by omega,by omega,rfl,⟨⟨rfl,rfl,World.ownsRow_nil _ _ _ _,fun a u l hu=>by simp at hu,by simp⟩,⟨rfl,World.ownsRow_nil _ _ _ _,fun a x hx=>by simp at hx,by simp⟩,fun x hx=>by simp at hx⟩,fun u hu=>by simp at hu,HK2.out,Below.refl _ _⟩
 case round =>
  obtain⟨i,vE,vF,es,xs,fs,hi,hleft,rfl,HTA,HNE,HTB,HB⟩:=hrel
  obtain⟨gas,hgas⟩:∃ gas,gas=gk:=⟨_,rfl⟩
  rw[←hgas] at hleft
  have HGK:=Lib.hid hgas
  clear hgas
  generalize wr=wo at *
  obtain⟨AE,cE,rfl,hE1,hE2⟩:=own_form HTA.out.cu.own
  obtain⟨AF,cF,rfl,hF1,hF2⟩:=own_form HTA.out.sq.own
  have HBS:=Lib.hid (show w.heap.size+3≤wo.heap.size by have:=HB.out.size;have:=HZ3.out;omega)
  obtain⟨a0,a2⟩:=HCG.out wo ((HB.out.block w.heap.size (by omega)).trans HK0.out)
  by_cases hib:i<n
  ·go_wp2_with fail
   go_loopg [8,7] (L+1) (fun lf2 v8 v7 wt=>∃ (p:Nat) (l:List Nat),p≤L+1∧L+1 - p≤lf2∧v8=.int .i64 p∧(∃ A c,v7=.slice A p c∧p≤c∧c≤maxLen)∧Hid (Sq wt wo.heap.size p L v7 l (fun _ _=>false))∧Hid (Below wo.heap.size wo wt))
   case atStart=>exact⟨0,[],by omega,by omega,rfl,⟨_,_,rfl,by omega,by unfold maxLen;omega⟩,⟨rfl,World.ownsRow_nil _ _ _ _,fun a x hx=>by simp at hx,by simp⟩,Below.refl _ _⟩
   case round =>
    obtain⟨p,l,hp,hlf2,rfl,⟨A7,c7,rfl,h71,h72⟩,HS,HBW⟩:=hrel
    by_cases hpL:p<L+1
    ·have hdp:decide ((p:Int)≤(L:Int))=true:=by rw[decide_eq_true_eq];omega
     have hmk:(Instr.makeSlice 60 (.int .i64 ((L:Int)+1)) (.int .i64 ((L:Int)+1))).run Tryz.prog wr=_:=bool_make (L+1) (by omega) wr
     have HXB:=Lib.hid (Go.heap_alloc_new wr (.cells (List.replicate (L+1) (Value.bool false)).toArray 4))
     rw[←bl_false] at hmk HXB
     go_wp2_with (at_builtin;refine wpList_app (m:=1) (n:=p) brow_app rfl rfl rfl rfl ((HS.out.own.alloc _).alloc _) (Rd.row (B:=wr.heap.size+2) (heap_two wr _ _) (by omega)) rfl (fun u hu=>by simp at hu;subst hu;rfl) (by unfold maxLen;omega) (by omega) (by rw[World.size_alloc,World.size_alloc];have:=HBW.out.size;omega) ?_)
     intro v' w' ho hg _ _
     have hbb:Below wr.heap.size wr _:=((Below.refl wr.heap.size wr).alloc (Nat.le_refl _) (.cells (bcellsB (bl L fun _=>false)).toArray 4)).alloc (by rw[World.size_alloc];omega) (.cells #[.slice (some ⟨wr.heap.size,0,none⟩) (L+1) (L+1)] 60)
     have HS2:=Lib.hid (HS.out.snoc (x:=wr.heap.size) hbb ((heap_alloc_old _ _ (by rw[World.size_alloc];omega)).trans HXB.out) (Nat.le_refl _) HBW.out.size ho hg)
     have HBW2:=Lib.hid (grown_below (HBW.out.trans (hbb.mono HBW.out.size)) hg ((HS.out.own.alloc _).alloc _) (Nat.le_refl _) (by rw[World.size_alloc,World.size_alloc];have:=HBW.out.size;omega))
     obtain⟨A8,c8,rfl,h81,h82⟩:=own_form ho
     clear ho hg hbb hmk
     go_wp2_with fail
     go_roundg (gk - 1)
     case measure=>omega
     case rel=>exact⟨p+1,l++[wr.heap.size],by omega,by omega,by go_num,⟨_,_,rfl,h81,h82⟩,HS2.out,HBW2.out⟩
    ·have hdp:decide ((p:Int)≤(L:Int))=false:=by rw[decide_eq_false_iff_not];omega
     obtain rfl:p=L+1:=by omega
     have HB1:=Lib.hid (HB.out.trans (HBW.out.mono (by have:=HBS.out;omega)))
     have HTB1:=Lib.hid (show TBox wr (w.heap.size+1+1) A1 A2 A3 n m q c1 c2 c3 X (.slice AE i cE) (.slice AF i cF) from (HBW.out.block _ (by have:=HBS.out;omega)).trans HTB.out)
     obtain⟨t0,t1,t2,t3,t4,t5⟩:=HCT.out wr _ _ HTB1.out
     have HOE:=Lib.hid (own_below HTA.out.cu.own HBW.out)
     have HOF:=Lib.hid (own_below HTA.out.sq.own HBW.out)
     clear a0 a2
     go_upto_region 10 with fail
     go_wp2_with (at_builtin;refine wpList_app (m:=1) (n:=i) bsq_app rfl rfl rfl rfl (HOE.out.alloc _) (Rd.row (B:=wr.heap.size+1) (Go.heap_alloc_new wr _) (by omega)) rfl (fun u hu=>by simp at hu;subst hu;rfl) (by unfold maxLen;omega) (by omega) (by rw[World.size_alloc];have:=HBW.out.size;have:=HBS.out;omega) ?_)
     intro v' w' ho hg _ _
     have hbw:=HBW.out.size
     have hbs:=HBS.out
     have hgs:=hg.size
     rw[World.size_alloc] at hgs
     have HG1:=Lib.hid hg
     have HO1:=Lib.hid ho
     have HB2:=Lib.hid (grown_below (HB1.out.trans (((Below.refl wr.heap.size wr).alloc (Nat.le_refl _) (.cells #[.slice A7 (L+1) c7] 64)).mono (by omega))) hg (HOE.out.alloc _) (by omega) (by rw[World.size_alloc];omega))
     have HTB2:=Lib.hid (show TBox w' (w.heap.size+1+1) A1 A2 A3 n m q c1 c2 c3 X (.slice AE i cE) (.slice AF i cF) from (grown_low (HOE.out.alloc _) hg (by omega) (by rw[World.size_alloc];omega)).trans ((heap_alloc_old _ _ (by omega)).trans HTB1.out))
     have HOF2:=Lib.hid ((HOF.out.alloc (.cells #[.slice A7 (L+1) c7] 64)).kept hg (own_ne (HOF.out.alloc (.cells #[.slice A7 (L+1) c7] 64)) (HOE.out.alloc (.cells #[.slice A7 (L+1) c7] 64)) (by decide)))
     obtain⟨A8,c8,rfl,h81,h82⟩:=own_form ho
     clear t0 t1 t2 t3 t4 t5 ho hg
     obtain⟨-,-,-,-,t4,-⟩:=HCT.out w' _ _ HTB2.out
     have ft:=tbox_frozen (k:=4) HTB2.out
     have HTB3:=Lib.hid (tbox4 HTB2.out (.slice A8 (i+1) c8))
     have HB3':=Lib.hid (Below.setCell (p:=⟨w.heap.size+1+1,4,none⟩) HB2.out (Nat.le_refl _) (.slice A8 (i+1) c8))
     have HOF3:=Lib.hid (own_keep20 (w':=w'.setCell ⟨w.heap.size+1+1,4,none⟩ (.slice A8 (i+1) c8)) HOF2.out (fun g _ hg _ _=>Below.heap_setCell _ _ _ _ (by show g≠w.heap.size+1+1;omega)))
     go_upto_region 11 with fail
     have HW4:Hid ((w'.setCell ⟨w.heap.size+1+1,4,none⟩ (.slice A8 (i+1) c8))=(w'.setCell ⟨w.heap.size+1+1,4,none⟩ (.slice A8 (i+1) c8))):=rfl
     obtain⟨w4,hw4⟩:∃ w4,w4=w'.setCell ⟨w.heap.size+1+1,4,none⟩ (.slice A8 (i+1) c8):=⟨_,rfl⟩
     rw[←hw4] at HTB3 HB3' HOF3 ⊢
     have HS4:=Lib.hid (show wr.heap.size≤w4.heap.size by rw[hw4];simp[World.setCell];omega)
     have HW5:=Lib.hid hw4
     clear hw4 HW4 t4 ft hgs
     have hmk:(Instr.makeSlice 60 (.int .i64 ((L:Int)+1)) (.int .i64 ((L:Int)+1))).run Tryz.prog w4=_:=bool_make (L+1) (by omega) w4
     have HXB:=Lib.hid (Go.heap_alloc_new w4 (.cells (List.replicate (L+1) (Value.bool false)).toArray 4))
     rw[←bl_false] at hmk HXB
     have hba:Below w4.heap.size w4 (w4.alloc (.cells (bcellsB (bl L fun _=>false)).toArray 4)):=(Below.refl w4.heap.size w4).alloc (Nat.le_refl _) _
     obtain⟨wa,hwa⟩:∃ wa,wa=w4.alloc (.cells (bcellsB (bl L fun _=>false)).toArray 4):=⟨_,rfl⟩
     rw[←hwa] at hmk HXB hba
     clear hwa
     have c9:wa.cell? ⟨w4.heap.size,L,none⟩=some (.bool false):=by
      rw[bool_row_get HXB.out (by rw[bl_len];omega),bl_at (Nat.le_refl _)]
     have f9:wa.frozen? ⟨w4.heap.size,L,none⟩=false:=by simp[World.frozen?,HXB.out]
     have hb5:Below w4.heap.size w4 (wa.setCell ⟨w4.heap.size,L,none⟩ (.bool true)):=Below.setCell (p:=⟨w4.heap.size,L,none⟩) hba (Nat.le_refl _) _
     have HX5:=Lib.hid (show BlkB (wa.setCell ⟨w4.heap.size,L,none⟩ (.bool true)) w4.heap.size L (T0.F i) by
      have:=bool_row_set HXB.out (k:=L) true
      rw[bl_set,←HT0F.out i hib] at this
      exact this)
     have HB5:=Lib.hid hb5
     go_upto_region 13 with fail
     generalize wa.setCell ⟨w4.heap.size,L,none⟩ (.bool true)=w5 at *
     clear hmk c9 f9 hb5 hba HXB
     have HTB5:=Lib.hid (show TBox w5 (w.heap.size+1+1) A1 A2 A3 n m q c1 c2 c3 X (.slice A8 (i+1) c8) (.slice AF i cF) from (HB5.out.block _ (by have:=HS4.out;omega)).trans HTB3.out)
     have HOF5:=Lib.hid (own_below HOF3.out HB5.out)
     have HS5:=Lib.hid HB5.out.size
     obtain⟨-,-,-,-,-,t5⟩:=HCT.out w5 _ _ HTB5.out
     go_wp2_with (at_builtin;refine wpList_app (m:=1) (n:=i) brow_app rfl rfl rfl rfl (HOF5.out.alloc _) (Rd.row (B:=w5.heap.size+1) (Go.heap_alloc_new w5 _) (by omega)) rfl (fun u hu=>by simp at hu;subst hu;rfl) (by unfold maxLen;omega) (by omega) (by rw[World.size_alloc];have:=HS5.out;have:=HS4.out;omega) ?_)
     intro v2 w7 ho2 hg2 hk2 _
     have hgs2:=hg2.size
     rw[World.size_alloc] at hgs2
     have hs4:=HS4.out
     have hs5:=HS5.out
     have HTB7:=Lib.hid (show TBox w7 (w.heap.size+1+1) A1 A2 A3 n m q c1 c2 c3 X (.slice A8 (i+1) c8) (.slice AF i cF) from (grown_low (HOF5.out.alloc _) hg2 (by omega) (by rw[World.size_alloc];omega)).trans ((heap_alloc_old _ _ (by omega)).trans HTB5.out))
     have HB7:=Lib.hid (grown_below ((HB3'.out.trans (HB5.out.mono (by omega))).trans (((Below.refl w5.heap.size w5).alloc (Nat.le_refl _) (.cells #[.slice (some ⟨w4.heap.size,0,none⟩) (L+1) (L+1)] 60)).mono (by omega))) hg2 (HOF5.out.alloc _) (by omega) (by rw[World.size_alloc];omega))
     have HO2:=Lib.hid ho2
     have HG2:=Lib.hid hg2
     have HK2:=Lib.hid hk2
     obtain⟨A9,c9,rfl,h91,h92⟩:=own_form ho2
     clear t5 ho2 hg2 hk2
     obtain⟨-,-,-,-,-,t5⟩:=HCT.out w7 _ _ HTB7.out
     have ft:=tbox_frozen (k:=5) HTB7.out
     have HTB8:=Lib.hid (tbox5 HTB7.out (.slice A9 (i+1) c9))
     have HB8:=Lib.hid (Below.setCell (p:=⟨w.heap.size+1+1,5,none⟩) HB7.out (Nat.le_refl _) (.slice A9 (i+1) c9))
     have HFIN:=Lib.hid (show Ta (w7.setCell ⟨w.heap.size+1+1,5,none⟩ (.slice A9 (i+1) c9)) (w.heap.size+3) (i+1) L (.slice A8 (i+1) c8) (.slice A9 (i+1) c9) (es++[.slice A7 (L+1) c7]) (xs++[l]) (fs++[w4.heap.size]) T0∧_ from
      Ta.grow (p4:=⟨w.heap.size+1+1,4,none⟩) (u4:=.slice A8 (i+1) c8) HTA.out HNE.out (by rw[HT0E.out];exact HS.out) HBW.out ((Below.refl wr.heap.size wr).alloc (Nat.le_refl _) _) HO1.out HG1.out (by show w.heap.size+1+1<_;omega)
       (by rw[←HW5.out];exact HB5.out.trans ((Below.refl w5.heap.size w5).alloc (Nat.le_refl _) _ |>.mono hs5)) ((heap_alloc_old _ _ (by have:=(Array.getElem?_eq_some_iff.1 HX5.out).1;omega)).trans HX5.out) (by rw[←HW5.out];exact Nat.le_refl _) HO2.out HG2.out (by rw[World.size_alloc];exact HK2.out) (by show w.heap.size+1+1<_;omega) hbs)
     clear HO1 HG1 HO2 HG2 HK2 HX5 HW5
     go_wp2_with fail
     go_roundg (gas - 1)
     case measure=>have:=HGK.out;omega
     case rel=>exact⟨i+1,Value.slice A8 (i+1) c8,Value.slice A9 (i+1) c9,es++[Value.slice A7 (L+1) c7],xs++[l],fs++[w4.heap.size],by omega,by omega,by go_num,HFIN.out.1,HFIN.out.2,HTB8.out,HB8.out⟩
  ·obtain rfl:n=i:=by omega
   go_wp2_with fail
   generalize wo=wS at *
   have HALL:=Lib.hid (fun w' (h:Below (w.heap.size+3) wS w')=>(HB3.out.trans (HB.out.mono (by omega:w.heap.size≤w.heap.size+1+1))).trans (h.mono (by omega:w.heap.size≤w.heap.size+3)))
   have HG2:=Lib.hid (fun w' (h:Below (w.heap.size+3) wS w')=>HCG.out w' ((h.block w.heap.size (by omega)).trans ((HB.out.block w.heap.size (by omega)).trans HK0.out)))
   have HT2:=Lib.hid (fun w' (h:Below (w.heap.size+3) wS w')=>HCT.out w' _ _ ((h.block (w.heap.size+1+1) (by omega)).trans HTB.out))
   have HTX:=Lib.hid (show ∀ w',Below (w.heap.size+3) wS w'→TBox w' (w.heap.size+1+1) A1 A2 A3 n m q c1 c2 c3 X (.slice AE n cE) (.slice AF n cF) from fun w' h=>(h.block (w.heap.size+1+1) (by omega)).trans HTB.out)
   have HRB:=Lib.hid (fun w' (h:Below (w.heap.size+3) wS w')=>(h.block (w.heap.size+1) (by omega)).trans ((HB.out.block (w.heap.size+1) (by omega)).trans HK1.out))
   have HRT:=Lib.hid (show ∀ Tf,RoundsTo (passT wd rs) T0 (some Tf)→TabTo wd rs n Tf from fun Tf h=>by
    unfold TabTo
    rw[←HT0.out]
    exact h)
   have HRM:=Lib.hid (show ∀ (T T':TabD),passT wd rs T=some (T',true)→roomT n L T'<roomT n L T from fun T T' h=>by
    rw[HLW.out]
    exact passT_room (fun r hr=>⟨(HW.out r hr).1,(HW.out r hr).2.1⟩) h)
   have HSTEP:=Lib.hid (show ∀ (r:Int×List Int) (t:TabD×Bool) (p:Nat),stepRP wd r t p=if (setE t.1 r.1.toNat p (endsL wd t.1.E r.2 p) (L+1)).F r.1.toNat p=false∧beginsL wd (setE t.1 r.1.toNat p (endsL wd t.1.E r.2 p) (L+1)) r.2 p=true then (setF (setE t.1 r.1.toNat p (endsL wd t.1.E r.2 p) (L+1)) r.1.toNat p,true) else (setE t.1 r.1.toNat p (endsL wd t.1.E r.2 p) (L+1),t.2||newE t.1 r.1.toNat p (endsL wd t.1.E r.2 p) (L+1)) from fun r t p=>by rw[HLW.out];rfl)
   have HSTR:=Lib.hid (show ∀ (t:TabD×Bool) (r:Int×List Int),stepR wd t r=(List.range (L+1)).foldl (stepRP wd r) t from fun t r=>by rw[HLW.out];rfl)
   have HEL:=Lib.hid (show ∀ (E:Nat→Nat→Nat→Bool) (right:List Int) (p:Nat),(endsL wd E right p).length=L+1 from fun E right p=>by rw[endsL_len,HLW.out])
   clear HNE HCG HCT HTB a0 a2 HT0E HT0F
   go_loopg [10] (roomT n L T0+1) (fun left v10 wr=>∃ (T:TabD) (mb:Bool),v10=.bool mb∧Hid (mb=true→roomT n L T+1≤left)∧Hid (mb=true→∀ Tf,RoundsTo (passT wd rs) T (some Tf)→TabTo wd rs n Tf)∧Hid (mb=false→TabTo wd rs n T)∧Hid (Ta wr (w.heap.size+3) n L (.slice AE n cE) (.slice AF n cF) es xs fs T)∧Hid (Below (w.heap.size+3) wS wr))
   case atStart=>exact⟨T0,true,rfl,fun _=>Nat.le_refl _,fun _=>HRT.out,(fun h=>absurd h (by decide):true=false→TabTo wd rs n T0),HTA.out,Below.refl _ _⟩
   case round =>
    clear HTA HRT
    obtain⟨T,mb,rfl,HRO,HRN,HRD,HTA,HBL⟩:=hrel
    cases mb with
    |false =>
     have HTT:=Lib.hid (HRD.out rfl)
     obtain⟨t0,t1,t2,t3,t4,t5⟩:=HT2.out wr HBL.out
     have hrb:=HRB.out wr HBL.out
     have hbox:=HTX.out wr HBL.out
     have hbl:=HALL.out wr HBL.out
     have hbs:=HBL.out.size
     clear HRO HRN HRD t0 t1 t2 t3 t4 t5
     go_wp2_with (refine stop_at (some 149) rfl ?_)
     refine Stop.go (wpList_load_agg rfl 66 rfl rfl Tryz.underlying66 rfl (cs:=[.slice A1 n c1,.slice A2 m c2,.slice A3 q c3,.string X,.slice AE n cE,.slice AF n cF]) (by kernel_rfl) (fun j u hu=>by
      rw[Nat.zero_add,cell_of_row _ _ _ _ _ _ hbox,←Array.getElem?_toList]
      exact hu) ?_)
     refine wpList_store_agg rfl 66 rfl rfl rfl (store_tab hrb) ?_
     have HRW:=Lib.hid (setRow_heap wr (w.heap.size+1) _ #[.slice A1 n c1,.slice A2 m c2,.slice A3 q c3,.string X,.slice AE n cE,.slice AF n cF] _ (0,0) hrb)
     have HTA8:=Lib.hid (HTA.out.high (w':=wr.setRow (w.heap.size+1) #[.slice A1 n c1,.slice A2 m c2,.slice A3 q c3,.string X,.slice AE n cE,.slice AF n cF]) (fun b hb=>setRow_other _ _ _ _ (by omega)))
     have HB8:=Lib.hid (below_setRow hbl (Nat.le_succ w.heap.size) #[.slice A1 n c1,.slice A2 m c2,.slice A3 q c3,.string X,.slice AE n cE,.slice AF n cF])
     generalize wr.setRow (w.heap.size+1) #[.slice A1 n c1,.slice A2 m c2,.slice A3 q c3,.string X,.slice AE n cE,.slice AF n cF]=w8 at *
     clear hbox hbl hbs hrb
     generalize hac:Act.put _ _ _=a9
     simp[Act.put] at hac
     subst hac
     go_wp2_with fail
     refine ret_tab rfl rfl rfl HRW.out ?_
     exact HPOST.out AE AF cE cF T w8 HTT.out (HTA8.out.tab (by unfold maxLen;omega)) (fun w'' hk=>(HTA8.out.high2 (fun b hb hl=>hk b (by omega) hl)).tab (by unfold maxLen;omega)) HB8.out
    |true =>
    have HRO2:=Lib.hid (HRO.out rfl)
    have HRN2:=Lib.hid (HRN.out rfl)
    clear HRO HRN HRD
    obtain⟨gas1,hgas1⟩:∃ gas1,gas1=gk:=⟨_,rfl⟩
    rw[←hgas1] at HRO2
    have HGK1:=Lib.hid hgas1
    clear hgas1
    generalize wr=wA at *
    go_wp2_with fail
    go_loopg [11,10] q (fun lf2 v11 v10 wt=>∃ (i:Nat) (T1:TabD) (m1:Bool),i≤q∧q - i≤lf2∧v11=.int .i64 i∧v10=.bool m1∧Hid (rs.foldl (stepR wd) (T,false)=(rs.drop i).foldl (stepR wd) (T1,m1))∧Hid (Ta wt (w.heap.size+3) n L (.slice AE n cE) (.slice AF n cF) es xs fs T1)∧Hid (Below (w.heap.size+3) wS wt))
    case atStart=>exact⟨0,T,false,by omega,by omega,rfl,rfl,rfl,HTA.out,HBL.out⟩
    case round =>
     clear HTA HBL
     obtain⟨i,T1,m1,hi,hlf2,rfl,rfl,HFD,HTA,HBL⟩:=hrel
     obtain⟨a0,a2⟩:=HG2.out wr HBL.out
     by_cases hiq:i<q
     ·have hil:i<rs.length:=by rw[←HQ.out];exact hiq
      have HFD2:=Lib.hid (show rs.foldl (stepR wd) (T,false)=(rs.drop (i+1)).foldl (stepR wd) (stepR wd (T1,m1) rs[i]) by rw[HFD.out,List.drop_eq_getElem_cons hil,List.foldl_cons])
      obtain⟨b,off,cs,rfl,-,hbl,hrep,hcell⟩:=HR.out.get (k:=i) hil (by decide)
      obtain⟨v,rfl,hsl,hz1,hz2⟩:=eRule_open hrep
      obtain⟨A5,c5,rfl,hl5,hl6⟩:=hsl.form
      have hc0:=hcell 0 _ rfl
      have hc1:=hcell 1 _ rfl
      simp only[show eRule.size=2 from rfl,Nat.add_zero,←Nat.add_assoc] at hc0 hc1
      obtain⟨f1,f2,f3⟩:=HW.out rs[i] (List.getElem_mem hil)
      obtain⟨r,hr⟩:∃ r,r=rs[i]:=⟨_,rfl⟩
      rw[←hr] at hc0 hc1 hsl hl5 f1 f2 f3 HFD2
      have HSTR2:=Lib.hid (HSTR.out (T1,m1) r)
      obtain⟨a,right⟩:=r
      simp only at hc0 hc1 hsl hl5 f1 f2 f3
      obtain⟨lf,rfl⟩:∃ lf:Nat,a=(lf:Int):=⟨a.toNat,by omega⟩
      have hln:lf<n:=by omega
      have HC0:=Lib.hid (show ∀ w',Below (w.heap.size+3) wS w'→w'.cell? ⟨b,off+i*2,none⟩=some (.int .i64 lf)∧w'.cell? ⟨b,off+i*2+1,none⟩=some (.slice A5 right.length c5)∧SlR eInt w' w'.heap.size (.slice A5 right.length c5) right from fun w' h=>⟨((HALL.out w' h).cell hbl).trans hc0,((HALL.out w' h).cell hbl).trans hc1,hsl.fut (HALL.out w' h) (Nat.le_refl _) (HALL.out w' h).size⟩)
      have HF3:=Lib.hid f3
      obtain⟨np,hnp⟩:∃ np,np=right.length:=⟨_,rfl⟩
      rw[←hnp] at HC0 hl5
      have HST:=Lib.hid (HSTEP.out ((lf:Int),right))
      clear hcell hrep hr hsl hil HFD hz1 hz2 f1 f2 f3 hc0 hc1 hbl hnp
      obtain⟨hc0,hc1,-⟩:=HC0.out wr HBL.out
      obtain⟨gas2,hgas2⟩:∃ gas2,gas2=gk:=⟨_,rfl⟩
      rw[←hgas2] at hlf2
      have HGK2:=Lib.hid hgas2
      clear hgas2
      generalize wr=wB at *
      go_wp2_with fail
      go_loopg [13,10] (L+1) (fun lf3 v13 v10 wt=>∃ (p:Nat) (T2:TabD) (m2:Bool),p≤L+1∧L+1 - p≤lf3∧v13=.int .i64 p∧v10=.bool m2∧Hid (stepR wd (T1,m1) ((lf:Int),right)=((List.range (L+1)).drop p).foldl (stepRP wd ((lf:Int),right)) (T2,m2))∧Hid (Ta wt (w.heap.size+3) n L (.slice AE n cE) (.slice AF n cF) es xs fs T2)∧Hid (Below (w.heap.size+3) wS wt))
      case atStart=>exact⟨0,T1,m1,by omega,by omega,rfl,rfl,HSTR2.out,HTA.out,HBL.out⟩
      case round =>
       clear HTA HBL a0 a2 hc0 hc1
       obtain⟨p,T2,m2,hp,hlf3,rfl,rfl,HSR,HTA,HBL⟩:=hrel
       obtain⟨a0,a2⟩:=HG2.out wr HBL.out
       obtain⟨hc0,hc1,hrs⟩:=HC0.out wr HBL.out
       obtain⟨t0,t1,t2,t3,t4,t5⟩:=HT2.out wr HBL.out
       have hbs:=HBL.out.size
       by_cases hpL:p<L+1
       ·have hdp:decide ((p:Int)≤(L:Int))=true:=by rw[decide_eq_true_eq];omega
        have HDR:=Lib.hid (show stepR wd (T1,m1) ((lf:Int),right)=((List.range (L+1)).drop (p+1)).foldl (stepRP wd ((lf:Int),right)) (stepRP wd ((lf:Int),right) (T2,m2) p) by rw[HSR.out,range_drop hpL,List.foldl_cons])
        have hbs3:w.heap.size+3≤wr.heap.size:=Nat.le_trans HBS.out HBL.out.size
        have hTab:=HTA.out.tab (by unfold maxLen;omega)
        have HCALL:=Lib.hid (fun w' (hb:Below wr.heap.size wr w')=>HEN.out T2 AE AF cE cF w' right A5 np c5 p (hTab.fut hb (Nat.le_refl _) hb.size) (hrs.fut hb (Nat.le_refl _) hb.size) HF3.out (by omega))
        obtain⟨E0,hE0⟩:∃ E0,E0=endsL wd T2.E right p:=⟨_,rfl⟩
        have HSP:=Lib.hid (show stepRP wd ((lf:Int),right) (T2,m2) p=if T2.F lf p=false∧beginsL wd (setE T2 lf p E0 (L+1)) right p=true then (setF (setE T2 lf p E0 (L+1)) lf p,true) else (setE T2 lf p E0 (L+1),m2||newE T2 lf p E0 (L+1)) by
         rw[HST.out (T2,m2) p]
         simp only[Int.toNat_natCast]
         rw[hE0]
         rfl)
        have HE0L:=Lib.hid (show E0.length=L+1 by rw[hE0];exact HEL.out _ _ _)
        rw[←hE0] at HCALL
        clear hE0 hTab HSR hrs
        obtain⟨gas3,hgas3⟩:∃ gas3,gas3=gk:=⟨_,rfl⟩
        rw[←hgas3] at hlf3
        have HGK3:=Lib.hid hgas3
        clear hgas3
        generalize wr=wC at *
        go_wp2_with fail
        refine Text.wp_grow [8] [0,2,6] [] (by kernel_rfl) (by kernel_rfl) ?_
        refine Text.wpS_seg 8 _ _ _ _ (by decide) (fun Q' hQ'=>?_)
        simp only[List.take_succ_cons,List.take_zero]
        go_wp2_with fail
        try simp only[List.drop_succ_cons,List.drop_zero]
        refine Text.wpS_one (fun Q' hQ'=>?_)
        go_wp2_with fail
        refine (HCALL.out _ (Below.refl wC.heap.size wC).drew).mono ?_
        rintro e w5 ⟨g5,rfl,hg5,hge5,hb5⟩
        rw[HE0L.out]
        have hb5':Below wC.heap.size wC w5:=(Below.refl wC.heap.size wC).drew.trans hb5
        have HE5:=Lib.hid hg5
        have HGE5:=Lib.hid (show wC.heap.size≤g5 from hge5)
        have HTA5:=Lib.hid (HTA.out.below hb5')
        have HBL5:=Lib.hid (HBL.out.trans (hb5'.mono hbs3))
        go_wp2_with fail
        refine⟨hb5,?_⟩
        refine Text.wpS_seg 1 _ _ _ _ (by decide) (fun Q' hQ'=>?_)
        simp only[List.take_succ_cons,List.take_zero]
        go_wp2_with fail
        refine⟨by rfl,?_,?_⟩
        ·exact⟨fun _=>⟨_,_,rfl,t0⟩,fun _=>⟨_,_,rfl,a2⟩,fun _=>⟨_,_,rfl,hc1⟩,trivial⟩
        have HLTX:=Lib.hid (show ∀ x,x∈xs.flatten→x≠g5 from fun x hx=>by have:=(HTA.out.cu.lt hx).2;have:=HGE5.out;omega)
        clear hb5 hb5' hg5 hge5 HTA HBL HCALL t0 t1 t2 t3 t4 t5 a0 a2 hc0 hc1
        go_wp2_with fail
        go_loopg [15,10] (L+1) (fun lf4 v15 v10 wt=>∃ (qq:Nat) (m3:Bool),qq≤L+1∧L+1 - qq≤lf4∧v15=.int .i64 qq∧v10=.bool m3∧Hid (m3=(m2||newE T2 lf p E0 qq))∧Hid (Ta wt (w.heap.size+3) n L (.slice AE n cE) (.slice AF n cF) es xs fs (setE T2 lf p E0 qq))∧Hid (wt.heap[g5]? = some (.cells (bcellsB E0).toArray 4 (0,0)))∧Hid (Below (w.heap.size+3) wS wt))
        case atStart=>exact⟨0,m2,by omega,by omega,rfl,rfl,by show _=_;rw[newE_zero,Bool.or_false],by rw[setE_zero];exact HTA5.out,HE5.out,HBL5.out⟩
        case round =>
         clear HTA5 HE5 HBL5
         obtain⟨qq,m3,hqq,hlf4,rfl,rfl,HM3,HTA,HE5,HBL⟩:=hrel
         obtain⟨a0,a2⟩:=HG2.out wr HBL.out
         obtain⟨hc0,hc1,hrs⟩:=HC0.out wr HBL.out
         obtain⟨t0,t1,t2,t3,t4,t5⟩:=HT2.out wr HBL.out
         have hbs4:=HBL.out.size
         by_cases hqL:qq<L+1
         ·have hdq:decide ((qq:Int)≤(L:Int))=true:=by rw[decide_eq_true_eq];omega
          have hqE:qq<E0.length:=by rw[HE0L.out];exact hqL
          have cE0:=bool_row_get HE5.out hqE
          have HGE:=Lib.hid (show E0.getD qq false=E0[qq] by rw[List.getD_eq_getElem?_getD,List.getElem?_eq_getElem hqE];rfl)
          obtain⟨be,hbe⟩:∃ be,be=E0[qq]:=⟨_,rfl⟩
          rw[←hbe] at cE0 HGE
          obtain⟨b,b2,c2',x,lx,hA,e1,e2,hlx,hx,hB,z1,z2,z3,fz,hbx⟩:=HTA.out.cu.at_ hln (by omega:p≤L) (by omega:qq≤L)
          rw[setE_at] at z3
          obtain⟨bt,hbt⟩:∃ bt,bt=T2.E lf p qq:=⟨_,rfl⟩
          rw[←hbt] at z3
          have HBT:=Lib.hid hbt
          have HNE:=Lib.hid (newE_succ T2 lf p qq E0)
          subst hA
          clear hbe hqE hbt hrs
          cases be with
          |false =>
           have HTA2:=Lib.hid (setE_no (T:=T2) (a:=lf) (p:=p) (.inl HGE.out))
           have HM4:=Lib.hid (show m3=(m2||newE T2 lf p E0 (qq+1)) by rw[HNE.out,HGE.out,Bool.false_and,Bool.or_false];exact HM3.out)
           have HTA3:=Lib.hid (show Ta wr (w.heap.size+3) n L (.slice (some ⟨b,0,none⟩) n cE) (.slice AF n cF) es xs fs (setE T2 lf p E0 (qq+1)) by rw[HTA2.out];exact HTA.out)
           clear hlx hx hB fz hbx
           go_wp2_with fail
           go_roundg (gk - 1)
           case measure=>omega
           case rel=>exact⟨qq+1,m3,by omega,by omega,by go_num,rfl,HM4.out,HTA3.out,HE5.out,HBL.out⟩
          |true =>
           cases bt with
           |true =>
            have HTA2:=Lib.hid (setE_no (T:=T2) (a:=lf) (p:=p) (m:=qq) (ends:=E0) (.inr HBT.out.symm))
            have HM4:=Lib.hid (show m3=(m2||newE T2 lf p E0 (qq+1)) by rw[HNE.out,←HBT.out,Bool.not_true,Bool.and_false,Bool.or_false];exact HM3.out)
            have HTA3:=Lib.hid (show Ta wr (w.heap.size+3) n L (.slice (some ⟨b,0,none⟩) n cE) (.slice AF n cF) es xs fs (setE T2 lf p E0 (qq+1)) by rw[HTA2.out];exact HTA.out)
            clear hlx hx hB fz hbx
            go_wp2_with fail
            go_roundg (gk - 1)
            case measure=>omega
            case rel=>exact⟨qq+1,m3,by omega,by omega,by go_num,rfl,HM4.out,HTA3.out,HE5.out,HBL.out⟩
           |false =>
            have HM4:=Lib.hid (show true=(m2||newE T2 lf p E0 (qq+1)) by rw[HNE.out,HGE.out,←HBT.out];simp)
            have HTA3:=Lib.hid (show Ta (wr.setCell ⟨x,qq,none⟩ (.bool true)) (w.heap.size+3) n L (.slice (some ⟨b,0,none⟩) n cE) (.slice AF n cF) es xs fs (setE T2 lf p E0 (qq+1)) by rw[setE_yes HGE.out];exact HTA.out.setE hlx hx)
            have HE6:=Lib.hid ((Below.heap_setCell wr ⟨x,qq,none⟩ (.bool true) g5 (fun e=>HLTX.out x (List.mem_flatten.2 ⟨lx,List.mem_of_getElem? hlx,List.mem_of_getElem? hx⟩) e.symm)).trans HE5.out)
            have HBL6:=Lib.hid (Below.setCell (p:=⟨x,qq,none⟩) HBL.out hbx (.bool true))
            clear hlx hx hB hbx
            go_wp2_with fail
            go_roundg (gk - 1)
            case measure=>omega
            case rel=>exact⟨qq+1,true,by omega,by omega,by go_num,rfl,HM4.out,HTA3.out,HE6.out,HBL6.out⟩
         ·have hdq:decide ((qq:Int)≤(L:Int))=false:=by rw[decide_eq_false_iff_not];omega
          obtain rfl:qq=L+1:=by omega
          obtain⟨T3,hT3⟩:∃ T3,T3=setE T2 lf p E0 (L+1):=⟨_,rfl⟩
          have HF3E:=Lib.hid (show T3.F=T2.F by rw[hT3];rfl)
          rw[←hT3] at HTA HSP
          rw[←HM3.out] at HSP
          obtain⟨b,x,hA,e1,hx,hbx,hB,z1,z2,fz⟩:=HTA.out.sq.at_ hln (by omega:p≤L)
          have hbs5:w.heap.size+3≤wr.heap.size:=Nat.le_trans HBS.out HBL.out.size
          have hTab:=HTA.out.tab (by unfold maxLen;omega)
          have HCALL:=Lib.hid (fun w' (hb:Below wr.heap.size wr w')=>HBE.out T3 AE AF cE cF w' right A5 np c5 p (hTab.fut hb (Nat.le_refl _) hb.size) (hrs.fut hb (Nat.le_refl _) hb.size) HF3.out (by omega))
          rw[HF3E.out] at z2
          obtain⟨bf,hbf⟩:∃ bf,bf=T2.F lf p:=⟨_,rfl⟩
          rw[←hbf] at z2 HSP
          obtain⟨bb,hbb⟩:∃ bb,bb=beginsL wd T3 right p:=⟨_,rfl⟩
          rw[←hbb] at HSP HCALL
          subst hA
          clear hT3 hTab hrs hbf hbb HF3E
          cases bf with
          |true =>
           have HD2:=Lib.hid (show stepR wd (T1,m1) ((lf:Int),right)=((List.range (L+1)).drop (p+1)).foldl (stepRP wd ((lf:Int),right)) (T3,m3) by rw[HDR.out,HSP.out,if_neg (by simp)])
           go_wp2_with fail
           refine Text.wp_grow [18] [1,4,7,10,12,16] [] (by kernel_rfl) (by kernel_rfl) ?_
           refine Text.wpS_seg 18 _ _ _ _ (by decide) (fun Q' hQ'=>?_)
           simp only[List.take_succ_cons,List.take_zero]
           go_wp2_with fail
           try simp only[List.drop_succ_cons,List.drop_zero]
           refine Text.wpS_one (fun Q' hQ'=>?_)
           go_wp2_with fail
           refine⟨Below.refl _ _,?_⟩
           refine Text.wpS_seg 1 _ _ _ _ (by decide) (fun Q' hQ'=>?_)
           simp only[List.take_succ_cons,List.take_zero]
           go_wp2_with fail
           refine⟨by rfl,?_,?_⟩
           ·exact⟨fun _=>⟨_,_,rfl,t5⟩,fun _=>⟨_,_,rfl,z1⟩,fun _=>⟨_,_,rfl,z2⟩,Text.no_want rfl,Text.no_want rfl,Text.no_want rfl,trivial⟩
           have HTA6:=Lib.hid (HTA.out.below (Below.refl wr.heap.size wr).drew)
           go_wp2_with fail
           go_roundg (gas3 - 1)
           case measure=>have:=HGK3.out;omega
           case rel=>exact⟨p+1,T3,m3,by omega,by omega,by go_num,rfl,HD2.out,HTA6.out,HBL.out.drew⟩
          |false =>
           go_wp2_with fail
           refine Text.wp_grow [18] [1,4,7,10,12,16] [] (by kernel_rfl) (by kernel_rfl) ?_
           refine Text.wpS_seg 18 _ _ _ _ (by decide) (fun Q' hQ'=>?_)
           simp only[List.take_succ_cons,List.take_zero]
           go_wp2_with fail
           try simp only[List.drop_succ_cons,List.drop_zero]
           refine Text.wpS_one (fun Q' hQ'=>?_)
           go_wp2_with fail
           refine (HCALL.out _ (Below.refl wr.heap.size wr).drew).mono ?_
           rintro e w6 ⟨rfl,hb6⟩
           have hb6':Below wr.heap.size wr w6:=(Below.refl wr.heap.size wr).drew.trans hb6
           have HTA6:=Lib.hid (HTA.out.below hb6')
           have HBL6:=Lib.hid (HBL.out.trans (hb6'.mono hbs5))
           have hBx6:=(HTA6.out.sq.blk lf x hx).2
           go_wp2_with fail
           refine⟨hb6,?_⟩
           refine Text.wpS_seg 1 _ _ _ _ (by decide) (fun Q' hQ'=>?_)
           simp only[List.take_succ_cons,List.take_zero]
           go_wp2_with fail
           refine⟨by rfl,?_,?_⟩
           ·exact⟨fun _=>⟨_,_,rfl,t5⟩,fun _=>⟨_,_,rfl,z1⟩,fun _=>⟨_,_,rfl,z2⟩,fun _=>⟨_,_,rfl,t0⟩,fun _=>⟨_,_,rfl,a2⟩,fun _=>⟨_,_,rfl,hc1⟩,trivial⟩
           have z1':=(hb6'.cell (World.block_lt_of_cell? wr _ z1)).trans z1
           have z2':=(hb6'.cell (World.block_lt_of_cell? wr _ z2)).trans z2
           have fz':w6.frozen? ⟨x,p,none⟩=false:=by simp[World.frozen?,hBx6]
           obtain⟨-,-,-,-,-,t5'⟩:=HT2.out w6 HBL6.out
           clear hb6 hb6' hB t0 t1 t2 t3 t4 t5 z1 z2 fz a0 a2 hc0 hc1
           cases bb with
           |true =>
            have HD2:=Lib.hid (show stepR wd (T1,m1) ((lf:Int),right)=((List.range (L+1)).drop (p+1)).foldl (stepRP wd ((lf:Int),right)) (setF T3 lf p,true) by rw[HDR.out,HSP.out,if_pos (by simp)])
            have HTA7:=Lib.hid (show Ta (w6.setCell ⟨x,p,none⟩ (.bool true)) (w.heap.size+3) n L (.slice AE n cE) (.slice (some ⟨b,0,none⟩) n cF) es xs fs (setF T3 lf p) from HTA6.out.setF hx)
            have HBL7:=Lib.hid (Below.setCell (p:=⟨x,p,none⟩) HBL6.out hbx (.bool true))
            clear hx hBx6 hbx
            go_wp2_with fail
            go_roundg (gas3 - 1)
            case measure=>have:=HGK3.out;omega
            case rel=>exact⟨p+1,setF T3 lf p,true,by omega,by omega,by go_num,rfl,HD2.out,HTA7.out,HBL7.out⟩
           |false =>
            have HD2:=Lib.hid (show stepR wd (T1,m1) ((lf:Int),right)=((List.range (L+1)).drop (p+1)).foldl (stepRP wd ((lf:Int),right)) (T3,m3) by rw[HDR.out,HSP.out,if_neg (by simp)])
            clear hx hBx6 hbx
            go_wp2_with fail
            go_roundg (gas3 - 1)
            case measure=>have:=HGK3.out;omega
            case rel=>exact⟨p+1,T3,m3,by omega,by omega,by go_num,rfl,HD2.out,HTA6.out,HBL6.out⟩
       ·have hdp:decide ((p:Int)≤(L:Int))=false:=by rw[decide_eq_false_iff_not];omega
        have HFD3:=Lib.hid (show rs.foldl (stepR wd) (T,false)=(rs.drop (i+1)).foldl (stepR wd) (T2,m2) by rw[HFD2.out,HSR.out,show (List.range (L+1)).drop p=[] from List.drop_eq_nil_of_le (by simp;omega)];rfl)
        go_wp2_with fail
        go_roundg (gas2 - 1)
        case measure=>have:=HGK2.out;omega
        case rel=>exact⟨i+1,T2,m2,by omega,by omega,by go_num,rfl,HFD3.out,HTA.out,HBL.out⟩
     ·have HFIN:=Lib.hid (show passT wd rs T=some (T1,m1) by
       unfold passT
       rw[HFD.out,List.drop_eq_nil_of_le (by rw[←HQ.out];omega)]
       rfl)
      have HM1:=Lib.hid (show m1=true→roomT n L T1+1≤gas1 - 1 from fun h=>by
       have h1:=HFIN.out
       rw[h] at h1
       have:=HRM.out T T1 h1
       have:=HRO2.out
       omega)
      have HM2:=Lib.hid (show m1=true→∀ Tf,RoundsTo (passT wd rs) T1 (some Tf)→TabTo wd rs n Tf from fun h Tf hr=>by
       have h1:=HFIN.out
       rw[h] at h1
       exact HRN2.out Tf (.more h1 hr))
      have HM3:=Lib.hid (show m1=false→TabTo wd rs n T1 from fun h=>by
       have h1:=HFIN.out
       rw[h] at h1
       exact HRN2.out T1 (.done h1))
      go_wp2_with fail
      go_roundg (gas1 - 1)
      case measure=>have:=HGK1.out;have:=HRO2.out;omega
      case rel=>exact⟨T1,m1,rfl,HM1.out,HM2.out,HM3.out,HTA.out,HBL.out⟩
end Go.Proofs.YtfpihflepeiagaaGreatDoor
