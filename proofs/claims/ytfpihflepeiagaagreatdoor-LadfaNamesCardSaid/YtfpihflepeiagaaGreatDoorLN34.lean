/- Texts of this proof joined: Useful2, AtoiDec, MacW5, MacW7, Tabs. -/
import Derived.Test.YtfpihflepeiagaaGreatDoorLN33
import Derived.Deep.DeepCutAuto
import Derived.Deep.RegionWith
import Derived.Laws.EntriesVeiled
import Derived.Test.YtfpihflepeiagaaGreatDoorLN08
import Derived.Lib.AtoiTie
import Derived.Lib.ItoaNum
import Derived.Lib.ItoaMem
import Derived.Lib.ItoaLen
import Derived.Test.YtfpihflepeiagaaGreatDoorLN30
import Derived.Test.YtfpihflepeiagaaGreatDoorShelf
import Derived.Shelf.Strconv.ErrVarAll
import Derived.Test.YtfpihflepeiagaaGreatDoorLN01
namespace Go.Proofs.YtfpihflepeiagaaGreatDoor
open Go.RowKit

set_option maxRecDepth 100000 in
theorem miniRight_any (v:Value) (m:Mach) (w:World) (hv:SlR eState w w.heap.size v m) :
  Calls Tryz.prog 49 #[v] w fun e w'=>e=.returned (.bool (validM m 9223372036854775807))∧Below w.heap.size w w':=by
 have HS:=Lib.hid (validM_any v 9223372036854775807 m w hv)
 go_enter Tryz.func49,Tryz.ntmps49
 go_wp2_with fail
 refine HS.out.mono ?_
 rintro e w' ⟨rfl,hb⟩
 go_wp2_with fail
 go_ret
 exact⟨rfl,hb⟩
theorem made_repL (z:Value) (n:Nat):madeCells #[z] n=(List.replicate n z).toArray:=by
 apply Array.ext
 ·simp[madeCells]
 ·intro i h1 h2
  simp[madeCells,Nat.mod_one]
theorem bool_makeL (n:Nat) (hn:n≤2199023255552) (w:World):(Instr.makeSlice 60 (.int .i64 (n:Int)) (.int .i64 (n:Int))).run Tryz.prog w=.ok (.slice (some ⟨w.heap.size,0,none⟩) n n) (w.alloc (.cells ((List.replicate n false).map Value.bool).toArray 4)):=by
 rw[List.map_replicate,←made_repL]
 exact run_make_row' 60 4 (.bool false) 1 Tryz.underlying60 (by kernel_rfl) rfl .i64 .i64 n (by omega) (by omega) w
section
variable (w:World) (o0 o1 o2 o3:Obj)
theorem al3:((((w.alloc o0).alloc o1).alloc o2).alloc o3).drew.heap[w.heap.size+1+1+1]? = some o3:=by
 have:=Go.heap_alloc_new (((w.alloc o0).alloc o1).alloc o2) o3
 rw[World.size_alloc,World.size_alloc,World.size_alloc] at this
 exact this
theorem al2:((((w.alloc o0).alloc o1).alloc o2).alloc o3).drew.heap[w.heap.size+1+1]? = some o2:=by
 have:=Go.heap_alloc_new ((w.alloc o0).alloc o1) o2
 rw[World.size_alloc,World.size_alloc] at this
 exact (Below.heap_alloc _ _ _ (by simp only[World.size_alloc];omega)).trans this
theorem al1:((((w.alloc o0).alloc o1).alloc o2).alloc o3).drew.heap[w.heap.size+1]? = some o1:=by
 have:=Go.heap_alloc_new (w.alloc o0) o1
 rw[World.size_alloc] at this
 exact (Below.heap_alloc _ _ _ (by simp only[World.size_alloc];omega)).trans ((Below.heap_alloc _ _ _ (by simp only[World.size_alloc];omega)).trans this)
theorem al0:((((w.alloc o0).alloc o1).alloc o2).alloc o3).drew.heap[w.heap.size]? = some o0 :=
 (Below.heap_alloc _ _ _ (by simp only[World.size_alloc];omega)).trans ((Below.heap_alloc _ _ _ (by simp only[World.size_alloc];omega)).trans ((Below.heap_alloc _ _ _ (by simp only[World.size_alloc];omega)).trans (Go.heap_alloc_new w o0)))
theorem alB {w0:World} (h:Below w0.heap.size w0 w):Below w0.heap.size w0 ((((w.alloc o0).alloc o1).alloc o2).alloc o3).drew:=by
 have:=h.size
 exact ((((h.alloc this _).alloc (by simp only[World.size_alloc];omega) _).alloc (by simp only[World.size_alloc];omega) _).alloc (by simp only[World.size_alloc];omega) _).drew
end
structure TwoB (w W:World) (n b3 b4 x1 x2:Nat):Prop where
 h3:W.heap[b3]? = some (.cells #[.slice (some ⟨x1,0,none⟩) n n] 60 (0,0))
 h4:W.heap[b4]? = some (.cells #[.slice (some ⟨x2,0,none⟩) n n] 60 (0,0))
 k3:w.heap.size≤b3
 k4:w.heap.size≤b4
 j1:w.heap.size≤x1
 j2:w.heap.size≤x2
 nb:b3≠b4
 nx:x1≠x2
theorem two_of {w W:World} {n b3 b4 x1 x2:Nat} (h3:W.heap[b3]? = some (.cells #[.slice (some ⟨x1,0,none⟩) n n] 60 (0,0))) (h4:W.heap[b4]? = some (.cells #[.slice (some ⟨x2,0,none⟩) n n] 60 (0,0)))
  (hx1:BoolsAt W x1 (List.replicate n false)) (hx2:BoolsAt W x2 (List.replicate n false)) (hb:Below w.heap.size w W) (hk:w.heap.size≤b3∧w.heap.size≤b4∧w.heap.size≤x1∧w.heap.size≤x2∧b3≠b4∧x1≠x2) :
  ∃ x1 x2,TwoB w W n b3 b4 x1 x2∧BoolsAt W x1 (List.replicate n false)∧BoolsAt W x2 (List.replicate n false)∧Below w.heap.size w W:=⟨x1,x2,⟨h3,h4,hk.1,hk.2.1,hk.2.2.1,hk.2.2.2.1,hk.2.2.2.2.1,hk.2.2.2.2.2⟩,hx1,hx2,hb⟩
structure UseS (w W:World) (n b3 b4 x1 x2:Nat) (M1 M2:List Bool):Prop where
 two:TwoB w W n b3 b4 x1 x2
 m1:BoolsAt W x1 M1
 m2:BoolsAt W x2 M2
 l1:M1.length=n
 l2:M2.length=n
 bel:Below w.heap.size w W
section
variable {w W W':World} {n b3 b4 x1 x2:Nat} {M1 M2:List Bool}
theorem UseS.c3 (h:UseS w W n b3 b4 x1 x2 M1 M2):W.cell? ⟨b3,0,none⟩=some (.slice (some ⟨x1,0,none⟩) n n):=by rw[cell_of_row _ _ _ _ _ _ h.two.h3];rfl
theorem UseS.c4 (h:UseS w W n b3 b4 x1 x2 M1 M2):W.cell? ⟨b4,0,none⟩=some (.slice (some ⟨x2,0,none⟩) n n):=by rw[cell_of_row _ _ _ _ _ _ h.two.h4];rfl
theorem box_ne {b x:Nat} {cs:Array Value} {t:TypeId} {M:List Bool} (h:W.heap[b]? = some (.cells cs t (0,0))) (hx:BoolsAt W x M) (ht:t≠4):b≠x:=by
 rintro rfl
 have h3:=h.symm.trans hx
 injection h3 with h3
 injection h3 with _ h3
 exact ht h3
theorem UseS.alloc (h:UseS w W n b3 b4 x1 x2 M1 M2) (o:Obj):UseS w (W.alloc o) n b3 b4 x1 x2 M1 M2:=by
 obtain⟨⟨h3,h4,k3,k4,j1,j2,nb,nx⟩,m1,m2,l1,l2,hb⟩:=h
 have key:∀ {k:Nat} {o':Obj},W.heap[k]? = some o'→(W.alloc o).heap[k]? = some o':=fun hk=>(Below.heap_alloc _ _ _ (Array.getElem?_eq_some_iff.1 hk).1).trans hk
 exact⟨⟨key h3,key h4,k3,k4,j1,j2,nb,nx⟩,key m1,key m2,l1,l2,hb.alloc hb.size _⟩
theorem UseS.drew (h:UseS w W n b3 b4 x1 x2 M1 M2):UseS w W.drew n b3 b4 x1 x2 M1 M2 :=
 ⟨⟨h.two.h3,h.two.h4,h.two.k3,h.two.k4,h.two.j1,h.two.j2,h.two.nb,h.two.nx⟩,h.m1,h.m2,h.l1,h.l2,h.bel.drew⟩
theorem UseS.turn1 (h:UseS w W n b3 b4 x1 x2 M1 M2) (hg:W.grownBy W' (some x1)) {M:List Bool} (hm:BoolsAt W' x1 M) (hl:M.length=n):UseS w W' n b3 b4 x1 x2 M M2:=by
 obtain⟨⟨h3,h4,k3,k4,j1,j2,nb,nx⟩,m1,m2,l1,l2,hb⟩:=h
 have key:∀ {k:Nat} {o':Obj},W.heap[k]? = some o'→k≠x1→W'.heap[k]? = some o':=fun hk hn=>(hg.block _ (Array.getElem?_eq_some_iff.1 hk).1 fun e=>hn (by injection e)).trans hk
 exact⟨⟨key h3 (box_ne h3 m1 (by decide)),key h4 (box_ne h4 m1 (by decide)),k3,k4,j1,j2,nb,nx⟩,hm,key m2 (fun e=>nx e.symm),hl,l2,hb.trans ⟨hg.os,hg.tape,hg.output,hg.size,fun k hk=>hg.block k (Nat.lt_of_lt_of_le hk hb.size) fun e=>by injection e with e;omega⟩⟩
theorem UseS.turn2 (h:UseS w W n b3 b4 x1 x2 M1 M2) (hg:W.grownBy W' (some x2)) {M:List Bool} (hm:BoolsAt W' x2 M) (hl:M.length=n):UseS w W' n b3 b4 x1 x2 M1 M:=by
 obtain⟨⟨h3,h4,k3,k4,j1,j2,nb,nx⟩,m1,m2,l1,l2,hb⟩:=h
 have key:∀ {k:Nat} {o':Obj},W.heap[k]? = some o'→k≠x2→W'.heap[k]? = some o':=fun hk hn=>(hg.block _ (Array.getElem?_eq_some_iff.1 hk).1 fun e=>hn (by injection e)).trans hk
 exact⟨⟨key h3 (box_ne h3 m2 (by decide)),key h4 (box_ne h4 m2 (by decide)),k3,k4,j1,j2,nb,nx⟩,key m1 nx,hm,l1,hl,hb.trans ⟨hg.os,hg.tape,hg.output,hg.size,fun k hk=>hg.block k (Nat.lt_of_lt_of_le hk hb.size) fun e=>by injection e with e;omega⟩⟩
theorem UseS.set1 (h:UseS w W n b3 b4 x1 x2 M1 M2) (k:Nat) (b:Bool):UseS w (W.setCell ⟨x1,k,none⟩ (.bool b)) n b3 b4 x1 x2 (M1.set k b) M2:=h.turn1 (grown_cell1 _ _ _ _) (h.m1.set k b) (by rw[List.length_set];exact h.l1)
theorem UseS.set2 (h:UseS w W n b3 b4 x1 x2 M1 M2) (k:Nat) (b:Bool):UseS w (W.setCell ⟨x2,k,none⟩ (.bool b)) n b3 b4 x1 x2 M1 (M2.set k b):=h.turn2 (grown_cell1 _ _ _ _) (h.m2.set k b) (by rw[List.length_set];exact h.l2)
end
def tellsAt (m:Mch) (n i:Nat):List Bool:=bmap n fun k=>decide (k<i)&&decide (0≤outM m k)
theorem tellsAt_zero (m:Mch) (n:Nat):tellsAt m n 0=List.replicate n false:=by
 rw[←bmap_false]
 exact bmap_ext fun k _=>by simp
theorem tellsAt_succ (m:Mch) (n i:Nat):(tellsAt m n i).set i (decide (0≤outM m i))=tellsAt m n (i+1):=by
 unfold tellsAt
 rw[bmap_set]
 refine bmap_ext fun k _=>?_
 by_cases h:k=i
 ·subst h;simp
 ·have:decide (k<i+1)=decide (k<i):=by rw[decide_eq_decide];omega
  rw[if_neg h,this]
def bothAt (M1 M2:List Bool) (n i:Nat):List Bool:=bmap n fun k=>atB M1 k&&(!decide (k<i)||atB M2 k)
theorem bothAt_zero {M1:List Bool} (M2:List Bool) {n:Nat} (h:M1.length=n):bothAt M1 M2 n 0=M1:=by
 unfold bothAt
 simp only[Nat.not_lt_zero,decide_false,Bool.not_false,Bool.true_or,Bool.and_true]
 exact bmap_self h
theorem bothAt_succ (M1 M2:List Bool) (n i:Nat):(bothAt M1 M2 n i).set i (atB M1 i&&atB M2 i)=bothAt M1 M2 n (i+1):=by
 unfold bothAt
 rw[bmap_set]
 refine bmap_ext fun k _=>?_
 by_cases h:k=i
 ·subst h;simp
 ·have:decide (k<i+1)=decide (k<i):=by rw[decide_eq_decide];omega
  rw[if_neg h,this]
theorem bothAt_at {M1 M2:List Bool} {n i:Nat} (h:i<n):atB (bothAt M1 M2 n i) i=atB M1 i:=by
 unfold bothAt
 rw[bmap_at]
 simp[h]
def UseTo (m:Mch) (w:World) (n:Nat) (e:Ending) (w':World):Prop:=∃ x,e=.returned (.slice (some ⟨x,0,none⟩) n n)∧BoolsAt w' x (bmap n (useB m))∧w.heap.size≤x∧Below w.heap.size w w'
theorem marks2_any {m:Mch} (hg:GoodM m) {W0:World} {x b7 b3:Nat} (h7:W0.cell? ⟨b7,0,none⟩=some (.func (.func 77) #[] #[])) (h3:W0.cell? ⟨b3,0,none⟩=some (.slice (some ⟨x,0,none⟩) m.length m.length)) (n7:b7≠x) (n3:b3≠x) :
  Marks 79 #[.pointer (some ⟨b7,0,none⟩),.pointer (some ⟨b3,0,none⟩)] x true m W0:=by
 intro M i e W hgr hx hl hi he
 have hto:=hg.tos i hi e he
 have h:=useMark2_any x b7 b3 M i e.2.toNat W hx (hgr.cell h7 (fun e=>n7 (by injection e))) (by rw[hl];exact hgr.cell h3 (fun e=>n3 (by injection e))) (by omega) (by omega)
 rw[show ((e.2.toNat:Nat):Int)=e.2 by omega] at h
 exact h
theorem marks3_any {m:Mch} (hg:GoodM m) {W0:World} {x b7 b3:Nat} (h7:W0.cell? ⟨b7,0,none⟩=some (.func (.func 77) #[] #[])) (h3:W0.cell? ⟨b3,0,none⟩=some (.slice (some ⟨x,0,none⟩) m.length m.length)) (n7:b7≠x) (n3:b3≠x) :
  Marks 80 #[.pointer (some ⟨b7,0,none⟩),.pointer (some ⟨b3,0,none⟩)] x false m W0:=by
 intro M i e W hgr hx hl hi he
 have hto:=hg.tos i hi e he
 have h:=useMark3_any x b7 b3 M i e.2.toNat W hx (hgr.cell h7 (fun e=>n7 (by injection e))) (by rw[hl];exact hgr.cell h3 (fun e=>n3 (by injection e))) (by omega) (by omega)
 rw[show ((e.2.toNat:Nat):Int)=e.2 by omega] at h
 exact h
def Inv1 (m:Mch) (M:List Bool):Prop:=atB M 0=true∧∀ k,atB M k=true→Reach m k
def Inv2 (m:Mch) (M:List Bool):Prop:=(∀ k<m.length,0≤outM m k→atB M k=true)∧∀ k,atB M k=true→Tells m k
theorem inv1_step {m:Mch} (hg:GoodM m) (M:List Bool) (i:Nat) (e:Int×Int) (he:e∈edM m i) (h:Inv1 m M) (hs:atB M (srcE true i e)=true):Inv1 m (M.set (dstE true i e) true):=by
 refine⟨atB_set_mono h.1,fun k hk=>?_⟩
 rcases atB_set hk with rfl | hk
 ·exact reach_edge hg (h.2 i hs) he
 ·exact h.2 k hk
theorem inv2_step {m:Mch} (hg:GoodM m) (M:List Bool) (i:Nat) (e:Int×Int) (hi:i<m.length) (he:e∈edM m i) (h:Inv2 m M) (hs:atB M (srcE false i e)=true):Inv2 m (M.set (dstE false i e) true):=by
 refine⟨fun k hk ho=>atB_set_mono (h.1 k hk ho),fun k hk=>?_⟩
 rcases atB_set hk with rfl | hk
 ·exact tells_edge hg hi he (h.2 _ hs)
 ·exact h.2 k hk
theorem inv1_start {m:Mch} {n:Nat} (hp:0<n):Inv1 m ((List.replicate n false).set 0 true):=by
 rw[←bmap_false,bmap_set]
 refine⟨by rw[bmap_at];simp[hp],fun k hk=>?_⟩
 rw[bmap_at] at hk
 simp at hk
 obtain⟨_,rfl⟩:=hk
 exact reach_zero m
theorem inv2_start {m:Mch} {n:Nat} (hn:n=m.length):Inv2 m (tellsAt m n n):=by
 subst hn
 unfold tellsAt
 refine⟨fun k hk ho=>by rw[bmap_at];simp[hk,ho],fun k hk=>?_⟩
 rw[bmap_at] at hk
 simp at hk
 exact tells_out hk.2
theorem both_use {m:Mch} (hg:GoodM m) {n:Nat} (hn:n=m.length) {M1 M2:List Bool} (i1:Inv1 m M1) (s1:∀ j<m.length,ShutE true M1 j (edM m j)) (i2:Inv2 m M2) (s2:∀ j<m.length,ShutE false M2 j (edM m j)):bothAt M1 M2 n n=bmap n (useB m):=by
 unfold bothAt
 refine bmap_ext fun k hk=>?_
 rw[Bool.eq_iff_iff,useB_iff,decide_eq_true hk]
 simp only[Bool.not_true,Bool.false_or,Bool.and_eq_true]
 rw[reach_marks hg i1.1 i1.2 s1,tells_marks hg i2.1 i2.2 s2 (by omega)]
 exact Iff.rfl
set_option maxRecDepth 100000 in
set_option maxHeartbeats 8000000 in
theorem useful_any (v:Value) (m:Mach) (w:World) (hv:SlR eState w w.heap.size v m) (hvd:validM m 9223372036854775807=true) (hl:m.length≤2199023255552) :
  Calls Tryz.prog 50 #[v] w (UseTo m w m.length):=by
 have HR:=Lib.hid (miniRight_any v m w hv)
 rw[hvd] at HR
 obtain⟨A,c,rfl,hc1,hc2⟩:=hv.form
 unfold maxLen at hc2
 have HV:=Lib.hid hv
 have HG:=Lib.hid (valid_good hvd)
 clear hv hvd
 obtain⟨n,hn⟩:∃ n,n=m.length:=⟨_,rfl⟩
 have HN:=Lib.hid hn
 rw[←hn] at hc1 HV hl HR ⊢
 clear hn
 go_enter Tryz.func50,Tryz.ntmps50
 go_wp2_with fail
 refine HR.out.mono ?_
 rintro e w1 ⟨rfl,hb1⟩
 have HB1:=Lib.hid hb1
 clear hb1
 go_wp2_with fail
 go_cut [3,4] (fun v3 v4 wx=>∃ b3 b4:Nat,v3=.pointer (some ⟨b3,0,none⟩)∧v4=.pointer (some ⟨b4,0,none⟩)∧Hid (∃ x1 x2,TwoB w wx n b3 b4 x1 x2∧BoolsAt wx x1 (List.replicate n false)∧BoolsAt wx x2 (List.replicate n false)∧Below w.heap.size w wx))
 case first =>
  have hmk:=bool_makeL n hl
  go_region_with (fail)
  all_goals (go_wp2;go_meet)
  all_goals
   have hz:=HB1.out.size
   refine⟨_,_,rfl,rfl,?_⟩
   apply two_of
   ·first | exact al0 _ _ _ _ _ | exact al1 _ _ _ _ _ | exact al2 _ _ _ _ _ | exact al3 _ _ _ _ _
   ·first | exact al0 _ _ _ _ _ | exact al1 _ _ _ _ _ | exact al2 _ _ _ _ _ | exact al3 _ _ _ _ _
   ·first | exact (al0 _ _ _ _ _).trans (by simp) | exact (al1 _ _ _ _ _).trans (by simp) | exact (al2 _ _ _ _ _).trans (by simp) | exact (al3 _ _ _ _ _).trans (by simp)
   ·first | exact (al0 _ _ _ _ _).trans (by simp) | exact (al1 _ _ _ _ _).trans (by simp) | exact (al2 _ _ _ _ _).trans (by simp) | exact (al3 _ _ _ _ _).trans (by simp)
   ·exact alB _ _ _ _ _ HB1.out
   ·omega
 case rest =>
  obtain⟨b3,b4,rfl,rfl,⟨x1,x2,h2,hx1,hx2,hbx⟩⟩:=hcut
  have HS:=Lib.hid (show UseS w wc n b3 b4 x1 x2 (List.replicate n false) (List.replicate n false) from ⟨h2,hx1,hx2,List.length_replicate,List.length_replicate,hbx⟩)
  have HJ:=Lib.hid (show w.heap.size≤x1∧w.heap.size≤x2 from ⟨h2.j1,h2.j2⟩)
  clear hx1 hx2 hbx h2 HB1
  generalize wc=wx at *
  have hpos:0<n:=by rw[HN.out];exact List.length_pos_iff.2 HG.out.some
  have c3:=HS.out.c3
  obtain⟨c0,cf⟩:=HS.out.m1.at_ (k:=0) (by rw[HS.out.l1];exact hpos)
  have HS1:=Lib.hid (show UseS w (wx.setCell ⟨x1,0,none⟩ (.bool true)) n b3 b4 x1 x2 ((List.replicate n false).set 0 true) (tellsAt m n 0) from by rw[tellsAt_zero];exact HS.out.set1 0 true)
  have HVK:=Lib.hid (fun (W:World) (h:Below w.heap.size w W)=>HV.out.below h)
  clear HS
  obtain⟨Ma,hMa⟩:∃ Ma,Ma=(List.replicate n false).set 0 true:=⟨_,rfl⟩
  have HMA:=Lib.hid hMa
  rw[←hMa] at HS1
  clear hMa
  go_wp2_with fail
  go_loopw [22] (fun v22 wr=>∃ i:Nat,i≤n∧v22=.int .i64 i∧Hid (UseS w wr n b3 b4 x1 x2 Ma (tellsAt m n i))) (fun v22 _=>n - (intOf v22).toNat)
  case atStart=>exact⟨0,by omega,rfl,HS1.out⟩
  case round =>
   clear HS1 c3 c0 cf
   obtain⟨i,hi,rfl,HS⟩:=hrel
   by_cases hlt:i<n
   ·have hil:i<m.length:=by rw[←HN.out];exact hlt
    obtain⟨ba,oa,cs,rfl,-,hba,hrep,hcell⟩:=(HVK.out wr HS.out.bel).get hil (by decide)
    obtain⟨u,rfl,hu,hz1,hz2⟩:=eState_open hrep
    obtain⟨A4,e4,rfl,he1,he2⟩:=hu.form
    have d0:=hcell 0 _ rfl
    have d1:=hcell 1 _ rfl
    clear hcell hrep hu
    simp only[show eState.size=2 from rfl,Nat.add_zero,←Nat.add_assoc] at d0 d1
    have HOUT:=Lib.hid (outM_get hil)
    obtain⟨so,hso⟩:∃ so,so=m[i].1:=⟨_,rfl⟩
    rw[←hso] at d0 HOUT hz1 hz2
    clear hso
    have HS2:=Lib.hid (HS.out.alloc (.cells #[.int .i64 so,.slice A4 m[i].2.length e4] 58))
    have HS3:=Lib.hid (show UseS w ((wr.alloc (.cells #[.int .i64 so,.slice A4 m[i].2.length e4] 58)).setCell ⟨x2,i,none⟩ (.bool (decide (0≤so)))) n b3 b4 x1 x2 Ma (tellsAt m n (i+1)) from by
     have:=HS2.out.set2 i (decide (0≤outM m i))
     rw[tellsAt_succ,HOUT.out] at this
     exact this)
    have c4:=HS2.out.c4
    obtain⟨g0,gf⟩:=HS2.out.m2.at_ (k:=i) (by rw[HS2.out.l2];exact hlt)
    clear HS HS2
    go_wp2_with fail
    go_roundw
    case rel=>exact⟨i+1,by omega,by go_num,HS3.out⟩
    case measure=>simp[intOf];omega
   ·have hin:i=n:=by omega
    subst hin
    have HSA:=Lib.hid (HS.out.alloc (.cells #[.func (.func 77) #[] #[]] 127))
    have HB7:=Lib.hid (Go.heap_alloc_new wr (.cells #[.func (.func 77) #[] #[]] 127))
    have c3:=HSA.out.c3
    have c4:=HSA.out.c4
    have hx1:x1<wr.heap.size:=(Array.getElem?_eq_some_iff.1 HS.out.m1).1
    have hx2:x2<wr.heap.size:=(Array.getElem?_eq_some_iff.1 HS.out.m2).1
    have HN3:=Lib.hid (show b3≠x1∧b4≠x2 from ⟨box_ne HS.out.two.h3 HS.out.m1 (by decide),box_ne HS.out.two.h4 HS.out.m2 (by decide)⟩)
    clear HS HR
    go_wp2_with fail
    generalize wr.alloc (.cells #[.func (.func 77) #[] #[]] 127)=wy at *
    generalize wr.heap.size=b7 at *
    have h7:wy.cell? ⟨b7,0,none⟩=some (.func (.func 77) #[] #[]):=by rw[cell_of_row _ _ _ _ _ _ HB7.out];rfl
    have HJ1:=HJ.out
    have HSP:=Lib.hid (spreadM_any 79 #[.pointer (some ⟨b7,0,none⟩),.pointer (some ⟨b3,0,none⟩)] x1 true (Inv1 m) (.slice A i c) m w.heap.size Ma wy (HVK.out wy HSA.out.bel) HJ1.1 HSA.out.bel.size HG.out (fun _ _=>by kernel_rfl) HSA.out.m1 (by rw[HSA.out.l1];exact HN.out) (by rw[HMA.out];exact inv1_start hpos) (fun M i e _ he h _ hs=>inv1_step HG.out M i e he h hs) (marks2_any HG.out h7 (by rw[←HN.out];exact c3) (by omega) HN3.out.1))
    rw[←HN.out] at HSP
    clear c3 c4
    refine HSP.out.mono ?_
    rintro e w2 ⟨M1,rfl,hg2,hm2,hl2,hi2,hs2⟩
    have HSB:=Lib.hid (HSA.out.turn1 hg2 hm2 (by rw[HN.out];exact hl2))
    have HI1:=Lib.hid hi2
    have HS1:=Lib.hid hs2
    have h7':w2.cell? ⟨b7,0,none⟩=some (.func (.func 77) #[] #[]):=hg2.cell h7 (fun e=>by simp only[Option.some.injEq] at e;omega)
    clear h7 hg2 hm2 hl2 hi2 hs2 HSA HB7 HSP
    have c4:=HSB.out.c4
    go_wp2_with fail
    have HSP:=Lib.hid (spreadM_any 80 #[.pointer (some ⟨b7,0,none⟩),.pointer (some ⟨b4,0,none⟩)] x2 false (Inv2 m) (.slice A i c) m w.heap.size (tellsAt m i i) w2 (HVK.out w2 HSB.out.bel) HJ1.2 HSB.out.bel.size HG.out (fun _ _=>by kernel_rfl) HSB.out.m2 (by rw[HSB.out.l2];exact HN.out) (inv2_start HN.out) (fun M i e hi he h _ hs=>inv2_step HG.out M i e hi he h hs) (marks3_any HG.out h7' (by rw[←HN.out];exact c4) (by omega) HN3.out.2))
    rw[←HN.out] at HSP
    clear c4
    refine HSP.out.mono ?_
    rintro e w3 ⟨M2,rfl,hg2,hm2,hl2,hi2,hs2⟩
    have HSC:=Lib.hid (HSB.out.turn2 hg2 hm2 (by rw[HN.out];exact hl2))
    have HI2:=Lib.hid hi2
    have HS2:=Lib.hid hs2
    clear h7' hg2 hm2 hl2 hi2 hs2 HSB HSP
    have c3:=HSC.out.c3
    go_wp2_with fail
    have HSC0:=Lib.hid (show UseS w w3 i b3 b4 x1 x2 (bothAt M1 M2 i 0) M2 from by rw[bothAt_zero M2 HSC.out.l1];exact HSC.out)
    clear HSC c3
    go_loopw [44] (fun v44 wr=>∃ k:Nat,k≤i∧v44=.int .i64 k∧Hid (UseS w wr i b3 b4 x1 x2 (bothAt M1 M2 i k) M2)) (fun v44 _=>i - (intOf v44).toNat)
    case atStart=>exact⟨0,by omega,rfl,HSC0.out⟩
    case round =>
     clear HSC0
     obtain⟨k,hk,rfl,HS⟩:=hrel
     have c3:=HS.out.c3
     have c4:=HS.out.c4
     by_cases hlk:k<i
     ·obtain⟨g0,gf⟩:=HS.out.m1.at_ (k:=k) (by rw[HS.out.l1];exact hlk)
      rw[bothAt_at hlk] at g0
      obtain⟨g1,-⟩:=HS.out.m2.at_ (k:=k) (by rw[HS.out.l2];exact hlk)
      have HNX:=Lib.hid (show UseS w (wr.setCell ⟨x1,k,none⟩ (.bool (atB M1 k&&atB M2 k))) i b3 b4 x1 x2 (bothAt M1 M2 i (k+1)) M2 from by rw[←bothAt_succ];exact HS.out.set1 _ _)
      clear HS
      obtain⟨a,ha⟩:∃ a,a=atB M1 k:=⟨_,rfl⟩
      obtain⟨b,hb⟩:∃ b,b=atB M2 k:=⟨_,rfl⟩
      rw[←ha] at g0 HNX
      rw[←hb] at g1 HNX
      clear ha hb
      obtain⟨r,hr⟩:∃ r,r=(a&&b):=⟨_,rfl⟩
      rw[←hr] at HNX
      go_wp2_with fail
      cases a <;> cases b <;> cases hr
      all_goals
       refine Text.wp_text [] (by kernel_rfl) (by kernel_rfl) (fun Q' hQ'=>?_)
       go_wp2_with fail
       refine⟨by rfl,?_⟩
       go_wp2
       go_roundw
       case rel=>exact⟨k+1,by omega,by go_num,HNX.out.drew⟩
       case measure=>simp[intOf];omega
     ·have hki:k=i:=by omega
      subst hki
      go_wp2_with fail
      go_ret
      have:=HS.out
      rw[both_use HG.out HN.out HI1.out HS1.out HI2.out HS2.out] at this
      exact⟨x1,rfl,this.m1,HJ1.1,this.bel⟩
end Go.Proofs.YtfpihflepeiagaaGreatDoor
namespace Go.Proofs.YtfpihflepeiagaaGreatDoor

theorem decFrom_cons (acc:Nat) (b:UInt8) (r:List UInt8):Lib.decFrom acc (b :: r)=(Lib.digitVal b).bind fun d=>Lib.decFrom (acc*10+d) r:=by
 rw[Lib.decFrom]
 cases Lib.digitVal b <;> rfl
theorem decFrom_append (x y:List UInt8):∀ (acc:Nat),Lib.decFrom acc (x++y)=(Lib.decFrom acc x).bind fun m=>Lib.decFrom m y:=by
 induction x with
 |nil=>intro acc;rfl
 |cons a x ih =>
  intro acc
  rw[List.cons_append,decFrom_cons,decFrom_cons]
  cases Lib.digitVal a with
  |none=>rfl
  |some d=>exact ih _
theorem digitVal_ofNat (d:Nat) (h:d<10):Lib.digitVal (UInt8.ofNat (48+d))=some d:=by
 have h1:(UInt8.ofNat (48+d)).toNat=48+d:=by
  rw[UInt8.toNat_ofNat']
  omega
 unfold Lib.digitVal
 rw[h1,if_pos (by omega)]
 congr 1
 omega
theorem decFrom_digits (u:Nat):Lib.decFrom 0 (Lib.decDigits u)=some u:=by
 induction u using Nat.strongRecOn with
 |_ u ih =>
  rw[Lib.decDigits]
  split
  ·rename_i h
   rw[decFrom_cons,digitVal_ofNat u h,Option.bind_some,Lib.decFrom,Nat.zero_mul,Nat.zero_add]
  ·rename_i h
   rw[decFrom_append,ih (u/10) (by omega),Option.bind_some,decFrom_cons,digitVal_ofNat (u%10) (by omega),Option.bind_some,Lib.decFrom]
   congr 1
   omega
theorem decDigits_dig (u:Nat):∀ b∈Lib.decDigits u,48≤b.toNat∧b.toNat≤57:=fun b hb=>by
 obtain⟨k,hk⟩:=List.mem_iff_getElem?.1 hb
 obtain⟨d,hd⟩:=Lib.digit_of_decFrom _ 0 u (decFrom_digits u) k b hk
 unfold Lib.digitVal at hd
 split at hd
 ·assumption
 ·cases hd
end Go.Proofs.YtfpihflepeiagaaGreatDoor
namespace Go.Proofs.YtfpihflepeiagaaGreatDoor

theorem itoa_char (n:Int):∀ c∈Lib.itoa n,c=45∨(48≤c.toNat∧c.toNat≤57):=by
 intro c hc
 unfold Lib.itoa at hc
 split at hc
 ·rcases List.mem_cons.1 hc with e | hc
  ·exact .inl e
  ·exact .inr (decDigits_dig _ c hc)
 ·exact .inr (decDigits_dig _ c hc)
theorem decDigits_inj {a b:Nat} (h:Lib.decDigits a=Lib.decDigits b):a=b:=by
 have h1:=decFrom_digits a
 rw[h,decFrom_digits b] at h1
 injection h1 with h1
 exact h1.symm
theorem itoa_inj {a b:Int} (h:Lib.itoa a=Lib.itoa b):a=b:=by
 have hno:∀ (u v:Nat),Lib.decDigits u≠45 :: Lib.decDigits v:=by
  intro u v e
  have:=decDigits_dig u 45 (by rw[e];exact List.mem_cons_self ..)
  exact absurd this.1 (by decide)
 unfold Lib.itoa at h
 split at h <;> split at h
 ·injection h with _ h
  have:=decDigits_inj h
  omega
 ·exact absurd h.symm (hno _ _)
 ·exact absurd h (hno _ _)
 ·have:=decDigits_inj h
  omega
theorem itoa_no (n:Int) (s:UInt8) (h1:s≠45) (h2:s.toNat<48∨57<s.toNat):s∉Lib.itoa n:=by
 intro h
 rcases itoa_char n s h with e | e
 ·exact h1 e
 ·omega
theorem cut_inj {s:UInt8}:∀ {A B T U:List UInt8},s∉A→s∉B→(T=[]∨∃ r,T=s :: r)→(U=[]∨∃ r,U=s :: r)→A++T=B++U→A=B∧T=U
 |[],[],_,_,_,_,_,_,h=>⟨rfl,h⟩
 |[],b :: B,T,U,_,hB,hT,_,h=>by
  exfalso
  rcases hT with rfl | ⟨r,rfl⟩
  ·simp at h
  ·simp only[List.nil_append,List.cons_append] at h
   injection h with h1 _
   exact hB (by rw[h1];exact List.mem_cons_self ..)
 |a :: A,[],T,U,hA,_,_,hU,h=>by
  exfalso
  rcases hU with rfl | ⟨r,rfl⟩
  ·simp at h
  ·simp only[List.nil_append,List.cons_append] at h
   injection h with h1 _
   exact hA (by rw[←h1];exact List.mem_cons_self ..)
 |a :: A,b :: B,T,U,hA,hB,hT,hU,h=>by
  simp only[List.cons_append] at h
  injection h with h1 h2
  obtain⟨e1,e2⟩:=cut_inj (fun hm=>hA (List.mem_cons_of_mem _ hm)) (fun hm=>hB (List.mem_cons_of_mem _ hm)) hT hU h2
  exact⟨by rw[h1,e1],e2⟩
def edT (e:Int×Int):List UInt8:=32 :: (Lib.itoa e.1++58 :: Lib.itoa e.2)
def edsT (l:List (Int×Int)):List UInt8:=l.flatMap edT
def signT (s:Int×Int×List (Int×Int)):List UInt8:=Lib.itoa s.1++32 :: (Lib.itoa s.2.1++edsT s.2.2)
theorem edsT_head (l:List (Int×Int)):edsT l=[]∨∃ r,edsT l=32 :: r:=by
 cases l with
 |nil=>exact .inl rfl
 |cons e r=>exact .inr ⟨_,rfl⟩
theorem edsT_inj:∀ {l k:List (Int×Int)},edsT l=edsT k→l=k
 |[],[],_=>rfl
 |[],e :: r,h=>by simp[edsT,edT] at h
 |e :: r,[],h=>by simp[edsT,edT] at h
 |e :: r,d :: s,h=>by
  have h1:∀ (x:Int×Int) (l:List (Int×Int)),edsT (x :: l)=32 :: (Lib.itoa x.1++58 :: (Lib.itoa x.2++edsT l)):=fun x l=>by simp[edsT,edT]
  rw[h1,h1] at h
  injection h with _ h
  have n58:∀ n,(58:UInt8)∉Lib.itoa n:=fun n=>itoa_no n 58 (by decide) (by decide)
  have n32:∀ n,(32:UInt8)∉Lib.itoa n:=fun n=>itoa_no n 32 (by decide) (by decide)
  obtain⟨e1,e2⟩:=cut_inj (n58 _) (n58 _) (.inr ⟨_,rfl⟩) (.inr ⟨_,rfl⟩) h
  injection e2 with _ e2
  obtain⟨e3,e4⟩:=cut_inj (n32 _) (n32 _) (edsT_head r) (edsT_head s) e2
  rw[show e=d from Prod.ext (itoa_inj e1) (itoa_inj e3),edsT_inj e4]
theorem signT_inj {s t:Int×Int×List (Int×Int)} (h:signT s=signT t):s=t:=by
 unfold signT at h
 have n32:∀ n,(32:UInt8)∉Lib.itoa n:=fun n=>itoa_no n 32 (by decide) (by decide)
 obtain⟨e1,e2⟩:=cut_inj (n32 _) (n32 _) (.inr ⟨_,rfl⟩) (.inr ⟨_,rfl⟩) h
 injection e2 with _ e2
 obtain⟨e3,e4⟩:=cut_inj (n32 _) (n32 _) (edsT_head _) (edsT_head _) e2
 exact Prod.ext (itoa_inj e1) (Prod.ext (itoa_inj e3) (edsT_inj e4))
theorem nodup_at {α:Type} {l:List α} (h:l.Nodup) {i j:Nat} (hi:i<l.length) (hj:j<l.length) (e:l[i]=l[j]):i=j:=by
 have hp:=List.pairwise_iff_getElem.1 h
 rcases Nat.lt_trichotomy i j with hlt | he | hlt
 ·exact absurd e (hp i j hi hj hlt)
 ·exact he
 ·exact absurd e.symm (hp j i hj hi hlt)
structure RoundTo (m:Mch) (use:Nat→Bool) (c c':Nat→Int) (K:Nat):Prop where
 neg:∀ i<m.length,use i=false→c' i=-1
 eq:∀ i<m.length,∀ j<m.length,use i=true→use j=true→(c' i=c' j↔signM m use c i=signM m use c j)
 lo:∀ i<m.length,use i=true→∃ v<K,c' i=((v:Nat):Int)
 onto:∀ v<K,∃ i<m.length,use i=true∧c' i=((v:Nat):Int)
def Coarse (m:Mch) (use:Nat→Bool) (c:Nat→Int):Prop:=∀ i<m.length,∀ j<m.length,use i=true→use j=true→Alike m i j→c i=c j
theorem RoundTo.coarse {m:Mch} (hg:GoodM m) {use:Nat→Bool} (hu:UseIs m use) {c c':Nat→Int} {K:Nat} (h:RoundTo m use c c' K) (hc:Coarse m use c):Coarse m use c' :=
 fun i hi j hj ui uj ha=>(h.eq i hi j hj ui uj).2 (alike_sign hg hu hc hi hj ui uj ha)
theorem RoundTo.le {m:Mch} {use:Nat→Bool} {c c':Nat→Int} {K:Nat} (h:RoundTo m use c c' K):K≤m.length:=by
 have:=cover_len K ((List.range m.length).map fun i=>(c' i).toNat) fun v hv=>by
  obtain⟨i,hi,_,e⟩:=h.onto v hv
  exact List.mem_map.2 ⟨i,List.mem_range.2 hi,by rw[e];simp⟩
 simpa using this
theorem RoundTo.more {m:Mch} (hg:GoodM m) {use:Nat→Bool} (hu:UseIs m use) {b c c':Nat→Int} {J K:Nat} (h1:RoundTo m use b c J) (h2:RoundTo m use c c' K) (hb:Coarse m use b) :
  J≤K∧(K=J→∀ i<m.length,∀ j<m.length,use i=true→use j=true→(c' i=c' j↔Alike m i j)):=by
 have hrep:∀ v,∃ i:Nat,v<K→i<m.length∧use i=true∧c' i=((v:Nat):Int):=by
  intro v
  by_cases hv:v<K
  ·obtain⟨i,h3,h4,h5⟩:=h2.onto v hv
   exact⟨i,fun _=>⟨h3,h4,h5⟩⟩
  ·exact⟨0,fun h=>absurd h hv⟩
 have hch:∃ rep:Nat→Nat,∀ v<K,rep v<m.length∧use (rep v)=true∧c' (rep v)=((v:Nat):Int):=⟨fun v=>Classical.choose (hrep v),fun v hv=>Classical.choose_spec (hrep v) hv⟩
 obtain⟨rep,hr⟩:=hch
 have href:∀ i<m.length,∀ j<m.length,use i=true→use j=true→c' i=c' j→c i=c j:=by
  intro i hi j hj ui uj e
  have:=(h2.eq i hi j hj ui uj).1 e
  simp only[signM,Prod.mk.injEq] at this
  exact this.1
 obtain⟨L,hL⟩:∃ L,L=(List.range K).map fun v=>(c (rep v)).toNat:=⟨_,rfl⟩
 have hLl:L.length=K:=by rw[hL];simp
 have hcov:∀ k<J,k∈L:=by
  intro k hk
  obtain⟨i,hi,ui,e⟩:=h1.onto k hk
  obtain⟨v,hv,e2⟩:=h2.lo i hi ui
  obtain⟨r1,r2,r3⟩:=hr v hv
  have:=href (rep v) r1 i hi r2 ui (by rw[r3,e2])
  rw[hL]
  exact List.mem_map.2 ⟨v,List.mem_range.2 hv,by rw[this,e];simp⟩
 refine⟨by rw[←hLl];exact cover_len J L hcov,fun hKJ=>?_⟩
 have hnd:=cover_nodup J L (by omega) hcov
 have hback:∀ i<m.length,∀ j<m.length,use i=true→use j=true→c i=c j→c' i=c' j:=by
  intro i hi j hj ui uj e
  obtain⟨v,hv,e2⟩:=h2.lo i hi ui
  obtain⟨u,hu',e3⟩:=h2.lo j hj uj
  obtain⟨r1,r2,r3⟩:=hr v hv
  obtain⟨s1,s2,s3⟩:=hr u hu'
  have k1:=href (rep v) r1 i hi r2 ui (by rw[r3,e2])
  have k2:=href (rep u) s1 j hj s2 uj (by rw[s3,e3])
  have hv':v<L.length:=by omega
  have hu'':u<L.length:=by omega
  have:L[v]=L[u]:=by
   subst hL
   simp only[List.getElem_map,List.getElem_range]
   rw[k1,k2,e]
  rw[e2,e3,nodup_at hnd hv' hu'' this]
 intro i hi j hj ui uj
 have hst:=stable_alike hg hu (c:=c) fun i hi j hj ui uj e=>(h2.eq i hi j hj ui uj).1 (hback i hi j hj ui uj e)
 constructor
 ·intro e l
  exact hst l i j hi hj ui uj (href i hi j hj ui uj e)
 ·intro ha
  exact h2.coarse hg hu (h1.coarse hg hu hb) i hi j hj ui uj ha
end Go.Proofs.YtfpihflepeiagaaGreatDoor
namespace Go.Proofs.YtfpihflepeiagaaGreatDoor

abbrev Txt:=List UInt8
def firsts (l:List Txt):List Txt:=l.foldl (fun F w=>if w∈F then F else F++[w]) []
theorem firsts_snoc (l:List Txt) (w:Txt):firsts (l++[w])=if w∈firsts l then firsts l else firsts l++[w]:=by
 unfold firsts
 rw[List.foldl_append]
 rfl
theorem firsts_ok (l:List Txt):(firsts l).Nodup∧(∀ w,w∈firsts l↔w∈l)∧(firsts l).length≤l.length:=by
 have key:∀ (l F:List Txt),F.Nodup→(l.foldl (fun F w=>if w∈F then F else F++[w]) F).Nodup∧(∀ w,w∈l.foldl (fun F w=>if w∈F then F else F++[w]) F↔w∈F∨w∈l)∧(l.foldl (fun F w=>if w∈F then F else F++[w]) F).length≤l.length+F.length:=by
  intro l
  induction l with
  |nil=>intro F hF;exact⟨hF,by simp,by simp⟩
  |cons a r ih =>
   intro F hF
   rw[List.foldl_cons]
   by_cases ha:a∈F
   ·rw[if_pos ha]
    obtain⟨h1,h2,h3⟩:=ih F hF
    refine⟨h1,fun w=>?_,by rw[List.length_cons];omega⟩
    rw[h2,List.mem_cons]
    constructor
    ·rintro (h | h)
     ·exact .inl h
     ·exact .inr (.inr h)
    ·rintro (h | rfl | h)
     ·exact .inl h
     ·exact .inl ha
     ·exact .inr h
   ·rw[if_neg ha]
    obtain⟨h1,h2,h3⟩:=ih (F++[a]) (List.nodup_append.2 ⟨hF,by simp,fun x hx y hy=>by simp at hy;subst hy;rintro rfl;exact ha hx⟩)
    refine⟨h1,fun w=>?_,by rw[List.length_append,List.length_singleton] at h3;rw[List.length_cons];omega⟩
    rw[h2,List.mem_append,List.mem_singleton,List.mem_cons]
    constructor
    ·rintro ((h | rfl) | h)
     ·exact .inl h
     ·exact .inr (.inl rfl)
     ·exact .inr (.inr h)
    ·rintro (h | rfl | h)
     ·exact .inl (.inl h)
     ·exact .inl (.inr rfl)
     ·exact .inr h
 obtain⟨h1,h2,h3⟩:=key l [] List.nodup_nil
 exact⟨h1,fun w=>by rw[←show (w∈([]:List Txt)∨w∈l)↔w∈l by simp];exact h2 w,h3⟩
def sgnT (m:Mch) (use:Nat→Bool) (c:Nat→Int) (k:Nat):Txt:=signT (signM m use c k)
def sigs (m:Mch) (use:Nat→Bool) (c:Nat→Int) (i:Nat):List Txt:=((List.range i).filter use).map (sgnT m use c)
theorem sigs_succ (m:Mch) (use:Nat→Bool) (c:Nat→Int) (i:Nat):sigs m use c (i+1)=sigs m use c i++if use i then [sgnT m use c i] else []:=by
 unfold sigs
 rw[List.range_succ,List.filter_append,List.map_append]
 congr 1
 cases h:use i <;> simp[h]
theorem sigs_mem {m:Mch} {use:Nat→Bool} {c:Nat→Int} {i:Nat} {t:Txt}:t∈sigs m use c i↔∃ k<i,use k=true∧sgnT m use c k=t:=by
 unfold sigs
 simp only[List.mem_map,List.mem_filter,List.mem_range]
 constructor
 ·rintro⟨k,⟨h1,h2⟩,h3⟩
  exact⟨k,h1,h2,h3⟩
 ·rintro⟨k,h1,h2,h3⟩
  exact⟨k,⟨h1,h2⟩,h3⟩
theorem sigs_len (m:Mch) (use:Nat→Bool) (c:Nat→Int) (i:Nat):(sigs m use c i).length≤i:=by
 unfold sigs
 rw[List.length_map]
 refine Nat.le_trans (List.length_filter_le _ _) ?_
 rw[List.length_range]
 exact Nat.le_refl _
def sgs (m:Mch) (use:Nat→Bool) (c:Nat→Int) (i:Nat):List Txt:=firsts (sigs m use c i)
theorem sgs_len (m:Mch) (use:Nat→Bool) (c:Nat→Int) (i:Nat):(sgs m use c i).length≤i:=Nat.le_trans (firsts_ok _).2.2 (sigs_len m use c i)
theorem sgs_skip {m:Mch} {use:Nat→Bool} {c:Nat→Int} {i:Nat} (h:use i=false):sgs m use c (i+1)=sgs m use c i:=by
 unfold sgs
 rw[sigs_succ,h]
 simp
theorem sgs_succ {m:Mch} {use:Nat→Bool} {c:Nat→Int} {i:Nat} (h:use i=true):sgs m use c (i+1)=if sgnT m use c i∈sgs m use c i then sgs m use c i else sgs m use c i++[sgnT m use c i]:=by
 unfold sgs
 rw[sigs_succ,h,if_pos rfl,firsts_snoc]
theorem sgs_mem {m:Mch} {use:Nat→Bool} {c:Nat→Int} {i:Nat} {t:Txt}:t∈sgs m use c i↔∃ k<i,use k=true∧sgnT m use c k=t:=by
 unfold sgs
 rw[(firsts_ok _).2.1,sigs_mem]
def newC (m:Mch) (use:Nat→Bool) (c:Nat→Int) (i k:Nat):Int:=if use k then (((sgs m use c i).idxOf (sgnT m use c k):Nat):Int) else -1
theorem idxOf_app {l:List Txt} {w:Txt} (h:w∈l) (r:List Txt):(l++r).idxOf w=l.idxOf w:=by
 rw[List.idxOf_append,if_pos h]
theorem newC_stay {m:Mch} {use:Nat→Bool} {c:Nat→Int} {i k:Nat} (hk:k<i):newC m use c (i+1) k=newC m use c i k:=by
 unfold newC
 cases hu:use k with
 |false=>rfl
 |true =>
  simp only[if_true]
  have hm:sgnT m use c k∈sgs m use c i:=sgs_mem.2 ⟨k,hk,hu,rfl⟩
  cases hi:use i with
  |false=>rw[sgs_skip hi]
  |true =>
   rw[sgs_succ hi]
   by_cases h:sgnT m use c i∈sgs m use c i
   ·rw[if_pos h]
   ·rw[if_neg h,idxOf_app hm]
theorem newC_at {m:Mch} {use:Nat→Bool} {c:Nat→Int} {i:Nat} (hu:use i=true):newC m use c (i+1) i=if sgnT m use c i∈sgs m use c i then (((sgs m use c i).idxOf (sgnT m use c i):Nat):Int) else ((sgs m use c i).length:Int):=by
 unfold newC
 rw[hu,if_pos rfl,sgs_succ hu]
 by_cases h:sgnT m use c i∈sgs m use c i
 ·rw[if_pos h,if_pos h]
 ·rw[if_neg h,if_neg h,List.idxOf_append,if_neg h]
  simp
theorem newC_no {m:Mch} {use:Nat→Bool} {c:Nat→Int} {i k:Nat} (hu:use k=false):newC m use c i k=-1:=by
 unfold newC
 rw[hu]
 rfl
theorem idxOf_eq {l:List Txt} {a b:Txt} (ha:a∈l) (h:l.idxOf a=l.idxOf b):a=b:=by
 have h1:=List.idxOf_lt_length_of_mem ha
 have h2:l[l.idxOf a]=a:=List.getElem_idxOf h1
 have h3:l.idxOf b<l.length:=by rw[←h];exact h1
 have h4:l[l.idxOf b]=b:=List.getElem_idxOf h3
 rw[←h2,←h4]
 congr 1
theorem round_of (m:Mch) (use:Nat→Bool) (c:Nat→Int):RoundTo m use c (newC m use c m.length) (sgs m use c m.length).length:=by
 have hmem:∀ i<m.length,use i=true→sgnT m use c i∈sgs m use c m.length:=fun i hi ui=>sgs_mem.2 ⟨i,hi,ui,rfl⟩
 refine⟨fun i _ hu=>newC_no hu,fun i hi j hj ui uj=>?_,fun i hi ui=>?_,fun v hv=>?_⟩
 ·unfold newC
  rw[ui,uj]
  simp only[if_true]
  constructor
  ·intro h
   have h2:sgnT m use c i=sgnT m use c j:=idxOf_eq (hmem i hi ui) (by exact_mod_cast h)
   exact signT_inj h2
  ·intro h
   unfold sgnT
   rw[h]
 ·refine⟨_,List.idxOf_lt_length_of_mem (hmem i hi ui),?_⟩
  unfold newC
  rw[ui]
  rfl
 ·obtain⟨k,hk,uk,hkt⟩:=sgs_mem.1 (List.getElem_mem hv)
  refine⟨k,hk,uk,?_⟩
  unfold newC
  rw[uk,if_pos rfl,hkt]
  have hnd:(sgs m use c m.length).Nodup:=(firsts_ok _).1
  rw[hnd.idxOf_getElem v hv]
def CState (m:Mch) (use:Nat→Bool) (c:Nat→Int) (cnt:Int):Prop:=(cnt=-1∧∀ i<m.length,c i=-1)∨∃ b J,cnt=((J:Nat):Int)∧RoundTo m use b c J∧Coarse m use b
theorem CState.coarse {m:Mch} (hg:GoodM m) {use:Nat→Bool} (hu:UseIs m use) {c:Nat→Int} {cnt:Int} (h:CState m use c cnt):Coarse m use c:=by
 rcases h with ⟨_,h⟩ | ⟨b,J,_,h1,h2⟩
 ·intro i hi j hj _ _ _
  rw[h i hi,h j hj]
 ·exact h1.coarse hg hu h2
theorem CState.next {m:Mch} (hg:GoodM m) {use:Nat→Bool} (hu:UseIs m use) {c:Nat→Int} {cnt:Int} (h:CState m use c cnt):CState m use (newC m use c m.length) ((sgs m use c m.length).length:Int):=.inr ⟨c,_,rfl,round_of m use c,h.coarse hg hu⟩
theorem CState.more {m:Mch} (hg:GoodM m) {use:Nat→Bool} (hu:UseIs m use) {c:Nat→Int} {cnt:Int} (h:CState m use c cnt):cnt≤(sgs m use c m.length).length∧(((sgs m use c m.length).length:Int)=cnt→∀ i<m.length,∀ j<m.length,use i=true→use j=true→(newC m use c m.length i=newC m use c m.length j↔Alike m i j)):=by
 rcases h with ⟨h1,_⟩ | ⟨b,J,h0,h1,h2⟩
 ·exact⟨by omega,fun h=>by omega⟩
 ·obtain⟨h3,h4⟩:=h1.more hg hu (round_of m use c) h2
  exact⟨by omega,fun h=>h4 (by omega)⟩
def partT (m:Mch) (use:Nat→Bool) (c:Nat→Int) (i k:Nat):Txt:=signT (c i,outM m i,(((edM m i).take k).filter fun e=>use e.2.toNat).map fun e=>(e.1,c e.2.toNat))
theorem partT_zero (m:Mch) (use:Nat→Bool) (c:Nat→Int) (i:Nat):partT m use c i 0=Lib.itoa (c i)++32 :: Lib.itoa (outM m i):=by
 unfold partT signT edsT
 simp
theorem partT_all (m:Mch) (use:Nat→Bool) (c:Nat→Int) (i:Nat):partT m use c i (edM m i).length=sgnT m use c i:=by
 unfold partT sgnT signM
 rw[List.take_length]
theorem partT_succ {m:Mch} {use:Nat→Bool} {c:Nat→Int} {i k:Nat} {e:Int×Int} (h:(edM m i)[k]? = some e):partT m use c i (k+1)=partT m use c i k++if use e.2.toNat then 32 :: (Lib.itoa e.1++58 :: Lib.itoa (c e.2.toNat)) else []:=by
 obtain⟨hk,he⟩:=List.getElem?_eq_some_iff.1 h
 unfold partT signT
 rw[List.take_succ_eq_append_getElem hk,List.filter_append,List.map_append,he]
 unfold edsT
 rw[List.flatMap_append]
 cases hu:use e.2.toNat <;> simp[hu,edT]
theorem partT_len {m:Mch} {use:Nat→Bool} {c:Nat→Int} {i:Nat} (hc:∀ k,-9223372036854775808≤c k∧c k≤9223372036854775807) (ho:-9223372036854775808≤outM m i∧outM m i≤9223372036854775807) (he:∀ e∈edM m i,-9223372036854775808≤e.1∧e.1≤9223372036854775807) :
  ∀ k≤(edM m i).length,(partT m use c i k).length≤43+44*k
 |0,_=>by
  rw[partT_zero]
  have h1:=Lib.itoa_length_le (c i) (hc i).1 (hc i).2
  have h2:=Lib.itoa_length_le (outM m i) ho.1 ho.2
  simp only[List.length_append,List.length_cons]
  omega
 |k+1,hk=>by
  have ih:=partT_len (use:=use) hc ho he k (by omega)
  have hg:=List.getElem?_eq_getElem (l:=edM m i) (i:=k) (by omega)
  rw[partT_succ hg]
  have h1:=Lib.itoa_length_le ((edM m i)[k]).1 (he _ (List.getElem_mem _)).1 (he _ (List.getElem_mem _)).2
  have h2:=Lib.itoa_length_le (c ((edM m i)[k]).2.toNat) (hc _).1 (hc _).2
  split
  ·simp only[List.length_append,List.length_cons]
   omega
  ·simp only[List.length_append,List.length_nil]
   omega
end Go.Proofs.YtfpihflepeiagaaGreatDoor
namespace Go.Proofs.YtfpihflepeiagaaGreatDoor
open Go.RowKit

theorem var_below {P:Program} {w w':World} {n:String} {cs:Array Value} (h:w.var? P n=some cs) (hb:Below w.heap.size w w'):w'.var? P n=some cs:=by
 unfold World.var? at h ⊢
 cases hg:P.globalNamed n with
 |none=>simp[hg] at h
 |some g =>
  simp only[hg,Option.bind_some] at h ⊢
  have hlt:g<w.heap.size:=by
   rcases Nat.lt_or_ge g w.heap.size with h' | h'
   ·exact h'
   ·simp[Array.getElem?_eq_none h'] at h
  rw[hb.block g hlt]
  exact h
structure Tabs (w:World):Prop where
 tab : Lib.TabIs Tryz.prog w "internal/strconv.uint64pow10" .u64 Lib.pow10Tab
 syn : ∃ tp p, w.var? Tryz.prog "strconv.ErrSyntax" = some #[.iface tp p]
 rng : ∃ tp p, w.var? Tryz.prog "strconv.ErrRange" = some #[.iface tp p]
theorem Tabs.below {w w':World} (h:Tabs w) (hb:Below w.heap.size w w'):Tabs w' :=
 ⟨var_below h.tab hb,let ⟨tp,p,q⟩:=h.syn;⟨tp,p,var_below q hb⟩,let ⟨tp,p,q⟩:=h.rng;⟨tp,p,var_below q hb⟩⟩
theorem Tabs.drew {w:World} (h:Tabs w):Tabs w.drew:=h.below (Below.refl _ _).drew
theorem Tabs.alloc {w:World} (h:Tabs w) (o:Obj):Tabs (w.alloc o):=h.below ((Below.refl _ _).alloc (Nat.le_refl _) _)
theorem below_grow (w:World) (k:Nat) (os:Array Obj):Below w.heap.size w (Sort.grow (w.drewN k) os) :=
 ⟨rfl,rfl,rfl,by simp[Sort.grow,World.drewN],fun i hi=>by
  show (w.heap++os)[i]? = _
  rw[Array.getElem?_append_left hi]⟩
end Go.Proofs.YtfpihflepeiagaaGreatDoor
