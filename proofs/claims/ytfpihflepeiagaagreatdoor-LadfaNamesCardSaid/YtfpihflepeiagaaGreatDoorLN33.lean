/- Texts of this proof joined: SprW, Useful1, MValid. -/
import Derived.Test.YtfpihflepeiagaaGreatDoorLN30
import Derived.Test.YtfpihflepeiagaaGreatDoorLN29
import Derived.Test.YtfpihflepeiagaaGreatDoorLN31
import Derived.Deep.LoopGhost
namespace Go.Proofs.YtfpihflepeiagaaGreatDoor

def gaps (M:List Bool):Nat:=M.count false
theorem gaps_set {M:List Bool} {d:Nat} (h:M[d]? = some false):gaps (M.set d true)<gaps M:=by
 unfold gaps
 obtain⟨h1,h2⟩:=List.getElem?_eq_some_iff.1 h
 have h3:=List.count_set (a:=true) (b:=false) (l:=M) (i:=d) h1
 have h4:0<M.count false:=List.count_pos_iff.2 (List.mem_of_getElem? h)
 rw[h3,h2]
 simp only[beq_self_eq_true,if_true]
 rw[if_neg (by decide)]
 omega
def srcE (dir:Bool) (i:Nat) (e:Int×Int):Nat:=if dir then i else e.2.toNat
def dstE (dir:Bool) (i:Nat) (e:Int×Int):Nat:=if dir then e.2.toNat else i
abbrev atB (M:List Bool) (k:Nat):Bool:=M.getD k false
def markE (dir:Bool) (M:List Bool) (i:Nat) (e:Int×Int):List Bool:=M.set (dstE dir i e) (atB M (dstE dir i e)||atB M (srcE dir i e))
def moreE (dir:Bool) (M:List Bool) (i:Nat) (e:Int×Int):Bool:=atB M (srcE dir i e)&&!atB M (dstE dir i e)
theorem markE_len (dir:Bool) (M:List Bool) (i:Nat) (e:Int×Int):(markE dir M i e).length=M.length:=by simp[markE]
theorem atB_get {M:List Bool} {k:Nat} (h:k<M.length):M[k]? = some (atB M k):=by
 simp[atB,List.getElem?_eq_getElem h]
theorem markE_stay {dir:Bool} {M:List Bool} {i:Nat} {e:Int×Int} (hd:dstE dir i e<M.length) (h:moreE dir M i e=false):markE dir M i e=M∧(atB M (srcE dir i e)=true→atB M (dstE dir i e)=true):=by
 unfold moreE at h
 have h1:(atB M (dstE dir i e)||atB M (srcE dir i e))=atB M (dstE dir i e):=by
  cases h2:atB M (srcE dir i e) <;> cases h3:atB M (dstE dir i e) <;> simp_all
 refine⟨?_,fun h2=>by rw[h2] at h;simpa using h⟩
 unfold markE
 rw[h1]
 apply List.ext_getElem?
 intro k
 rw[List.getElem?_set]
 by_cases hk:dstE dir i e=k
 ·rw[if_pos hk,←hk,if_pos hd,atB_get hd]
 ·rw[if_neg hk]
theorem markE_gaps {dir:Bool} {M:List Bool} {i:Nat} {e:Int×Int} (hd:dstE dir i e<M.length) (h:moreE dir M i e=true):gaps (markE dir M i e)<gaps M∧markE dir M i e=M.set (dstE dir i e) true∧atB M (srcE dir i e)=true:=by
 unfold moreE at h
 simp only[Bool.and_eq_true,Bool.not_eq_true'] at h
 have h1:markE dir M i e=M.set (dstE dir i e) true:=by unfold markE;rw[h.1];simp
 exact⟨by rw[h1];exact gaps_set (by rw[atB_get hd,h.2]),h1,h.1⟩
def ShutE (dir:Bool) (M:List Bool) (i:Nat) (l:List (Int×Int)):Prop:=∀ e∈l,atB M (srcE dir i e)=true→atB M (dstE dir i e)=true
structure SprI (dir:Bool) (m:Mch) (Inv:List Bool→Prop) (M0 M:List Bool) (again:Bool) (i k:Nat):Prop where
 len:M.length=m.length
 inv:Inv M
 le:gaps M≤gaps M0
 more:again=true→gaps M<gaps M0
 shut:again=false→M=M0∧(∀ j<i,ShutE dir M j (edM m j))∧ShutE dir M i ((edM m i).take k)
theorem SprI.start {dir:Bool} {m:Mch} {Inv:List Bool→Prop} {M:List Bool} (hl:M.length=m.length) (h:Inv M):SprI dir m Inv M M false 0 0 :=
 ⟨hl,h,Nat.le_refl _,(fun h=>by cases h),fun _=>⟨rfl,fun j hj=>by omega,fun e he=>by simp at he⟩⟩
theorem SprI.edge {dir:Bool} {m:Mch} {Inv:List Bool→Prop} {M0 M:List Bool} {again:Bool} {i k:Nat} (h:SprI dir m Inv M0 M again i k) {e:Int×Int} (he:(edM m i)[k]? = some e) (hd:dstE dir i e<m.length)
  (hi:∀ M,Inv M→M.length=m.length→atB M (srcE dir i e)=true→Inv (M.set (dstE dir i e) true)):SprI dir m Inv M0 (markE dir M i e) (moreE dir M i e||again) i (k+1):=by
 have hd':dstE dir i e<M.length:=by rw[h.len];exact hd
 obtain⟨hk,hke⟩:=List.getElem?_eq_some_iff.1 he
 cases hm:moreE dir M i e with
 |true =>
  obtain⟨h1,h2,h3⟩:=markE_gaps hd' hm
  exact⟨by rw[markE_len];exact h.len,by rw[h2];exact hi M h.inv h.len h3,Nat.le_trans (Nat.le_of_lt h1) h.le,fun _=>Nat.lt_of_lt_of_le h1 h.le,fun h=>by simp at h⟩
 |false =>
  obtain⟨h1,h2⟩:=markE_stay hd' hm
  rw[h1,Bool.false_or]
  refine⟨h.len,h.inv,h.le,h.more,fun ha=>?_⟩
  obtain⟨a1,a2,a3⟩:=h.shut ha
  refine⟨a1,a2,fun x hx=>?_⟩
  rw[List.take_succ_eq_append_getElem hk,List.mem_append,List.mem_singleton,hke] at hx
  rcases hx with hx | rfl
  ·exact a3 x hx
  ·exact h2
theorem SprI.next {dir:Bool} {m:Mch} {Inv:List Bool→Prop} {M0 M:List Bool} {again:Bool} {i:Nat} (h:SprI dir m Inv M0 M again i (edM m i).length):SprI dir m Inv M0 M again (i+1) 0 :=
 ⟨h.len,h.inv,h.le,h.more,fun ha=>by
  obtain⟨a1,a2,a3⟩:=h.shut ha
  rw[List.take_length] at a3
  refine⟨a1,fun j hj=>?_,fun e he=>by simp at he⟩
  by_cases hji:j=i
  ·subst hji
   exact a3
  ·exact a2 j (by omega)⟩
theorem SprI.shutAll {dir:Bool} {m:Mch} {Inv:List Bool→Prop} {M0 M:List Bool} {k:Nat} (h:SprI dir m Inv M0 M false m.length k):∀ j<m.length,ShutE dir M j (edM m j):=(h.shut rfl).2.1
theorem reach_marks {m:Mch} (hg:GoodM m) {M:List Bool} (h0:atB M 0=true) (hi:∀ k,atB M k=true→Reach m k) (hs:∀ j<m.length,ShutE true M j (edM m j)) (k:Nat):atB M k=true↔Reach m k:=by
 refine⟨hi k,fun hr=>?_⟩
 exact reach_only hg (P:=fun k=>atB M k=true) h0 (fun j hj hmj e he=>hs j hj e he hmj) hr
theorem tells_marks {m:Mch} (hg:GoodM m) {M:List Bool} (h0:∀ k<m.length,0≤outM m k→atB M k=true) (hi:∀ k,atB M k=true→Tells m k) (hs:∀ j<m.length,ShutE false M j (edM m j)) {k:Nat} (hk:k<m.length):atB M k=true↔Tells m k:=by
 refine⟨hi k,fun hr=>?_⟩
 exact tells_only hg (P:=fun k=>atB M k=true) h0 (fun j hj e he hm=>hs j hj e he hm) hk hr
theorem atB_set {M:List Bool} {d k:Nat} (h:atB (M.set d true) k=true):k=d∨atB M k=true:=by
 unfold atB at *
 rw[List.getD_eq_getElem?_getD,List.getElem?_set] at h
 by_cases hk:d=k
 ·exact .inl hk.symm
 ·rw[if_neg hk] at h
  exact .inr (by rw[List.getD_eq_getElem?_getD];exact h)
theorem atB_set_mono {M:List Bool} {d k:Nat} (h:atB M k=true):atB (M.set d true) k=true:=by
 unfold atB at *
 rw[List.getD_eq_getElem?_getD] at h ⊢
 rw[List.getElem?_set]
 by_cases hk:d=k
 ·subst hk
  have hl:d<M.length:=by
   rcases Nat.lt_or_ge d M.length with h2 | h2
   ·exact h2
   ·rw[List.getElem?_eq_none h2] at h;cases h
  rw[if_pos rfl,if_pos hl]
  rfl
 ·rw[if_neg hk]
  exact h
def bmap (n:Nat) (f:Nat→Bool):List Bool:=(List.range n).map f
theorem bmap_len (n:Nat) (f:Nat→Bool):(bmap n f).length=n:=by simp[bmap]
theorem bmap_at {n:Nat} {f:Nat→Bool} {k:Nat}:atB (bmap n f) k=(decide (k<n)&&f k):=by
 unfold atB bmap
 rw[List.getD_eq_getElem?_getD,List.getElem?_map]
 by_cases h:k<n
 ·rw[List.getElem?_range h]
  simp[h]
 ·rw[List.getElem?_eq_none (by simp;omega)]
  simp[h]
theorem bmap_ext {n:Nat} {f g:Nat→Bool} (h:∀ k<n,f k=g k):bmap n f=bmap n g:=List.map_congr_left fun k hk=>h k (List.mem_range.1 hk)
theorem bmap_self {n:Nat} {M:List Bool} (h:M.length=n):bmap n (atB M)=M:=by
 subst h
 apply List.ext_getElem?
 intro k
 unfold bmap
 rw[List.getElem?_map]
 by_cases hk:k<M.length
 ·rw[List.getElem?_range hk,List.getElem?_eq_getElem hk]
  simp[atB,hk]
 ·rw[List.getElem?_eq_none (by simp;omega),List.getElem?_eq_none (by omega)]
  rfl
theorem bmap_get {n k:Nat} {f:Nat→Bool} (h:k<n):(bmap n f)[k]? = some (f k):=by
 unfold bmap
 rw[List.getElem?_map,List.getElem?_range h]
 rfl
theorem bmap_false (n:Nat):bmap n (fun _=>false)=List.replicate n false:=by
 unfold bmap
 rw[List.map_const',List.length_range]
theorem bmap_set {n i:Nat} {f:Nat→Bool} {b:Bool}:(bmap n f).set i b=bmap n (fun k=>if k=i then b else f k):=by
 apply List.ext_getElem?
 intro k
 by_cases hn:k<n
 ·rw[bmap_get hn,List.getElem?_set,bmap_get hn,bmap_len]
  by_cases hk:i=k
  ·subst hk
   simp[hn]
  ·have:¬ k=i:=fun e=>hk e.symm
   simp[hk,this]
 ·rw[List.getElem?_eq_none (by rw[List.length_set,bmap_len];omega),List.getElem?_eq_none (by rw[bmap_len];omega)]
end Go.Proofs.YtfpihflepeiagaaGreatDoor
namespace Go.Proofs.YtfpihflepeiagaaGreatDoor
open Go.RowKit

abbrev BoolsAt (w:World) (x:Nat) (M:List Bool):Prop:=w.heap[x]? = some (.cells (M.map Value.bool).toArray 4 (0,0))
theorem BoolsAt.at_ {w:World} {x:Nat} {M:List Bool} (h:BoolsAt w x M) {k:Nat} (hk:k<M.length):w.cell? ⟨x,k,none⟩=some (.bool (atB M k))∧w.frozen? ⟨x,k,none⟩=false:=by
 refine⟨?_,by simp[World.frozen?,h]⟩
 rw[cell_of_row w x k _ _ _ h]
 simp[atB,hk]
theorem BoolsAt.set {w:World} {x:Nat} {M:List Bool} (h:BoolsAt w x M) (k:Nat) (b:Bool):BoolsAt (w.setCell ⟨x,k,none⟩ (.bool b)) x (M.set k b):=by
 show _=_
 rw[heap_setCell_at h,List.map_set,List.setIfInBounds_toArray]
theorem BoolsAt.sl {w:World} {x:Nat} {M:List Bool} (h:BoolsAt w x M) {n:Nat} (hl:n=M.length) (hn:n≤maxLen):SlR eBool w w.heap.size (.slice (some ⟨x,0,none⟩) n n) M:=by
 subst hl
 refine⟨some ⟨x,0,none⟩,M.length,M.map fun b=>[Value.bool b],rfl,Nat.le_refl _,hn,by simp,?_,fun i cs y hc hx=>?_⟩
 ·have:(M.map fun b=>[Value.bool b]).flatten=M.map Value.bool:=by
   clear h hn
   induction M with
   |nil=>rfl
   |cons x l ih=>rw[List.map_cons,List.flatten_cons,ih];rfl
  rw[this]
  have h2:Rd w w.heap.size (some ⟨x,0,none⟩) (M.map Value.bool).toArray.toList:=Rd.row h (Array.getElem?_eq_some_iff.1 h).1
  exact h2
 ·rw[List.getElem?_map,hx] at hc
  injection hc with hc
  exact hc.symm
theorem BoolsAt.grown {w w':World} {x:Nat} {M:List Bool} (h:BoolsAt w x M) {row:Option Nat} (hg:w.grownBy w' row) (hne:some x≠row):BoolsAt w' x M:=(hg.block x (Array.getElem?_eq_some_iff.1 h).1 hne).trans h
theorem grown_cell1 (w:World) (x k:Nat) (v:Value):w.grownBy (w.setCell ⟨x,k,none⟩ v) (some x) :=
 ⟨rfl,rfl,rfl,by simp[World.setCell],fun i _ hne=>heap_setCell_other _ _ _ _ (fun e=>hne (by rw[show i=x from e]))⟩
def MarkTo (x:Nat) (more:Bool) (M':List Bool) (w:World) (e:Ending) (w':World):Prop:=e=.returned (.bool more)∧BoolsAt w' x M'∧w.grownBy w' (some x)
set_option maxHeartbeats 1600000 in
theorem useSet_any (x:Nat) (M:List Bool) (k:Nat) (b:Bool) (w:World) (hx:BoolsAt w x M) (hk:k<M.length) :
  Calls Tryz.prog 77 #[.slice (some ⟨x,0,none⟩) M.length M.length,.int .i64 k,.bool b] w (MarkTo x (b&&!atB M k) (M.set k (atB M k||b)) w):=by
 obtain⟨c1,c2⟩:=hx.at_ hk
 have HG:=Lib.hid (grown_cell1 w x k (.bool (atB M k||b)))
 have HX:=Lib.hid (hx.set k (atB M k||b))
 obtain⟨n,hn⟩:∃ n,n=M.length:=⟨_,rfl⟩
 rw[←hn] at hk ⊢
 generalize hm:atB M k=a at *
 obtain⟨r1,hr1⟩:∃ r1,r1=(b&&!a):=⟨_,rfl⟩
 obtain⟨r2,hr2⟩:∃ r2,r2=(a||b):=⟨_,rfl⟩
 rw[←hr1,←hr2]
 rw[←hr2] at HG HX
 cases a <;> cases b <;> cases hr1 <;> cases hr2
 all_goals
  go_enter Tryz.func77,Tryz.ntmps77
  go_wp2_with fail
  go_ret
  exact⟨rfl,HX.out,HG.out⟩
theorem useMark2_any (x b7 b3:Nat) (M:List Bool) (i j:Nat) (w:World) (hx:BoolsAt w x M) (h7:w.cell? ⟨b7,0,none⟩=some (.func (.func 77) #[] #[])) (h3:w.cell? ⟨b3,0,none⟩=some (.slice (some ⟨x,0,none⟩) M.length M.length)) (hi:i<M.length) (hj:j<M.length) :
  Calls Tryz.prog 79 #[.int .i64 i,.int .i64 j,.pointer (some ⟨b7,0,none⟩),.pointer (some ⟨b3,0,none⟩)] w (MarkTo x (atB M i&&!atB M j) (M.set j (atB M j||atB M i)) w):=by
 obtain⟨c1,c2⟩:=hx.at_ hi
 have HS:=Lib.hid (useSet_any x M j (atB M i) w.drew hx hj)
 obtain⟨n,hn⟩:∃ n,n=M.length:=⟨_,rfl⟩
 rw[←hn] at hi hj h3 HS
 clear hn
 go_enter Tryz.func79,Tryz.ntmps79
 go_wp2_with fail
 refine Text.wp_text [] (by kernel_rfl) (by kernel_rfl) (fun Q' hQ'=>?_)
 go_wp2_with fail
 refine HS.out.mono ?_
 rintro e w' ⟨rfl,h1,h2⟩
 go_wp2_with fail
 refine⟨by rfl,?_⟩
 go_wp2
 go_ret
 exact⟨rfl,h1,h2.os,h2.tape,h2.output,h2.size,h2.block⟩
theorem useMark3_any (x b7 b3:Nat) (M:List Bool) (i j:Nat) (w:World) (hx:BoolsAt w x M) (h7:w.cell? ⟨b7,0,none⟩=some (.func (.func 77) #[] #[])) (h3:w.cell? ⟨b3,0,none⟩=some (.slice (some ⟨x,0,none⟩) M.length M.length)) (hi:i<M.length) (hj:j<M.length) :
  Calls Tryz.prog 80 #[.int .i64 i,.int .i64 j,.pointer (some ⟨b7,0,none⟩),.pointer (some ⟨b3,0,none⟩)] w (MarkTo x (atB M j&&!atB M i) (M.set i (atB M i||atB M j)) w):=by
 obtain⟨c1,c2⟩:=hx.at_ hj
 have HS:=Lib.hid (useSet_any x M i (atB M j) w.drew hx hi)
 obtain⟨n,hn⟩:∃ n,n=M.length:=⟨_,rfl⟩
 rw[←hn] at hi hj h3 HS
 clear hn
 go_enter Tryz.func80,Tryz.ntmps80
 go_wp2_with fail
 refine Text.wp_text [] (by kernel_rfl) (by kernel_rfl) (fun Q' hQ'=>?_)
 go_wp2_with fail
 refine HS.out.mono ?_
 rintro e w' ⟨rfl,h1,h2⟩
 go_wp2_with fail
 refine⟨by rfl,?_⟩
 go_wp2
 go_ret
 exact⟨rfl,h1,h2.os,h2.tape,h2.output,h2.size,h2.block⟩
def Marks (F:FuncId) (cap:Array Value) (x:Nat) (dir:Bool) (m:Mch) (w:World):Prop :=
 ∀ (M:List Bool) (i:Nat) (e:Int×Int) (W:World),w.grownBy W (some x)→BoolsAt W x M→M.length=m.length→i<m.length→e∈edM m i →
  Calls Tryz.prog F (#[.int .i64 i,.int .i64 e.2]++cap) W (MarkTo x (moreE dir M i e) (markE dir M i e) W)
def SprTo (dir:Bool) (m:Mch) (Inv:List Bool→Prop) (x:Nat) (w:World) (n:Nat) (e:Ending) (w':World):Prop:=∃ M,e=.returned (.slice (some ⟨x,0,none⟩) n n)∧w.grownBy w' (some x)∧BoolsAt w' x M∧M.length=m.length∧Inv M∧∀ i<m.length,ShutE dir M i (edM m i)
set_option maxRecDepth 100000 in
set_option maxHeartbeats 8000000 in
theorem spreadM_any (F:FuncId) (cap:Array Value) (x:Nat) (dir:Bool) (Inv:List Bool→Prop) (v:Value) (m:Mch) (N:Nat) (M0:List Bool) (w:World) (hv:SlR eState w N v m) (hN:N≤x) (hN2:N≤w.heap.size) (hg:GoodM m)
  (hF:∀ (args:Array Value) (w:World),(callFunc F args).run Tryz.prog w=.ok (.enter F args) w) (hx:BoolsAt w x M0) (hl:M0.length=m.length) (h0:Inv M0)
  (hi:∀ (M:List Bool) (i:Nat) (e:Int×Int),i<m.length→e∈edM m i→Inv M→M.length=m.length→atB M (srcE dir i e)=true→Inv (M.set (dstE dir i e) true)) (hm:Marks F cap x dir m w) :
  Calls Tryz.prog 78 #[v,.slice (some ⟨x,0,none⟩) m.length m.length,.func (.func F) #[] cap] w (SprTo dir m Inv x w m.length):=by
 obtain⟨A,c,rfl,hc1,hc2⟩:=hv.form
 unfold maxLen at hc2
 have HV:=Lib.hid hv
 have HG:=Lib.hid hg
 have HI:=Lib.hid hi
 have HM:=Lib.hid hm
 clear hv hg hi hm
 obtain⟨n,hn⟩:∃ n,n=m.length:=⟨_,rfl⟩
 have HN:=Lib.hid hn
 rw[←hn] at hc1 HV ⊢
 clear hn
 go_enter Tryz.func78,Tryz.ntmps78
 go_wp2_with fail
 have HW0:=Lib.hid (show w.grownBy w (some x) from ⟨rfl,rfl,rfl,Nat.le_refl _,fun _ _ _=>rfl⟩)
 have HX0:=Lib.hid hx
 clear hx
 go_loopg [7] (gaps M0+2) (fun left v7 wr=>∃ (b:Bool) (M:List Bool),v7=.bool b∧gaps M+(if b=true then 1 else 0)≤left∧Hid (w.grownBy wr (some x))∧Hid (BoolsAt wr x M)∧Hid (M.length=m.length)∧Hid (Inv M)∧Hid (b=false→∀ i<m.length,ShutE dir M i (edM m i)))
 case atStart=>exact⟨true,M0,rfl,by simp,HW0.out,HX0.out,hl,h0,fun h=>by cases h⟩
 case round =>
  clear HX0 hl h0
  obtain⟨b,M1,rfl,hleft,HW,HX,HL,HI0,HS⟩:=hrel
  obtain⟨gas,hgas⟩:∃ gas,gas=gk:=⟨_,rfl⟩
  rw[←hgas] at hleft
  have HGK:=Lib.hid hgas
  clear hgas
  generalize wr=wo at *
  cases b
  ·go_wp2_with fail
   go_ret
   exact⟨M1,rfl,HW.out,HX.out,HL.out,HI0.out,HS.out trivial⟩
  ·have HLEFT:=Lib.hid hleft
   clear hleft
   go_wp2_with fail
   go_loopg [7,15] n (fun lf v7 v15 wt=>∃ (b:Bool) (M:List Bool) (i:Nat),v7=.bool b∧v15=.int .i64 i∧i≤n∧n - i≤lf∧Hid (w.grownBy wt (some x))∧Hid (BoolsAt wt x M)∧Hid (SprI dir m Inv M1 M b i 0))
   case atStart=>exact⟨false,M1,0,rfl,rfl,by omega,by omega,HW.out,HX.out,SprI.start HL.out HI0.out⟩
   case round =>
    clear HW HX HI0 HS
    obtain⟨b,M,i,rfl,rfl,hi,hlf,HW,HX,HSP⟩:=hrel
    obtain⟨gas2,hgas2⟩:∃ gas2,gas2=gk:=⟨_,rfl⟩
    rw[←hgas2] at hlf
    have HGK2:=Lib.hid hgas2
    clear hgas2
    generalize wr=wp at *
    by_cases hlt:i<n
    ·have hil:i<m.length:=by rw[←HN.out];exact hlt
     have hvp:SlR eState wp N (.slice A n c) m:=HV.out.keep fun p hp=>World.cell?_of_block (HW.out.block p.block (by omega) (fun e=>by injection e with e;omega))
     obtain⟨b1,o1,cs,rfl,-,hb1,hrep,hcell⟩:=hvp.get hil (by decide)
     obtain⟨u,rfl,hu,hz1,hz2⟩:=eState_open hrep
     obtain⟨A4,e4,rfl,he1,he2⟩:=hu.form
     unfold maxLen at he2
     have d0:=hcell 0 _ rfl
     have d1:=hcell 1 _ rfl
     clear hcell hvp
     simp only[show eState.size=2 from rfl,Nat.add_zero,←Nat.add_assoc] at d0 d1
     have HED:=Lib.hid (edM_get hil)
     have HTO:=Lib.hid (HG.out.tos i hil)
     have HU:=Lib.hid (show SlR eEdge w N (.slice A4 (m[i]).2.length e4) (m[i]).2 from hu.keep fun p hp=>(World.cell?_of_block (HW.out.block p.block (by omega) (fun e=>by injection e with e;omega))).symm)
     have HMK:=Lib.hid (fun (M:List Bool) (e:Int×Int) (W:World) (h1:w.grownBy W (some x)) (h2:BoolsAt W x M) (h3:M.length=m.length) (h4:e∈edM m i)=>HM.out M i e W h1 h2 h3 hil h4)
     have HIV:=Lib.hid (fun (M:List Bool) (e:Int×Int) (h4:e∈edM m i)=>HI.out M i e hil h4)
     obtain⟨s,hs⟩:∃ s,s=m[i]:=⟨_,rfl⟩
     rw[←hs] at d0 d1 HED HU he1 hz1 hz2
     clear hs hu hrep
     obtain⟨so,se⟩:=s
     simp only at d0 d1 he1 hz1 hz2 HU HED
     obtain⟨q,hq⟩:∃ q,q=se.length:=⟨_,rfl⟩
     have HQ:=Lib.hid hq
     rw[←hq] at d1 he1 HU
     clear hq
     have HW1:=Lib.hid (HW.out.trans (World.grownBy_alloc wp (.cells #[.int .i64 so,.slice A4 q e4] 58) _))
     have HX1:=Lib.hid (HX.out.grown (World.grownBy_alloc wp (.cells #[.int .i64 so,.slice A4 q e4] 58) none) (by simp))
     go_wp2_with fail
     generalize wp.alloc (.cells #[.int .i64 so,.slice A4 q e4] 58)=wq at *
     generalize wp.heap.size=b9 at *
     have HSP0:=Lib.hid HSP.out
     clear HW HX
     go_loopg [7,23] q (fun lf v7 v23 wt=>∃ (b:Bool) (M:List Bool) (k:Nat),v7=.bool b∧v23=.int .i64 k∧k≤q∧q - k≤lf∧Hid (w.grownBy wt (some x))∧Hid (BoolsAt wt x M)∧Hid (SprI dir m Inv M1 M b i k))
     case atStart=>exact⟨b,M,0,rfl,rfl,by omega,by omega,HW1.out,HX1.out,HSP.out⟩
     case round =>
      clear HW1 HX1 HSP HSP0 d0 d1
      obtain⟨b,M,k,rfl,rfl,hk,hlf3,HW,HX,HSP⟩:=hrel
      obtain⟨gas3,hgas3⟩:∃ gas3,gas3=gk:=⟨_,rfl⟩
      rw[←hgas3] at hlf3
      have HGK3:=Lib.hid hgas3
      clear hgas3
      generalize wr=wt at *
      by_cases hlk:k<q
      ·have hkl:k<se.length:=by rw[←HQ.out];exact hlk
       have hut:SlR eEdge wt N (.slice A4 q e4) se:=HU.out.keep fun p hp=>World.cell?_of_block (HW.out.block p.block (by omega) (fun e=>by injection e with e;omega))
       obtain⟨b2,o2,cs,rfl,-,hb2,hrep,hcell⟩:=hut.get hkl (by decide)
       obtain⟨rfl,hy1,hy2,hy3,hy4⟩:=eEdge_open hrep
       have d0:=hcell 0 _ rfl
       have d1:=hcell 1 _ rfl
       clear hcell hut hrep
       simp only[show eEdge.size=2 from rfl,Nat.add_zero,←Nat.add_assoc] at d0 d1
       have hmem:se[k]∈edM m i:=by rw[HED.out];exact List.getElem_mem hkl
       have HAT:=Lib.hid (show (edM m i)[k]? = some se[k] by rw[HED.out];exact List.getElem?_eq_getElem hkl)
       obtain⟨e,he⟩:∃ e,e=se[k]:=⟨_,rfl⟩
       rw[←he] at d0 d1 hy1 hy2 hy3 hy4 HAT hmem
       clear he
       have HTO2:=Lib.hid (HTO.out e hmem)
       have HMK2:=Lib.hid (fun M W h1 h2 h3=>HMK.out M e W h1 h2 h3 hmem)
       have HIV2:=Lib.hid (fun M=>HIV.out M e hmem)
       have HE:=Lib.hid (HSP.out.edge HAT.out (by have:=HTO2.out;unfold dstE;split <;> omega) HIV2.out)
       have HL3:=Lib.hid HSP.out.len
       clear hmem HAT HSP
       obtain⟨et,en⟩:=e
       simp only at d0 d1
       have HW1:=Lib.hid (HW.out.trans (World.grownBy_alloc wt (.cells #[.int .i64 et,.int .i64 en] 80) _))
       have HX1:=Lib.hid (HX.out.grown (World.grownBy_alloc wt (.cells #[.int .i64 et,.int .i64 en] 80) none) (by simp))
       go_wp2_with fail
       refine (HMK2.out M _ HW1.out HX1.out HL3.out).mono ?_
       rintro e w5 ⟨rfl,h5,h6⟩
       have HW5:=Lib.hid (HW1.out.trans h6)
       have HX5:=Lib.hid h5
       obtain⟨a,ha⟩:∃ a,a=moreE dir M i (et,en):=⟨_,rfl⟩
       rw[←ha] at HE ⊢
       clear ha h5 h6
       obtain⟨r,hr⟩:∃ r,r=(a||b):=⟨_,rfl⟩
       rw[←hr] at HE
       cases a <;> cases b <;> cases hr
       all_goals
        go_wp2_with fail
        go_roundg (gk - 1)
        case measure=>have:=HGK3.out;omega
        case rel=>exact⟨_,_,k+1,rfl,by go_num,by omega,by have:=HGK3.out;omega,HW5.out,HX5.out,HE.out⟩
      ·have hkq:k=q:=by omega
       subst hkq
       have HNX:=Lib.hid (SprI.next (by rw[HED.out,←HQ.out];exact HSP.out))
       clear HSP
       go_wp2_with fail
       go_roundg (gas2 - 1)
       case measure=>have:=HGK2.out;omega
       case rel=>exact⟨b,M,i+1,rfl,by go_num,by omega,by have:=HGK2.out;omega,HW.out,HX.out,HNX.out⟩
    ·have hin:i=n:=by omega
     have HFIN:=Lib.hid (fun (h:b=false)=>SprI.shutAll (by rw[←HN.out];rw[h,hin] at HSP;exact HSP.out))
     have HLE:=Lib.hid HSP.out.le
     have HMO:=Lib.hid HSP.out.more
     have HL4:=Lib.hid HSP.out.len
     have HI4:=Lib.hid HSP.out.inv
     subst hin
     clear HSP
     go_wp2_with fail
     go_roundg (gas - 1)
     case measure=>have:=HGK.out;have:=HLEFT.out;simp at this;omega
     case rel =>
      refine⟨b,M,rfl,?_,HW.out,HX.out,HL4.out,HI4.out,HFIN.out⟩
      have h1:=HLEFT.out
      have h2:=HGK.out
      have h3:=HLE.out
      have h4:=HMO.out
      simp only[if_true] at h1
      cases b
      ·simp only[Bool.false_eq_true,if_false];omega
      ·have:=h4 rfl
       simp only[if_true];omega
end Go.Proofs.YtfpihflepeiagaaGreatDoor
namespace Go.Proofs.YtfpihflepeiagaaGreatDoor
open Go.RowKit

set_option maxRecDepth 100000 in
set_option maxHeartbeats 4000000 in
theorem risingM_any (v:Value) (terms states:Int) (es:List (Int×Int)) (w:World) (hv:SlR eEdge w w.heap.size v es) :
  Calls Tryz.prog 106 #[v,.int .i64 terms,.int .i64 states] w fun e w'=>e=.returned (.bool (risingM terms states (-1) es))∧Below w.heap.size w w':=by
 obtain⟨A,c,rfl,hc1,hc2⟩:=hv.form
 unfold maxLen at hc2
 go_enter Tryz.func106,Tryz.ntmps106
 go_wp2_with fail
 go_loopw [7,12] (fun v7 v12 wr=>∃ (k:Nat) (last:Int),k≤es.length∧v7=.int .i64 last∧v12=.int .i64 k∧Hid (risingM terms states (-1) es=risingM terms states last (es.drop k))∧Below w.heap.size w wr) (fun _ v12 _=>es.length - (intOf v12).toNat)
 case atStart=>exact⟨0,-1,by omega,rfl,rfl,rfl,Below.refl _ _⟩
 case round =>
  obtain⟨k,last,hk,rfl,rfl,HI,hbr⟩:=hrel
  have hsz:=hbr.size
  by_cases hlt:k<es.length
  ·obtain⟨eb,eo,cs,rfl,_,heb,hrep2,hcell⟩:=(hv.below hbr).get hlt (by decide)
   obtain⟨rfl,q1,q2,q3,q4⟩:=eEdge_open hrep2
   have f0:=hcell 0 _ rfl
   have f1:=hcell 1 _ rfl
   clear hcell hrep2
   simp only[show eEdge.size=2 from rfl,Nat.add_zero,←Nat.add_assoc] at f0 f1
   have HS:Hid (risingM terms states last (es.drop k)=(decide (last<es[k].1)&&decide (es[k].1<terms)&&decide (0≤es[k].2)&&decide (es[k].2<states)&&risingM terms states es[k].1 (es.drop (k+1)))):=by
    show _=_
    rw[List.drop_eq_getElem_cons hlt]
    rfl
   obtain⟨x,hx⟩:∃ x,x=es[k]:=⟨_,rfl⟩
   rw[←hx] at f0 f1 q1 q2 q3 q4 HS
   clear hx
   obtain⟨t,u⟩:=x
   simp only at f0 f1 q1 q2 q3 q4
   obtain⟨b1,hb1⟩:∃ b:Bool,decide (t≤last)=b:=⟨_,rfl⟩
   obtain⟨b2,hb2⟩:∃ b:Bool,decide (terms≤t)=b:=⟨_,rfl⟩
   obtain⟨b3,hb3⟩:∃ b:Bool,decide (u<0)=b:=⟨_,rfl⟩
   obtain⟨b4,hb4⟩:∃ b:Bool,decide (states≤u)=b:=⟨_,rfl⟩
   have HR:Hid (risingM terms states last (es.drop k)=(!b1&&!b2&&!b3&&!b4&&risingM terms states t (es.drop (k+1)))):=by
    show _=_
    rw[HS.out,←hb1,←hb2,←hb3,←hb4]
    simp only[←decide_not,Int.not_le,Int.not_lt]
   clear HS
   have HB:=Lib.hid (hbr.alloc hsz (.cells #[.int .i64 t,.int .i64 u] 80))
   cases b1 <;> cases b2 <;> cases b3 <;> cases b4
   case false.false.false.false =>
    go_wp2_with fail
    go_roundw
    case rel=>exact⟨k+1,t,by omega,rfl,by go_num,by show _=_;rw[HI.out,HR.out];rfl,HB.out⟩
    case measure=>simp[intOf];omega
   all_goals
    go_wp2_with fail
    go_ret
    exact⟨rt1 (vbool (by rw[HI.out,HR.out];rfl)),HB.out⟩
  ·have hkl:k=es.length:=by omega
   subst hkl
   have HT:Hid (risingM terms states last (es.drop es.length)=true):=by
    show _=_
    rw[List.drop_length]
    rfl
   go_wp2_with fail
   go_ret
   exact⟨rt1 (vbool (by rw[HI.out,HT.out])),hbr⟩
def statesB (terms:Int) (n:Nat) (l:List Sta):Bool:=l.all fun s=>decide (-1≤s.1)&&risingM terms n (-1) s.2
theorem validM_eq (m:Mch) (terms:Int):validM m terms=(statesB terms m.length m&&decide (m≠[])):=rfl
set_option maxRecDepth 100000 in
set_option maxHeartbeats 4000000 in
theorem validM_any (v:Value) (terms:Int) (m:Mch) (w:World) (hv:SlR eState w w.heap.size v m) :
  Calls Tryz.prog 76 #[v,.int .i64 terms] w fun e w'=>e=.returned (.bool (validM m terms))∧Below w.heap.size w w':=by
 obtain⟨A,c,rfl,hc1,hc2⟩:=hv.form
 unfold maxLen at hc2
 have HE:=Lib.hid (validM_eq m terms)
 go_enter Tryz.func76,Tryz.ntmps76
 go_wp2_with fail
 go_loopw [9] (fun v9 wr=>∃ k:Nat,k≤m.length∧v9=.int .i64 k∧Hid (statesB terms m.length m=statesB terms m.length (m.drop k))∧Below w.heap.size w wr) (fun v9 _=>m.length - (intOf v9).toNat)
 case atStart=>exact⟨0,by omega,rfl,rfl,Below.refl _ _⟩
 case round =>
  obtain⟨k,hk,rfl,HI,hbr⟩:=hrel
  have hsz:=hbr.size
  by_cases hlt:k<m.length
  ·obtain⟨ab,ao,cs,rfl,_,hab,hrep,hcell⟩:=(hv.below hbr).get hlt (by decide)
   obtain⟨u,rfl,hu,hz1,hz2⟩:=eState_open hrep
   have c0:=hcell 0 _ rfl
   have c1:=hcell 1 _ rfl
   clear hcell hrep
   simp only[show eState.size=2 from rfl,Nat.add_zero,←Nat.add_assoc] at c0 c1
   have HS:Hid (statesB terms m.length (m.drop k)=((decide (-1≤m[k].1)&&risingM terms m.length (-1) m[k].2)&&statesB terms m.length (m.drop (k+1)))):=by
    show _=_
    rw[List.drop_eq_getElem_cons hlt]
    rfl
   obtain⟨x,hx⟩:∃ x,x=m[k]:=⟨_,rfl⟩
   rw[←hx] at c0 hu hz1 hz2 HS
   clear hx
   obtain⟨o,es⟩:=x
   simp only at c0 c1 hu hz1 hz2
   have HB:=Lib.hid (hbr.alloc hsz (.cells #[.int .i64 o,u] 58))
   have HU:=Lib.hid (hu.fut (B':=(wr.alloc (.cells #[.int .i64 o,u] 58)).heap.size) ((Below.refl wr.heap.size wr).alloc (Nat.le_refl _) (.cells #[.int .i64 o,u] 58)) (by omega) (by simp;omega))
   obtain⟨A4,e4,rfl,hq1,hq2⟩:=hu.form
   obtain⟨b1,hb1⟩:∃ b:Bool,decide (o < -1)=b:=⟨_,rfl⟩
   have hb1':decide (-1≤o)=!b1:=by simp only[←hb1,←decide_not,Int.not_lt]
   cases b1
   ·go_wp2_with fail
    refine (risingM_any _ terms m.length es _ HU.out).mono ?_
    rintro e w2 ⟨rfl,hb2⟩
    have HB2:=Lib.hid (HB.out.trans (hb2.mono (by simp;omega)))
    clear hb2
    cases hr:risingM terms m.length (-1) es with
    |false =>
     have HF:Hid (statesB terms m.length m=false):=by
      show _=_
      rw[HI.out,HS.out]
      simp only[hr,Bool.and_false,Bool.false_and]
     clear hr
     go_wp2_with fail
     go_ret
     exact⟨rt1 (vbool (by rw[HE.out,HF.out];rfl)),HB2.out⟩
    |true =>
     have HF:Hid (statesB terms m.length m=statesB terms m.length (m.drop (k+1))):=by
      show _=_
      rw[HI.out,HS.out]
      simp only[hr,hb1',Bool.not_false,Bool.true_and]
     clear hr
     go_wp2_with fail
     go_roundw
     case rel=>exact⟨k+1,by omega,by go_num,HF.out,HB2.out⟩
     case measure=>simp[intOf];omega
   ·have HF:Hid (statesB terms m.length m=false):=by
     show _=_
     rw[HI.out,HS.out]
     simp only[hb1',Bool.not_true,Bool.false_and]
    go_wp2_with fail
    go_ret
    exact⟨rt1 (vbool (by rw[HE.out,HF.out];rfl)),HB.out⟩
  ·have hkl:k=m.length:=by omega
   subst hkl
   have HF:Hid (statesB terms m.length m=true):=by
    show _=_
    rw[HI.out,List.drop_length]
    rfl
   by_cases h0:m.length=0
   ·have HN:Hid (decide (m≠[])=false):=by
     show _=_
     rw[List.eq_nil_of_length_eq_zero h0]
     rfl
    have HG:=Lib.hid (show decide (0<m.length)=false by rw[h0];rfl)
    have hg:decide ((0:Int)<(m.length:Int))=false:=by rw[h0];rfl
    clear h0
    go_wp2_with fail
    go_ret
    exact⟨rt1 (vbool (by rw[HE.out,HF.out,HN.out];exact HG.out)),hbr⟩
   ·have HN:Hid (decide (m≠[])=true):=by
     show _=_
     rw[decide_eq_true_eq]
     exact fun e=>h0 (by rw[e];rfl)
    have HG:=Lib.hid (show decide (0<m.length)=true by rw[decide_eq_true_eq];omega)
    have hg:decide ((0:Int)<(m.length:Int))=true:=by rw[decide_eq_true_eq];omega
    go_wp2_with fail
    go_ret
    exact⟨rt1 (vbool (by rw[HE.out,HF.out,HN.out];exact HG.out)),hbr⟩
end Go.Proofs.YtfpihflepeiagaaGreatDoor
