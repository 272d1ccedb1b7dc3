/- Texts of this proof joined: Class1, Classes. -/
import Derived.Test.YtfpihflepeiagaaGreatDoorLN34
import Derived.Test.YtfpihflepeiagaaGreatDoorLN31
import Derived.Test.YtfpihflepeiagaaGreatDoorLN26
import Derived.Deep.LoopGhost
namespace Go.Proofs.YtfpihflepeiagaaGreatDoor
open Go.RowKit

abbrev IntsAt (w:World) (x:Nat) (L:List Int):Prop:=w.heap[x]? = some (.cells (L.map (Value.int .i64)).toArray 3 (0,0))
def imap (n:Nat) (f:Nat→Int):List Int:=(List.range n).map f
theorem imap_len (n:Nat) (f:Nat→Int):(imap n f).length=n:=by simp[imap]
theorem imap_get {n k:Nat} {f:Nat→Int} (h:k<n):(imap n f)[k]? = some (f k):=by
 unfold imap
 rw[List.getElem?_map,List.getElem?_range h]
 rfl
theorem imap_ext {n:Nat} {f g:Nat→Int} (h:∀ k<n,f k=g k):imap n f=imap n g:=List.map_congr_left fun k hk=>h k (List.mem_range.1 hk)
theorem imap_set {n i:Nat} {f:Nat→Int} {b:Int}:(imap n f).set i b=imap n (fun k=>if k=i then b else f k):=by
 apply List.ext_getElem?
 intro k
 by_cases hn:k<n
 ·rw[imap_get hn,List.getElem?_set,imap_get hn,imap_len]
  by_cases hk:i=k
  ·subst hk
   simp[hn]
  ·have:¬ k=i:=fun e=>hk e.symm
   simp[hk,this]
 ·rw[List.getElem?_eq_none (by rw[List.length_set,imap_len];omega),List.getElem?_eq_none (by rw[imap_len];omega)]
theorem imap_const (n:Nat) (v:Int):imap n (fun _=>v)=List.replicate n v:=by
 unfold imap
 rw[List.map_const',List.length_range]
theorem IntsAt.at_ {w:World} {x n k:Nat} {f:Nat→Int} (h:IntsAt w x (imap n f)) (hk:k<n):w.cell? ⟨x,k,none⟩=some (.int .i64 (f k))∧w.frozen? ⟨x,k,none⟩=false:=by
 refine⟨?_,by simp[World.frozen?,h]⟩
 rw[cell_of_row w x k _ _ _ h,List.getElem?_toArray,List.getElem?_map,imap_get hk]
 rfl
theorem IntsAt.set {w:World} {x n:Nat} {f:Nat→Int} (h:IntsAt w x (imap n f)) (k:Nat) (b:Int):IntsAt (w.setCell ⟨x,k,none⟩ (.int .i64 b)) x (imap n (fun j=>if j=k then b else f j)):=by
 show _=_
 rw[heap_setCell_at h,←imap_set,List.map_set,List.setIfInBounds_toArray]
theorem IntsAt.below {w w':World} {x:Nat} {L:List Int} (h:IntsAt w x L) (hb:Below w.heap.size w w'):IntsAt w' x L:=(hb.block x (Array.getElem?_eq_some_iff.1 h).1).trans h
theorem int_makeL (n:Nat) (hn:n≤2199023255552) (w:World):(Instr.makeSlice 39 (.int .i64 (n:Int)) (.int .i64 (n:Int))).run Tryz.prog w=.ok (.slice (some ⟨w.heap.size,0,none⟩) n n) (w.alloc (.cells ((imap n fun _=>0).map (Value.int .i64)).toArray 3)):=by
 rw[imap_const,List.map_replicate,←made_repL]
 exact run_make_row' 39 3 (.int .i64 0) 8 Tryz.underlying39 (by kernel_rfl) rfl .i64 .i64 n (by omega) (by omega) w
theorem assocSet_new {α:Type} [DecidableEq α] {l:List (α×Value)} {k:α} (h:assoc l k=none) (v:Value):assocSet l k v=l++[(k,v)]:=by
 induction l with
 |nil=>rfl
 |cons a r ih =>
  unfold assoc at h ih
  rw[List.find?_cons] at h
  by_cases hk:a.1=k
  ·simp[hk] at h
  ·simp only[hk,decide_false] at h
   unfold assocSet
   rw[if_neg hk,ih h]
   rfl
def MapN (W:World) (g:Nat) (S:List Txt):Prop:=∃ l,MapR wv W g l∧l.length=S.length∧∀ t,assoc l t=if t∈S then some (.int .i64 (S.idxOf t)) else none
theorem MapN.made (w:World):MapN (w.alloc (.map #[] 0)) w.heap.size []:=⟨[],MapR.made w,rfl,fun t=>by simp[assoc]⟩
theorem MapN.below {W W':World} {g:Nat} {S:List Txt} (h:MapN W g S) (hb:Below W.heap.size W W'):MapN W' g S:=by
 obtain⟨l,h1,h2,h3⟩:=h
 exact⟨l,h1.below hb h1.lt,h2,h3⟩
theorem MapN.setCell {W:World} {g x k:Nat} {S:List Txt} (h:MapN W g S) (hx:g≠x) (v:Value):MapN (W.setCell ⟨x,k,none⟩ v) g S:=by
 obtain⟨l,h1,h2,h3⟩:=h
 exact⟨l,h1.setCell hx,h2,h3⟩
theorem MapN.look {W:World} {g:Nat} {S:List Txt} (h:MapN W g S) {mt kt et:TypeId} {P:Program} (K:KeyTy P mt kt et wv) (hz:∀ w:World,(zeroValue et).run P w=.ok (.int .i64 0) w) (t:Txt) :
  (Instr.lookup mt (.map (some g)) (wv t) true).run P W=.ok (.tuple #[if t∈S then .int .i64 (S.idxOf t) else .int .i64 0,.bool (decide (t∈S))]) W ∧
  (t∈S→(Instr.lookup mt (.map (some g)) (wv t) false).run P W=.ok (.int .i64 (S.idxOf t)) W):=by
 obtain⟨l,h1,h2,h3⟩:=h
 constructor
 ·rw[h1.lookup_ok K hz t,h3]
  by_cases ht:t∈S <;> simp[ht]
 ·intro ht
  rw[h1.lookup K hz t,h3,if_pos ht]
  rfl
theorem MapN.len {W:World} {g:Nat} {S:List Txt} (h:MapN W g S) {mt kt et ty:TypeId} {P:Program} (K:KeyTy P mt kt et wv):(Builtin.len_ #[mt] ty #[.map (some g)]).run P W=.ok (.int .i64 S.length) W:=by
 obtain⟨l,⟨es,c,hh,he⟩,h2,h3⟩:=h
 have hsz:es.size=S.length:=by
  have:=congrArg List.length he
  simp at this
  omega
 simp[Builtin.len_,run_underlying K.und,getObj,Sem.run,hh,Result.andThen,hsz,goInt]
theorem MapN.put {W:World} {g:Nat} {S:List Txt} (h:MapN W g S) {mt kt et:TypeId} {P:Program} (K:KeyTy P mt kt et wv) {t:Txt} (ht:t∉S) :
  ∃ W',(Instr.mapUpdate mt (.map (some g)) (wv t) (.int .i64 S.length)).run P W=.ok () W'∧MapN W' g (S++[t])∧W.grownBy W' (some g)∧W'.heap.size=W.heap.size:=by
 obtain⟨l,h1,h2,h3⟩:=h
 obtain⟨W1,hup,hm1,hg1,hs1⟩:=h1.update K t (.int .i64 S.length)
 refine⟨W1,hup,⟨_,hm1,?_,fun u=>?_⟩,hg1,hs1⟩
 ·rw[assocSet_new (by rw[h3,if_neg ht]),List.length_append,List.length_append,h2]
  rfl
 ·rw[assoc_setT,h3]
  by_cases hu:u=t
  ·subst hu
   rw[if_pos rfl,if_pos (by simp),List.idxOf_append,if_neg ht]
   simp
  ·rw[if_neg hu]
   by_cases hS:u∈S
   ·rw[if_pos hS,if_pos (List.mem_append_left _ hS),List.idxOf_append,if_pos hS]
   ·rw[if_neg hS,if_neg]
    simp[hS,hu]
def TabP (w : World) : Prop := Lib.TabIs Tryz.prog w "internal/strconv.uint64pow10" .u64 Lib.pow10Tab
theorem TabP.below {w w':World} (h:TabP w) (hb:Below w.heap.size w w'):TabP w':=var_below h hb
theorem itoaP_any (n:Int) (w:World) (h0:-9223372036854775808≤n) (h1:n≤9223372036854775807) (ht:TabP w):Calls Tryz.prog 81 #[.int .i64 n] w fun e w'=>e=.returned (wv (Lib.itoa n))∧Below w.heap.size w w':=by
 refine (Tryz.strconv_Itoa n h0 h1 w ht).mono ?_
 rintro e w' ⟨rfl,k,os,rfl⟩
 exact⟨rfl,below_grow w k os⟩
def nxC (m:Mch) (use:Nat→Bool) (c:Nat→Int) (i k:Nat):Int:=if k<i then newC m use c i k else 0
theorem nxC_skip {m:Mch} {use:Nat→Bool} {c:Nat→Int} {i:Nat} (hu:use i=false) (k:Nat):(if k=i then -1 else nxC m use c i k)=nxC m use c (i+1) k:=by
 unfold nxC
 by_cases hk:k=i
 ·subst hk
  rw[if_pos rfl,if_pos (by omega),newC_no hu]
 ·rw[if_neg hk]
  by_cases hlt:k<i
  ·rw[if_pos hlt,if_pos (by omega),newC_stay hlt]
  ·rw[if_neg hlt,if_neg (by omega)]
theorem nxC_use {m:Mch} {use:Nat→Bool} {c:Nat→Int} {i:Nat} (k:Nat):(if k=i then newC m use c (i+1) i else if k=i then -1 else nxC m use c i k)=nxC m use c (i+1) k:=by
 unfold nxC
 by_cases hk:k=i
 ·subst hk
  rw[if_pos rfl,if_pos (by omega)]
 ·rw[if_neg hk,if_neg hk]
  by_cases hlt:k<i
  ·rw[if_pos hlt,if_pos (by omega),newC_stay hlt]
  ·rw[if_neg hlt,if_neg (by omega)]
theorem nxC_zero (m:Mch) (use:Nat→Bool) (c:Nat→Int):nxC m use c 0=fun _=>0:=by
 funext k
 unfold nxC
 rw[if_neg (by omega)]
theorem newC_le (m:Mch) (use:Nat→Bool) (c:Nat→Int) (i k:Nat):-1≤newC m use c i k∧newC m use c i k≤i:=by
 unfold newC
 split
 ·have h1:=List.idxOf_le_length (l:=sgs m use c i) (a:=sgnT m use c k)
  have h2:=sgs_len m use c i
  omega
 ·omega
structure RndS (w W:World) (g xo xn n:Nat) (c:Nat→Int) (S:List Txt) (f:Nat→Int):Prop where
 map:MapN W g S
 old:IntsAt W xo (imap n c)
 new:IntsAt W xn (imap n f)
 bel:Below w.heap.size w W
 lo:w.heap.size≤g∧w.heap.size≤xo∧w.heap.size≤xn∧xo≠xn
section
variable {w W W':World} {g xo xn n:Nat} {c f:Nat→Int} {S:List Txt}
theorem RndS.below (h:RndS w W g xo xn n c S f) (hb:Below W.heap.size W W'):RndS w W' g xo xn n c S f:=⟨h.map.below hb,h.old.below hb,h.new.below hb,h.bel.trans (hb.mono h.bel.size),h.lo⟩
theorem RndS.alloc (h:RndS w W g xo xn n c S f) (o:Obj):RndS w (W.alloc o) g xo xn n c S f:=h.below ((Below.refl _ _).alloc (Nat.le_refl _) _)
theorem RndS.drew (h:RndS w W g xo xn n c S f):RndS w W.drew g xo xn n c S f:=h.below (Below.refl _ _).drew
theorem MapN.ne {x:Nat} {cs:Array Value} {t:TypeId} {fr:Nat×Nat} (h:MapN W g S) (hx:W.heap[x]? = some (.cells cs t fr)):g≠x:=by
 obtain⟨l,⟨es,c,hh,_⟩,_⟩:=h
 rintro rfl
 rw[hh] at hx
 cases hx
theorem RndS.set (h:RndS w W g xo xn n c S f) (k:Nat) (b:Int):RndS w (W.setCell ⟨xn,k,none⟩ (.int .i64 b)) g xo xn n c S (fun j=>if j=k then b else f j) :=
 ⟨h.map.setCell (h.map.ne h.new) _,(heap_setCell_other _ _ _ _ h.lo.2.2.2).trans h.old,h.new.set k b,h.bel.setCell h.lo.2.2.1 _,h.lo⟩
theorem RndS.put (h:RndS w W g xo xn n c S f) {mt kt et:TypeId} {P:Program} (K:KeyTy P mt kt et wv) {t:Txt} (ht:t∉S) :
  ∃ W',(Instr.mapUpdate mt (.map (some g)) (wv t) (.int .i64 S.length)).run P W=.ok () W'∧RndS w W' g xo xn n c (S++[t]) f∧W'.heap.size=W.heap.size:=by
 obtain⟨W1,hup,hm1,hg1,hs1⟩:=h.map.put K ht
 refine⟨W1,hup,⟨hm1,(hg1.block xo (Array.getElem?_eq_some_iff.1 h.old).1 fun e=>?_).trans h.old,(hg1.block xn (Array.getElem?_eq_some_iff.1 h.new).1 fun e=>?_).trans h.new,?_,h.lo⟩,hs1⟩
 ·injection e with e
  exact h.map.ne h.old e.symm
 ·injection e with e
  exact h.map.ne h.new e.symm
 ·exact h.bel.trans ((Below.refl _ _).grown hg1 h.bel.size fun k e=>by injection e with e;have:=h.lo.1;omega)
end
def ClassTo (m:Mch) (w:World) (n:Nat) (e:Ending) (w':World):Prop:=∃ (y:Nat) (C:Nat→Int),e=.returned (.slice (some ⟨y,0,none⟩) n n)∧IntsAt w' y (imap n C)∧w.heap.size≤y∧Below w.heap.size w w'∧(∀ k,-1≤C k∧C k≤n) ∧
 ∀ i<n,∀ j<n,useB m i=true→useB m j=true→(C i=C j↔Alike m i j)
end Go.Proofs.YtfpihflepeiagaaGreatDoor
namespace Go.Proofs.YtfpihflepeiagaaGreatDoor
open Go.RowKit

set_option maxRecDepth 100000 in
set_option maxHeartbeats 16000000 in
theorem classes_any (A:Option Addr) (c x:Nat) (m:Mach) (w:World) (hv:SlR eState w w.heap.size (.slice A m.length c) m) (hx:BoolsAt w x (bmap m.length (useB m))) (hvd:validM m 9223372036854775807=true) (hl:m.length≤2199023255552) (he:∀ k<m.length,(edM m k).length≤2199023255552) (ht:TabP w) :
  Calls Tryz.prog 51 #[.slice A m.length c,.slice (some ⟨x,0,none⟩) m.length m.length] w (ClassTo m w m.length):=by
 have hc1:=hv.n_le
 have hxl:x<w.heap.size:=(Array.getElem?_eq_some_iff.1 hx).1
 have HV:=Lib.hid hv
 have HX:=Lib.hid hx
 have HG:=Lib.hid (valid_good hvd)
 have HE:=Lib.hid he
 have HT:=Lib.hid ht
 clear hv hx hvd he ht
 obtain⟨n,hn⟩:∃ n,n=m.length:=⟨_,rfl⟩
 have HN:=Lib.hid hn
 rw[←hn] at hc1 HV hl HX HE ⊢
 clear hn
 have hmk:=int_makeL n hl
 go_enter Tryz.func51,Tryz.ntmps51
 go_wp2_with fail
 have HB0:=Lib.hid (show Below w.heap.size w (w.alloc (.cells ((imap n fun _=>0).map (Value.int .i64)).toArray 3)) from (Below.refl _ _).alloc (Nat.le_refl _) _)
 have HI0:=Lib.hid (show IntsAt (w.alloc (.cells ((imap n fun _=>0).map (Value.int .i64)).toArray 3)) w.heap.size (imap n fun k=>if k<0 then -1 else 0) by
  rw[show (fun k:Nat=>if k<0 then (-1:Int) else 0)=fun _=>0 from funext fun k=>if_neg (by omega)]
  exact Go.heap_alloc_new w _)
 generalize w.alloc (.cells ((imap n fun _=>0).map (Value.int .i64)).toArray 3)=w1 at *
 obtain⟨x0,hx0⟩:∃ x0,x0=w.heap.size:=⟨_,rfl⟩
 rw[←hx0] at HI0 ⊢
 have HX0:=Lib.hid hx0
 clear hx0
 go_loopw [22] (fun v22 wr=>∃ i:Nat,i≤n∧v22=.int .i64 i∧Hid (IntsAt wr x0 (imap n fun k=>if k<i then -1 else 0))∧Hid (Below w.heap.size w wr)) (fun v22 _=>n - (intOf v22).toNat)
 case atStart=>exact⟨0,by omega,rfl,HI0.out,HB0.out⟩
 case round =>
  clear HI0 HB0
  obtain⟨i,hi,rfl,HI,HB⟩:=hrel
  by_cases hlt:i<n
  ·obtain⟨-,c2⟩:=HI.out.at_ hlt
   have HI2:=Lib.hid (show IntsAt (wr.setCell ⟨x0,i,none⟩ (.int .i64 (-1))) x0 (imap n fun k=>if k<i+1 then -1 else 0) by
    have h:=HI.out.set i (-1)
    rwa [show (fun k:Nat=>if k=i then (-1:Int) else if k<i then -1 else 0)=fun k=>if k<i+1 then -1 else 0 from funext fun k=>by
     by_cases hk:k=i
     ·subst hk;simp
     ·have:(k<i+1)=(k<i):=by apply propext;omega
      simp only[this,if_neg hk]] at h)
   have HB2:=Lib.hid (HB.out.setCell (p:=⟨x0,i,none⟩) (show w.heap.size≤x0 by have:=HX0.out;omega) (.int .i64 (-1)))
   obtain⟨v0,c1⟩:∃ v0:Int,wr.cell? ⟨x0,i,none⟩=some (.int .i64 v0):=⟨_,(HI.out.at_ hlt).1⟩
   clear HI HB
   go_wp2_with fail
   go_roundw
   case rel=>exact⟨i+1,by omega,by go_num,HI2.out,HB2.out⟩
   case measure=>simp[intOf];omega
  ·have hin:i=n:=by omega
   subst hin
   have HIC:=Lib.hid (show IntsAt wr x0 (imap i fun _=>-1) by
    have h:=HI.out
    rwa [imap_ext (g:=fun _=>(-1:Int)) fun k hk=>if_pos hk] at h)
   clear HI
   go_wp2_with fail
   go_loopg [5,7] (i+2) (fun left v5 v7 wt=>∃ (xo:Nat) (C:Nat→Int) (cnt:Int),v5=.slice (some ⟨xo,0,none⟩) i i∧v7=.int .i64 cnt∧-1≤cnt∧cnt≤i∧(i:Int)+1 - cnt≤left∧w.heap.size≤xo∧Hid (IntsAt wt xo (imap i C))∧Hid (Below w.heap.size w wt)∧Hid (CState m (useB m) C cnt)∧Hid (∀ k,-1≤C k∧C k≤i))
   case atStart=>exact⟨x0,fun _=>-1,-1,rfl,rfl,by omega,by omega,by omega,by have:=HX0.out;omega,HIC.out,HB.out,.inl ⟨rfl,fun _ _=>rfl⟩,fun _=>⟨by show (-1:Int)≤-1;omega,by show (-1:Int)≤_;omega⟩⟩
   case round =>
    clear HIC HB
    obtain⟨xo,C,cnt,rfl,rfl,hc3,hc4,hleft,hxo,HI,HB,HC,HCB⟩:=hrel
    obtain⟨gas,hgas⟩:∃ gas,gas=gk:=⟨_,rfl⟩
    rw[←hgas] at hleft
    have HGK:=Lib.hid hgas
    clear hgas
    generalize wr=wo at *
    have hmm:=@run_makeMap Tryz.prog
    have hmk2:=hmk (wo.alloc (.map #[] 0))
    rw[World.size_alloc] at hmk2
    go_wp2_with fail
    have HR0:=Lib.hid (show RndS w ((wo.alloc (.map #[] 0)).alloc (.cells ((imap i fun _=>0).map (Value.int .i64)).toArray 3)) wo.heap.size xo (wo.heap.size+1) i C (sgs m (useB m) C 0) (nxC m (useB m) C 0) from
     ⟨(MapN.made wo).below ((Below.refl _ _).alloc (Nat.le_refl _) _),(HI.out.below ((Below.refl _ _).alloc (Nat.le_refl _) _)).below ((Below.refl _ _).alloc (Nat.le_refl _) _),by
      rw[nxC_zero]
      have:=Go.heap_alloc_new (wo.alloc (.map #[] 0)) (.cells ((imap i fun _=>0).map (Value.int .i64)).toArray 3)
      rw[World.size_alloc] at this
      exact this,(HB.out.alloc HB.out.size _).alloc (by rw[World.size_alloc];have:=HB.out.size;omega) _,HB.out.size,hxo,by have:=HB.out.size;omega,by have:=(Array.getElem?_eq_some_iff.1 HI.out).1;omega⟩)
    have HZ:=Lib.hid (show wo.heap.size+2≤((wo.alloc (.map #[] 0)).alloc (.cells ((imap i fun _=>0).map (Value.int .i64)).toArray 3)).heap.size by rw[World.size_alloc,World.size_alloc];omega)
    clear hmk2 HI HB
    generalize (wo.alloc (.map #[] 0)).alloc (.cells ((imap i fun _=>0).map (Value.int .i64)).toArray 3)=wp at *
    obtain⟨g,hg⟩:∃ g,g=wo.heap.size:=⟨_,rfl⟩
    rw[←hg] at HR0 HZ ⊢
    clear hg
    go_loopw [35] (fun v35 wt=>∃ k:Nat,k≤i∧v35=.int .i64 k∧Hid (RndS w wt g xo (g+1) i C (sgs m (useB m) C k) (nxC m (useB m) C k))) (fun v35 _=>i - (intOf v35).toNat)
    case atStart=>exact⟨0,by omega,rfl,HR0.out⟩
    case round =>
     clear HR0
     obtain⟨k,hk,rfl,HR⟩:=hrel
     by_cases hlk:k<i
     ·have hkl:k<m.length:=by rw[←HN.out];exact hlk
      obtain⟨b1,o1,cs,rfl,-,hb1,hrep,hcell⟩:=(HV.out.below HR.out.bel).get hkl (by decide)
      obtain⟨u,rfl,hu,hz1,hz2⟩:=eState_open hrep
      obtain⟨A4,e4,rfl,he1,he2⟩:=hu.form
      unfold maxLen at he2
      have d0:=hcell 0 _ rfl
      have d1:=hcell 1 _ rfl
      clear hcell hrep
      simp only[show eState.size=2 from rfl,Nat.add_zero,←Nat.add_assoc] at d0 d1
      have HED:=Lib.hid (edM_get hkl)
      have HOU:=Lib.hid (outM_get hkl)
      have HEL:=Lib.hid (HE.out k hlk)
      have HTO:=Lib.hid (HG.out.tos k hkl)
      have HU:=Lib.hid (show SlR eEdge w w.heap.size (.slice A4 (m[k]).2.length e4) (m[k]).2 from hu.keep fun p hp=>(HR.out.bel.cell hp).symm)
      obtain⟨s,hs⟩:∃ s,s=m[k]:=⟨_,rfl⟩
      rw[←hs] at d0 d1 HED HOU HU he1 hz1 hz2
      clear hs hu
      obtain⟨so,se⟩:=s
      simp only at d0 d1 he1 hz1 hz2 HU HED HOU
      obtain⟨q,hq⟩:∃ q,q=se.length:=⟨_,rfl⟩
      have HQ:=Lib.hid hq
      rw[←hq] at d1 he1 HU
      clear hq
      have hgl:g+1<wr.heap.size:=(Array.getElem?_eq_some_iff.1 HR.out.new).1
      obtain⟨f0,ff⟩:=HR.out.new.at_ hlk
      have HR2:=Lib.hid ((HR.out.set k (-1)).alloc (.cells #[.int .i64 so,.slice A4 q e4] 58))
      have hbx:=Go.heap_alloc_new (wr.setCell ⟨g+1,k,none⟩ (.int .i64 (-1))) (.cells #[.int .i64 so,.slice A4 q e4] 58)
      rw[World.size_setCell] at hbx
      have HBX:=Lib.hid hbx
      have HWB2:=Lib.hid (show Below w.heap.size wr ((wr.setCell ⟨g+1,k,none⟩ (.int .i64 (-1))).alloc (.cells #[.int .i64 so,.slice A4 q e4] 58)) from ((Below.refl _ _).setCell (p:=⟨g+1,k,none⟩) HR.out.lo.2.2.1 (.int .i64 (-1))).alloc (by rw[World.size_setCell];exact HR.out.bel.size) _)
      have hcu:=((HX.out.grown (row:=none) ⟨HR2.out.bel.os,HR2.out.bel.tape,HR2.out.bel.output,HR2.out.bel.size,fun j hj _=>HR2.out.bel.block j hj⟩ (by simp)).at_ (k:=k) (by rw[bmap_len];exact hlk)).1
      rw[bmap_at,decide_eq_true hlk,Bool.true_and] at hcu
      clear hbx HR
      obtain⟨b,hb⟩:∃ b,b=useB m k:=⟨_,rfl⟩
      rw[←hb] at hcu
      have HUB:=Lib.hid hb
      clear hb
      cases b
      ·have HR3:=Lib.hid (show RndS w ((wr.setCell ⟨g+1,k,none⟩ (.int .i64 (-1))).alloc (.cells #[.int .i64 so,.slice A4 q e4] 58)) g xo (g+1) i C (sgs m (useB m) C (k+1)) (nxC m (useB m) C (k+1)) from by
        have h:=HR2.out
        rw[←sgs_skip HUB.out.symm,show (fun j=>if j=k then (-1:Int) else nxC m (useB m) C k j)=nxC m (useB m) C (k+1) from funext fun j=>nxC_skip HUB.out.symm j] at h
        exact h)
       clear HR2
       go_wp2_with fail
       go_roundw
       case rel=>exact⟨k+1,by omega,by go_num,HR3.out⟩
       case measure=>simp[intOf];omega
      ·go_wp2_with fail
       generalize hw2:(wr.setCell ⟨g+1,k,none⟩ (.int .i64 (-1))).alloc (.cells #[.int .i64 so,.slice A4 q e4] 58)=w2 at *
       clear hw2
       generalize wr.heap.size=b11 at *
       have co:=(HR2.out.old.at_ hlk).1
       have cb0:w2.cell? ⟨b11,0,none⟩=some (.int .i64 so):=by rw[cell_of_row _ _ _ _ _ _ HBX.out];rfl
       have hcb:=HCB.out k
       clear d0 d1 f0 ff hcu
       have hs1:=wv_size (Lib.itoa (C k))
       have hs2:=wv_size (Lib.itoa so)
       have hl1:=Lib.itoa_length_le (C k) (by omega) (by omega)
       have hl2:=Lib.itoa_length_le so hz1 hz2
       have hs32:(⟨#[32]⟩:ByteArray).size=1:=rfl
       have hs58:(⟨#[58]⟩:ByteArray).size=1:=rfl
       refine Text.wp_grow [4,8] [3,7] [] (by kernel_rfl) (by kernel_rfl) ?_
       refine Text.wpS_seg 4 _ _ _ _ (by decide) (fun Q' hQ'=>?_)
       simp only[List.take_succ_cons,List.take_zero]
       go_wp2_with fail
       try simp only[List.drop_succ_cons,List.drop_zero]
       refine Text.wpS_one (fun Q' hQ'=>?_)
       go_wp2_with fail
       refine (itoaP_any (C k) w2.drew (by omega) (by omega) (HT.out.below HR2.out.drew.bel)).mono ?_
       rintro e w3 ⟨rfl,hb3⟩
       have cb3:w3.cell? ⟨b11,0,none⟩=some (.int .i64 so):=(hb3.cell (p:=⟨b11,0,none⟩) (show b11<w2.heap.size from (Array.getElem?_eq_some_iff.1 HBX.out).1)).trans cb0
       have HR3:=Lib.hid (HR2.out.drew.below hb3)
       have HBX3:=Lib.hid ((hb3.block b11 (Array.getElem?_eq_some_iff.1 HBX.out).1).trans HBX.out)
       have HB3:=Lib.hid hb3
       clear hb3
       go_wp2_with fail
       refine⟨HB3.out,?_⟩
       refine Text.wpS_seg 3 _ _ _ _ (by decide) (fun Q' hQ'=>?_)
       simp only[List.take_succ_cons,List.take_zero]
       go_wp2_with fail
       try simp only[List.drop_succ_cons,List.drop_zero]
       refine Text.wpS_one (fun Q' hQ'=>?_)
       go_wp2_with fail
       refine (itoaP_any so w3 hz1 hz2 (HT.out.below HR3.out.bel)).mono ?_
       rintro e w4 ⟨rfl,hb4⟩
       have HR4:=Lib.hid (HR3.out.below hb4)
       have HBX4:=Lib.hid ((hb4.block b11 (Array.getElem?_eq_some_iff.1 HBX3.out).1).trans HBX3.out)
       have HB4:=Lib.hid (HB3.out.trans (hb4.mono HB3.out.size))
       clear hb4 cb3
       go_wp2_with fail
       refine⟨HB4.out,?_⟩
       refine Text.wpS_seg 2 _ _ _ _ (by decide) (fun Q' hQ'=>?_)
       simp only[List.take_succ_cons,List.take_zero]
       go_wp2_with fail
       refine⟨by rfl,⟨fun _=>⟨_,_,rfl,co⟩,fun _=>⟨_,_,rfl,cb0⟩,trivial⟩,?_⟩
       have hst:(⟨(Lib.itoa (C k)).toArray⟩:ByteArray)++⟨#[32]⟩++⟨(Lib.itoa so).toArray⟩=⟨(partT m (useB m) C k 0).toArray⟩:=by
        rw[show (⟨#[32]⟩:ByteArray)=⟨[32].toArray⟩ from rfl,wv_app,wv_app,partT_zero,HOU.out,List.append_assoc]
        rfl
       rw[hst]
       have cb1:w4.cell? ⟨b11,1,none⟩=some (.slice A4 q e4):=by rw[cell_of_row _ _ _ _ _ _ HBX4.out];rfl
       have HPL:=Lib.hid (fun j hj=>partT_len (m:=m) (use:=useB m) (c:=C) (i:=k) (fun k=>by have:=HCB.out k;omega) (by rw[HOU.out];exact⟨hz1,hz2⟩) (fun e he=>by
        rw[HED.out] at he
        obtain⟨j,hj,rfl⟩:=List.getElem_of_mem he
        obtain⟨_,_,cs,_,_,_,hrep,_⟩:=HU.out.get hj (by decide)
        obtain⟨_,h1,h2,_,_⟩:=eEdge_open hrep
        exact⟨h1,h2⟩) j hj)
       clear hst co cb0 hs1 hs2 hl1 hl2 HR2 HR3 HB3 HB4 HBX HBX3 HWB2
       go_wp2_with fail
       go_loopw [61,12] (fun v61 v12 wt=>∃ e:Nat,e≤q∧v61=.int .i64 e∧v12=wv (partT m (useB m) C k e)∧Hid (RndS w wt g xo (g+1) i C (sgs m (useB m) C k) fun j=>if j=k then -1 else nxC m (useB m) C k j)) (fun v61 _ _=>q - (intOf v61).toNat)
       case atStart=>exact⟨0,by omega,rfl,rfl,HR4.out⟩
       case round =>
        clear HR4 HBX4 cb1
        obtain⟨e,he,rfl,rfl,HR⟩:=hrel
        have HR':=HR
        by_cases hle:e<q
        ·have hel:e<se.length:=by rw[←HQ.out];exact hle
         obtain⟨b2,o2,cs,rfl,-,hb2,hrep,hcell⟩:=(HU.out.below HR.out.bel).get hel (by decide)
         obtain⟨rfl,hy1,hy2,hy3,hy4⟩:=eEdge_open hrep
         have d0:=hcell 0 _ rfl
         have d1:=hcell 1 _ rfl
         clear hcell hrep
         simp only[show eEdge.size=2 from rfl,Nat.add_zero,←Nat.add_assoc] at d0 d1
         have hmem:se[e]∈edM m k:=by rw[HED.out];exact List.getElem_mem hel
         have HPS:=Lib.hid (partT_succ (use:=useB m) (c:=C) (show (edM m k)[e]? = some se[e] by rw[HED.out];exact List.getElem?_eq_getElem hel))
         have hto:=HTO.out _ hmem
         obtain⟨ed,hed⟩:∃ ed,ed=se[e]:=⟨_,rfl⟩
         rw[←hed] at d0 d1 hy1 hy2 hy3 hy4 HPS hto
         clear hed hmem
         obtain⟨et,en0⟩:=ed
         simp only at d0 d1 hy1 hy2 hy3 hy4 hto
         obtain⟨en,rfl⟩:∃ en:Nat,en0=(en:Int):=⟨en0.toNat,by omega⟩
         have hen:en<i:=by rw[HN.out];omega
         rw[Int.toNat_natCast] at HPS
         have HR1:=Lib.hid (HR.out.alloc (.cells #[.int .i64 et,.int .i64 en] 80))
         have hbx:=Go.heap_alloc_new wr (.cells #[.int .i64 et,.int .i64 en] 80)
         have hcu:=((HX.out.grown (row:=none) ⟨HR1.out.bel.os,HR1.out.bel.tape,HR1.out.bel.output,HR1.out.bel.size,fun j hj _=>HR1.out.bel.block j hj⟩ (by simp)).at_ (k:=en) (by rw[bmap_len];exact hen)).1
         rw[bmap_at,decide_eq_true hen,Bool.true_and] at hcu
         have HBX:=Lib.hid hbx
         clear hbx HR HR'
         obtain⟨b,hb⟩:∃ b,b=useB m en:=⟨_,rfl⟩
         rw[←hb] at hcu HPS
         clear hb
         cases b
         ·have HPS2:=Lib.hid (show partT m (useB m) C k (e+1)=partT m (useB m) C k e by rw[HPS.out];simp)
          clear HPS
          go_wp2_with fail
          go_roundw
          case rel=>exact⟨e+1,by omega,by go_num,by rw[HPS2.out],HR1.out⟩
          case measure=>simp[intOf];omega
         ·have HPS2:=Lib.hid (show partT m (useB m) C k (e+1)=partT m (useB m) C k e++32 :: (Lib.itoa et++58 :: Lib.itoa (C en)) by rw[HPS.out];simp)
          clear HPS
          go_wp2_with fail
          generalize wr.alloc (.cells #[.int .i64 et,.int .i64 en] 80)=w5 at *
          generalize wr.heap.size=b14 at *
          have co:=(HR1.out.old.at_ hen).1
          have cb0:w5.cell? ⟨b14,0,none⟩=some (.int .i64 et):=by rw[cell_of_row _ _ _ _ _ _ HBX.out];rfl
          have cb1:w5.cell? ⟨b14,1,none⟩=some (.int .i64 en):=by rw[cell_of_row _ _ _ _ _ _ HBX.out];rfl
          have hcb:=HCB.out en
          have hs1:=wv_size (Lib.itoa et)
          have hs2:=wv_size (Lib.itoa (C en))
          have hs3:=wv_size (partT m (useB m) C k e)
          have hl1:=Lib.itoa_length_le et hy1 hy2
          have hl2:=Lib.itoa_length_le (C en) (by omega) (by omega)
          have hl3:=HPL.out e (by rw[HED.out,←HQ.out];omega)
          have hq2:q≤2199023255552:=by have:=HEL.out;rw[HED.out,←HQ.out] at this;exact this
          have hbl:b14<w5.heap.size:=(Array.getElem?_eq_some_iff.1 HBX.out).1
          clear d0 d1 hcu
          refine Text.wp_grow [3,11] [2,8,10] [] (by kernel_rfl) (by kernel_rfl) ?_
          refine Text.wpS_seg 3 _ _ _ _ (by decide) (fun Q' hQ'=>?_)
          simp only[List.take_succ_cons,List.take_zero]
          go_wp2_with fail
          try simp only[List.drop_succ_cons,List.drop_zero]
          refine Text.wpS_one (fun Q' hQ'=>?_)
          go_wp2_with fail
          refine (itoaP_any et w5.drew hy1 hy2 (HT.out.below HR1.out.drew.bel)).mono ?_
          rintro e1 w6 ⟨rfl,hb6⟩
          have cb6:w6.cell? ⟨b14,1,none⟩=some (.int .i64 en):=(hb6.cell (p:=⟨b14,1,none⟩) hbl).trans cb1
          have HR6:=Lib.hid (HR1.out.drew.below hb6)
          have co6:=(HR6.out.old.at_ hen).1
          have HB6:=Lib.hid hb6
          clear hb6
          go_wp2_with fail
          refine⟨HB6.out,?_⟩
          refine Text.wpS_seg 7 _ _ _ _ (by decide) (fun Q' hQ'=>?_)
          simp only[List.take_succ_cons,List.take_zero]
          go_wp2_with fail
          try simp only[List.drop_succ_cons,List.drop_zero]
          refine Text.wpS_one (fun Q' hQ'=>?_)
          go_wp2_with fail
          refine (itoaP_any (C en) w6 (by omega) (by omega) (HT.out.below HR6.out.bel)).mono ?_
          rintro e1 w7 ⟨rfl,hb7⟩
          have HR7:=Lib.hid (HR6.out.below hb7)
          have HB7:=Lib.hid (HB6.out.trans (hb7.mono HB6.out.size))
          clear hb7 cb6 co6
          go_wp2_with fail
          refine⟨HB7.out,?_⟩
          refine Text.wpS_seg 3 _ _ _ _ (by decide) (fun Q' hQ'=>?_)
          simp only[List.take_succ_cons,List.take_zero]
          go_wp2_with fail
          refine⟨by rfl,⟨fun _=>⟨_,_,rfl,cb0⟩,fun _=>⟨_,_,rfl,cb1⟩,fun _=>⟨_,_,rfl,co⟩,trivial⟩,?_⟩
          have hst:(⟨(partT m (useB m) C k e).toArray⟩:ByteArray)++(⟨#[32]⟩++⟨(Lib.itoa et).toArray⟩++⟨#[58]⟩++⟨(Lib.itoa (C en)).toArray⟩)=⟨(partT m (useB m) C k (e+1)).toArray⟩:=by
           rw[show (⟨#[32]⟩:ByteArray)=⟨[32].toArray⟩ from rfl,show (⟨#[58]⟩:ByteArray)=⟨[58].toArray⟩ from rfl,wv_app,wv_app,wv_app,wv_app,HPS2.out]
           simp
          rw[hst]
          clear hst hs1 hs2 hs3 co cb0 cb1
          go_wp2_with fail
          go_roundw
          case rel=>exact⟨e+1,by omega,by go_num,rfl,HR7.out⟩
          case measure=>simp[intOf];omega
        ·have heq:e=q:=by omega
         subst heq
         have hpt:partT m (useB m) C k e=sgnT m (useB m) C k:=by rw[←partT_all,HED.out,←HQ.out]
         rw[hpt]
         clear hpt HPL HR'
         obtain⟨T,hT0⟩:∃ T,T=sgnT m (useB m) C k:=⟨_,rfl⟩
         rw[←hT0]
         obtain⟨g0,gf⟩:=HR.out.new.at_ hlk
         have hlook:=HR.out.map.look (P:=Tryz.prog) wdInt_keys zero_intW T
         by_cases hin:T∈sgs m (useB m) C k
         ·have hl1:(Instr.lookup 98 (.map (some g)) (.string ⟨T.toArray⟩) true).run Tryz.prog wr=.ok (.tuple #[.int .i64 ((sgs m (useB m) C k).idxOf T:Nat),.bool true]) wr:=by
           have h:=hlook.1
           rw[if_pos hin,decide_eq_true hin] at h
           exact h
          have hl2:(Instr.lookup 98 (.map (some g)) (.string ⟨T.toArray⟩) false).run Tryz.prog wr=.ok (.int .i64 ((sgs m (useB m) C k).idxOf T:Nat)) wr:=hlook.2 hin
          have HR2:=Lib.hid (show RndS w (wr.setCell ⟨g+1,k,none⟩ (.int .i64 ((sgs m (useB m) C k).idxOf T:Nat))) g xo (g+1) i C (sgs m (useB m) C (k+1)) (nxC m (useB m) C (k+1)) from by
           have h:=HR.out.set k (((sgs m (useB m) C k).idxOf T:Nat):Int)
           have e1:newC m (useB m) C (k+1) k=(((sgs m (useB m) C k).idxOf T:Nat):Int):=by rw[newC_at HUB.out.symm,←hT0,if_pos hin]
           have e2:sgs m (useB m) C (k+1)=sgs m (useB m) C k:=by rw[sgs_succ HUB.out.symm,←hT0,if_pos hin]
           rw[e2,←funext fun j=>nxC_use (m:=m) (use:=useB m) (c:=C) (i:=k) j,e1]
           exact h)
          generalize (((sgs m (useB m) C k).idxOf T:Nat):Int)=idx at *
          clear hlook hin hT0 HR
          go_wp2_with fail
          go_roundw
          case rel=>exact⟨k+1,by omega,by go_num,HR2.out⟩
          case measure=>simp[intOf];omega
         ·have hl1:(Instr.lookup 98 (.map (some g)) (.string ⟨T.toArray⟩) true).run Tryz.prog wr=.ok (.tuple #[.int .i64 0,.bool false]) wr:=by
           have h:=hlook.1
           rw[if_neg hin,decide_eq_false hin] at h
           exact h
          have hlen:(Builtin.len_ #[98] 3 #[.map (some g)]).run Tryz.prog wr=.ok (.int .i64 (sgs m (useB m) C k).length) wr:=HR.out.map.len wdInt_keys
          obtain⟨W1,hup,hr1,hs1⟩:=HR.out.put (P:=Tryz.prog) wdInt_keys hin
          replace hup:(Instr.mapUpdate 98 (.map (some g)) (.string ⟨T.toArray⟩) (.int .i64 (sgs m (useB m) C k).length)).run Tryz.prog wr=.ok () W1:=hup
          have hlook2:=(hr1.map.look (P:=Tryz.prog) wdInt_keys zero_intW T).2 (by simp)
          rw[List.idxOf_append,if_neg hin] at hlook2
          have hl2:(Instr.lookup 98 (.map (some g)) (.string ⟨T.toArray⟩) false).run Tryz.prog W1=.ok (.int .i64 (sgs m (useB m) C k).length) W1:=by simpa using hlook2
          obtain⟨g1,gf1⟩:=hr1.new.at_ hlk
          have HR2:=Lib.hid (show RndS w (W1.setCell ⟨g+1,k,none⟩ (.int .i64 (sgs m (useB m) C k).length)) g xo (g+1) i C (sgs m (useB m) C (k+1)) (nxC m (useB m) C (k+1)) from by
           have h:=hr1.set k ((sgs m (useB m) C k).length:Int)
           have e1:newC m (useB m) C (k+1) k=((sgs m (useB m) C k).length:Int):=by rw[newC_at HUB.out.symm,←hT0,if_neg hin]
           have e2:sgs m (useB m) C (k+1)=sgs m (useB m) C k++[T]:=by rw[sgs_succ HUB.out.symm,←hT0,if_neg hin]
           rw[e2,←funext fun j=>nxC_use (m:=m) (use:=useB m) (c:=C) (i:=k) j,e1]
           exact h)
          generalize ((sgs m (useB m) C k).length:Int)=idx at *
          clear hlook hlook2 hin hT0 HR hr1 hs1
          go_wp2_with fail
          go_roundw
          case rel=>exact⟨k+1,by omega,by go_num,HR2.out⟩
          case measure=>simp[intOf];omega
     ·have hki:k=i:=by omega
      subst hki
      have hlen:(Builtin.len_ #[98] 3 #[.map (some g)]).run Tryz.prog wr=.ok (.int .i64 (sgs m (useB m) C k).length) wr:=HR.out.map.len wdInt_keys
      have HMO:=Lib.hid (HC.out.more HG.out (useB_is m))
      have HNX:=Lib.hid (HC.out.next HG.out (useB_is m))
      rw[←HN.out] at HMO HNX
      have HLE:=Lib.hid (sgs_len m (useB m) C k)
      have HIN:=Lib.hid (show IntsAt wr (g+1) (imap k (newC m (useB m) C k)) from by
       have h:=HR.out.new
       rwa [imap_ext (g:=newC m (useB m) C k) fun j hj=>by unfold nxC;rw[if_pos hj]] at h)
      obtain⟨K,hK⟩:∃ K,K=(sgs m (useB m) C k).length:=⟨_,rfl⟩
      rw[←hK] at hlen HMO HNX HLE
      have hgw:=HR.out.lo.2.2.1
      have HBW:=Lib.hid HR.out.bel
      clear hK HR HC
      by_cases hkc:(K:Int)=cnt
      ·have HKC:=Lib.hid hkc
       clear hkc
       have hd:((K:Int)==cnt)=true:=by simpa using HKC.out
       go_wp2_with fail
       go_ret
       exact⟨g+1,newC m (useB m) C k,rfl,HIN.out,hgw,HBW.out,newC_le m (useB m) C k,HMO.out.2 HKC.out⟩
      ·have hd:((K:Int)==cnt)=false:=by simpa using hkc
       have HKC:=Lib.hid hkc
       clear hkc
       go_wp2_with fail
       go_roundg (gas - 1)
       case measure=>have:=HGK.out;omega
       case rel=>exact⟨g+1,newC m (useB m) C k,K,rfl,rfl,by omega,by have:=HLE.out;omega,by have:=HGK.out;have:=HMO.out.1;have:=HKC.out;omega,hgw,HIN.out,HBW.out,HNX.out,newC_le m (useB m) C k⟩
end Go.Proofs.YtfpihflepeiagaaGreatDoor
