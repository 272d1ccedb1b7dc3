/- Texts of this proof joined: Awk, AwkW, Drawn, Tab1, Tab2, Tab3, TabSort, Meet. -/
import Derived.Test.YtfpihflepeiagaaGreatDoorLN06
import Derived.Test.YtfpihflepeiagaaGreatDoorLN08
import Derived.Test.YtfpihflepeiagaaGreatDoorLN07
import Derived.Test.YtfpihflepeiagaaGreatDoorLN16
import Derived.Test.YtfpihflepeiagaaGreatDoorLN10
import Derived.Test.YtfpihflepeiagaaGreatDoorLN01
import Derived.Deep.Draws
import Derived.Sort.Grow
import Derived.Test.YtfpihflepeiagaaGreatDoorShelf
import Derived.Test.YtfpihflepeiagaaGreatDoorLN05
import Derived.Test.YtfpihflepeiagaaGreatDoorLN17
import Derived.Test.YtfpihflepeiagaaGreatDoorSort
import Derived.Shelf.SlSortCmp.NoneTotal
import Derived.Sort.OwnSorted
import Derived.Test.YtfpihflepeiagaaGreatDoorLN21
namespace Go.Proofs.YtfpihflepeiagaaGreatDoor
open Go.RowKit

theorem size_many:∀ (l:List Obj) (w:World),(l.foldl World.alloc w).heap.size=w.heap.size+l.length
 |[],w=>rfl
 |o :: l,w=>by rw[List.foldl_cons,size_many l,World.size_alloc,List.length_cons];omega
theorem old_many:∀ (l:List Obj) (w:World) (k:Nat),k<w.heap.size→(l.foldl World.alloc w).heap[k]? = w.heap[k]?
 |[],w,k,_=>rfl
 |o :: l,w,k,h=>by rw[List.foldl_cons,old_many l _ k (by simp;omega),Below.heap_alloc _ _ _ h]
theorem heap_many:∀ (l:List Obj) (w:World) (j:Nat) (o:Obj),l[j]? = some o→(l.foldl World.alloc w).heap[w.heap.size+j]? = some o
 |[],w,j,o,h=>by simp at h
 |p :: l,w,0,o,h=>by
  rw[List.foldl_cons,old_many l _ _ (by simp)]
  cases h
  exact heap_alloc_new w p
 |p :: l,w,j+1,o,h=>by
  rw[List.foldl_cons]
  have:=heap_many l (w.alloc p) j o h
  rwa [World.size_alloc,show w.heap.size+1+j=w.heap.size+(j+1) by omega] at this
theorem below_many {B:Nat} {w:World}:∀ (l:List Obj) (w':World),Below B w w'→B≤w'.heap.size→Below B w (l.foldl World.alloc w')
 |[],w',h,_=>h
 |o :: l,w',h,hB=>below_many l _ (h.alloc hB o) (by simp;omega)
def All2 {α:Type} (E:Elt α) (w:World) (B:Nat):List (List Value)→List α→Prop
 |[],[]=>True
 |c :: cs,x :: xs=>E.rep w B c x∧All2 E w B cs xs
 |_,_=>False
theorem All2.at_ {α:Type} {E:Elt α} {w:World} {B:Nat}:∀ {css:List (List Value)} {xs:List α},All2 E w B css xs→css.length=xs.length∧∀ (i:Nat) (cs:List Value) (x:α),css[i]? = some cs→xs[i]? = some x→E.rep w B cs x
 |[],[],_=>⟨rfl,fun i cs x h=>by simp at h⟩
 |c :: cs,x :: xs,h=>by
  obtain⟨h1,h2⟩:=All2.at_ h.2
  refine⟨by simp[h1],fun i=>?_⟩
  match i with
  |0=>intro a b e1 e2;cases e1;cases e2;exact h.1
  |i+1=>intro a b e1 e2;exact h2 i a b (by simpa using e1) (by simpa using e2)
 |[],_ :: _,h=>h.elim
 |_ :: _,[],h=>h.elim
theorem SlR.row {α:Type} {E:Elt α} {w:World} {B g c:Nat} {e:TypeId} {fr:Nat×Nat} {cs:Array Value} (css:List (List Value)) {xs:List α} (h:w.heap[g]? = some (.cells cs e fr)) (hg:g<B) (hcs:cs.toList=css.flatten) (hr:All2 E w B css xs) (h1:xs.length≤c) (h2:c≤maxLen) {n:Nat} (hn:n=xs.length) :
  SlR E w B (.slice (some ⟨g,0,none⟩) n c) xs:=by
 subst hn
 obtain⟨a1,a2⟩:=hr.at_
 exact⟨some ⟨g,0,none⟩,c,css,rfl,h1,h2,a1,hcs ▸ Rd.row h hg,a2⟩
def gA:Gram:=([⟨#[83]⟩],[⟨#[97]⟩],[(0,[]),(0,[-1,0])])
def awObjs (n:Nat):List Obj:=[.cells #[.string ⟨#[83]⟩] 9,.cells #[.string ⟨#[97]⟩] 9,.cells #[.int .i64 (-1),.int .i64 0] 3,
 .cells #[.int .i64 0,.slice none 0 0,.int .i64 0,.slice (some ⟨n+2,0,none⟩) 2 2] 55,
 .cells #[.slice (some ⟨n,0,none⟩) 1 1,.slice (some ⟨n+1,0,none⟩) 1 1,.slice (some ⟨n+3,0,none⟩) 2 2] 25]
theorem aw_data (w W:World) (hW:W=(awObjs w.heap.size).foldl World.alloc w):W.heap.size=w.heap.size+5∧Below w.heap.size w W ∧
  GramR W W.heap.size (some ⟨w.heap.size,0,none⟩) (some ⟨w.heap.size+1,0,none⟩) (some ⟨w.heap.size+3,0,none⟩) 1 1 2 1 1 2 gA:=by
 have hs:W.heap.size=w.heap.size+5:=by rw[hW,size_many];rfl
 have hq:∀ j o,(awObjs w.heap.size)[j]? = some o→W.heap[w.heap.size+j]? = some o:=fun j o h=>by rw[hW];exact heap_many _ w j o h
 have q0:=hq 0 _ rfl
 have q1:=hq 1 _ rfl
 have q2:=hq 2 _ rfl
 have q3:=hq 3 _ rfl
 refine⟨hs,hW ▸ below_many _ w (Below.refl _ _) (Nat.le_refl _),?_,?_,?_,by decide⟩
 ·exact SlR.row (E:=eStr) (B:=W.heap.size) (xs:=[⟨#[83]⟩]) [[.string ⟨#[83]⟩]] q0 (by omega) rfl ⟨⟨rfl,by decide⟩,trivial⟩ (Nat.le_refl _) (by decide) rfl
 ·exact SlR.row (E:=eStr) (B:=W.heap.size) (xs:=[⟨#[97]⟩]) [[.string ⟨#[97]⟩]] q1 (by omega) rfl ⟨⟨rfl,by decide⟩,trivial⟩ (Nat.le_refl _) (by decide) rfl
 ·refine SlR.row (E:=eRule) (B:=W.heap.size) (xs:=[(0,[]),(0,[-1,0])]) [[.int .i64 0,.slice none 0 0],[.int .i64 0,.slice (some ⟨w.heap.size+2,0,none⟩) 2 2]] q3 (by omega) rfl ⟨eRule_mk (r:=(0,[])) SlR.nil_ (by decide) (by decide),eRule_mk (r:=(0,[-1,0])) ?_ (by decide) (by decide),trivial⟩ (Nat.le_refl _) (by decide) rfl
  exact SlR.row (E:=eInt) (B:=W.heap.size) (xs:=[-1,0]) [[.int .i64 (-1)],[.int .i64 0]] q2 (by omega) rfl ⟨⟨rfl,by decide,by decide⟩,⟨rfl,by decide,by decide⟩,trivial⟩ (Nat.le_refl _) (by decide) rfl
end Go.Proofs.YtfpihflepeiagaaGreatDoor
namespace Go.Proofs.YtfpihflepeiagaaGreatDoor

def gAr:RuleL:=[(0,[]),(0,[-1,0])]
theorem s1:setOf [([]:Wd)]=[[]]:=setOf_eq (by simp[Asc]) (by simp)
theorem s2:setOf [([0]:Wd)]=[[0]]:=setOf_eq (by simp[Asc]) (by simp)
theorem s3:setOf [([]:Wd),[0]]=[[],[0]]:=setOf_eq (by simp[Asc]) (by simp)
theorem s4:setOf [([]:Wd),[0],[]]=[[],[0]]:=setOf_eq (by simp[Asc]) (by
 intro x
 simp only[List.mem_cons,List.not_mem_nil,or_false]
 constructor
 ·rintro (h | h | h) <;> simp[h]
 ·rintro (h | h) <;> simp[h])
theorem s5:setOf [([]:Wd),[0],[0]]=[[],[0]]:=setOf_eq (by simp[Asc]) (by simp)
theorem s6:setOf [([0]:Wd),[0]]=[[0]]:=setOf_eq (by simp[Asc]) (by simp)
theorem s7:setOf [([]:Wd),[]]=[[]]:=setOf_eq (by simp[Asc]) (by simp)
theorem gA_first1:firstRound 1 gAr [[]]=some ([[[],[0]]],true):=by
 simp[firstRound,roundW,growW,ofW,ofFrom,oneW,catW,prodW,unionW,tb,gAr,s1,s2,s3]
theorem gA_first2:firstRound 1 gAr [[[],[0]]]=some ([[[],[0]]],false):=by
 simp[firstRound,roundW,growW,ofW,ofFrom,oneW,catW,prodW,unionW,tb,gAr,s2,s4,s5,s6]
theorem gA_first:FirstTo 1 gAr 1 (some [[[],[0]]]):=.more gA_first1 (.done gA_first2)
theorem gA_fol1:folRound [[[],[0]]] 1 gAr [[[]]]=some ([[[]]],false):=by
 simp[folRound,spreadAll,spreadsW,spreadW,behindW,ofW,ofFrom,oneW,catW,prodW,unionW,gAr,s1,s3,s7]
theorem gA_fol:FollowTo [[[],[0]]] 1 gAr 1 (some [[[]]]):=.done gA_fol1
theorem gA_ahead:aheadW [[[],[0]]] [[[]]] 1 gAr=some [[[]],[[0]]]:=by
 simp[aheadW,behindW,ofW,ofFrom,oneW,catW,prodW,tb,gAr,s1,s2,s6]
theorem gA_clash:clashW gAr 1 [[[]],[[0]]]=[]:=by kernel_rfl
theorem gA_rows:rowsFrom 0 gAr [[[]],[[0]]]=[(0,[],0),(0,[0],1)]:=by kernel_rfl
end Go.Proofs.YtfpihflepeiagaaGreatDoor
namespace Go.Proofs.YtfpihflepeiagaaGreatDoor
open Go.RowKit

theorem grown_of {w w':World} (hb:Below w.heap.size w w') (hd:w.drawn≤w'.drawn):∃ q os',w'=Go.Sort.grow (w.drewN q) os':=by
 refine⟨w'.drawn - w.drawn,w'.heap.extract w.heap.size w'.heap.size,?_⟩
 refine world_eq ?_ hb.tape ?_ hb.os hb.output
 ·show w'.heap=w.heap++w'.heap.extract w.heap.size w'.heap.size
  apply Array.ext_getElem?
  intro i
  by_cases hi:i<w.heap.size
  ·rw[Array.getElem?_append_left hi]
   exact hb.block i hi
  ·rw[Array.getElem?_append_right (by omega),Array.getElem?_extract]
   by_cases h2:i<w'.heap.size
   ·rw[if_pos (by omega)]
    congr 1
    omega
   ·rw[if_neg (by omega),Array.getElem?_eq_none (by omega)]
 ·show w'.drawn=w.drawn+(w'.drawn - w.drawn)
  omega
end Go.Proofs.YtfpihflepeiagaaGreatDoor
namespace Go.Proofs.YtfpihflepeiagaaGreatDoor
open Go.RowKit

def eRow:Elt Row:=eProd eInt (eProd eW eInt)
abbrev rowc (x:Row):List Value:=[.int .i64 x.1,wv x.2.1,.int .i64 x.2.2]
abbrev rowv (x:Row):Value:=.agg #[.int .i64 x.1,wv x.2.1,.int .i64 x.2.2]
theorem eRow_open {w:World} {B:Nat} {cs:List Value} {x:Row} (h:eRow.rep w B cs x):cs=rowc x∧(-9223372036854775808≤x.1∧x.1≤9223372036854775807)∧x.2.1.length≤maxLen∧(-9223372036854775808≤x.2.2∧x.2.2≤9223372036854775807):=by
 obtain⟨c1,c2,rfl,⟨rfl,h1,h2⟩,c3,c4,rfl,h3,⟨rfl,h5,h6⟩⟩:=h
 obtain⟨rfl,h4⟩:=eW_open h3
 exact⟨rfl,⟨h1,h2⟩,h4,h5,h6⟩
theorem eRow_mk {w:World} {B:Nat} {x:Row} (h1:-9223372036854775808≤x.1) (h2:x.1≤9223372036854775807) (h3:x.2.1.length≤maxLen) (h4:-9223372036854775808≤x.2.2) (h5:x.2.2≤9223372036854775807):eRow.rep w B (rowc x) x :=
 ⟨_,_,rfl,⟨rfl,h1,h2⟩,_,_,rfl,eW_mk h3,⟨rfl,h4,h5⟩⟩
theorem SlR.rowAt {w:World} {B:Nat} {A:Option Addr} {n c:Nat} {xs:List Row} (h:SlR eRow w B (.slice A n c) xs) {k:Nat} (hk:k<xs.length):∃ b off,A=some ⟨b,off,none⟩∧n≤c∧b<B ∧
  w.cell? ⟨b,off+k*3,none⟩=some (.int .i64 xs[k].1)∧w.cell? ⟨b,off+k*3+1,none⟩=some (wv xs[k].2.1)∧w.cell? ⟨b,off+k*3+2,none⟩=some (.int .i64 xs[k].2.2)∧eRow.rep w B (rowc xs[k]) xs[k]:=by
 obtain⟨b,off,cs,e,h1,h2,h3,h4⟩:=h.get hk (by decide)
 have hr:=h3
 obtain⟨rfl,_⟩:=eRow_open h3
 have a0:=h4 0 _ rfl
 have a1:=h4 1 _ rfl
 have a2:=h4 2 _ rfl
 simp only[show eRow.size=3 from rfl,Nat.add_zero,←Nat.add_assoc] at a0 a1 a2
 exact⟨b,off,e,h1,h2,a0,a1,a2,hr⟩
def ordR (x y:Row):Int:=if x.1=y.1 then Lib.compareBytes x.2.1 y.2.1 else Lib.compareInt x.1 y.1
theorem compare_lt:∀ a b:Wd,Lib.compareBytes a b<0↔a<b
 |[],[]=>by simp[Lib.compareBytes]
 |[],b :: lb=>by simp[Lib.compareBytes]
 |a :: la,[]=>by simp[Lib.compareBytes]
 |a :: la,b :: lb=>by
  rw[List.cons_lt_cons_iff]
  unfold Lib.compareBytes
  by_cases h:a<b
  ·simp[h]
  ·rw[if_neg h]
   by_cases h2:b<a
   ·rw[if_pos h2]
    have hne:a≠b:=fun e=>by subst e;exact h h2
    simp[h,hne]
   ·rw[if_neg h2]
    have e:a=b:=UInt8.le_antisymm (UInt8.not_lt.1 h2) (UInt8.not_lt.1 h)
    subst e
    rw[compare_lt la lb]
    simp[UInt8.lt_irrefl]
theorem ordR_lt (x y:Row):ordR x y<0↔rowLt x y:=by
 unfold ordR rowLt
 split
 ·rename_i h
  rw[compare_lt]
  constructor
  ·exact fun h2=>.inr ⟨h,h2⟩
  ·rintro (h2 | ⟨_,h2⟩)
   ·omega
   ·exact h2
 ·rename_i h
  unfold Lib.compareInt
  split
  ·rename_i h1
   simp[h1]
  ·rename_i h1
   split <;> omega
set_option maxHeartbeats 800000 in
theorem order_any (x y:Row) (w:World):Calls Tryz.prog 38 #[rowv x,rowv y] w fun e w'=>e=.returned (.int .i64 (ordR x y))∧Below w.heap.size w w'∧w.drawn≤w'.drawn:=by
 obtain⟨a,s,i⟩:=x
 obtain⟨b,t,j⟩:=y
 by_cases h:a=b
 ·have hq:(a==b)=true:=by simp[h]
  have HO:=Lib.hid (show ordR (a,s,i) (b,t,j)=Lib.compareBytes s t by unfold ordR;rw[if_pos h])
  clear h
  go_enter Tryz.func38,Tryz.ntmps38
  go_wp2_with fail
  refine (Tryz.strings_Compare ⟨s.toArray⟩ ⟨t.toArray⟩ _).mono ?_
  rintro e w1 ⟨rfl,rfl⟩
  go_wp2_with fail
  go_ret
  exact⟨rt1 (vint HO.out.symm),by go_grown,Nat.le_refl _⟩
 ·have hq:(a==b)=false:=by simp[h]
  have HO:=Lib.hid (show ordR (a,s,i) (b,t,j)=Lib.compareInt a b by unfold ordR;rw[if_neg h])
  clear h
  go_enter Tryz.func38,Tryz.ntmps38
  go_wp2_with fail
  refine (Tryz.cmp_Compare_int a b _).mono ?_
  rintro e w1 ⟨rfl,rfl⟩
  go_wp2_with fail
  go_ret
  exact⟨rt1 (vint HO.out.symm),by go_grown,Nat.le_refl _⟩
end Go.Proofs.YtfpihflepeiagaaGreatDoor
namespace Go.Proofs.YtfpihflepeiagaaGreatDoor
open Go.RowKit

def overB (n:Int) (s:Wd):Bool:=s.all fun c=>decide ((c.toNat:Int)<n)
def wordOk (n k:Int) (s:Wd):Bool:=overB n s&&decide ((s.length:Int)≤k)
end Go.Proofs.YtfpihflepeiagaaGreatDoor
namespace Go.Proofs.YtfpihflepeiagaaGreatDoor
open Go.RowKit

theorem row_app:AppTy Tryz.prog 41 43 3 32 (.agg #[.int .i64 0,.string ⟨#[]⟩,.int .i64 0]):=appTy (by kernel_rfl) (by kernel_rfl) rfl (by omega)
def rcells (xs:List Row):List Value:=(xs.map rowc).flatten
theorem rcells_snoc (xs:List Row) (x:Row):rcells (xs++[x])=rcells xs++rowc x:=by simp[rcells]
theorem rcells_len (xs:List Row):(rcells xs).length=xs.length*3:=by
 induction xs with
 |nil=>rfl
 |cons x l ih=>unfold rcells at *;rw[List.map_cons,List.flatten_cons,List.length_append,ih,List.length_cons];simp;omega
def FitR (xs:List Row):Prop:=∀ x∈xs,(-9223372036854775808≤x.1∧x.1≤9223372036854775807)∧x.2.1.length≤maxLen∧(-9223372036854775808≤x.2.2∧x.2.2≤9223372036854775807)
theorem slR_own {w:World} {base:Nat} {t:TypeId} {v:Value} {xs:List Row} (hf:FitR xs) (h:w.ownsRow base t 3 v xs.length (rcells xs)):SlR eRow w w.heap.size v xs:=by
 obtain⟨A,c,rfl,h1,h2⟩:=own_form h
 refine⟨A,c,xs.map rowc,rfl,h1,h2,by simp,Rd.of_own h,fun i cs x hc hx=>?_⟩
 rw[List.getElem?_map,hx] at hc
 injection hc with hc
 subst hc
 obtain⟨⟨a1,a2⟩,a3,a4,a5⟩:=hf x (List.mem_of_getElem? hx)
 exact eRow_mk a1 a2 a3 a4 a5
theorem SlR.fitR {w:World} {B:Nat} {v:Value} {xs:List Row} (h:SlR eRow w B v xs):FitR xs:=by
 obtain⟨A,c,css,e,h1,h2,h3,h4,h5⟩:=h
 intro x hx
 obtain⟨i,hi,rfl⟩:=List.getElem_of_mem hx
 exact (eRow_open (h5 i _ _ (List.getElem?_eq_getElem (by omega)) (List.getElem?_eq_getElem hi))).2
def ofRows (left:Int) (xs:List Row):List Row:=xs.filter fun x=>decide (x.1=left)
theorem ofRows_succ (left:Int) (xs:List Row) (k:Nat) (h:k<xs.length):ofRows left (xs.take (k+1))=ofRows left (xs.take k)++if xs[k].1=left then [xs[k]] else []:=by
 unfold ofRows
 rw[List.take_succ_eq_append_getElem h,List.filter_append]
 congr 1
 by_cases hb:xs[k].1=left <;> simp[hb]
theorem ofRows_le (left:Int) (xs:List Row) (k:Nat):(ofRows left (xs.take k)).length≤k:=by
 unfold ofRows
 refine Nat.le_trans (List.length_filter_le _ _) ?_
 rw[List.length_take]
 omega
def OwnRows (w:World) (l:List Row) (e:Ending) (w':World):Prop:=∃ v,e=.returned v∧w'.ownsRow w.heap.size 43 3 v l.length (rcells l)∧Below w.heap.size w w'
set_option maxHeartbeats 1600000 in
theorem of_rows (v:Value) (left:Int) (xs:List Row) (w:World) (hv:SlR eRow w w.heap.size v xs) (hr:xs.length≤1048576) :
  Calls Tryz.prog 32 #[v,.int .i64 left] w (OwnRows w (ofRows left xs)):=by
 obtain⟨A,c,rfl,he1,he2⟩:=hv.form
 unfold maxLen at he2
 go_enter Tryz.func32,Tryz.ntmps32
 go_wp2_with fail
 go_loopw [5,10] (fun v5 v10 wr=>∃ k:Nat,k≤xs.length∧v10=.int .i64 k∧wr.ownsRow w.heap.size 43 3 v5 (ofRows left (xs.take k)).length (rcells (ofRows left (xs.take k)))∧Below w.heap.size w wr) (fun _ v10 _=>xs.length - (intOf v10).toNat)
 case atStart=>exact⟨0,by omega,rfl,by simpa[ofRows,rcells] using World.ownsRow_nil _ _ _ _,by go_grown⟩
 case round =>
  obtain⟨k,hk,rfl,hown,hbr⟩:=hrel
  by_cases hlt:k<xs.length
  ·obtain⟨b1,o1,rfl,-,hb1,a0,a1,a2,-⟩:=(hv.below hbr).rowAt hlt
   have hsn:=Lib.hid (ofRows_succ left xs k hlt)
   have hle:=ofRows_le left xs k
   have hbs:=hbr.size
   obtain⟨x,hx⟩:∃ x,x=xs[k]:=⟨_,rfl⟩
   rw[←hx] at a0 a1 a2 hsn
   clear hx
   obtain⟨xa,xs1,xi⟩:=x
   simp only at a0 a1 a2
   by_cases hq:xa=left
   ·have hqb:(xa==left)=true:=by simp[hq]
    have HQ:=Lib.hid hq
    clear hq
    go_wp2_with (at_builtin;refine wpList_app (m:=1) row_app rfl rfl rfl rfl ((hown.alloc _).alloc _) (Rd.row (B:=wr.heap.size+2) (heap_two wr _ _) (by omega)) rfl (by simp[Value.oneCell']) ?h63 ?hby ?hbase ?_)
    case h63=>simp only[maxLen];omega
    case hby=>omega
    case hbase=>omega
    intro v1 w3 hown3 hg3 _ _
    go_wp2
    go_roundw
    case rel =>
     refine⟨k+1,by omega,by go_num,?_,?_⟩
     ·rw[hsn.out,if_pos HQ.out]
      rw[rcells_snoc,List.length_append]
      exact hown3
     ·exact grown_below ((hbr.alloc hbs _).alloc (by simp;omega) _) hg3 ((hown.alloc _).alloc _) (Nat.le_refl _) (by simp;omega)
    case measure=>simp[intOf];omega
   ·have hqb:(xa==left)=false:=by simp[hq]
    have HQ:=Lib.hid hq
    clear hq
    go_wp2_with fail
    go_roundw
    case rel=>exact⟨k+1,by omega,by go_num,by rw[hsn.out,if_neg HQ.out,List.append_nil];exact hown.alloc _,hbr.alloc hbs _⟩
    case measure=>simp[intOf];omega
  ·have hkl:k=xs.length:=by omega
   subst hkl
   rw[List.take_length] at hown
   go_wp2_with fail
   go_ret
   exact⟨_,rfl,hown,hbr⟩
end Go.Proofs.YtfpihflepeiagaaGreatDoor
namespace Go.Proofs.YtfpihflepeiagaaGreatDoor
open Go.RowKit Go.Sort

theorem rcells_get:∀ (ks:List Row) (t:Nat),t<ks.length*3→(rcells ks)[t]? = some ((rowc (ks.toArray[t/3]!))[t%3]!)
 |[],t,h=>by simp at h
 |k :: r,t,h=>by
  unfold rcells
  rw[List.map_cons,List.flatten_cons]
  by_cases ht:t<3
  ·rw[List.getElem?_append_left (by exact ht),Nat.div_eq_of_lt ht,Nat.mod_eq_of_lt ht]
   have hl:t<(rowc k).length:=ht
   rw[List.getElem?_eq_getElem hl]
   simp only[List.getElem!_toArray,List.getElem!_cons_zero]
   rw[getElem!_pos (rowc k) t hl]
  ·rw[List.getElem?_append_right (by simp only[rowc,List.length_cons,List.length_nil];omega)]
   have ih:=rcells_get r (t - 3) (by rw[List.length_cons,Nat.add_mul] at h;omega)
   unfold rcells at ih
   rw[show t - (rowc k).length=t - 3 from rfl,ih]
   have e1:t/3=(t - 3)/3+1:=by omega
   have e2:t%3=(t - 3)%3:=by omega
   rw[e1,e2]
   have hlt:(t - 3)/3<r.length:=by rw[List.length_cons,Nat.add_mul] at h;omega
   simp[hlt]
theorem flatR_list (ks:List Row):(flatK rowc 3 ks.toArray).toList=rcells ks:=by
 apply List.ext_getElem?
 intro t
 by_cases h:t<ks.length*3
 ·rw[rcells_get ks t h,Array.getElem?_toList]
  have h':t<ks.toArray.size*3:=by simpa using h
  have hs:t<(flatK rowc 3 ks.toArray).size:=by rw[size_flatK];exact h'
  have:=get_flatK rowc 3 ks.toArray t h'
  rw[getElem!_pos _ t hs] at this
  rw[Array.getElem?_eq_getElem hs,this]
 ·rw[List.getElem?_eq_none (by rw[Array.length_toList,size_flatK];simpa using h),List.getElem?_eq_none (by rw[rcells_len];omega)]
theorem ltOf_ord (x y:Row):ltOf ordR x y=true↔rowLt x y:=by
 unfold ltOf
 rw[decide_eq_true_eq]
 exact ordR_lt x y
theorem ltOf_ordF (x y:Row):ltOf ordR x y=false↔¬ rowLt x y:=by
 rw[←ltOf_ord,Bool.not_eq_true]
theorem rowLt_key {a a' b:Row} (h:keyOfRow a=keyOfRow a') (hl:rowLt a b):rowLt a' b:=by
 unfold keyOfRow at h
 injection h with h1 h2
 unfold rowLt at *
 rw[←h1,←h2]
 exact hl
theorem swoR:SWO (ltOf ordR) where
 irrefl:=fun x=>by rw[ltOf_ordF];exact fun h=>rowLt_irrefl h rfl
 trans:=fun x y z h1 h2=>by rw[ltOf_ord] at *;exact rowLt_trans h1 h2
 ntrans:=fun x y z h1 h2=>by
  rw[ltOf_ordF] at *
  intro h
  rcases rowLt_tri x y with h3 | h3 | h3
  ·exact h1 h3
  ·exact h2 (rowLt_key h3 h)
  ·exact h2 (rowLt_trans h3 h)
theorem holds_rows {w:World} {g:Nat} {cur:Array Value} {e:TypeId} {ks:List Row} (hb:w.heap[g]? = some (.cells cur e (0,0))) (ht:cur.toList.take (ks.length*3)=rcells ks):HoldsK rowc 3 w g 0 ks.toArray:=by
 intro j hj
 have hj':j<ks.length*3:=by simpa using hj
 refine⟨?_,by simp[World.frozen?,hb]⟩
 have h1:(cur.toList.take (ks.length*3))[j]? = (flatK rowc 3 ks.toArray).toList[j]? := by rw[ht,flatR_list]
 rw[List.getElem?_take_of_lt hj',Array.getElem?_toList,Array.getElem?_toList,Array.getElem?_eq_getElem hj] at h1
 rw[getElem!_pos _ j hj]
 simp only[World.cell?,hb,Nat.zero_add]
 simp only[Option.isSome_none,Bool.false_eq_true,if_false]
 rw[h1]
 rfl
theorem heap_sortedR {w:World} {g n:Nat} {os:Array Obj} {cur:Array Value} {e:TypeId} {fr:Nat×Nat} (F:Array Value) (hb:w.heap[g]? = some (.cells cur e fr)) :
  (Go.Sort.grow (putRow id (Sort.ahead w n) g 0 F) os).heap[g]? = some (.cells (putCells id 0 F cur) e fr):=by
 have hg:g<w.heap.size:=(Array.getElem?_eq_some_iff.1 hb).1
 rw[heap_grow_old _ _ (by simpa using hg)]
 simp[putRow,mapBlock,Sort.ahead,Array.getElem?_modify,hb,onCells]
theorem grownBy_sortedR {w:World} {g n:Nat} {os:Array Obj} (F:Array Value):w.grownBy (Go.Sort.grow (putRow id (Sort.ahead w n) g 0 F) os) (some g):=by
 refine⟨rfl,rfl,rfl,by simp,fun k hk hne=>?_⟩
 rw[heap_grow_old _ _ (by simpa using hk)]
 have:g≠k:=fun e=>hne (by rw[e])
 simp[putRow,mapBlock,Sort.ahead,Array.getElem?_modify,this]
theorem take_putCellsR (cur F:Array Value) (h:F.size≤cur.size):(putCells id 0 F cur).toList.take F.size=F.toList:=by
 apply List.ext_getElem?
 intro j
 by_cases hj:j<F.size
 ·rw[List.getElem?_take_of_lt hj,Array.getElem?_toList]
  simp[putCells,hj,show j<cur.size by omega]
 ·rw[List.getElem?_take_eq_none (by omega),List.getElem?_eq_none (by simp;omega)]
theorem isAgg_row (w:World):(isAgg 43).run Tryz.prog w=.ok true w:=by kernel_rfl
theorem sizeOf_row (w:World):(Go.sizeOf 43).run Tryz.prog w=.ok 3 w:=by kernel_rfl
def SortedRows (base:Nat) (v:Value) (ks:List Row) (w:World) (w':World):Prop :=
 ∃ ks':List Row,ks'.Perm ks∧ks'.Pairwise (fun a b=>¬ rowLt b a)∧w'.ownsRow base 43 3 v ks'.length (rcells ks')∧w.grownBy w' v.ownBlock
set_option maxRecDepth 100000 in
set_option maxHeartbeats 1000000 in
theorem sortRows_any (base:Nat) (A:Option Addr) (c:Nat) (ks:List Row) (w:World) (h:w.ownsRow base 43 3 (.slice A ks.length c) ks.length (rcells ks)) (hn:ks.length<4611686018427387904) :
  Calls Tryz.prog 37 #[.slice A ks.length c,.func (.func 38) #[] #[]] w fun e w'=>e=.returned (.tuple #[])∧SortedRows base (.slice A ks.length c) ks w w':=by
 have eg:∀ args w,(callFunc 38 args).run Tryz.prog w=.ok (.enter 38 args) w:=enters_of Tryz.func38 (by kernel_rfl) rfl
 have HH:=Lib.hid h
 rcases HH.out.2 with ⟨hnil,h0⟩ | ⟨g,cap,cur,hv,hbase,hb,h1,h2,h3,h4⟩
 ·injection hnil with e1 e2 e3
  subst e1
  rw[h0]
  refine (AnyF.slices_SortFunc_none { Tryz.sortLay with } none c _ w).mono fun e w' ⟨he,hw⟩=>⟨he,ks,List.Perm.refl _,?_,?_,?_⟩
  ·rw[List.eq_nil_of_length_eq_zero h0];exact List.Pairwise.nil
  ·subst hw;have:=HH.out;rw[h0] at this;rw[h0];exact this
  ·subst hw;exact⟨rfl,rfl,rfl,Nat.le_refl _,fun _ _ _=>rfl⟩
 ·injection hv with e1 e2 e3
  subst e1 e3
  have hH:=holds_rows hb h4
  have hgl:g<w.heap.size:=(Array.getElem?_eq_some_iff.1 hb).1
  have:=AnyQ.slices_SortFunc Tryz.sortLay 3 isAgg_row sizeOf_row rowc (fun _=>rfl) (fun k u hu=>by simp only[rowc,List.mem_cons,List.not_mem_nil,or_false] at hu;rcases hu with rfl | rfl | rfl <;> rfl) ordR swoR 38 #[] g 0 c ks.toArray w eg (fun m os dk hdk x y=>(order_any x y _).mono fun e w' ⟨he,hb,hd⟩=>⟨he,grown_of hb hd⟩) hH hgl (by simpa using hn)
  simp only[List.size_toArray] at this
  refine Calls.mono this fun e w' ⟨he,d',n,os,hp,hs,hw⟩=>⟨he,d'.toList,?_,?_,?_,?_⟩
  ·obtain⟨p1,_,p3⟩:=hp
   have e1:d'.extract 0 ks.length=d':=by
    apply Array.extract_eq_self_of_le;rw[p1];simp
   have e2:ks.toArray.extract 0 ks.length=ks.toArray:=by
    apply Array.extract_eq_self_of_le;simp
   rw[e1,e2] at p3
   simpa using p3
  ·rw[List.pairwise_iff_getElem]
   intro i j hi hj hij
   have hsz:d'.size=ks.length:=by rw[hp.1];simp
   have:=hs i j (Nat.zero_le _) hij (by rw[←hsz];simpa using hj)
   rw[ltOf_ordF] at this
   have hj':j<d'.size:=by simpa using hj
   have hi':i<d'.size:=by simpa using hi
   rw[getElem!_pos d' j hj',getElem!_pos d' i hi'] at this
   simpa using this
  ·have hsz:d'.toList.length=ks.length:=by rw[Array.length_toList,hp.1];simp
   subst hw
   have hF:(flatK rowc 3 d')=(flatK rowc 3 d'.toList.toArray):=by simp
   rw[hsz]
   refine⟨by rw[rcells_len,hsz],.inr ⟨g,c,_,rfl,hbase,heap_sortedR _ hb,h1,h2,by simp[putCells,h3],?_⟩⟩
   have hfs:(flatK rowc 3 d').size=ks.length*3:=by rw[size_flatK,hp.1];simp
   have:=take_putCellsR cur (flatK rowc 3 d') (by rw[hfs,h3];exact Nat.mul_le_mul_right 3 h1)
   rw[hfs] at this
   rw[this,hF,flatR_list]
  ·subst hw
   exact grownBy_sortedR _
end Go.Proofs.YtfpihflepeiagaaGreatDoor
namespace Go.Proofs.YtfpihflepeiagaaGreatDoor
open Go.RowKit Go.Sort

theorem SeenL.congr {l:List (Wd×Value)} {L L':List Wd} {N:Nat} (h:SeenL l L N) (hm:∀ x,x∈L↔x∈L'):SeenL l L' N:=fun x=>by
 obtain⟨n,h1,h2,h3⟩:=h x
 exact⟨n,h1,h2,by rw[h3,hm]⟩
def meetW (a b:List Wd):List Wd:=a.filter fun w=>decide (w∈b)
def MeetTo (w:World) (l:List Wd) (e:Ending) (w':World):Prop:=∃ v,e=.returned v∧w'.ownsRow w.heap.size 9 1 v l.length (wcells l)∧Below w.heap.size w w'
theorem meet_take {a b:List Wd} {i:Nat} (h:i<a.length):meetW (a.take (i+1)) b=meetW (a.take i) b++if a[i]∈b then [a[i]] else []:=by
 unfold meetW
 rw[List.take_succ_eq_append_getElem h,List.filter_append]
 congr 1
 by_cases hb:a[i]∈b <;> simp[hb]
set_option maxRecDepth 100000 in
set_option maxHeartbeats 8000000 in
theorem meet_any (A B:Option Addr) (ca cb:Nat) (a b:List Wd) (w:World) (ha:SlR eW w w.heap.size (.slice A a.length ca) a) (hb:SlR eW w w.heap.size (.slice B b.length cb) b) (la:a.length≤1048576) (lb:b.length≤1048576) :
  Calls Tryz.prog 95 #[.slice A a.length ca,.slice B b.length cb] w (MeetTo w (meetW a b)):=by
 have HA:=Lib.hid ha
 have HB:=Lib.hid hb
 obtain⟨na,hna⟩:∃ n,n=a.length:=⟨_,rfl⟩
 obtain⟨nb,hnb⟩:∃ n,n=b.length:=⟨_,rfl⟩
 rw[←hna] at HA la ⊢
 rw[←hnb] at HB lb ⊢
 have HNA:=Lib.hid hna
 have HNB:=Lib.hid hnb
 clear ha hb hna hnb
 have hmm:=@run_makeMap Tryz.prog
 go_enter Tryz.func95,Tryz.ntmps95
 go_wp2_with fail
 have HM1:=Lib.hid (MapR.made (κ:=wv) w)
 have HB1:=Lib.hid ((Below.refl w.heap.size w).alloc (Nat.le_refl _) (.map #[] 0))
 have HZ1:=Lib.hid (World.size_alloc w (.map #[] 0))
 generalize w.alloc (.map #[] 0)=w1 at *
 clear hmm
 go_loopg [14] nb (fun left v14 wr=>∃ (i:Nat) (l:List (Wd×Value)),i≤nb∧nb - i≤left∧v14=.int .i64 i∧Hid (MapR wv wr w.heap.size l)∧Hid (SeenL l (b.take i) i)∧Hid (Below w.heap.size w wr)∧Hid (wr.heap.size=w.heap.size+1))
 case atStart=>exact⟨0,[],by omega,by omega,rfl,HM1.out,SeenL.nil,HB1.out,HZ1.out⟩
 case round =>
  clear HM1 HB1 HZ1
  obtain⟨i,l,hi,hleft,rfl,HM,HS,HBR,HZ⟩:=hrel
  by_cases hib:i<nb
  ·have hil:i<b.length:=by rw[←HNB.out];exact hib
   obtain⟨b2,o2,rfl,_,hb2,hc2⟩:=(HB.out.below HBR.out).wd hil
   have HT:=Lib.hid (List.take_succ_eq_append_getElem hil)
   obtain⟨x,hx⟩:∃ x,x=b[i]:=⟨_,rfl⟩
   rw[←hx] at hc2 HT
   clear hx hil
   obtain⟨n,hn,hnN,_⟩:=HS.out x
   have hlk:=HM.out.lookup wdInt_keys zero_intW x
   rw[hn] at hlk
   have hnb:(n:Int)≤1048576:=by omega
   have HS2:=Lib.hid ((HS.out.put x hn hnN).congr (L':=b.take (i+1)) (fun y=>by rw[mem_putW,HT.out,List.mem_append,List.mem_singleton]))
   clear hn hnN
   go_wp2_with (at_mapUpdate;refine wpList_update wdInt_keys rfl rfl rfl rfl rfl HM.out ?_)
   intro w2 hmp2 hg2 hs2
   have HM2:=Lib.hid hmp2
   have HB2:=Lib.hid (HBR.out.grown hg2 HBR.out.size (fun k hk=>by injection hk with hk;subst hk;exact Nat.le_refl _))
   have HZ2:=Lib.hid (hs2.trans HZ.out)
   clear hmp2 hg2 hs2 hlk
   go_wp2_with fail
   go_roundg (gk - 1)
   case measure=>omega
   case rel=>exact⟨i+1,_,by omega,by omega,by go_num,HM2.out,HS2.out,HB2.out,HZ2.out⟩
  ·have hin:i=nb:=by omega
   have HSF:=Lib.hid (show SeenL l b i by
    have:=HS.out
    rwa [hin,HNB.out,List.take_of_length_le (Nat.le_refl _),←HNB.out,←hin] at this)
   have HG:=Lib.hid HM.out.lt
   clear hin HS
   obtain⟨wm,hwm⟩:∃ wm,wm=wr:=⟨_,rfl⟩
   rw[←hwm] at HM HBR HZ HG ⊢
   clear hwm
   go_wp2_with fail
   go_loopg [25,8] na (fun left v25 v8 wt=>∃ (j:Nat),j≤na∧na - j≤left∧v25=.int .i64 j∧Hid (wt.ownsRow (w.heap.size+1) 9 1 v8 (meetW (a.take j) b).length (wcells (meetW (a.take j) b)))∧Hid (Below (w.heap.size+1) wm wt))
   case atStart=>exact⟨0,by omega,by omega,rfl,by simp only[List.take_zero,meetW,List.filter_nil];exact World.ownsRow_nil _ _ _ _,Below.refl _ _⟩
   case round =>
    obtain⟨j,hj,hleft2,rfl,HO,HBT⟩:=hrel
    have HBW:=Lib.hid (HBR.out.trans (HBT.out.mono (by omega:w.heap.size≤w.heap.size+1)))
    obtain⟨L,hL⟩:∃ L,L=meetW (a.take j) b:=⟨_,rfl⟩
    rw[←hL] at HO
    have HLE:=Lib.hid (show L.length≤na by
     rw[hL]
     unfold meetW
     refine Nat.le_trans (List.length_filter_le _ _) ?_
     rw[List.length_take]
     omega)
    have HLL:=Lib.hid hL
    obtain⟨A8,c8,rfl,hl8,hl9⟩:=own_form HO.out
    obtain⟨nl,hnl⟩:∃ nl,nl=L.length:=⟨_,rfl⟩
    rw[←hnl] at HO HLE hl8 ⊢
    have HNL:=Lib.hid hnl
    clear hL hnl
    by_cases hja:j<na
    ·have hjl:j<a.length:=by rw[←HNA.out];exact hja
     obtain⟨b2,o2,rfl,_,hb2,hc2⟩:=(HA.out.below HBW.out).wd hjl
     have HMT:=Lib.hid (meet_take (b:=b) hjl)
     obtain⟨x,hx⟩:∃ x,x=a[j]:=⟨_,rfl⟩
     rw[←hx,←HLL.out] at HMT
     rw[←hx] at hc2
     clear hx hjl
     obtain⟨n,hn,hnN,hn0⟩:=HSF.out x
     have hlk:=(HM.out.below HBT.out (by omega:w.heap.size<w.heap.size+1)).lookup wdInt_keys zero_intW x
     rw[hn] at hlk
     by_cases hin:x∈b
     ·have hpos:(0:Int)<(n:Int):=by
       have:n≠0:=fun e=>(hn0.1 e) hin
       omega
      have HMT2:=Lib.hid (show meetW (a.take (j+1)) b=L++[x] by rw[HMT.out,if_pos hin])
      have HWS:=Lib.hid (show w.heap.size+1≤wr.heap.size by have:=HBT.out.size;have:=HZ.out;omega)
      have hle:=HLE.out
      clear hn0 hn hin
      go_wp2_with (at_builtin;refine wpList_app (m:=1) (n:=nl) str_appW rfl rfl rfl rfl (HO.out.alloc _) (Rd.row (B:=wr.heap.size+1) (Go.heap_alloc_new wr _) (by omega)) rfl (fun u hu=>by simp at hu;subst hu;rfl) (by unfold maxLen;omega) (by omega) (by rw[World.size_alloc];have:=HWS.out;omega) ?_)
      intro v' w' ho hg _ _
      have HO2:=Lib.hid (show w'.ownsRow (w.heap.size+1) 9 1 v' (meetW (a.take (j+1)) b).length (wcells (meetW (a.take (j+1)) b)) by
       rw[HMT2.out,List.length_append,←HNL.out]
       simp only[wcells,List.map_append]
       exact ho)
      have HB3:=Lib.hid (grown_below (HBT.out.alloc (by have:=HWS.out;omega) _) hg (HO.out.alloc _) (Nat.le_refl _) (by rw[World.size_alloc];have:=HWS.out;omega))
      obtain⟨A6,c6,rfl,hl7,hl10⟩:=own_form ho
      clear ho hg hlk
      go_wp2_with fail
      go_roundg (gk - 1)
      case measure=>omega
      case rel=>exact⟨j+1,by omega,by omega,by go_num,HO2.out,HB3.out⟩
     ·have hz:n=0:=hn0.2 hin
      subst hz
      have HMT2:=Lib.hid (show meetW (a.take (j+1)) b=L by rw[HMT.out,if_neg hin,List.append_nil])
      have HO2:=Lib.hid (show wr.ownsRow (w.heap.size+1) 9 1 (.slice A8 nl c8) (meetW (a.take (j+1)) b).length (wcells (meetW (a.take (j+1)) b)) by rw[HMT2.out,←HNL.out];exact HO.out)
      clear hn0 hn hin
      go_wp2_with fail
      go_roundg (gk - 1)
      case measure=>omega
      case rel=>exact⟨j+1,by omega,by omega,by go_num,HO2.out,HBT.out⟩
    ·have HFIN:=Lib.hid (show meetW a b=L by rw[HLL.out,List.take_of_length_le (by rw[←HNA.out];omega)])
     go_wp2_with fail
     go_ret
     refine⟨_,rfl,?_,HBW.out⟩
     rw[HFIN.out,←HNL.out]
     exact own_more HO.out (by omega)
def CommonTo (w:World) (o:Option Wd) (e:Ending) (w':World):Prop:=Below w.heap.size w w'∧match o with
 |none=>e=.returned (.tuple #[.string ⟨#[]⟩,.bool false])
 |some x=>e=.returned (.tuple #[wv x,.bool true])
theorem commonW_meet (a b:List Wd):commonW a b=(meetW a b).head? := rfl
set_option maxRecDepth 100000 in
set_option maxHeartbeats 8000000 in
theorem common_any (g:Nat) (A B:Option Addr) (ca cb:Nat) (a b:List Wd) (w:World) (h0:w.cell? ⟨g,0,none⟩=some (.slice A a.length ca)) (h1:w.cell? ⟨g,1,none⟩=some (.slice B b.length cb)) (ha:SlR eW w w.heap.size (.slice A a.length ca) a) (hb:SlR eW w w.heap.size (.slice B b.length cb) b) (la:a.length≤1048576) (lb:b.length≤1048576) :
  Calls Tryz.prog 64 #[.slice (some ⟨g,0,none⟩) 2 2] w (CommonTo w (commonW a b)):=by
 have HME:=Lib.hid (meet_any A B ca cb a b w ha hb la lb)
 rw[commonW_meet]
 have HLE:=Lib.hid (show (meetW a b).length≤1048576 from Nat.le_trans (List.length_filter_le _ _) la)
 obtain⟨L,hL⟩:∃ L,L=meetW a b:=⟨_,rfl⟩
 rw[←hL] at HME HLE ⊢
 have hgl:=World.block_lt_of_cell? w _ h0
 simp only at hgl
 clear hL ha hb
 obtain⟨na,hna⟩:∃ n,n=a.length:=⟨_,rfl⟩
 obtain⟨nb,hnb⟩:∃ n,n=b.length:=⟨_,rfl⟩
 rw[←hna] at HME la h0
 rw[←hnb] at HME lb h1
 clear hna hnb
 go_enter Tryz.func64,Tryz.ntmps64
 go_wp2_with fail
 go_loopg [13,4] 1 (fun left v13 v4 wr=>(v13=.int .i64 0∧v4=.slice A na ca∧wr=w∧left=1)∨(v13=.int .i64 1∧Hid (wr.ownsRow w.heap.size 9 1 v4 L.length (wcells L))∧Hid (Below w.heap.size w wr)))
 case atStart=>exact .inl ⟨rfl,rfl,rfl,rfl⟩
 case round =>
  rcases hrel with ⟨rfl,rfl,rfl,hgk⟩ | ⟨rfl,HO,HB⟩
  ·go_wp2_with fail
   refine HME.out.mono ?_
   rintro e w2 ⟨v,rfl,hown,hb2⟩
   have HO:=Lib.hid hown
   have HB:=Lib.hid hb2
   obtain⟨A2,c2,rfl,_,_⟩:=own_form hown
   clear hown hb2
   go_wp2_with fail
   go_roundg 0
   case measure=>omega
   case rel=>exact .inr ⟨by go_num,HO.out,HB.out⟩
  ·obtain⟨A2,c2,rfl,hl1,hl2⟩:=own_form HO.out
   cases L with
   |nil =>
    go_wp2_with fail
    go_ret2
    exact⟨HB.out,rfl⟩
   |cons x L =>
    have HRD:=Lib.hid (Rd.of_own HO.out)
    obtain⟨b2,o2,rfl,hbl,hcell⟩:=HRD.out.at_ (k:=0) (by rw[wcells_len];simp)
    have hcell0:wr.cell? ⟨b2,o2,none⟩=some (wv x):=by rw[Nat.add_zero] at hcell;exact hcell
    have hne:(((x :: L).length:Int)==0)=false:=by simp;omega
    clear hcell
    obtain⟨nl,hnl⟩:∃ nl,nl=(x :: L).length:=⟨_,rfl⟩
    have hpos:0<nl:=by rw[hnl];simp
    rw[←hnl] at hne hl1 ⊢
    clear hnl
    go_wp2_with fail
    go_ret2
    exact⟨HB.out,rfl⟩
end Go.Proofs.YtfpihflepeiagaaGreatDoor
