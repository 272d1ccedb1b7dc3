/- Texts of this proof joined: Wset, Wunion, WordC, MapS, Wcat. -/
import Derived.Test.YtfpihflepeiagaaGreatDoorLN08
import Derived.Test.YtfpihflepeiagaaGreatDoorShelf
import Derived.Test.YtfpihflepeiagaaGreatDoorChecked
import Derived.Sort.OwnSorted
import Derived.Test.YtfpihflepeiagaaGreatDoorGrw
import Derived.Test.YtfpihflepeiagaaGreatDoorLN04
import Derived.Shelf.Spec.SlicesGrow
import Derived.Test.YtfpihflepeiagaaGreatDoorLN06
import Derived.Test.YtfpihflepeiagaaGreatDoorLN03
import Derived.Test.YtfpihflepeiagaaGreatDoorLN05
import Derived.Test.YtfpihflepeiagaaGreatDoorLN13
import Derived.Maps.RangeWalk
import Derived.Laws.EntriesVeiled
namespace Go.Proofs.YtfpihflepeiagaaGreatDoor
open Go.RowKit Go.Sort

theorem str_appW:AppTy Tryz.prog 22 9 1 16 (.string ⟨#[]⟩):=appTy (by kernel_rfl) (by kernel_rfl) rfl (by omega)
def CloneTo (w:World) (xs:List Wd) (e:Ending) (w':World):Prop:=∃ v',e=.returned v'∧w'.ownsRow w.heap.size 9 1 v' xs.length (wcells xs)∧Below w.heap.size w w'
theorem clone_any (A:Option Addr) (c:Nat) (xs:List Wd) (w:World) (h:SlR eW w w.heap.size (.slice A xs.length c) xs) (hb:xs.length*16≤140737488355328) :
  Calls Tryz.prog 136 #[.slice A xs.length c] w (CloneTo w xs):=by
 cases A with
 |none =>
  have hx:xs=[]:=by
   rcases Nat.eq_zero_or_pos xs.length with h0 | h0
   ·exact List.eq_nil_of_length_eq_zero h0
   ·obtain⟨b,off,e,_⟩:=h.wd (k:=0) h0
    cases e
  subst hx
  refine (Tryz.slices_Clone_string_nil 0 c w).mono ?_
  rintro e w' ⟨rfl,rfl⟩
  exact⟨_,rfl,World.ownsRow_nil _ _ _ _,Below.refl _ _⟩
 |some a =>
  rcases Nat.eq_zero_or_pos xs.length with h0 | h0
  ·have hx:xs=[]:=List.eq_nil_of_length_eq_zero h0
   subst hx
   refine (Tryz.slices_Clone_string_zero a c w).mono ?_
   rintro e w' ⟨v',rfl,hown,_,hbe⟩
   exact⟨v',rfl,hown,hbe⟩
  ·obtain⟨b,off,e,_,_,_⟩:=h.wd (k:=0) h0
   injection e with e
   subst e
   have:=Tryz.slices_Clone_string b off xs.length c (xs.map fun x=>(⟨x.toArray⟩:ByteArray)) w (by simp) hb (fun j hj=>by
    have hj':j<xs.length:=by simpa using hj
    obtain⟨b',off',e,_,_,hc⟩:=h.wd hj'
    injection e with e
    injection e with e1 e2
    subst e1 e2
    rw[hc,List.getD_eq_getElem?_getD,List.getElem?_map,List.getElem?_eq_getElem hj']
    rfl)
   refine Calls.mono this ?_
   rintro e w' ⟨v',rfl,hown,_,hbe⟩
   refine⟨v',rfl,?_,hbe⟩
   rw[show ((xs.map fun x=>(⟨x.toArray⟩:ByteArray)).take xs.length).map Value.string=wcells xs by rw[List.take_of_length_le (by simp)];simp[wcells]] at hown
   exact hown
def SortTo (w:World) (base:Nat) (v:Value) (xs:List Wd) (e:Ending) (w':World):Prop:=e=.returned (.tuple #[])∧w'.ownsRow base 9 1 v xs.length (wcells (xs.mergeSort fun x y=>decide (x≤y)))∧w.grownBy w' v.ownBlock
theorem sort_any (base:Nat) (v:Value) (xs:List Wd) (w:World) (h:w.ownsRow base 9 1 v xs.length (wcells xs)) (hn:xs.length<4611686018427387904) :
  Calls Tryz.prog 137 #[v] w (SortTo w base v xs):=by
 rcases h.2 with ⟨rfl,h0⟩ | ⟨g,cap,cur,rfl,hbase,hb,h1,h2,h3,h4⟩
 ·have hx:xs=[]:=List.eq_nil_of_length_eq_zero h0
  subst hx
  refine (Tryz.slices_Sort_string_none none 0 w).mono ?_
  rintro e w' ⟨rfl,rfl⟩
  exact⟨rfl,by have:=World.ownsRow_nil w' base 9 1;simpa[wcells] using this,rfl,rfl,rfl,Nat.le_refl _,fun _ _ _=>rfl⟩
 ·rw[Nat.mul_one] at h4
  have:=Tryz.slices_Sort_string g 0 cap xs w (holds_of_block hb h4) (Array.getElem?_eq_some_iff.1 hb).1 hn
  refine Calls.mono this ?_
  rintro e w' ⟨rfl,n,os,rfl⟩
  exact⟨rfl,ownsRow_sorted (by simp) hbase hb h1 h2 h3,grownBy_sorted _⟩
theorem compact_le (xs:List Wd):(Lib.compact xs).length≤xs.length:=by
 unfold Lib.compact Lib.compactUpTo
 rw[List.length_map]
 exact Nat.le_trans (List.length_filter_le _ _) (by simp)
def CompactTo (w:World) (base:Nat) (v:Value) (xs:List Wd) (e:Ending) (w':World):Prop:=∃ v',e=.returned v'∧w'.ownsRow base 9 1 v' (Lib.compact xs).length (wcells (Lib.compact xs))∧w.grownBy w' v.ownBlock
theorem compact_any (base:Nat) (v:Value) (xs:List Wd) (w:World) (h:w.ownsRow base 9 1 v xs.length (wcells xs)) (hn:xs.length<4611686018427387904) :
  Calls Tryz.prog 138 #[v] w (CompactTo w base v xs):=by
 rcases h.2 with ⟨rfl,h0⟩ | ⟨g,cap,cur,rfl,hbase,hb,h1,h2,h3,h4⟩
 ·have hx:xs=[]:=List.eq_nil_of_length_eq_zero h0
  subst hx
  refine (Tryz.slices_Compact_string_empty none 0 w).mono ?_
  rintro e w' ⟨rfl,rfl⟩
  exact⟨_,rfl,World.ownsRow_nil _ _ _ _,rfl,rfl,rfl,Nat.le_refl _,fun _ _ _=>rfl⟩
 ·rw[Nat.mul_one] at h4
  have:=Tryz.slices_Compact_string g 0 cap xs w (holds_of_block hb h4) (by omega) h1
  refine Calls.mono this ?_
  rintro e w' ⟨rfl,q,rfl⟩
  have hle:=compact_le xs
  have hgr:=grownBy_sorted (w:=w) (g:=g) (n:=q) (os:=#[]) (Lib.compact xs++List.replicate (xs.length - (Lib.compact xs).length) []).toArray
  have hhp:=heap_sorted (n:=q) (os:=#[]) (Lib.compact xs++List.replicate (xs.length - (Lib.compact xs).length) []).toArray hb
  rw[grow_empty] at hgr hhp
  refine⟨_,rfl,⟨by simp[wcells],.inr ⟨g,cap,_,rfl,hbase,hhp,by omega,h2,by simp[putCells,h3],?_⟩⟩,hgr⟩
  have ht:=take_putCells cur (Lib.compact xs++List.replicate (xs.length - (Lib.compact xs).length) []) (by rw[List.length_append,List.length_replicate,h3];omega)
  rw[Nat.mul_one]
  have e1:(putCells encStr 0 (Lib.compact xs++List.replicate (xs.length - (Lib.compact xs).length) []).toArray cur).toList.take (Lib.compact xs).length=((putCells encStr 0 (Lib.compact xs++List.replicate (xs.length - (Lib.compact xs).length) []).toArray cur).toList.take (Lib.compact xs++List.replicate (xs.length - (Lib.compact xs).length) []).length).take (Lib.compact xs).length:=by
   rw[List.take_take,Nat.min_eq_left (by simp)]
  rw[e1,ht,List.map_append]
  exact List.take_left' (by simp)
def SetTo (w:World) (l:List Wd) (e:Ending) (w':World):Prop:=∃ v',e=.returned v'∧w'.ownsRow w.heap.size 9 1 v' (setOf l).length (wcells (setOf l))∧Below w.heap.size w w'
set_option maxHeartbeats 1000000 in
theorem wsetOf_any (A:Option Addr) (c:Nat) (xs:List Wd) (w:World) (h:SlR eW w w.heap.size (.slice A xs.length c) xs) (hb:xs.length*16≤140737488355328) :
  Calls Tryz.prog 117 #[.slice A xs.length c] w (SetTo w xs):=by
 have HC:=Lib.hid (clone_any A c xs w h hb)
 obtain⟨n,hn⟩:∃ n,n=xs.length:=⟨_,rfl⟩
 rw[←hn] at HC ⊢
 have HN:=Lib.hid hn
 have HB:=Lib.hid (show xs.length<4611686018427387904 by omega)
 clear h hn hb
 go_enter Tryz.func117,Tryz.ntmps117
 go_wp2_with fail
 refine HC.out.mono ?_
 rintro e w1 ⟨v1,rfl,h1,hb1⟩
 have HB1:=Lib.hid hb1
 have HS:=Lib.hid (sort_any _ v1 xs w1 h1 HB.out)
 obtain⟨A1,c1,rfl,_⟩:=own_form h1
 have HO1:=Lib.hid h1
 clear h1 hb1
 go_wp2_with fail
 refine HS.out.mono ?_
 rintro e w2 ⟨rfl,h2,hg2⟩
 have HB2:=Lib.hid (grown_below HB1.out hg2 HO1.out (Nat.le_refl _) HB1.out.size)
 have hl2:(xs.mergeSort fun x y=>decide (x≤y)).length=xs.length:=by simp
 rw[←hl2] at h2
 have HC2:=Lib.hid (compact_any _ _ _ w2 h2 (by rw[hl2];exact HB.out))
 have HO2:=Lib.hid h2
 rw[hl2] at HC2 HO2
 clear h2 hg2 hl2 HS HO1 HB1
 go_wp2_with fail
 refine HC2.out.mono ?_
 rintro e w3 ⟨v3,rfl,h3,hg3⟩
 have HB3:=Lib.hid (grown_below HB2.out hg3 HO2.out (Nat.le_refl _) HB2.out.size)
 have HO3:=Lib.hid h3
 obtain⟨A3,c3,rfl,_⟩:=own_form h3
 clear h3 hg3 HC2 HO2 HB2
 go_wp2_with fail
 go_ret
 exact⟨_,rfl,HO3.out,HB3.out⟩
end Go.Proofs.YtfpihflepeiagaaGreatDoor
namespace Go.Proofs.YtfpihflepeiagaaGreatDoor
open Go.RowKit Go.Sort

def GrowTo (w:World) (e:Ending) (w':World):Prop:=∃ v,e=.returned v∧w'.ownsRow w.heap.size 9 1 v 0 []∧Below w.heap.size w w'
theorem growS_any (n:Nat) (w:World) (hn:n*16≤140737488355328):Calls Tryz.prog 139 #[.slice none 0 0,.int .i64 n] w (GrowTo w):=by
 obtain⟨i0,hi,hz0,hz1,hz2⟩:=str_appW.info
 rcases Nat.eq_zero_or_pos n with h0 | h0
 ·subst h0
  refine Calls.mono (Any8.slices_Grow_room Tryz.growLay none 0 0 0 w (by omega) (by omega) (by omega) (by omega)) ?_
  rintro e w' ⟨rfl,rfl⟩
  exact⟨_,rfl,World.ownsRow_nil _ _ _ _,Below.refl _ _⟩
 ·refine Calls.mono (Any8.slices_Grow_grow Tryz.growLay i0 _ hi hz0 (by rw[hz1];decide) none 0 0 n [] w (by omega) (by omega) (by rw[hz2];omega) (by omega) (by simp) (fun _=>rfl) (fun a h=>by cases h)) ?_
  rintro e w' ⟨rfl,rfl⟩
  refine⟨_,rfl,?_,(Below.refl _ _).drew.alloc (Nat.le_refl _) _⟩
  have h1:=grownCap_le_maxLen w (0+n) 0 (Tryz.growLay_ren.t 25) (by unfold maxLen;omega)
  have h2:=grownCap_ge w (0+n) 0 (Tryz.growLay_ren.t 25)
  rw[Nat.zero_add] at h1 h2
  exact World.ownsRow_made (base:=w.heap.size) (e:=9) (size:=1) w.drew _ _ (Nat.le_refl _) (by rw[Nat.zero_add];exact h1) (by
   rw[Array.size_append,Array.size_append,size_zeroCells,size_zeroCells]
   simp[Value.cells]
   omega)
def ConcatTo (w:World) (ss:List (List Wd)) (e:Ending) (w':World):Prop:=∃ v,e=.returned v∧w'.ownsRow w.heap.size 9 1 v ss.flatten.length (wcells ss.flatten)∧Below w.heap.size w w'
theorem flat_take {α:Type} (ss:List (List α)) {i:Nat} (h:i<ss.length):(ss.take (i+1)).flatten=(ss.take i).flatten++ss[i]:=by
 rw[List.take_succ_eq_append_getElem h,List.flatten_append]
 simp
theorem flat_le {α:Type} (ss:List (List α)) (i:Nat):(ss.take i).flatten.length≤ss.flatten.length:=by
 have:ss.flatten=(ss.take i).flatten++(ss.drop i).flatten:=by rw[←List.flatten_append,List.take_append_drop]
 rw[this,List.length_append]
 omega
theorem SlR.row1 {w:World} {B:Nat} {A:Option Addr} {n c:Nat} {ss:List (List Wd)} (h:SlR (eSl eW) w B (.slice A n c) ss) {k:Nat} (hk:k<ss.length):∃ b off A2 c2,A=some ⟨b,off,none⟩∧n≤c∧b<B∧w.cell? ⟨b,off+k,none⟩=some (.slice A2 ss[k].length c2)∧SlR eW w B (.slice A2 ss[k].length c2) ss[k]∧ss[k].length≤c2∧c2≤maxLen:=by
 obtain⟨b,off,cs,e,h1,h2,⟨v,rfl,hs⟩,h4⟩:=h.get hk (by show 0<1;omega)
 obtain⟨A2,c2,rfl,h5,h6⟩:=hs.form
 have:=h4 0 _ rfl
 simp only[show (eSl eW).size=1 from rfl,Nat.mul_one,Nat.add_zero] at this
 exact⟨b,off,A2,c2,e,h1,h2,this,hs,h5,h6⟩
set_option maxHeartbeats 2000000 in
theorem concat_any (A:Option Addr) (c:Nat) (ss:List (List Wd)) (w:World) (h:SlR (eSl eW) w w.heap.size (.slice A ss.length c) ss) (hb:ss.flatten.length*16≤140737488355328) :
  Calls Tryz.prog 118 #[.slice A ss.length c] w (ConcatTo w ss):=by
 have HH:=Lib.hid h
 have hc:=h.n_le
 have HBD:=Lib.hid hb
 obtain⟨m,hm⟩:∃ m,m=ss.length:=⟨_,rfl⟩
 rw[←hm] at hc HH ⊢
 have HM:=Lib.hid hm
 clear h hb hm
 go_enter Tryz.func118,Tryz.ntmps118
 go_wp2_with fail
 go_loopw [11,3] (fun v11 v3 wr=>∃ i t:Nat,i≤m∧v11=.int .i64 i∧v3=.int .i64 t∧Hid (t=(ss.take i).flatten.length)∧wr=w) (fun v11 _ _=>m - (intOf v11).toNat)
 case atStart=>exact⟨0,0,by omega,rfl,rfl,rfl,rfl⟩
 case round =>
  obtain⟨i,t,hi,rfl,rfl,HT,rfl⟩:=hrel
  have hle:t≤8796093022208:=by have h1:=HT.out;have h2:=flat_le ss i;have h3:=HBD.out;omega
  by_cases hlt:i<m
  ·have hlt':i<ss.length:=by rw[←HM.out];exact hlt
   obtain⟨b,off,A2,c2,rfl,_,hbl,hcell,hs,h5,h6⟩:=HH.out.row1 hlt'
   have HF:=Lib.hid (flat_take ss hlt')
   have hle2:t+ss[i].length≤8796093022208:=by
    have h1:=HT.out;have h2:=flat_le ss (i+1);have h3:=HBD.out
    rw[HF.out,List.length_append] at h2
    omega
   have HLN:=Lib.hid (show t+ss[i].length=(ss.take (i+1)).flatten.length by rw[HF.out,List.length_append,HT.out])
   obtain⟨q,hq⟩:∃ q,q=ss[i].length:=⟨_,rfl⟩
   rw[←hq] at hle2 HLN hcell
   clear hs HF h5 hq hlt'
   go_wp2_with fail
   refine⟨⟨i+1,t+q,by omega,by go_num,by go_num,HLN.out,trivial⟩,by simp[intOf];omega⟩
  ·have him:i=m:=by omega
   have HTT:=Lib.hid (show t=ss.flatten.length by have:=HT.out;rw[him,HM.out,List.take_of_length_le (Nat.le_refl _)] at this;exact this)
   clear HT
   go_wp2_with fail
   refine (growS_any t wr (by omega)).mono ?_
   rintro e w1 ⟨v1,rfl,h1,hb1⟩
   have HB1:=Lib.hid hb1
   have HO1:=Lib.hid h1
   obtain⟨A1,c1,rfl,_⟩:=own_form h1
   clear h1 hb1
   go_wp2_with fail
   go_loopw [27,6] (fun v27 v6 wt=>∃ i s:Nat,i≤m∧v27=.int .i64 i∧Hid (s=(ss.take i).flatten.length)∧Hid (wt.ownsRow wr.heap.size 9 1 v6 s (wcells (ss.take i).flatten))∧Hid (Below wr.heap.size wr wt)) (fun v27 _ _=>m - (intOf v27).toNat)
   case atStart=>exact⟨0,0,by omega,rfl,rfl,HO1.out,HB1.out⟩
   case round =>
    clear HO1 HB1
    obtain⟨i,s,hi,rfl,HSI,HO,HB⟩:=hrel
    obtain⟨A6,c6,rfl,_⟩:=own_form HO.out
    by_cases hlt:i<m
    ·have hlt':i<ss.length:=by rw[←HM.out];exact hlt
     obtain⟨b,off,A2,c2,rfl,_,hbl,hcell,hs,h5,h6⟩:=(HH.out.below HB.out).row1 hlt'
     have HF:=Lib.hid (flat_take ss hlt')
     have HRD:=Lib.hid hs.rdW
     obtain⟨x,hx⟩:∃ x,x=ss[i]:=⟨_,rfl⟩
     rw[←hx] at hcell HF HRD
     obtain⟨q,hq⟩:∃ q,q=x.length:=⟨_,rfl⟩
     rw[←hq] at hcell
     have HQ:=Lib.hid hq
     have HSQ:=Lib.hid (show s+q=(ss.take (i+1)).flatten.length by rw[HF.out,List.length_append,HSI.out,HQ.out])
     have HLE:=Lib.hid (show s+q≤8796093022208 by have h2:=flat_le ss (i+1);have h3:=HBD.out;rw[HSQ.out];omega)
     clear hs h5 hq hx hlt'
     go_wp2_with (at_builtin;refine wpList_app (m:=q) (n:=s) str_appW rfl rfl rfl rfl HO.out HRD.out ?hl (wcells_one _) ?h63 ?hby HB.out.size ?_)
     case hl=>rw[wcells_len,Nat.mul_one];exact HQ.out.symm
     case h63=>have:=HLE.out;unfold maxLen;omega
     case hby=>have:=HLE.out;omega
     intro v' w' ho hg _ _
     have HO2:Hid (w'.ownsRow _ 9 1 v' (s+q) (wcells (ss.take (i+1)).flatten)):=Lib.hid (by
      rw[HF.out]
      simp only[wcells,List.map_append] at ho ⊢
      exact ho)
     have HB2:=Lib.hid (grown_below HB.out hg HO.out (Nat.le_refl _) HB.out.size)
     obtain⟨A7,c7,rfl,_⟩:=own_form HO2.out
     clear ho hg
     go_wp2_with fail
     exact⟨⟨i+1,s+q,by omega,by go_num,HSQ.out,HO2.out,HB2.out⟩,by simp[intOf];omega⟩
    ·have him:i=m:=by omega
     have hall:(ss.take i).flatten=ss.flatten:=by rw[him,HM.out,List.take_of_length_le (Nat.le_refl _)]
     rw[hall] at HO HSI
     clear hall him
     go_wp2_with fail
     go_ret
     exact⟨_,rfl,by rw[←HSI.out];exact HO.out,HB.out⟩
set_option maxRecDepth 100000 in
set_option maxHeartbeats 2000000 in
theorem union_any (A:Option Addr) (c:Nat) (a b:List Wd) (w:World) (h:SlR (eSl eW) w w.heap.size (.slice A 2 c) [a,b]) (hb:(a.length+b.length)*16≤140737488355328) :
  Calls Tryz.prog 89 #[.slice A 2 c] w (SetTo w (a++b)):=by
 have HFL:=Lib.hid (show [a,b].flatten=a++b by simp)
 have HC:=Lib.hid (concat_any A c [a,b] w h (by rw[HFL.out,List.length_append];exact hb))
 have HF:=Lib.hid (show Fits (a++b) by
  refine fits_app ?_ ?_
  ·obtain⟨_,_,_,_,_,_,_,_,hs,_⟩:=h.row1 (k:=0) (by simp)
   exact hs.fits
  ·obtain⟨_,_,_,_,_,_,_,_,hs,_⟩:=h.row1 (k:=1) (by simp)
   exact hs.fits)
 rw[show [a,b].length=2 from rfl] at HC
 have HBD:=Lib.hid (show (a++b).length*16≤140737488355328 by rw[List.length_append];exact hb)
 clear h hb
 obtain⟨l,hl⟩:∃ l,l=[a,b]:=⟨_,rfl⟩
 rw[←hl] at HFL HC
 clear hl
 obtain⟨r,hr⟩:∃ r,r=a++b:=⟨_,rfl⟩
 rw[←hr] at HFL HF HBD ⊢
 clear hr
 go_enter Tryz.func89,Tryz.ntmps89
 go_wp2_with fail
 refine HC.out.mono ?_
 rintro e w1 ⟨v1,rfl,h1,hb1⟩
 rw[HFL.out] at h1
 obtain⟨A1,c1,rfl,_⟩:=own_form h1
 have HW:=Lib.hid (wsetOf_any A1 c1 r w1 (slW_own HF.out h1) HBD.out)
 have HB1:=Lib.hid hb1
 clear h1 hb1 HC HF HBD HFL
 go_wp2_with fail
 refine HW.out.mono ?_
 rintro e w2 ⟨v2,rfl,h2,hb2⟩
 have HB2:=Lib.hid (HB1.out.trans (hb2.mono HB1.out.size))
 have HO2:=Lib.hid (own_more h2 HB1.out.size)
 obtain⟨A2,c2,rfl,_⟩:=own_form h2
 clear h2 hb2 HW
 go_wp2_with fail
 go_ret
 exact⟨_,rfl,HO2.out,HB2.out⟩
end Go.Proofs.YtfpihflepeiagaaGreatDoor
namespace Go.Proofs.YtfpihflepeiagaaGreatDoor
open Go.RowKit

set_option maxHeartbeats 1000000 in
theorem wordCut_any (x:Wd) (k:Nat) (w:World) (hx:x.length≤maxLen) (hk:k≤4611686018427387904) :
  Calls Tryz.prog 83 #[wv x,.int .i64 k] w fun e w'=>e=.returned (wv (x.take k))∧w'=w:=by
 unfold maxLen at hx
 have hs:(⟨x.toArray⟩:ByteArray).size=x.length:=wv_size x
 go_enter Tryz.func83,Tryz.ntmps83
 have hcl:x.take (max 0 (min (k:Int) (x.length:Int))).toNat=x.take k:=by
  rcases Nat.le_total k x.length with h | h
  ·rw[show (max 0 (min (k:Int) (x.length:Int))).toNat=k by omega]
  ·rw[List.take_of_length_le (by omega),List.take_of_length_le h]
 have HCL:=Lib.hid hcl
 clear hcl
 go_wp2
 all_goals first
  |(go_ret;exact⟨rt1 (vstr (by rw[wv_take,HCL.out])),rfl⟩)
  |(go_ret;exact⟨rt1 (vstr (by rw[wv_take,List.take_of_length_le (Nat.le_refl _),List.take_of_length_le (by omega)])),rfl⟩)
  |(go_ret;exact⟨rt1 (vstr (wv_take x k)),rfl⟩)
  |(have e:x.take k=[]:=by
    rcases (by omega:x.length=0∨k=0) with h | h
    ·rw[List.eq_nil_of_length_eq_zero h,List.take_nil]
    ·rw[h];rfl
    rw[e]
    go_ret
    exact⟨rfl,rfl⟩)
def catTo (x y:Wd) (i:Nat):Wd:=if i=0 then [] else if i=1 then x else x++y
set_option maxHeartbeats 2000000 in
theorem wordCat_any (x y:Wd) (k:Nat) (A:Option Addr) (c:Nat) (w:World) (h1:1≤k) (hk:k≤4611686018427387904) (hxy:x.length+y.length≤4611686018427387904) (h:SlR eW w w.heap.size (.slice A 2 c) [x,y]) :
  Calls Tryz.prog 126 #[.int .i64 k,.slice A 2 c] w fun e w'=>e=.returned (wv ((x++y).take k))∧w'=w:=by
 have HH:=Lib.hid h
 have hc2:=h.n_le
 clear h
 go_enter Tryz.func126,Tryz.ntmps126
 go_wp2_with fail
 go_loopw [10,5] (fun v10 v5 wr=>∃ i:Nat,i≤2∧v10=.int .i64 i∧v5=wv (catTo x y i)∧wr=w∧Hid (i=2→x.length<k)) (fun v10 _ _=>2 - (intOf v10).toNat)
 case atStart=>exact⟨0,by omega,rfl,rfl,rfl,fun h=>by omega⟩
 case round =>
  obtain⟨i,hi,rfl,rfl,rfl,HI⟩:=hrel
  rcases (by omega:i=0∨i=1∨i=2) with rfl | rfl | rfl
  ·obtain⟨b,off,rfl,_,_,hcell⟩:=HH.out.wd (k:=0) (by simp)
   simp only[List.getElem_cons_zero,Nat.add_zero] at hcell
   have hs:(⟨(catTo x y 0).toArray⟩:ByteArray).size=0:=rfl
   have hs2:(catTo x y 0).length=0:=rfl
   have e:(⟨(catTo x y 0).toArray⟩:ByteArray)++⟨x.toArray⟩=⟨(catTo x y 1).toArray⟩:=by rw[wv_app];rfl
   have E:=Lib.hid e
   clear e
   go_wp2_with fail
   rw[E.out]
   exact⟨⟨1,by omega,rfl,rfl,trivial,fun h=>by omega⟩,by decide⟩
  ·obtain⟨b,off,rfl,_,_,hcell⟩:=HH.out.wd (k:=1) (by simp)
   simp only[List.getElem_cons_succ,List.getElem_cons_zero] at hcell
   have hs:(⟨(catTo x y 1).toArray⟩:ByteArray).size=x.length:=wv_size x
   have hs2:(catTo x y 1).length=x.length:=rfl
   have e:(⟨(catTo x y 1).toArray⟩:ByteArray)++⟨y.toArray⟩=⟨(catTo x y 2).toArray⟩:=wv_app x y
   have E:=Lib.hid e
   clear e
   by_cases hlt:x.length<k
   ·go_wp2_with fail
    rw[E.out]
    exact⟨⟨2,by omega,rfl,rfl,trivial,fun _=>hlt⟩,by decide⟩
   ·go_wp2_with fail
    refine (wordCut_any x k wr (by unfold maxLen;omega) hk).mono ?_
    rintro e w2 ⟨rfl,rfl⟩
    go_wp2_with fail
    go_ret
    exact⟨rt1 (by rw[List.take_append_of_le_length (by omega)];rfl),rfl⟩
  ·go_wp2_with fail
   refine (wordCut_any (x++y) k wr (by unfold maxLen;simp;omega) hk).mono ?_
   rintro e w2 ⟨rfl,rfl⟩
   go_wp2_with fail
   go_ret
   exact⟨rfl,rfl⟩
end Go.Proofs.YtfpihflepeiagaaGreatDoor
namespace Go.Proofs.YtfpihflepeiagaaGreatDoor
open Go.RowKit
open Go.ChangeMaps (setBlock)

abbrev epair (e:MapEntry):Value×Value:=(e.key,e.val)
def Stamps (es:List MapEntry) (clock:Nat):Prop:=(∀ x∈es,x.born<clock)∧(es.map (·.born)).Nodup
def MapS {α:Type} (κ:α→Value) (w:World) (g:Nat) (l:List (α×Value)):Prop :=
 ∃ (es:Array MapEntry) (clock:Nat),w.heap[g]? = some (.map es clock)∧es.toList.map epair=l.map (fun p=>(κ p.1,p.2))∧Stamps es.toList clock
def Ranging {α:Type} (κ:α→Value) (w:World) (r g:Nat) (l out:List (α×Value)):Prop :=
 ∃ (es:Array MapEntry) (clock:Nat) (seen:Array Nat) (rest:List (α×Value)),w.heap[r]? = some (.mapIter (some g) clock seen clock)∧w.heap[g]? = some (.map es clock) ∧
  es.toList.map epair=l.map (fun p=>(κ p.1,p.2))∧Stamps es.toList clock∧(leftOf es seen).toList.map epair=rest.map (fun p=>(κ p.1,p.2))∧(out++rest).Perm l

section
variable {α:Type} {κ:α→Value} {w:World} {g:Nat} {l:List (α×Value)}
theorem MapS.toR (h:MapS κ w g l):MapR κ w g l:=by
 obtain⟨es,c,hh,he,_⟩:=h
 exact⟨es,c,hh,he⟩
theorem MapS.made (w:World):MapS κ (w.alloc (.map #[] 0)) w.heap.size []:=⟨#[],0,Go.heap_alloc_new w _,rfl,by simp[Stamps]⟩
theorem MapS.lt (h:MapS κ w g l):g<w.heap.size:=h.toR.lt
theorem MapS.of_block {w':World} (h:MapS κ w g l) (hb:w'.heap[g]? = w.heap[g]?):MapS κ w' g l:=by
 obtain⟨es,c,hh,he⟩:=h
 exact⟨es,c,hb.trans hh,he⟩
theorem MapS.below {B:Nat} {w':World} (h:MapS κ w g l) (hb:Below B w w') (hg:g<B):MapS κ w' g l:=h.of_block (hb.block g hg)
theorem MapS.drew (h:MapS κ w g l):MapS κ w.drew g l:=h
theorem MapS.alloc (h:MapS κ w g l) (o:Obj):MapS κ (w.alloc o) g l:=h.of_block (Below.heap_alloc w o g h.lt)
theorem MapS.grown {row:Option Nat} {w':World} (h:MapS κ w g l) (hg:w.grownBy w' row) (hne:some g≠row):MapS κ w' g l:=h.of_block (hg.block g h.lt hne)
theorem MapS.setCell {p:Addr} {v:Value} (h:MapS κ w g l) (hp:g≠p.block):MapS κ (w.setCell p v) g l:=h.of_block (Below.heap_setCell w p v g hp)
theorem Ranging.lt {r:Nat} {out:List (α×Value)} (h:Ranging κ w r g l out):r<w.heap.size:=by
 obtain⟨es,c,seen,rest,h1,_⟩:=h
 exact (Array.getElem?_eq_some_iff.1 h1).1
theorem Ranging.map {r:Nat} {out:List (α×Value)} (h:Ranging κ w r g l out):MapS κ w g l:=by
 obtain⟨es,c,seen,rest,_,h1,h2,h3,_⟩:=h
 exact⟨es,c,h1,h2,h3⟩
theorem Ranging.le {r:Nat} {out:List (α×Value)} (h:Ranging κ w r g l out):out.length≤l.length:=by
 obtain⟨es,c,seen,rest,_,_,_,_,_,h⟩:=h
 have:=h.length_eq
 simp at this
 omega
end

section
variable {α:Type} [DecidableEq α] {P:Program} {mt kt et:TypeId} {κ:α→Value} {w:World} {g:Nat} {l:List (α×Value)}
theorem grown_setS (w:World) (g:Nat) (o:Obj):w.grownBy { w with heap:=w.heap.setIfInBounds g o } (some g):=⟨rfl,rfl,rfl,by simp,fun k' _ hne=>by
 have:g≠k':=fun e=>hne (by rw[e])
 simp[Array.getElem?_setIfInBounds_ne this]⟩
theorem stamps_push {es:List MapEntry} {c:Nat} (h:Stamps es c) (k v:Value):Stamps (es++[{ key:=k,val:=v,born:=c }]) (c+1):=by
 constructor
 ·intro x hx
  rcases List.mem_append.1 hx with hx | hx
  ·have:=h.1 x hx;omega
  ·simp at hx;subst hx;simp
 ·rw[List.map_append,List.nodup_append]
  refine⟨h.2,by simp,?_⟩
  intro a ha b hb
  obtain⟨x,hx,rfl⟩:=List.mem_map.1 ha
  simp at hb
  have:=h.1 x hx
  omega
theorem MapS.update (K:KeyTy P mt kt et κ) (h:MapS κ w g l) (k:α) (v:Value) :
  ∃ w',(Instr.mapUpdate mt (.map (some g)) (κ k) v).run P w=.ok () w'∧MapS κ w' g (assocSet l k v)∧w.grownBy w' (some g)∧w'.heap.size=w.heap.size:=by
 obtain⟨es,c,hh,he,hst⟩:=h
 have hf:=K.find k l es.toList w he
 have hlt:g<w.heap.size:=(Array.getElem?_eq_some_iff.1 hh).1
 rw[assocSet_idx]
 cases hi:l.findIdx? fun p=>decide (p.1=k) with
 |none =>
  rw[hi] at hf
  simp only[Option.bind_none] at hf
  refine⟨{ w with heap:=w.heap.setIfInBounds g (.map (es.push { key:=κ k,val:=v,born:=c }) (c+1)) },?_,⟨es.push { key:=κ k,val:=v,born:=c },c+1,by simp[hlt],?_,?_⟩,grown_setS w g _,by simp⟩
  ·simp[Instr.mapUpdate,run_underlying K.und,getObj,Sem.run,hh,K.check,hf,setObj,Result.andThen]
  ·simp[he,epair]
  ·rw[Array.toList_push];exact stamps_push hst _ _
 |some i =>
  have hil:i<l.length:=by
   rw[List.findIdx?_eq_some_iff_getElem] at hi
   exact hi.1
  have hik:l[i].1=k:=by
   rw[List.findIdx?_eq_some_iff_getElem] at hi
   simpa using hi.2.1
  have hsz:es.size=l.length:=by
   have:=congrArg List.length he
   simpa using this
  have hie:i<es.size:=by omega
  have hei:(es[i]).key=κ k:=by
   have:=congrArg (fun q=>q[i]?) he
   simp[hil,hie,epair] at this
   rw[this.1,hik]
  rw[hi] at hf
  simp only[Option.bind_some,List.getElem?_eq_getElem hil,Option.map_some] at hf
  refine⟨{ w with heap:=w.heap.setIfInBounds g (.map (es.modify i fun e=>{ e with key:=κ k,val:=v }) c) },?_,⟨es.modify i fun e=>{ e with key:=κ k,val:=v },c,by simp[hlt],?_,?_⟩,grown_setS w g _,by simp⟩
  ·simp[Instr.mapUpdate,run_underlying K.und,getObj,Sem.run,hh,K.check,hf,setObj,Result.andThen,Instr.keyThatStays,hei,hie,K.stays]
  ·apply List.ext_getElem?
   intro j
   have hj:=congrArg (fun q=>q[j]?) he
   simp only[List.getElem?_map,Array.getElem?_toList] at hj ⊢
   rw[Array.getElem?_modify,List.getElem?_set]
   by_cases hji:i=j
   ·subst hji
    simp[hil,hie,epair]
   ·rw[if_neg hji,if_neg hji]
    exact hj
  ·have hb:(es.modify i fun e=>{ e with key:=κ k,val:=v }).toList.map (·.born)=es.toList.map (·.born):=by
    apply List.ext_getElem?
    intro j
    simp only[List.getElem?_map,Array.getElem?_toList,Array.getElem?_modify]
    by_cases hji:i=j
    ·subst hji;simp[hie]
    ·rw[if_neg hji]
   refine⟨fun x hx=>?_,by rw[hb];exact hst.2⟩
   have:x.born∈es.toList.map (·.born):=by rw[←hb];exact List.mem_map.2 ⟨x,hx,rfl⟩
   obtain⟨y,hy,e⟩:=List.mem_map.1 this
   rw[←e];exact hst.1 y hy
end
section
variable {α:Type} {P:Program} {κ:α→Value} {w:World} {g:Nat} {l:List (α×Value)}
theorem left_push {es:Array MapEntry} {seen:Array Nat} {c:Nat} (hst:Stamps es.toList c) {xs ys:List MapEntry} {e:MapEntry} (h:(leftOf es seen).toList=xs++e :: ys):(leftOf es (seen.push e.born)).toList=xs++ys:=by
 have hsub:(leftOf es seen).toList.Sublist es.toList:=by unfold leftOf;rw[Array.toList_filter];exact List.filter_sublist
 have hn:((leftOf es seen).toList.map (·.born)).Nodup:=(hsub.map _).nodup hst.2
 have e1:(leftOf es (seen.push e.born)).toList=(leftOf es seen).toList.filter fun x=>!(x.born==e.born):=by
  unfold leftOf
  rw[Array.toList_filter,Array.toList_filter,List.filter_filter]
  congr 1
  funext x
  rw[contains_push,Bool.not_or,Bool.and_comm]
 rw[e1,h,List.filter_append,List.filter_cons]
 rw[h,List.map_append,List.map_cons,List.nodup_append] at hn
 obtain⟨_,hn2,hn3⟩:=hn
 rw[List.nodup_cons] at hn2
 have f1:xs.filter (fun x=>!(x.born==e.born))=xs:=by
  rw[List.filter_eq_self]
  intro x hx
  have:=hn3 x.born (List.mem_map.2 ⟨x,hx,rfl⟩) e.born (by simp)
  simpa using this
 have f2:ys.filter (fun x=>!(x.born==e.born))=ys:=by
  rw[List.filter_eq_self]
  intro x hx
  have:x.born≠e.born:=fun he=>hn2.1 (List.mem_map.2 ⟨x,hx,he⟩)
  simpa using this
 rw[f1,f2]
 simp
theorem Ranging.next {r:Nat} {out:List (α×Value)} (h:Ranging κ w r g l out) (hne:r≠g) (ty:TypeId) :
  (out.Perm l∧(Instr.next (.pointer (some ⟨r,0,none⟩)) false ty).run P w=.ok (.tuple #[.bool false]) w) ∨
  ∃ (p:α×Value) (w':World),(Instr.next (.pointer (some ⟨r,0,none⟩)) false ty).run P w=.ok (.tuple #[.bool true,κ p.1,p.2]) w'∧Ranging κ w' r g l (out++[p])∧w.grownBy w' (some r)∧w'.heap.size=w.heap.size ∧
   (Instr.entry (.pointer (some ⟨r,0,none⟩))).run P w'=.ok (.tuple #[κ p.1,p.2]) w':=by
 obtain⟨es,c,seen,rest,h1,h2,h3,h4,h5,h6⟩:=h
 rcases run_next_at (P:=P) w ty r g c c seen es c h1 h2 h4.1 (Nat.le_refl _) with ⟨h0,hrun⟩ | ⟨e,he,w1,hw1,hrun⟩
 ·left
  have hr:rest=[]:=by
   have:=congrArg List.length h5
   simp[h0] at this
   exact List.eq_nil_of_length_eq_zero this.symm
  subst hr
  exact⟨by simpa using h6,hrun⟩
 ·right
  obtain⟨xs,ys,hxy⟩:=List.append_of_mem he
  have hm:=h5
  rw[hxy,List.map_append,List.map_cons] at hm
  obtain⟨us,bs,rfl,ha,hb⟩:=List.append_eq_map_iff.1 hm
  obtain⟨p,cs,rfl,hp,hc⟩:=List.map_eq_cons_iff.1 hb
  have hpk:e.key=κ p.1∧e.val=p.2:=by
   have:=hp
   simp[epair] at this
   exact⟨this.1.symm,this.2.symm⟩
  have hlt:r<w.heap.size:=(Array.getElem?_eq_some_iff.1 h1).1
  have hr1:w1.heap=w.heap:=by rcases hw1 with rfl | rfl <;> rfl
  have hg1:(setBlock w1 r (.mapIter (some g) c (seen.push e.born) c)).heap[g]? = some (.map es c):=by
   show (w1.heap.setIfInBounds r _)[g]? = _
   rw[Array.getElem?_setIfInBounds_ne hne,hr1,h2]
  have hrr:(setBlock w1 r (.mapIter (some g) c (seen.push e.born) c)).heap[r]? = some (.mapIter (some g) c (seen.push e.born) c):=by
   show (w1.heap.setIfInBounds r _)[r]? = _
   simp[hr1,hlt]
  refine⟨p,setBlock w1 r (.mapIter (some g) c (seen.push e.born) c),by rw[hrun,hpk.1,hpk.2],⟨es,c,seen.push e.born,us++cs,hrr,hg1,h3,h4,?_,?_⟩,?_,?_,?_⟩
  ·rw[left_push h4 hxy,List.map_append,List.map_append,ha,hc]
  ·refine List.Perm.trans ?_ h6
   simp only[List.append_assoc]
   refine List.Perm.append_left out ?_
   simp only[List.singleton_append]
   exact List.perm_middle.symm
  ·have hgr:=grown_setS w1 r (.mapIter (some g) c (seen.push e.born) c)
   rcases hw1 with rfl | rfl
   ·exact hgr
   ·exact⟨hgr.os,hgr.tape,hgr.output,hgr.size,hgr.block⟩
  ·show (w1.heap.setIfInBounds r _).size=_
   rw[Array.size_setIfInBounds,hr1]
  ·have hin:e∈es.toList:=(mem_left he).1
   have:=run_entry_at (P:=P) (setBlock w1 r (.mapIter (some g) c (seen.push e.born) c)) r g c seen es c e hrr hg1 hin h4.2
   rw[this,hpk.1,hpk.2]
end

theorem load_map {P:Program} {w:World} {ty kt et:TypeId} {v:Value} {p:Addr} (hu:P.underlying ty=some (.map kt et)) (hc:w.cell? p=some v):(Instr.loadAt ty (.pointer (some p))).run P w=.ok v w:=by
 have hagg:(isAgg ty).run P w=.ok false w:=by
  unfold isAgg
  rw[Sem.run_bind,run_underlying hu w]
  rfl
 simp[Instr.loadAt,Instr.sureAddr,loadVar,Sem.run_bind,hagg,hc]

abbrev K32:={ k:List UInt8×Int // k.1.length=32 }
instance:Inhabited K32:=⟨⟨(List.replicate 32 0,0),by simp⟩⟩
end Go.Proofs.YtfpihflepeiagaaGreatDoor
namespace Go.Proofs.YtfpihflepeiagaaGreatDoor
open Go.RowKit Go.Sort

theorem wdInt_keys:KeyTy Tryz.prog 98 9 3 wv where
 und:=Tryz.underlying98
 check:=fun b a w=>by
  show (Instr.checkKey b (9999+1) 9 (.string _)).run Tryz.prog w=_
  unfold Instr.checkKey
  simp only[Sem.run_bind,run_underlying Tryz.underlying9,Result.andThen,Sem.run_pure]
 find:=fun k l es w h=>by
  unfold Instr.findKey
  have:=findNow_spec (κ:=wv) (d:=.string) (fun a b:Wd=>(congrArg some ((wv_eq a b).trans (by rw[decide_eq_decide];exact eq_comm)):some ((⟨a.toArray⟩:ByteArray)==⟨b.toArray⟩)=some (decide (b=a)))) k l es 0 h
  simp only[Sem.run_bind,run_underlying Tryz.underlying9,Result.andThen,this,Nat.zero_add,Sem.run_pure]
 stays:=fun a=>by
  rw[show (10000:Nat)=9999+1 from rfl]
  have:=bytes_beq ⟨a.toArray⟩ ⟨a.toArray⟩
  simp[Instr.sameBits,this]
theorem zero_intW (w:World):(zeroValue 3).run Tryz.prog w=.ok (.int .i64 0) w:=by kernel_rfl
theorem assoc_set {α:Type} [DecidableEq α]:∀ (l:List (α×Value)) (k:α) (v:Value) (x:α),assoc (assocSet l k v) x=if x=k then some v else assoc l x
 |[],k,v,x=>by
  unfold assoc assocSet
  by_cases h:k=x
  ·subst h;simp
  ·have h':¬ x=k:=fun e=>h e.symm
   simp[h,h']
 |p :: r,k,v,x=>by
  have ih:=assoc_set r k v x
  unfold assocSet
  by_cases hp:p.1=k
  ·rw[if_pos hp]
   unfold assoc at ih ⊢
   rw[List.find?_cons,List.find?_cons]
   by_cases h:k=x
   ·subst h;simp
   ·have h2:p.1≠x:=by rw[hp];exact h
    have h':¬ x=k:=fun e=>h e.symm
    simp[h,h2,h']
  ·rw[if_neg hp]
   unfold assoc at ih ⊢
   rw[List.find?_cons,List.find?_cons]
   by_cases h:p.1=x
   ·have:x≠k:=by rw[←h];exact hp
    simp[h,this]
   ·simp only[h,decide_false]
    exact ih
def SeenL (l:List (Wd×Value)) (L:List Wd) (N:Nat):Prop:=∀ x,∃ n:Nat,(assoc l x).getD (.int .i64 0)=.int .i64 n∧n≤N∧(n=0↔x∉L)
def putW (L:List Wd) (x:Wd):List Wd:=if x∈L then L else L++[x]
theorem mem_putW {L:List Wd} {x y:Wd}:y∈putW L x↔y∈L∨y=x:=by
 unfold putW
 split
 ·rename_i h;exact⟨.inl,fun h'=>h'.elim id fun e=>e ▸ h⟩
 ·simp
theorem SeenL.nil:SeenL [] [] 0:=fun x=>⟨0,rfl,Nat.le_refl _,by simp⟩
theorem SeenL.put {l:List (Wd×Value)} {L:List Wd} {N:Nat} (h:SeenL l L N) (x:Wd) {n:Nat} (hn:(assoc l x).getD (.int .i64 0)=.int .i64 n) (hle:n≤N):SeenL (assocSet l x (.int .i64 ((n+1:Nat):Int))) (putW L x) (N+1):=by
 intro y
 by_cases e:y=x
 ·subst e
  exact⟨n+1,by rw[assoc_set,if_pos rfl];rfl,by omega,by simp[mem_putW]⟩
 ·obtain⟨m,h1,h2,h3⟩:=h y
  refine⟨m,by rw[assoc_set,if_neg e];exact h1,by omega,?_⟩
  rw[h3,mem_putW]
  simp[e]
theorem own_keep {w w':World} {base:Nat} {e:TypeId} {size n:Nat} {v:Value} {xs:List Value} (h:w.ownsRow base e size v n xs) (hb:∀ k,v.ownBlock=some k→w'.heap[k]? = w.heap[k]?):w'.ownsRow base e size v n xs:=by
 refine⟨h.1,?_⟩
 rcases h.2 with h' | ⟨g,cap,cur,rfl,h1,hh,r⟩
 ·exact .inl h'
 ·exact .inr ⟨g,cap,cur,rfl,h1,(hb g rfl).trans hh,r⟩
structure CatSt (w:World) (g S O C B0:Nat) (L:List Wd) (N:Nat):Prop where
 map:∃ l,MapR wv w g l∧SeenL l L N
 seen:w.heap[S]? = some (.cells #[.map (some g)] 98 (0,0))
 out:∃ v,w.heap[O]? = some (.cells #[v] 22 (0,0))∧w.ownsRow B0 9 1 v L.length (wcells L)
 le:C≤g∧C≤S∧C≤O∧g<B0∧S<B0∧O<B0∧S≠O∧g≠S∧g≠O∧B0≤w.heap.size
def CatTo (w:World) (g S O C B0:Nat) (L:List Wd) (N:Nat) (x:Wd) (e:Ending) (w':World):Prop :=
 e=.returned (.bool (decide ((putW L x).length≤4096)))∧CatSt w' g S O C B0 (putW L x) (N+1)∧Below C w w'
theorem catGrow_any {w:World} {g S O C B0:Nat} {L:List Wd} {N:Nat} (h:CatSt w g S O C B0 L N) {v:Value} (ho:w.heap[O]? = some (.cells #[v] 22 (0,0))) (l:List (Wd×Value)) (hm:MapR wv w g l) (hown:w.ownsRow B0 9 1 v L.length (wcells L)) :
  ∀ (o:Obj) (w1:World) (v':Value) (w':World) (m:Nat) (ys:List Value),w1=w.alloc o→w'.ownsRow B0 9 1 v' m ys→w1.grownBy w' v.ownBlock→w'.heap[O]? = some (.cells #[v] 22 (0,0)) ∧
   (w'.setCell ⟨O,0,none⟩ v').cell? ⟨S,0,none⟩=some (.map (some g))∧(w'.setCell ⟨O,0,none⟩ v').cell? ⟨O,0,none⟩=some v'∧MapR wv (w'.setCell ⟨O,0,none⟩ v') g l∧Below C w (w'.setCell ⟨O,0,none⟩ v') ∧
   (w'.setCell ⟨O,0,none⟩ v').heap[S]? = some (.cells #[.map (some g)] 98 (0,0))∧(w'.setCell ⟨O,0,none⟩ v').heap[O]? = some (.cells #[v'] 22 (0,0))∧(w'.setCell ⟨O,0,none⟩ v').ownsRow B0 9 1 v' m ys:=by
 intro o w1 v' w' m ys e1 hown' hg
 obtain⟨l1,l2,l3,l4,l5,l6,l7,l8,l9,l10⟩:=h.le
 subst e1
 have hb:∀ k,k<B0→w'.heap[k]? = w.heap[k]? := fun k hk=>by
  rw[hg.block k (by rw[World.size_alloc];omega) (fun e=>by have:=(hown.lt k e.symm).1;omega),Below.heap_alloc w o k (by omega)]
 have hS:=(hb S l5).trans h.seen
 have hO:=(hb O l6).trans ho
 have hS2:(w'.setCell ⟨O,0,none⟩ v').heap[S]? = some (.cells #[.map (some g)] 98 (0,0)):=(Below.heap_setCell w' ⟨O,0,none⟩ v' S l7).trans hS
 have hO2:(w'.setCell ⟨O,0,none⟩ v').heap[O]? = some (.cells #[v'] 22 (0,0)):=by
  simp only[World.setCell,Array.getElem?_modify,if_true,hO,Option.map_some]
  rfl
 refine⟨hO,cell0 hS2,cell0 hO2,(hm.of_block (hb g l4)).setCell l9,?_,hS2,hO2,own_keep hown' fun k hk=>Below.heap_setCell w' ⟨O,0,none⟩ v' k ?_⟩
 ·have b1:Below C w (w.alloc o):=(Below.refl _ _).alloc (by omega) _
  have b2:Below C w w':=b1.grown hg (by rw[World.size_alloc];omega) (fun k hk=>by have:=(hown.lt k hk).1;omega)
  exact b2.setCell l3 _
 ·have:=(hown'.lt k hk).1
  show k≠O
  omega
set_option maxRecDepth 100000 in
set_option maxHeartbeats 4000000 in
theorem catClo_any (w:World) (g S O C B0:Nat) (L:List Wd) (N:Nat) (x:Wd) (h:CatSt w g S O C B0 L N) (hL:L.length≤4096) (hN:N≤1152921504606846976) :
  Calls Tryz.prog 125 #[wv x,.pointer (some ⟨S,0,none⟩),.pointer (some ⟨O,0,none⟩)] w (CatTo w g S O C B0 L N x):=by
 obtain⟨l,hm,hs⟩:=h.map
 obtain⟨v,ho,hown⟩:=h.out
 obtain⟨n,hn,hnN,hn0⟩:=hs x
 have c1:=cell0 h.seen
 have c2:=cell0 ho
 obtain⟨A,c,rfl,hc1,hc2⟩:=own_form hown
 have hld:=load_map (P:=Tryz.prog) Tryz.underlying98 c1
 have hlk:=hm.lookup wdInt_keys zero_intW x
 rw[hn] at hlk
 have HS:=Lib.hid hs
 have HN0:=Lib.hid hn0
 have HO:=Lib.hid hown
 have HH:=Lib.hid h
 have HM:=Lib.hid hm
 have HN:=Lib.hid hn
 have HLE:=Lib.hid hnN
 have HNN:=Lib.hid (show n+1≤1152921504606846977 by omega)
 have hnb:(n:Int)≤1152921504606846976:=by omega
 clear hs hn0 hown h hm hn hnN hN
 by_cases hz:n=0
 ·have hq:((n:Int)==0)=true:=by simp;exact hz
  have HZ:=Lib.hid hz
  clear hz
  have HC:=Lib.hid (catGrow_any HH.out ho l HM.out HO.out)
  go_enter Tryz.func125,Tryz.ntmps125
  go_wp2_with (at_builtin;refine wpList_app (m:=1) (n:=L.length) str_appW rfl rfl rfl rfl (HO.out.alloc _) (Rd.row (B:=w.heap.size+1) (Go.heap_alloc_new w _) (by omega)) rfl (fun u hu=>by simp at hu;subst hu;rfl) (by unfold maxLen;omega) (by omega) (by rw[World.size_alloc];have:=HH.out.le;omega) ?_)
  intro v' w' ho' hg' _ _
  obtain⟨A9,c9,rfl,_,_⟩:=own_form ho'
  obtain⟨hO4,c4,c5,hm3,HREST⟩:=HC.out _ _ _ w' _ _ rfl ho' hg'
  have c6:=cell0 hO4
  have c7:w'.frozen? ⟨O,0,none⟩=false:=by simp[World.frozen?,hO4]
  have hld3:=load_map (P:=Tryz.prog) Tryz.underlying98 c4
  have hlk3:=hm3.lookup wdInt_keys zero_intW x
  rw[HN.out] at hlk3
  have HM3:=Lib.hid hm3
  have HR:=Lib.hid HREST
  clear ho' hg' hm3 HREST hld hlk
  generalize hw4:w'.setCell ⟨O,0,none⟩ (Value.slice A9 (L.length+1) c9)=w4 at *
  go_wp2_with (at_mapUpdate;refine wpList_update wdInt_keys rfl rfl rfl rfl rfl HM3.out ?_)
  intro w5 hmp5 hg5 hs5
  obtain⟨r1,r2,r3,r4⟩:=HR.out
  have HPW:=Lib.hid (show putW L x=L++[x] by unfold putW;rw[if_neg (HN0.out.1 HZ.out)])
  have hlt4:=(Array.getElem?_eq_some_iff.1 r3).1
  obtain⟨l1,l2,l3,l4,l5,l6,l7,l8,l9,l10⟩:=HH.out.le
  have ho5:=(hg5.block O hlt4 (fun e=>l9 (by injection e with e;exact e.symm))).trans r3
  have hs5':=(hg5.block S (by have:=(Array.getElem?_eq_some_iff.1 r2).1;exact this) (fun e=>l8 (by injection e with e;exact e.symm))).trans r2
  have hown5:=own_keep r4 fun k hk=>hg5.block k (r4.lt k hk).2 (fun e=>by have h9:=(r4.lt k hk).1;injection e with e;subst e;omega)
  have hb5:=r1.grown hg5 (by omega) (fun k hk=>by injection hk with hk;subst hk;exact l1)
  have hfin:CatSt w5 g S O C B0 (putW L x) (N+1):=by
   rw[HPW.out]
   refine⟨⟨_,hmp5,?_⟩,hs5',⟨_,ho5,by rw[List.length_append];simpa[wcells] using hown5⟩,l1,l2,l3,l4,l5,l6,l7,l8,l9,by have:=r1.size;omega⟩
   have:=HS.out.put x HN.out HLE.out
   rw[HPW.out] at this
   exact this
  have c8:=cell0 ho5
  have HFIN:=Lib.hid hfin
  have HB5:=Lib.hid hb5
  clear hfin hb5 r1 r2 r3 r4 hown5 hs5' l1 l2 l3 l4 l5 l6 l7 l8 l9 l10 hg5 hmp5
  go_wp2_with fail
  go_ret
  exact⟨rt1 (vbool (by rw[HPW.out,List.length_append,List.length_singleton,decide_eq_decide];omega)),HFIN.out,HB5.out⟩
 ·have hq:((n:Int)==0)=false:=by simp;exact hz
  have HZ:=Lib.hid hz
  clear hz
  have HLT:=Lib.hid (Array.getElem?_eq_some_iff.1 ho).1
  have HGO:=Lib.hid (show some O≠some g from fun e=>HH.out.le.2.2.2.2.2.2.2.2.1 (by injection e with e;exact e.symm))
  have HX:=Lib.hid (show putW L x=L by unfold putW;rw[if_pos];exact Decidable.not_not.1 fun hx=>HZ.out (HN0.out.2 hx))
  go_enter Tryz.func125,Tryz.ntmps125
  go_wp2_with (at_mapUpdate;refine wpList_update wdInt_keys rfl rfl rfl rfl rfl HM.out ?_;intro w2 hmp2 hg2 hs2;have c3:=cell0 ((hg2.block O HLT.out HGO.out).trans ho))
  go_ret
  refine⟨rt1 (vbool (by rw[HX.out,decide_eq_decide];omega)),?_,?_⟩
  ·rw[HX.out]
   obtain⟨l1,l2,l3,l4,l5,l6,l7,l8,l9,l10⟩:=HH.out.le
   refine⟨⟨_,hmp2,?_⟩,(hg2.block S (by omega) (fun e=>l8 (by injection e with e;exact e.symm))).trans HH.out.seen,⟨_,(hg2.block O HLT.out HGO.out).trans ho,own_keep HO.out fun k hk=>?_⟩,l1,l2,l3,l4,l5,l6,l7,l8,l9,by omega⟩
   ·have:=HS.out.put x HN.out HLE.out
    rw[HX.out] at this
    exact this
   ·have:=(HO.out.lt k hk)
    exact hg2.block k this.2 (fun e=>by injection e with e;omega)
  ·exact (Below.refl _ _).grown hg2 (Nat.le_trans HH.out.le.1 (Nat.le_of_lt HM.out.lt)) (fun k hk=>by injection hk with hk;subst hk;exact HH.out.le.1)
end Go.Proofs.YtfpihflepeiagaaGreatDoor
