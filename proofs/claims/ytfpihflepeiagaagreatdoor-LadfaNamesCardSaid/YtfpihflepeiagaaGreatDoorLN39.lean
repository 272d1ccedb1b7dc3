/- Texts of this proof joined: Rf12, Rf14a, Rf14b, Rf14c. -/
import Derived.Test.YtfpihflepeiagaaGreatDoorLN05
import Derived.Deep.LoopGhost
import Derived.Test.YtfpihflepeiagaaGreatDoorLN06
import Derived.Test.YtfpihflepeiagaaGreatDoorLN04
namespace Go.Proofs.YtfpihflepeiagaaGreatDoor
open Go.RowKit

set_option maxHeartbeats 800000 in
theorem letter12_any (c:Int) (w:World):Calls Tryz.prog 70 #[.int .u8 c] w fun e w'=>e=.returned (.bool (letterB c))∧w=w':=by
 have hc:c<65∨(65≤c∧c≤90)∨(90<c∧c<97)∨(97≤c∧c≤122)∨122<c:=by omega
 rcases hc with h | h | h | h | h
 all_goals
  go_enter Tryz.func70,Tryz.ntmps70
  go_wp2
  all_goals first
   |(exfalso;omega)
   |(exfalso;simp at *;omega)
   |(go_ret;exact⟨rt1 (vbool (by rw[Bool.eq_iff_iff];simp[letterB] <;> omega)),rfl⟩)
set_option maxHeartbeats 800000 in
theorem more12_any (c:Int) (w:World):Calls Tryz.prog 71 #[.int .u8 c] w fun e w'=>e=.returned (.bool (goesB c))∧w=w':=by
 rcases Bool.eq_false_or_eq_true (letterB c) with hl | hl
 ·have HL:=Lib.hid hl
  go_enter Tryz.func71,Tryz.ntmps71
  go_wp2_with (go_call letter12_any c _ as e w1 ⟨rfl,rfl⟩)
  go_ret
  exact⟨rt1 (vbool (by unfold goesB;rw[HL.out];rfl)),rfl⟩
 ·have HL:=Lib.hid hl
  have hc:c<48∨(48≤c∧c≤57)∨(57<c∧c<95)∨(95≤c∧c≤95)∨95<c:=by omega
  rcases hc with h | h | h | h | h
  all_goals
   go_enter Tryz.func71,Tryz.ntmps71
   go_wp2_with (go_call letter12_any c _ as e w1 ⟨rfl,rfl⟩)
   all_goals first
    |(exfalso;omega)
    |(exfalso;simp at *;omega)
    |(go_ret;exact⟨rt1 (vbool (by rw[Bool.eq_iff_iff];simp[goesB,HL.out] <;> omega)),rfl⟩)
theorem all_take {p:UInt8→Bool} {l:List UInt8} {i:Nat} (h:i<l.length):(l.take (i+1)).all p=((l.take i).all p&&p l[i]):=by
 rw[List.take_succ_eq_append_getElem h,List.all_append]
 simp
theorem all_bad {p:UInt8→Bool} {l:List UInt8} {i:Nat} (h:i<l.length) (hp:p l[i]=false):l.all p=false:=by
 rw[List.all_eq_false]
 exact⟨l[i],List.getElem_mem h,by simp[hp]⟩
set_option maxHeartbeats 1600000 in
theorem name12_any (s:ByteArray) (w:World) (hs:s.size≤maxLen):Calls Tryz.prog 41 #[.string s] w fun e w'=>e=.returned (.bool (isNameB s.data.toList))∧w=w':=by
 unfold maxLen at hs
 have hbt:=bat_get s
 have hlen:s.data.toList.length=s.size:=by simp
 have HDEF:Hid (isNameB s.data.toList=(decide (1≤s.size∧s.size≤32)&&letterB ((s.data.toList.headD 0).toNat:Int)&&s.data.toList.all fun b=>goesB (b.toNat:Int))):=by
  show _=_;unfold isNameB;rw[hlen]
 have hc:s.size<1∨32<s.size∨(1≤s.size∧s.size≤32):=by omega
 rcases hc with h1 | h1 | h1
 ·have HF:=Lib.hid (show isNameB s.data.toList=false by rw[HDEF.out,decide_eq_false (by omega)];rfl)
  go_enter Tryz.func41,Tryz.ntmps41
  go_wp2_with fail
  go_ret
  exact⟨rt1 (vbool HF.out.symm),rfl⟩
 ·have HF:=Lib.hid (show isNameB s.data.toList=false by rw[HDEF.out,decide_eq_false (by omega)];rfl)
  have h0:¬ s.size<1:=by omega
  go_enter Tryz.func41,Tryz.ntmps41
  go_wp2_with fail
  go_ret
  exact⟨rt1 (vbool HF.out.symm),rfl⟩
 ·have hpos:0<s.size:=by omega
  have HH:=Lib.hid (bat_head s h1.1)
  have HD:=Lib.hid (show isNameB s.data.toList=(letterB (bat s 0)&&s.data.toList.all fun b=>goesB (b.toNat:Int)) by rw[HDEF.out,decide_eq_true h1,←HH.out];rfl)
  have h0:decide ((s.size:Int)<1)=false:=by simpa using (show ¬ (s.size:Int)<1 by omega)
  have h2:decide ((32:Int)<(s.size:Int))=false:=by simpa using (show ¬ (32:Int)<s.size by omega)
  cases hb:letterB (bat s 0) with
  |false =>
   have HF:=Lib.hid (show isNameB s.data.toList=false by rw[HD.out,hb];rfl)
   have HB:=Lib.hid hb
   clear hb
   go_enter Tryz.func41,Tryz.ntmps41
   go_wp2_with fail
   go_call letter12_any (bat s 0) _ as e w1 ⟨rfl,rfl⟩
   rw[HB.out]
   go_wp2_with fail
   go_ret
   exact⟨rt1 (vbool HF.out.symm),rfl⟩
  |true =>
   have HF:=Lib.hid (show isNameB s.data.toList=s.data.toList.all fun b=>goesB (b.toNat:Int) by rw[HD.out,hb];rfl)
   have HB:=Lib.hid hb
   clear hb
   go_enter Tryz.func41,Tryz.ntmps41
   go_wp2_with fail
   go_call letter12_any (bat s 0) _ as e w1 ⟨rfl,rfl⟩
   rw[HB.out]
   go_wp2_with fail
   go_loopg [3] s.size (fun left v3 wr=>∃ i:Nat,i≤s.size∧s.size - i≤left∧v3=.int .i64 i∧wr=w∧Hid ((s.data.toList.take i).all (fun b=>goesB (b.toNat:Int))=true))
   case atStart=>exact⟨0,by omega,by omega,rfl,rfl,rfl⟩
   case round =>
    obtain⟨i,hi,hleft,rfl,rfl,HO⟩:=hrel
    by_cases hib:i<s.size
    ·have hil:i<s.data.toList.length:=by rw[hlen];exact hib
     have HT:=Lib.hid (all_take (p:=fun b=>goesB (b.toNat:Int)) hil)
     have HBAD:=Lib.hid (all_bad (p:=fun b=>goesB (b.toNat:Int)) hil)
     have HBL:=Lib.hid (bat_list s i hil)
     rw[←HBL.out] at HT HBAD
     cases hm:goesB (bat s i) with
     |false =>
      have HM:=Lib.hid hm
      have HX:=Lib.hid (HF.out.trans (HBAD.out hm))
      clear hm
      go_wp2_with fail
      go_call more12_any (bat s i) _ as e w1 ⟨rfl,rfl⟩
      rw[HM.out]
      go_wp2_with fail
      go_ret
      exact⟨rt1 (vbool HX.out.symm),rfl⟩
     |true =>
      have HM:=Lib.hid hm
      clear hm
      go_wp2_with fail
      go_call more12_any (bat s i) _ as e w1 ⟨rfl,rfl⟩
      rw[HM.out]
      go_wp2_with fail
      go_roundg (gk - 1)
      case measure=>omega
      case rel=>exact⟨i+1,by omega,by omega,by go_num,rfl,by show _=_;rw[HT.out,HO.out,HM.out];rfl⟩
    ·have HX:=Lib.hid (show isNameB s.data.toList=true by
      have:=HO.out
      rw[List.take_of_length_le (by omega)] at this
      exact HF.out.trans this)
     go_wp2_with fail
     go_ret
     exact⟨rt1 (vbool HX.out.symm),rfl⟩
set_option maxHeartbeats 1600000 in
theorem term12_any (s:ByteArray) (w:World) (hs:s.size≤maxLen):Calls Tryz.prog 43 #[.string s] w fun e w'=>e=.returned (.bool (isTermB s.data.toList))∧w=w':=by
 unfold maxLen at hs
 have hbt:=bat_get s
 have hlen:s.data.toList.length=s.size:=by simp
 have HDEF:Hid (isTermB s.data.toList=(decide (1≤s.size∧s.size≤32)&&s.data.toList.all fun b=>spellsB (b.toNat:Int))):=by
  show _=_;unfold isTermB;rw[hlen]
 have hc:s.size<1∨32<s.size∨(1≤s.size∧s.size≤32):=by omega
 rcases hc with h1 | h1 | h1
 ·have HF:=Lib.hid (show isTermB s.data.toList=false by rw[HDEF.out,decide_eq_false (by omega)];rfl)
  go_enter Tryz.func43,Tryz.ntmps43
  go_wp2_with fail
  go_ret
  exact⟨rt1 (vbool HF.out.symm),rfl⟩
 ·have HF:=Lib.hid (show isTermB s.data.toList=false by rw[HDEF.out,decide_eq_false (by omega)];rfl)
  have h0:¬ s.size<1:=by omega
  go_enter Tryz.func43,Tryz.ntmps43
  go_wp2_with fail
  go_ret
  exact⟨rt1 (vbool HF.out.symm),rfl⟩
 ·have HF:=Lib.hid (show isTermB s.data.toList=s.data.toList.all fun b=>spellsB (b.toNat:Int) by rw[HDEF.out,decide_eq_true h1];rfl)
  have h0:decide ((s.size:Int)<1)=false:=by simpa using (show ¬ (s.size:Int)<1 by omega)
  have h2:decide ((32:Int)<(s.size:Int))=false:=by simpa using (show ¬ (32:Int)<s.size by omega)
  go_enter Tryz.func43,Tryz.ntmps43
  go_wp2_with fail
  go_loopg [3] s.size (fun left v3 wr=>∃ i:Nat,i≤s.size∧s.size - i≤left∧v3=.int .i64 i∧wr=w∧Hid ((s.data.toList.take i).all (fun b=>spellsB (b.toNat:Int))=true))
  case atStart=>exact⟨0,by omega,by omega,rfl,rfl,rfl⟩
  case round =>
   obtain⟨i,hi,hleft,rfl,rfl,HO⟩:=hrel
   by_cases hib:i<s.size
   ·have hil:i<s.data.toList.length:=by rw[hlen];exact hib
    have HT:=Lib.hid (all_take (p:=fun b=>spellsB (b.toNat:Int)) hil)
    have HBAD:=Lib.hid (all_bad (p:=fun b=>spellsB (b.toNat:Int)) hil)
    have HBL:=Lib.hid (bat_list s i hil)
    rw[←HBL.out] at HT HBAD
    obtain⟨x,hx⟩:∃ x,x=bat s i:=⟨_,rfl⟩
    rw[←hx] at HT HBAD
    have HXX:=Lib.hid hx
    have hbx:bat s i=x:=hx.symm
    have hcc:x<32∨(32≤x∧x<39)∨(39≤x∧x≤39)∨(39<x∧x<92)∨(92≤x∧x≤92)∨(92<x∧x≤126)∨126<x:=by omega
    clear hx
    rcases hcc with h | h | h | h | h | h | h
    ·have hsp:spellsB x=false:=by
      unfold spellsB
      simp
      omega
     have e1:(x==39)=false:=by rw[beq_eq_false_iff_ne];omega
     have e2:(x==92)=false:=by rw[beq_eq_false_iff_ne];omega
     have e3:decide (x<32)=true:=by simp;omega
     have e4:decide (126<x)=false:=by simp;omega
     have HX:=Lib.hid (HF.out.trans (HBAD.out hsp))
     clear hsp h
     go_wp2_with fail
     go_ret
     exact⟨rt1 (vbool HX.out.symm),rfl⟩
    ·have hsp:spellsB x=true:=by
      unfold spellsB
      simp
      omega
     have e1:(x==39)=false:=by rw[beq_eq_false_iff_ne];omega
     have e2:(x==92)=false:=by rw[beq_eq_false_iff_ne];omega
     have e3:decide (x<32)=false:=by simp;omega
     have e4:decide (126<x)=false:=by simp;omega
     have HM:=Lib.hid hsp
     clear hsp h
     go_wp2_with fail
     go_roundg (gk - 1)
     case measure=>omega
     case rel=>exact⟨i+1,by omega,by omega,by go_num,rfl,by show _=_;rw[HT.out,HO.out,HM.out];rfl⟩
    ·have hsp:spellsB x=false:=by
      unfold spellsB
      simp
      omega
     have e1:(x==39)=true:=by rw[beq_iff_eq];omega
     have e2:(x==92)=false:=by rw[beq_eq_false_iff_ne];omega
     have e3:decide (x<32)=false:=by simp;omega
     have e4:decide (126<x)=false:=by simp;omega
     have HX:=Lib.hid (HF.out.trans (HBAD.out hsp))
     clear hsp h
     go_wp2_with fail
     go_ret
     exact⟨rt1 (vbool HX.out.symm),rfl⟩
    ·have hsp:spellsB x=true:=by
      unfold spellsB
      simp
      omega
     have e1:(x==39)=false:=by rw[beq_eq_false_iff_ne];omega
     have e2:(x==92)=false:=by rw[beq_eq_false_iff_ne];omega
     have e3:decide (x<32)=false:=by simp;omega
     have e4:decide (126<x)=false:=by simp;omega
     have HM:=Lib.hid hsp
     clear hsp h
     go_wp2_with fail
     go_roundg (gk - 1)
     case measure=>omega
     case rel=>exact⟨i+1,by omega,by omega,by go_num,rfl,by show _=_;rw[HT.out,HO.out,HM.out];rfl⟩
    ·have hsp:spellsB x=false:=by
      unfold spellsB
      simp
      omega
     have e1:(x==39)=false:=by rw[beq_eq_false_iff_ne];omega
     have e2:(x==92)=true:=by rw[beq_iff_eq];omega
     have e3:decide (x<32)=false:=by simp;omega
     have e4:decide (126<x)=false:=by simp;omega
     have HX:=Lib.hid (HF.out.trans (HBAD.out hsp))
     clear hsp h
     go_wp2_with fail
     go_ret
     exact⟨rt1 (vbool HX.out.symm),rfl⟩
    ·have hsp:spellsB x=true:=by
      unfold spellsB
      simp
      omega
     have e1:(x==39)=false:=by rw[beq_eq_false_iff_ne];omega
     have e2:(x==92)=false:=by rw[beq_eq_false_iff_ne];omega
     have e3:decide (x<32)=false:=by simp;omega
     have e4:decide (126<x)=false:=by simp;omega
     have HM:=Lib.hid hsp
     clear hsp h
     go_wp2_with fail
     go_roundg (gk - 1)
     case measure=>omega
     case rel=>exact⟨i+1,by omega,by omega,by go_num,rfl,by show _=_;rw[HT.out,HO.out,HM.out];rfl⟩
    ·have hsp:spellsB x=false:=by
      unfold spellsB
      simp
      omega
     have e1:(x==39)=false:=by rw[beq_eq_false_iff_ne];omega
     have e2:(x==92)=false:=by rw[beq_eq_false_iff_ne];omega
     have e3:decide (x<32)=false:=by simp;omega
     have e4:decide (126<x)=true:=by simp;omega
     have HX:=Lib.hid (HF.out.trans (HBAD.out hsp))
     clear hsp h
     go_wp2_with fail
     go_ret
     exact⟨rt1 (vbool HX.out.symm),rfl⟩
   ·have HX:=Lib.hid (show isTermB s.data.toList=true by
     have:=HO.out
     rw[List.take_of_length_le (by omega)] at this
     exact HF.out.trans this)
    go_wp2_with fail
    go_ret
    exact⟨rt1 (vbool HX.out.symm),rfl⟩
end Go.Proofs.YtfpihflepeiagaaGreatDoor
namespace Go.Proofs.YtfpihflepeiagaaGreatDoor
open Go.RowKit

set_option maxHeartbeats 1600000 in
theorem find14_any (v:Value) (ns:List ByteArray) (s:ByteArray) (w:World) (hv:SlR eStr w w.heap.size v ns) :
  Calls Tryz.prog 42 #[v,.string s] w fun e w'=>e=.returned (.int .i64 (idxOf (fun x=>decide (x=s)) ns))∧w=w':=by
 obtain⟨A,c,rfl,hc1,hc2⟩:=hv.form
 unfold maxLen at hc2
 have HV:=Lib.hid hv
 obtain⟨n,hn⟩:∃ n,n=ns.length:=⟨_,rfl⟩
 rw[←hn] at HV hc1 ⊢
 have HN:=Lib.hid hn
 clear hv hn
 go_enter Tryz.func42,Tryz.ntmps42
 go_wp2_with fail
 go_loopg [5] n (fun left v5 wr=>∃ i:Nat,i≤n∧n - i≤left∧v5=.int .i64 i∧wr=w∧Hid (∀ (j:Nat) (h:j<ns.length),j<i→(fun x=>decide (x=s)) ns[j]=false))
 case atStart=>exact⟨0,by omega,by omega,rfl,rfl,fun j h hj=>by omega⟩
 case round =>
  obtain⟨i,hi,hleft,rfl,rfl,HNO⟩:=hrel
  by_cases hib:i<n
  ·have hil:i<ns.length:=by rw[←HN.out];exact hib
   obtain⟨b,o,cs,rfl,-,-,hrep,hcell⟩:=HV.out.get hil (by decide)
   obtain⟨rfl,hx1⟩:=hrep
   have hc0:=hcell 0 _ rfl
   simp only[show eStr.size=1 from rfl,Nat.mul_one,Nat.add_zero] at hc0
   have HHIT:=Lib.hid (idxOf_hit (p:=fun x=>decide (x=s)) hil HNO.out)
   by_cases he:ns[i]=s
   ·have hb:(ns[i].toList==s.toList)=true:=by rw[he];exact beq_self_eq_true _
    have HX:=Lib.hid (HHIT.out (by simpa using he))
    clear hcell he
    go_wp2_with fail
    go_ret
    exact⟨rt1 (vint HX.out.symm),rfl⟩
   ·have hb:(ns[i].toList==s.toList)=false:=by rw[←beq_toListBytes,bytes_beq,decide_eq_false_iff_not];exact fun e=>he e.symm
    have HE:=Lib.hid he
    clear hcell he
    go_wp2_with fail
    go_roundg (gk - 1)
    case measure=>omega
    case rel=>exact⟨i+1,by omega,by omega,by go_num,rfl,fun j h hj=>by by_cases e:j=i;(subst e;simpa using HE.out);exact HNO.out j h (by omega)⟩
  ·have HX:=Lib.hid (idxOf_miss (p:=fun x=>decide (x=s)) (xs:=ns) fun j h=>HNO.out j h (by have:=HN.out;omega))
   go_wp2_with fail
   go_ret
   exact⟨rt1 (vint HX.out.symm),rfl⟩
set_option maxHeartbeats 1600000 in
theorem same14_any (a b:Value) (xs ys:List Int) (w:World) (ha:SlR eInt w w.heap.size a xs) (hb:SlR eInt w w.heap.size b ys) :
  Calls Tryz.prog 72 #[a,b] w fun e w'=>e=.returned (.bool (decide (xs=ys)))∧Below w.heap.size w w':=by
 obtain⟨A,c,rfl,hc1,hc2⟩:=ha.form
 obtain⟨B,d,rfl,hd1,hd2⟩:=hb.form
 unfold maxLen at hc2 hd2
 by_cases hl:xs.length=ys.length
 ·have hne:((xs.length:Int) != (ys.length:Int))=false:=by simp;omega
  go_enter Tryz.func72,Tryz.ntmps72
  go_wp2
  go_loopw [5] (fun v8 wr=>∃ k:Nat,k≤xs.length∧v8=.int .i64 k∧Hid (∀ (j:Nat) (h:j<xs.length) (h2:j<ys.length),j<k→xs[j]=ys[j])∧Below w.heap.size w wr) (fun v8 _=>xs.length - (intOf v8).toNat)
  case atStart=>exact⟨0,by omega,rfl,fun j h h2 hj=>by omega,Below.refl _ _⟩
  case round =>
   obtain⟨k,hk,rfl,hno,hbr⟩:=hrel
   by_cases hlt:k<xs.length
   ·have hlt2:k<ys.length:=by omega
    obtain⟨ab,ao,cs,rfl,_,hab,hrep,hcell⟩:=(ha.below hbr).get hlt (by decide)
    obtain⟨rfl,hx1,hx2⟩:=hrep
    have hc0:=hcell 0 _ rfl
    obtain⟨bb,bo,cs,rfl,_,hbb,hrep,hcell2⟩:=(hb.below hbr).get hlt2 (by decide)
    obtain⟨rfl,hy1,hy2⟩:=hrep
    have hd0:=hcell2 0 _ rfl
    clear hcell hcell2
    simp only[show eInt.size=1 from rfl,Nat.mul_one,Nat.add_zero] at hc0 hd0
    by_cases heq:xs[k]=ys[k]
    ·have hq:(xs[k] != ys[k])=false:=by simp[heq]
     have HQ:=Lib.hid heq
     clear heq
     go_wp2_with fail
     refine Text.wp_text [] (by kernel_rfl) (by kernel_rfl) (fun Q' hQ'=>?_)
     go_wp2
     refine⟨by rfl,?_⟩
     go_wp2
     go_roundw
     case rel=>exact⟨k+1,by omega,by go_num,fun j h h2 hj=>by by_cases e:j=k;(subst e;exact HQ.out);exact hno.out j h h2 (by omega),hbr.drew⟩
     case measure=>simp[intOf];omega
    ·have hq:(xs[k] != ys[k])=true:=by simp[heq]
     have HQ:=Lib.hid heq
     clear heq
     go_wp2_with fail
     refine Text.wp_text [] (by kernel_rfl) (by kernel_rfl) (fun Q' hQ'=>?_)
     go_wp2
     refine⟨by rfl,?_⟩
     go_wp2
     go_ret
     exact⟨rt1 (vbool (by rw[eq_comm,decide_eq_false_iff_not];intro h;subst h;exact HQ.out rfl)),hbr.drew⟩
   ·have HEQ:Hid (xs=ys):=List.ext_getElem hl fun j h h2=>hno.out j h h2 (by omega)
    go_wp2
    go_ret
    exact⟨rt1 (vbool (by rw[eq_comm,decide_eq_true_eq];exact HEQ.out)),hbr⟩
 ·have hne:((xs.length:Int) != (ys.length:Int))=true:=by simp;omega
  go_enter Tryz.func72,Tryz.ntmps72
  go_wp2
  go_ret
  exact⟨rt1 (vbool (by rw[eq_comm,decide_eq_false_iff_not];intro h;subst h;exact hl rfl)),Below.refl _ _⟩
end Go.Proofs.YtfpihflepeiagaaGreatDoor
namespace Go.Proofs.YtfpihflepeiagaaGreatDoor
open Go.RowKit

set_option maxRecDepth 100000 in
set_option maxHeartbeats 4000000 in
theorem twice14_any (A:Option Addr) (n c:Nat) (rs:List (Int×List Int)) (w:World) (hv:SlR eRule w w.heap.size (.slice A n c) rs) :
  Calls Tryz.prog 44 #[.slice A n c] w fun e w'=>e=.returned (.bool (decide (¬ rs.Nodup)))∧Below w.heap.size w w':=by
 have HV:=Lib.hid hv
 have hnc:=hv.n_le
 have HN:=Lib.hid hv.n_eq
 clear hv
 go_enter Tryz.func44,Tryz.ntmps44
 go_wp2_with fail
 go_loopg [3] n (fun left v3 wr=>∃ i:Nat,i≤n∧n - i≤left∧v3=.int .i64 i∧Hid ((rs.take i).Nodup)∧Hid (Below w.heap.size w wr))
 case atStart=>exact⟨0,by omega,by omega,rfl,by simp[Hid],Below.refl _ _⟩
 case round =>
  obtain⟨i,hi,hleft,rfl,HND,HB⟩:=hrel
  obtain⟨gas,hgas⟩:∃ gas,gas=gk:=⟨_,rfl⟩
  rw[←hgas] at hleft
  have HGK:=Lib.hid hgas
  clear hgas
  generalize wr=wo at *
  by_cases hib:i<n
  ·have hil:i<rs.length:=by rw[←HN.out];exact hib
   go_wp2_with fail
   go_loopg [4] i (fun lft2 v4 wt=>∃ j:Nat,j≤i∧i - j≤lft2∧v4=.int .i64 j∧Hid (∀ (l:Nat) (h:l<rs.length),l<j→rs[l]≠rs[i])∧Hid (Below w.heap.size w wt))
   case atStart=>exact⟨0,by omega,by omega,rfl,fun l h hl=>by omega,HB.out⟩
   case round =>
    clear HB
    obtain⟨j,hj,hlft2,rfl,HNO,HB⟩:=hrel
    by_cases hji:j<i
    ·have hjl:j<rs.length:=by omega
     obtain⟨b1,o1,cs1,rfl,-,hb1,hrep1,hcell1⟩:=(HV.out.below HB.out).get hil (by decide)
     obtain⟨v1,rfl,hv1,hz1,hz2⟩:=eRule_open hrep1
     have x0:=hcell1 0 _ rfl
     have x1:=hcell1 1 _ rfl
     simp only[show eRule.size=2 from rfl,Nat.add_zero,←Nat.add_assoc] at x0 x1
     obtain⟨b2,o2,cs2,he2,-,hb2,hrep2,hcell2⟩:=(HV.out.below HB.out).get hjl (by decide)
     injection he2 with he2
     injection he2 with e1 e2
     subst e1 e2
     obtain⟨v2,rfl,hv2,hz3,hz4⟩:=eRule_open hrep2
     have y0:=hcell2 0 _ rfl
     have y1:=hcell2 1 _ rfl
     simp only[show eRule.size=2 from rfl,Nat.add_zero,←Nat.add_assoc] at y0 y1
     have HXE:=Lib.hid (show rs[j]=rs[i]↔rs[j].1=rs[i].1∧rs[j].2=rs[i].2 from Prod.ext_iff)
     obtain⟨A3,c3,rfl,h31,h32⟩:=hv1.form
     obtain⟨A4,c4,rfl,h41,h42⟩:=hv2.form
     have hbs:=HB.out.size
     have HSAME:=Lib.hid (fun w1 (hb:Below wr.heap.size wr w1)=>same14_any _ _ _ _ w1 (hv1.fut hb hbs (Nat.le_trans hbs hb.size)) (hv2.fut hb hbs (Nat.le_trans hbs hb.size)))
     obtain⟨r,hr⟩:∃ r,r=rs[i]:=⟨_,rfl⟩
     obtain⟨s,hs⟩:∃ s,s=rs[j]:=⟨_,rfl⟩
     rw[←hr] at x0 x1 HXE HSAME
     rw[←hs] at y0 y1 HXE HSAME
     have HR:=Lib.hid hr
     have HS:=Lib.hid hs
     clear hv1 hv2 hcell1 hcell2 hrep1 hrep2 hr hs hz1 hz2 hz3 hz4 h31 h32 h41 h42
     obtain⟨l1,r1⟩:=r
     obtain⟨l2,r2⟩:=s
     simp only at x0 x1 y0 y1
     by_cases hll:l1=l2
     ·have hq:(l1==l2)=true:=by simp[hll]
      have HLL:=Lib.hid hll
      clear hll
      go_wp2_with fail
      refine Text.wp_grow [22] [4,9,16,21] [] (by kernel_rfl) (by kernel_rfl) ?_
      refine Text.wpS_seg 22 _ _ _ _ (by decide) (fun Q' hQ'=>?_)
      simp only[List.take_succ_cons,List.take_zero]
      go_wp2_with fail
      try simp only[Nat.zero_add,List.drop_succ_cons,List.drop_zero]
      refine Text.wpS_one (fun Q' hQ'=>?_)
      go_wp2_with fail
      refine (HSAME.out _ below_drew1).mono ?_
      rintro e w5 ⟨rfl,hb5⟩
      go_wp2_with fail
      refine⟨hb5,?_⟩
      refine Text.wpS_seg 1 _ _ _ _ (by decide) (fun Q' hQ'=>?_)
      simp only[List.take_succ_cons,List.take_zero]
      go_wp2_with fail
      refine⟨by rfl,?_,?_⟩
      ·exact⟨fun _=>⟨_,_,rfl,x0⟩,fun _=>⟨_,_,rfl,y0⟩,fun _=>⟨_,_,rfl,x1⟩,fun _=>⟨_,_,rfl,y1⟩,trivial⟩
      have HB5:=Lib.hid (HB.out.trans ((below_drew1.trans hb5).mono hbs))
      clear hb5
      by_cases hrr:r1=r2
      ·have hd:decide (r1=r2)=true:=by simpa using hrr
       have HX:=Lib.hid (show ¬ rs.Nodup by
        intro hnd
        rw[List.Nodup,List.pairwise_iff_getElem] at hnd
        refine hnd j i hjl hil hji ?_
        rw[←HR.out,←HS.out,HLL.out,hrr])
       go_wp2_with fail
       go_ret
       exact⟨rt1 (vbool (by rw[eq_comm,decide_eq_true_eq];exact HX.out)),HB5.out⟩
      ·have hd:decide (r1=r2)=false:=by simpa using hrr
       have HX:=Lib.hid (show rs[j]≠rs[i] by
        rw[←HR.out,←HS.out]
        intro e
        injection e with e1 e2
        exact hrr e2.symm)
       go_wp2_with fail
       go_roundg (gk - 1)
       case measure=>omega
       case rel=>exact⟨j+1,by omega,by omega,by go_num,fun l h hl=>by by_cases e:l=j;(subst e;exact HX.out);exact HNO.out l h (by omega),HB5.out⟩
     ·have hq:(l1==l2)=false:=by simp[hll]
      have HX:=Lib.hid (show rs[j]≠rs[i] by
       rw[←HR.out,←HS.out]
       intro e
       injection e with e1 e2
       exact hll e1.symm)
      clear hll
      go_wp2_with fail
      refine Text.wp_grow [22] [4,9,16,21] [] (by kernel_rfl) (by kernel_rfl) ?_
      refine Text.wpS_seg 22 _ _ _ _ (by decide) (fun Q' hQ'=>?_)
      simp only[List.take_succ_cons,List.take_zero]
      go_wp2_with fail
      try simp only[Nat.zero_add,List.drop_succ_cons,List.drop_zero]
      refine Text.wpS_one (fun Q' hQ'=>?_)
      go_wp2_with fail
      refine⟨Below.refl _ _,?_⟩
      refine Text.wpS_seg 1 _ _ _ _ (by decide) (fun Q' hQ'=>?_)
      simp only[List.take_succ_cons,List.take_zero]
      go_wp2_with fail
      refine⟨by rfl,?_,?_⟩
      ·exact⟨fun _=>⟨_,_,rfl,x0⟩,fun _=>⟨_,_,rfl,y0⟩,Text.no_want rfl,Text.no_want rfl,trivial⟩
      go_wp2_with fail
      go_roundg (gk - 1)
      case measure=>omega
      case rel=>exact⟨j+1,by omega,by omega,by go_num,fun l h hl=>by by_cases e:l=j;(subst e;exact HX.out);exact HNO.out l h (by omega),HB.out.drew⟩
    ·have HND2:=Lib.hid (show (rs.take (i+1)).Nodup by
      refine (nodup_snoc rs i hil).2 ⟨HND.out,?_⟩
      rw[List.any_eq_false]
      intro x hx
      obtain⟨l,hl,rfl⟩:=List.getElem_of_mem hx
      rw[List.getElem_take]
      rw[List.length_take] at hl
      simpa using HNO.out l (by omega) (by omega))
     go_wp2_with fail
     go_roundg (gas - 1)
     case measure=>have:=HGK.out;omega
     case rel=>exact⟨i+1,by omega,by omega,by go_num,HND2.out,HB.out⟩
  ·have HX:=Lib.hid (show rs.Nodup by
    have:=HND.out
    rwa [List.take_of_length_le (by have:=HN.out;omega)] at this)
   go_wp2_with fail
   go_ret
   exact⟨rt1 (vbool (by rw[eq_comm,decide_eq_false_iff_not];exact fun h=>h HX.out)),HB.out⟩
end Go.Proofs.YtfpihflepeiagaaGreatDoor
namespace Go.Proofs.YtfpihflepeiagaaGreatDoor

theorem nodup_idx {α:Type} [DecidableEq α] (xs:List α):xs.Nodup↔∀ (j:Nat) (h:j<xs.length),idxOf (fun x=>decide (x=xs[j])) xs=j:=by
 constructor
 ·intro hn j h
  refine idxOf_hit h (fun l hl hlj=>?_) (by simp)
  rw[List.Nodup,List.pairwise_iff_getElem] at hn
  simpa using hn l j hl h hlj
 ·intro h
  rw[List.Nodup,List.pairwise_iff_getElem]
  intro i j hi hj hij he
  have h1:=h i hi
  have h2:=h j hj
  rw[he,h2] at h1
  omega
theorem ofTo_ne (rs:List (Int×List Int)) (left:Int):(ofTo rs left rs.length).length≠0↔∃ r∈rs,r.1=left:=by
 unfold ofTo
 rw[List.length_map]
 constructor
 ·intro h
  obtain⟨i,hi⟩:=List.exists_mem_of_length_pos (Nat.pos_of_ne_zero h)
  rw[List.mem_filter,List.mem_range,decide_eq_true_eq] at hi
  refine⟨rs[i]'hi.1,List.getElem_mem hi.1,?_⟩
  have:=hi.2
  rwa [List.getD_eq_getElem?_getD,List.getElem?_eq_getElem hi.1] at this
 ·rintro⟨r,hr,he⟩ h0
  obtain⟨i,hi,rfl⟩:=List.getElem_of_mem hr
  have:=List.eq_nil_of_length_eq_zero h0
  rw[List.filter_eq_nil_iff] at this
  refine this i (List.mem_range.2 hi) ?_
  rw[decide_eq_true_eq,List.getD_eq_getElem?_getD,List.getElem?_eq_getElem hi]
  exact he
def NameAt (ns:List ByteArray) (rs:List (Int×List Int)) (j:Nat):Prop:=∀ h:j<ns.length,isNameB ns[j].data.toList=true∧idxOf (fun x=>decide (x=ns[j])) ns=j∧∃ r∈rs,r.1=(j:Int)
def TermAt (ts:List ByteArray) (j:Nat):Prop:=∀ h:j<ts.length,isTermB ts[j].data.toList=true∧idxOf (fun x=>decide (x=ts[j])) ts=j
theorem all_at {α:Type} (xs:List α) (p:α→Bool):xs.all p=true↔∀ (j:Nat) (h:j<xs.length),p xs[j]=true:=by
 rw[List.all_eq_true]
 exact⟨fun h j hj=>h _ (List.getElem_mem hj),fun h x hx=>by obtain⟨j,hj,rfl⟩:=List.getElem_of_mem hx;exact h j hj⟩
theorem gramB_iff (ns ts:List ByteArray) (rs:List (Int×List Int)):gramB (ns,ts,rs)=true↔ns.length≠0∧ns.length+ts.length≤256∧rs.length≤4096∧(∀ j,NameAt ns rs j)∧(∀ j,TermAt ts j)∧(∀ (j:Nat) (h:j<rs.length),fitsB ns.length ts.length rs[j]=true)∧rs.Nodup:=by
 simp only[gramB,distinctB,Bool.and_eq_true,decide_eq_true_eq,all_at,List.getElem_range,List.length_range,ofTo_ne,nodup_idx ns,nodup_idx ts]
 constructor
 ·rintro⟨⟨⟨⟨⟨⟨⟨h1,h2⟩,h3⟩,h4,h5⟩,h6,h7⟩,h8⟩,h9⟩,h10⟩
  exact⟨h1,h2,h3,fun j h=>⟨h4 j h,h5 j h,h9 j h⟩,fun j h=>⟨h6 j h,h7 j h⟩,h8,h10⟩
 ·rintro⟨h1,h2,h3,h4,h5,h6,h7⟩
  exact⟨⟨⟨⟨⟨⟨⟨h1,h2⟩,h3⟩,fun j h=>(h4 j h).1,fun j h=>(h4 j h).2.1⟩,fun j h=>(h5 j h).1,fun j h=>(h5 j h).2⟩,h6⟩,fun j h=>(h4 j h).2.2⟩,h7⟩
end Go.Proofs.YtfpihflepeiagaaGreatDoor
