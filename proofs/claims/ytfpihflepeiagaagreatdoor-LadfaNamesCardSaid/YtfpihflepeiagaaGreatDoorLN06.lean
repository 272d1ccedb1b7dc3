/- Texts of this proof joined: Gram2, Gram3, WSet, FirstW. -/
import Derived.Test.YtfpihflepeiagaaGreatDoorLN05
import Derived.Carry
import Derived.Maps.Own
import Derived.Lib.SlicesCompact
namespace Go.Proofs.YtfpihflepeiagaaGreatDoor
open Go.RowKit

def badSym (n m:Nat) (s:Int):Bool:=decide ((n:Int)≤s)||decide (s < -(m:Int))
theorem fits_clo (g:Nat) (A1 A2:Option Addr) (n m c d:Nat) (s:Int) (w:World) (h1:w.cell? ⟨g,0,none⟩=some (.slice A1 n c)) (h2:w.cell? ⟨g,1,none⟩=some (.slice A2 m d)) (hm:m≤9223372036854775807) :
  Calls Tryz.prog 163 #[.int .i64 s,.pointer (some ⟨g,0,none⟩)] w fun e w'=>e=.returned (.bool (badSym n m s))∧w=w':=by
 by_cases hb:(n:Int)≤s
 ·have hd:decide ((n:Int)≤s)=true:=by simpa using hb
  go_enter Tryz.func163,Tryz.ntmps163
  go_wp2
  go_ret
  exact⟨rt1 (vbool (by unfold badSym;rw[hd];rfl)),rfl⟩
 ·have hd:decide ((n:Int)≤s)=false:=by simpa using hb
  have HD:=Lib.hid hd
  go_enter Tryz.func163,Tryz.ntmps163
  go_wp2
  all_goals
   go_ret
   exact⟨rt1 (vbool (by rw[Bool.eq_iff_iff];simp[badSym] <;> omega)),rfl⟩

def fitsB (n m:Nat) (r:Int×List Int):Bool:=decide (0≤r.1∧r.1<n)&&decide (r.2.length≤64)&&!r.2.any (badSym n m)
set_option maxHeartbeats 1000000 in
theorem fits_any (A1 A2:Option Addr) (v3 v:Value) (n m c d:Nat) (l:Int) (r:List Int) (w:World) (hm:m≤9223372036854775807) (hv:SlR eInt w w.heap.size v r) :
  Calls Tryz.prog 143 #[.agg #[.slice A1 n c,.slice A2 m d,v3],.agg #[.int .i64 l,v]] w fun e w'=>e=.returned (.bool (fitsB n m (l,r)))∧Below w.heap.size w w':=by
 obtain⟨B,e,rfl,he1,he2⟩:=hv.form
 unfold maxLen at he2
 by_cases h1:0≤l∧l<n∧r.length≤64
 ·obtain⟨g1,g2,g3⟩:=h1
  have HD:Hid (fitsB n m (l,r)=!r.any (badSym n m)):=by
   show _=_
   unfold fitsB
   simp[g1,g2,g3]
  go_enter Tryz.func143,Tryz.ntmps143
  go_wp2_with fail
  have HW:Hid (∃ W:World,W=(w.alloc (Obj.cells #[Value.slice A1 n c,Value.slice A2 m d,v3] 25)).alloc (Obj.cells #[Value.int IntKind.i64 l,Value.slice B r.length e] 55)):=⟨_,rfl⟩
  have hbw:Below w.heap.size w ((w.alloc (Obj.cells #[Value.slice A1 n c,Value.slice A2 m d,v3] 25)).alloc (Obj.cells #[Value.int IntKind.i64 l,Value.slice B r.length e] 55)):=by go_grown
  refine (conf_int 163 #[.pointer (some ⟨w.heap.size,0,none⟩)] (badSym n m) _ r _ (hv.next hbw (by simp;omega)) (fun _ _=>by kernel_rfl) ?_).mono ?_
  ·intro cs x w2 hx hb2 _
   refine (fits_clo w.heap.size A1 A2 n m c d x w2 ?_ ?_ hm).mono fun e w3 ⟨he,hw⟩=>⟨he,hw ▸ Below.refl _ _⟩
   ·rw[hb2.cell (p:=⟨w.heap.size,0,none⟩) (by simp;omega)];simp
   ·rw[hb2.cell (p:=⟨w.heap.size,1,none⟩) (by simp;omega)];simp
  rintro e w1 ⟨rfl,hb1⟩
  go_wp2
  go_ret
  exact⟨rt1 (vbool (by rw[HD.out])),hbw.trans (hb1.mono (by simp;omega))⟩
 ·have HD:Hid (fitsB n m (l,r)=false):=by
   show _=_
   unfold fitsB
   rw[Bool.eq_false_iff]
   intro h
   simp at h
   exact h1 ⟨h.1.1.1,h.1.1.2,h.1.2⟩
  have hc:l<0∨(0≤l∧(n:Int)≤l)∨(0≤l∧l<n∧64<r.length):=by omega
  rcases hc with h | ⟨h,h'⟩ | ⟨h,h',h''⟩
  all_goals
   go_enter Tryz.func143,Tryz.ntmps143
   go_wp2
   all_goals first
    |(exfalso;omega)
    |(exfalso;simp at *;omega)
    |(go_ret;exact⟨rt1 (vbool (by rw[HD.out])),by go_grown⟩)

def ofTo (rs:List (Int×List Int)) (left:Int) (k:Nat):List Int:=((List.range k).filter fun i:Nat=>decide ((rs.getD i (0,[])).1=left)).map fun i:Nat=>Int.ofNat i
theorem ofTo_succ (rs:List (Int×List Int)) (left:Int) (k:Nat) (h:k<rs.length):ofTo rs left (k+1)=ofTo rs left k++if rs[k].1=left then [(k:Int)] else []:=by
 unfold ofTo
 rw[List.range_succ,List.filter_append,List.map_append]
 simp[List.getD_eq_getElem?_getD,List.getElem?_eq_getElem h,List.filter_cons]
 split <;> simp
theorem ofTo_le (rs:List (Int×List Int)) (left:Int) (k:Nat):(ofTo rs left k).length≤k:=by
 unfold ofTo
 rw[List.length_map]
 exact Nat.le_trans (List.length_filter_le _ _) (by simp)
theorem int_app:AppTy Tryz.prog 39 3 1 8 (.int .i64 0):=appTy Tryz.underlying39 (by kernel_rfl) rfl (by omega)
def icells (l:List Int):List Value:=l.map (Value.int .i64)
set_option maxHeartbeats 1000000 in
theorem gram_of (A1 A2:Option Addr) (v3:Value) (n m c d:Nat) (left:Int) (rs:List (Int×List Int)) (w:World) (hv:SlR eRule w w.heap.size v3 rs) (hr:rs.length≤1099511627776) :
  Calls Tryz.prog 94 #[.agg #[.slice A1 n c,.slice A2 m d,v3],.int .i64 left] w fun e w'=>∃ v,e=.returned v ∧
   w'.ownsRow w.heap.size 3 1 v (ofTo rs left rs.length).length (icells (ofTo rs left rs.length))∧Below w.heap.size w w':=by
 obtain⟨B,e,rfl,he1,he2⟩:=hv.form
 unfold maxLen at he2
 go_enter Tryz.func94,Tryz.ntmps94
 go_wp2_with fail
 go_loopw [5,11] (fun v5 v11 wr=>∃ k:Nat,k≤rs.length∧v11=.int .i64 k∧wr.ownsRow w.heap.size 3 1 v5 (ofTo rs left k).length (icells (ofTo rs left k))∧Below w.heap.size w wr) (fun _ v11 _=>rs.length - (intOf v11).toNat)
 case atStart=>exact⟨0,by omega,rfl,by simpa[ofTo,icells] using World.ownsRow_nil _ _ _ _,by go_grown⟩
 case round =>
  obtain⟨k,hk,rfl,hown,hbr⟩:=hrel
  by_cases hlt:k<rs.length
  ·obtain⟨ab,ao,cs,rfl,_,hab,hrep,hcell⟩:=(hv.below hbr).get hlt (by decide)
   obtain⟨u,rfl,hu,hz1,hz2⟩:=eRule_open hrep
   obtain⟨A3,e3,rfl,_,_⟩:=hu.form
   have hc0:=hcell 0 _ rfl
   have hc1':=hcell 1 _ rfl
   clear hcell
   simp only[show eRule.size=2 from rfl,Nat.add_zero,←Nat.add_assoc] at hc0 hc1'
   have hsn:=Lib.hid (ofTo_succ rs left k hlt)
   have hle:=ofTo_le rs left k
   have hbs:=hbr.size
   by_cases hq:rs[k].1=left
   ·have hqb:(rs[k].1==left)=true:=by simp[hq]
    have HQ:=Lib.hid hq
    clear hq
    go_wp2_with (at_builtin;refine wpList_app int_app rfl rfl rfl rfl ((hown.alloc _).alloc _) (Rd.row (B:=wr.heap.size+2) (heap_two wr _ _) (by omega)) rfl (by simp[Value.oneCell']) ?h63 ?hby ?hbase ?_)
    case h63=>simp only[maxLen];omega
    case hby=>omega
    case hbase=>simp;omega
    intro v1 w3 hown3 hg3 _ _
    go_wp2
    go_roundw
    case rel =>
     refine⟨k+1,by omega,by go_num,?_,?_⟩
     ·rw[hsn.out,if_pos HQ.out]
      simpa[icells] using hown3
     ·exact grown_below ((hbr.alloc hbs _).alloc (by simp;omega) _) hg3 ((hown.alloc _).alloc _) (Nat.le_refl _) (by simp;omega)
    case measure=>simp[intOf];omega
   ·have hqb:(rs[k].1==left)=false:=by simp[hq]
    have HQ:=Lib.hid hq
    clear hq
    go_wp2
    go_roundw
    case rel=>exact⟨k+1,by omega,by go_num,by rw[hsn.out,if_neg HQ.out,List.append_nil];exact hown.alloc _,hbr.alloc hbs _⟩
    case measure=>simp[intOf];omega
  ·have hkl:k=rs.length:=by omega
   subst hkl
   go_wp2
   go_ret
   exact⟨_,rfl,hown,hbr⟩

def distinctB (may:List UInt8→Bool) (ns:List ByteArray):Bool:=ns.all (fun s=>may s.data.toList)&&decide ns.Nodup
def onesOf (ns:List ByteArray):List (ByteArray×Value):=ns.map fun n=>(n,.int .i64 1)
theorem assoc_ones (ns:List ByteArray) (s:ByteArray):assoc (onesOf ns) s=if ns.any (fun n=>decide (n=s)) then some (Value.int .i64 1) else none:=by
 unfold assoc onesOf
 induction ns with
 |nil=>rfl
 |cons n ns ih =>
  rw[List.map_cons,List.find?_cons]
  by_cases h:n=s
  ·subst h;simp
  ·simp only[h,decide_false,List.any_cons,Bool.false_or]
   rw[ih]
theorem assocSet_ones (ns:List ByteArray) (s:ByteArray) (v:Value) (h:s∉ns):assocSet (onesOf ns) s v=onesOf ns++[(s,v)]:=by
 induction ns with
 |nil=>rfl
 |cons n ns ih =>
  simp only[List.mem_cons,not_or] at h
  show assocSet ((n,Value.int .i64 1) :: onesOf ns) s v=_
  unfold assocSet
  rw[if_neg (Ne.symm h.1),ih h.2]
  rfl
theorem onesOf_snoc (ns:List ByteArray) (k:Nat) (h:k<ns.length):onesOf (ns.take (k+1))=onesOf (ns.take k)++[(ns[k],.int .i64 1)]:=by
 rw[List.take_succ_eq_append_getElem h];unfold onesOf;rw[List.map_append];rfl
theorem strInt_keys:KeyTy Tryz.prog 98 9 3 Value.string:=keyTy_str Tryz.underlying98 Tryz.underlying9
theorem zero_int (w:World):(zeroValue 3).run Tryz.prog w=.ok (.int .i64 0) w:=by kernel_rfl
end Go.Proofs.YtfpihflepeiagaaGreatDoor
namespace Go.Proofs.YtfpihflepeiagaaGreatDoor
open Go.RowKit

theorem not_mem_any {ns:List ByteArray} {s:ByteArray} (h:(ns.any fun x=>decide (x=s))=false):s∉ns:=by
 intro hm
 rw[←Bool.not_eq_true,List.any_eq_true] at h
 exact h ⟨s,hm,by simp⟩
set_option maxHeartbeats 1000000 in
theorem distinct_any (F:FuncId) (may:List UInt8→Bool) (v:Value) (ns:List ByteArray) (w:World) (hv:SlR eStr w w.heap.size v ns)
  (hF:∀ (args:Array Value) (w:World),(callFunc F args).run Tryz.prog w=.ok (.enter F args) w)
  (hp:∀ (s:ByteArray) (w:World),s.size≤maxLen→Calls Tryz.prog F #[.string s] w fun e w'=>e=.returned (.bool (may s.data.toList))∧w=w') :
  Calls Tryz.prog 140 #[v,.func (.func F) #[] #[]] w fun e w'=>e=.returned (.bool (distinctB may ns))∧Below w.heap.size w w':=by
 have hmm:=@run_makeMap Tryz.prog
 have HP:=Lib.hid hp
 clear hp
 obtain⟨A,c,rfl,hc1,hc2⟩:=hv.form
 unfold maxLen at hc2
 go_enter Tryz.func140,Tryz.ntmps140
 go_wp2_with fail
 go_loopw [11] (fun v11 wr=>∃ k:Nat,k≤ns.length∧v11=.int .i64 k∧Hid ((∀ s∈ns.take k,may s.data.toList=true)∧(ns.take k).Nodup)∧MapR Value.string wr w.heap.size (onesOf (ns.take k))∧Below w.heap.size w wr) (fun v11 _=>ns.length - (intOf v11).toNat)
 case atStart=>exact⟨0,by omega,rfl,by simp[Hid],MapR.made w,by go_grown⟩
 case round =>
  obtain⟨k,hk,rfl,hno,hmp,hbr⟩:=hrel
  by_cases hlt:k<ns.length
  ·obtain⟨ab,ao,cs,rfl,_,hab,hrep,hcell⟩:=(hv.below hbr).get hlt (by decide)
   obtain⟨rfl,hx1⟩:=hrep
   have hc0:=hcell 0 _ rfl
   clear hcell
   simp only[show eStr.size=1 from rfl,Nat.mul_one,Nat.add_zero] at hc0
   have HX:=Lib.hid hx1
   have hsn:=Lib.hid (nodup_snoc ns k hlt)
   have hon:=Lib.hid (onesOf_snoc ns k hlt)
   have hlk:=hmp.lookup strInt_keys zero_int ns[k]
   rw[assoc_ones] at hlk
   rcases Bool.eq_false_or_eq_true (may ns[k].data.toList) with hm | hm
   ·have HM:=Lib.hid hm
    clear hm
    rcases Bool.eq_false_or_eq_true ((ns.take k).any fun x=>decide (x=ns[k])) with hany | hany
    ·rw[hany,if_pos rfl] at hlk
     have HA:=Lib.hid hany
     clear hany
     simp only[Option.getD_some] at hlk
     go_wp2_with fail
     refine (HP.out ns[k] wr HX.out).mono ?_
     rintro e w1 ⟨rfl,rfl⟩
     rw[HM.out]
     go_wp2_with fail
     go_ret
     refine⟨rt1 (vbool ?_),hbr⟩
     rw[eq_comm,distinctB,Bool.and_eq_false_iff]
     right
     rw[decide_eq_false_iff_not]
     intro hnd
     have h3:=hsn.out.1 (hnd.sublist (List.take_sublist _ _))
     rw[HA.out] at h3
     cases h3.2
    ·rw[hany,if_neg (by decide)] at hlk
     have HA:=Lib.hid hany
     clear hany
     simp only[Option.getD_none] at hlk
     go_wp2_with fail
     refine (HP.out ns[k] wr HX.out).mono ?_
     rintro e w1 ⟨rfl,rfl⟩
     rw[HM.out]
     go_wp2_with (at_mapUpdate;refine wpList_update strInt_keys rfl rfl rfl rfl rfl hmp ?_;intro w2 hmp2 hg2 hs2)
     have hmp3:MapR Value.string w2 w.heap.size (onesOf (ns.take (k+1))):=by rw[hon.out,←assocSet_ones _ _ _ (not_mem_any HA.out)];exact hmp2
     go_wp2
     go_roundw
     case rel =>
      refine⟨k+1,by omega,by go_num,⟨fun s hs=>?_,hsn.out.2 ⟨hno.out.2,HA.out⟩⟩,hmp3,hbr.grown hg2 hbr.size (fun j hj=>by cases hj;exact Nat.le_refl _)⟩
      rw[List.take_succ_eq_append_getElem hlt,List.mem_append,List.mem_singleton] at hs
      rcases hs with hs | rfl
      ·exact hno.out.1 s hs
      ·exact HM.out
     case measure=>simp[intOf];omega
   ·have HM:=Lib.hid hm
    clear hm
    go_wp2_with fail
    refine (HP.out ns[k] wr HX.out).mono ?_
    rintro e w1 ⟨rfl,rfl⟩
    rw[HM.out]
    go_wp2
    go_ret
    refine⟨rt1 (vbool ?_),hbr⟩
    rw[eq_comm,distinctB,Bool.and_eq_false_iff]
    left
    rw[←Bool.not_eq_true,List.all_eq_true]
    intro h
    have:=h _ (List.getElem_mem hlt)
    rw[HM.out] at this
    cases this
  ·go_wp2
   go_ret
   refine⟨rt1 (vbool ?_),hbr⟩
   have h:=hno.out
   rw[List.take_of_length_le (by omega)] at h
   rw[eq_comm,distinctB,Bool.and_eq_true,List.all_eq_true,decide_eq_true_eq]
   exact h

theorem isTermSym_any (s:Int) (w:World):Calls Tryz.prog 88 #[.int .i64 s] w fun e w'=>e=.returned (.bool (decide (s<0)))∧w=w':=by
 go_enter Tryz.func88,Tryz.ntmps88
 go_wp2
 go_ret
 exact⟨rfl,rfl⟩

abbrev Gram:=List ByteArray×List ByteArray×List (Int×List Int)
def gramB (g:Gram):Bool:=decide (g.1.length≠0)&&decide (g.1.length+g.2.1.length≤256)&&decide (g.2.2.length≤4096)&&distinctB isNameB g.1&&distinctB isTermB g.2.1 &&
 g.2.2.all (fitsB g.1.length g.2.1.length)&&(List.range g.1.length).all (fun i=>decide ((ofTo g.2.2 i g.2.2.length).length≠0))&&decide g.2.2.Nodup
set_option maxHeartbeats 2000000 in
theorem gramValid_any (v1 v2 v3:Value) (ns ts:List ByteArray) (rs:List (Int×List Int)) (w:World) (hsz:ns.length+ts.length≤4611686018427387904) (h1:SlR eStr w w.heap.size v1 ns) (h2:SlR eStr w w.heap.size v2 ts) (h3:SlR eRule w w.heap.size v3 rs) :
  Calls Tryz.prog 119 #[.agg #[v1,v2,v3]] w fun e w'=>e=.returned (.bool (gramB (ns,ts,rs)))∧Below w.heap.size w w':=by
 obtain⟨A1,c1,rfl,hc1,hc1'⟩:=h1.form
 obtain⟨A2,c2,rfl,hc2,hc2'⟩:=h2.form
 obtain⟨A3,c3,rfl,hc3,hc3'⟩:=h3.form
 unfold maxLen at hc1' hc2' hc3'
 have hcase:ns.length=0∨(0<ns.length∧256<ns.length+ts.length)∨(0<ns.length∧ns.length+ts.length≤256∧4096<rs.length)∨(0<ns.length∧ns.length+ts.length≤256∧rs.length≤4096):=by omega
 by_cases hgood:0<ns.length∧ns.length+ts.length≤256∧rs.length≤4096
 case neg =>
  have HF:Hid (gramB (ns,ts,rs)=false):=by
   show _=_
   rw[←Bool.not_eq_true]
   intro h
   simp only[gramB,Bool.and_eq_true,decide_eq_true_eq] at h
   obtain⟨⟨⟨⟨⟨⟨⟨a1,a2⟩,a3⟩,_⟩,_⟩,_⟩,_⟩,_⟩:=h
   exact hgood ⟨by omega,a2,a3⟩
  rcases hcase with h | ⟨h0,h⟩ | ⟨h0,h0',h⟩ | h
  case inr.inr.inr=>exact absurd h hgood
  all_goals
   first
    |(have hz:((ns.length:Int)==0)=true:=by simp;exact List.eq_nil_of_length_eq_zero h)
    |(have hz:((ns.length:Int)==0)=false:=by simp;intro e;subst e;simp at h0)
   go_enter Tryz.func119,Tryz.ntmps119
   go_wp2_with fail
   all_goals first
    |(exfalso;omega)
    |(go_ret;exact⟨rt1 (vbool HF.out.symm),by go_grown⟩)
    |(exfalso;simp at *;omega)
 clear hcase
 obtain⟨g1,g2,g3⟩:=hgood
 have hz:((ns.length:Int)==0)=false:=by simp;intro e;subst e;simp at g1
 have HDEF:Hid (gramB (ns,ts,rs)=(distinctB isNameB ns&&distinctB isTermB ts&&rs.all (fitsB ns.length ts.length)&&(List.range ns.length).all (fun i=>decide ((ofTo rs i rs.length).length≠0))&&decide rs.Nodup)):=by
  show _=_
  unfold gramB
  simp only[show decide (ns.length+ts.length≤256)=true by simpa using g2,show decide (rs.length≤4096)=true by simpa using g3,show decide (ns.length≠0)=true from decide_eq_true (by omega),Bool.true_and]
 have hsum:((ns.length:Int)+ts.length)≤256:=by omega
 have hrl:((rs.length:Int))≤4096:=by omega
 go_enter Tryz.func119,Tryz.ntmps119
 go_wp2_with fail
 have HW:Hid (Below w.heap.size w (w.alloc (Obj.cells #[Value.slice A1 ns.length c1,Value.slice A2 ts.length c2,Value.slice A3 rs.length c3] 25))):=(Below.refl _ _).alloc (Nat.le_refl _) _
 have HS:Hid ((w.alloc (Obj.cells #[Value.slice A1 ns.length c1,Value.slice A2 ts.length c2,Value.slice A3 rs.length c3] 25)).heap.size=w.heap.size+1):=by show _=_;simp
 have k0:(w.alloc (Obj.cells #[Value.slice A1 ns.length c1,Value.slice A2 ts.length c2,Value.slice A3 rs.length c3] 25)).cell? ⟨w.heap.size,0,none⟩=some (Value.slice A1 ns.length c1):=by simp
 have k1:(w.alloc (Obj.cells #[Value.slice A1 ns.length c1,Value.slice A2 ts.length c2,Value.slice A3 rs.length c3] 25)).cell? ⟨w.heap.size,1,none⟩=some (Value.slice A2 ts.length c2):=by simp
 have k2:(w.alloc (Obj.cells #[Value.slice A1 ns.length c1,Value.slice A2 ts.length c2,Value.slice A3 rs.length c3] 25)).cell? ⟨w.heap.size,2,none⟩=some (Value.slice A3 rs.length c3):=by simp
 generalize w.alloc (Obj.cells #[Value.slice A1 ns.length c1,Value.slice A2 ts.length c2,Value.slice A3 rs.length c3] 25)=W at HW HS k0 k1 k2 ⊢
 have h1W:=h1.next HW.out (B':=W.heap.size) (by rw[HS.out];omega)
 refine (distinct_any 141 isNameB _ ns W h1W (fun _ _=>by kernel_rfl) (fun s w hs=>isName_any s w hs)).mono ?_
 rintro e w1 ⟨rfl,hb1⟩
 have hws:=HS.out
 have hW1:Below (w.heap.size+1) W w1:=hb1.mono (by omega)
 rcases Bool.eq_false_or_eq_true (distinctB isNameB ns) with hd1 | hd1
 case inr =>
  have HD:=Lib.hid hd1
  rw[hd1]
  go_wp2
  go_ret
  exact⟨rt1 (vbool (by rw[HDEF.out,HD.out];rfl)),HW.out.trans (hb1.mono (by omega))⟩
 have HD1:=Lib.hid hd1
 rw[hd1]
 clear hd1
 have k1':=(hW1.cell (p:=⟨w.heap.size,1,none⟩) (Nat.lt_succ_self _)).trans k1
 go_wp2_with fail
 have hs1:=hb1.size
 refine (distinct_any 142 isTermB _ ts w1 (h2.next (HW.out.trans (hb1.mono (by omega))) (by omega)) (fun _ _=>by kernel_rfl) (fun s w hs=>isTerm_any s w hs)).mono ?_
 rintro e w2 ⟨rfl,hb2⟩
 have hW2:Below (w.heap.size+1) W w2:=hW1.trans (hb2.mono (by omega))
 rcases Bool.eq_false_or_eq_true (distinctB isTermB ts) with hd2 | hd2
 case inr =>
  have HD:=Lib.hid hd2
  rw[hd2]
  go_wp2
  go_ret
  exact⟨rt1 (vbool (by rw[HDEF.out,HD.out];simp)),HW.out.trans (hW2.mono (by omega))⟩
 have HD2:=Lib.hid hd2
 rw[hd2]
 clear hd2
 have k2':=(hW2.cell (p:=⟨w.heap.size,2,none⟩) (Nat.lt_succ_self _)).trans k2
 go_wp2_with fail
 go_loopw [39] (fun v39 wr=>∃ k:Nat,k≤rs.length∧v39=.int .i64 k∧Hid ((rs.take k).all (fitsB ns.length ts.length)=true)∧Below (w.heap.size+1) W wr) (fun v39 _=>rs.length - (intOf v39).toNat)
 case atStart=>exact⟨0,by omega,rfl,by simp[Hid],hW2⟩
 case round =>
  obtain⟨k,hk,rfl,hno,hbr⟩:=hrel
  have hbr0:=HW.out.trans (hbr.mono (Nat.le_succ _))
  have r0:=(hbr.cell (p:=⟨w.heap.size,0,none⟩) (Nat.lt_succ_self _)).trans k0
  have r1:=(hbr.cell (p:=⟨w.heap.size,1,none⟩) (Nat.lt_succ_self _)).trans k1
  have r2:=(hbr.cell (p:=⟨w.heap.size,2,none⟩) (Nat.lt_succ_self _)).trans k2
  by_cases hlt:k<rs.length
  ·obtain⟨ab,ao,cs,rfl,_,hab,hrep,hcell⟩:=(h3.below hbr0).get hlt (by decide)
   obtain⟨u,rfl,hu,hz1,hz2⟩:=eRule_open hrep
   obtain⟨A4,e4,rfl,_,_⟩:=hu.form
   have hc0:=hcell 0 _ rfl
   have hc1':=hcell 1 _ rfl
   clear hcell
   simp only[show eRule.size=2 from rfl,Nat.add_zero,←Nat.add_assoc] at hc0 hc1'
   have hsz1:=hbr.size
   have hg1:w.heap.size<wr.heap.size:=by omega
   have HSN:=Lib.hid (List.take_succ_eq_append_getElem hlt)
   rcases Bool.eq_false_or_eq_true (fitsB ns.length ts.length (rs[k].1,rs[k].2)) with hq | hq
   ·have HQ:=Lib.hid hq
    clear hq
    go_wp2_with fail
    have hb3:Below wr.heap.size wr (wr.alloc (Obj.cells #[Value.int IntKind.i64 rs[k].fst,Value.slice A4 rs[k].snd.length e4] 55)):=(Below.refl _ _).alloc (Nat.le_refl _) _
    refine (fits_any A1 A2 _ _ ns.length ts.length c1 c2 rs[k].1 rs[k].2 _ (by omega) (hu.fut hb3 (by omega) (by simp;omega))).mono ?_
    rintro e w3 ⟨rfl,hb4⟩
    rw[HQ.out]
    go_wp2
    go_roundw
    case rel=>exact⟨k+1,by omega,by go_num,by show _=_;rw[HSN.out,List.all_append,hno.out];simpa using HQ.out,hbr.trans ((hb3.mono (by omega:w.heap.size+1≤wr.heap.size)).trans (hb4.mono (by simp;omega)))⟩
    case measure=>simp[intOf];omega
   ·have HQ:=Lib.hid hq
    clear hq
    go_wp2_with fail
    have hb3:Below wr.heap.size wr (wr.alloc (Obj.cells #[Value.int IntKind.i64 rs[k].fst,Value.slice A4 rs[k].snd.length e4] 55)):=(Below.refl _ _).alloc (Nat.le_refl _) _
    refine (fits_any A1 A2 _ _ ns.length ts.length c1 c2 rs[k].1 rs[k].2 _ (by omega) (hu.fut hb3 (by omega) (by simp;omega))).mono ?_
    rintro e w3 ⟨rfl,hb4⟩
    rw[HQ.out]
    go_wp2
    go_ret
    refine⟨rt1 (vbool ?_),hbr0.trans ((hb3.mono (by omega)).trans (hb4.mono (by simp;omega)))⟩
    have hf:rs.all (fitsB ns.length ts.length)=false:=by
     rw[←Bool.not_eq_true,List.all_eq_true]
     intro h
     have h':=HQ.out
     rw[h _ (List.getElem_mem hlt)] at h'
     cases h'
    rw[HDEF.out,hf]
    simp
  have HALL:Hid (rs.all (fitsB ns.length ts.length)=true):=by
   show _=_
   have:=hno.out
   rwa [List.take_of_length_le (by omega)] at this
  have hkr:k=rs.length:=by omega
  subst hkr
  go_wp2_with fail
  go_loopw [51] (fun v51 wt=>∃ k:Nat,k≤ns.length∧v51=.int .i64 k∧Hid (∀ i:Nat,i<k→(ofTo rs i rs.length).length≠0)∧Below (w.heap.size+1) W wt) (fun v51 _=>ns.length - (intOf v51).toNat)
  case atStart=>exact⟨0,by omega,rfl,fun i hi=>absurd hi (by omega),hbr⟩
  case round =>
   clear hbr0 r0 r1 r2 hbr hno
   obtain⟨k,hk',rfl,hno,hbr⟩:=hrel
   have hbr0:=HW.out.trans (hbr.mono (Nat.le_succ _))
   have r0:=(hbr.cell (p:=⟨w.heap.size,0,none⟩) (Nat.lt_succ_self _)).trans k0
   have r1:=(hbr.cell (p:=⟨w.heap.size,1,none⟩) (Nat.lt_succ_self _)).trans k1
   have r2:=(hbr.cell (p:=⟨w.heap.size,2,none⟩) (Nat.lt_succ_self _)).trans k2
   have hsz1:=hbr.size
   by_cases hlt:k<ns.length
   ·by_cases hq:(ofTo rs k rs.length).length=0
    ·have hqb:(((ofTo rs k rs.length).length:Int)==0)=true:=by simp only[hq];rfl
     have HQ:=Lib.hid hq
     clear hq
     go_wp2_with fail
     refine (gram_of A1 A2 _ ns.length ts.length c1 c2 k rs wr (h3.next hbr0 (by omega)) (by omega)).mono ?_
     rintro e w3 ⟨v,rfl,hown,hb4⟩
     obtain⟨A5,c5,rfl,_,_⟩:=own_form hown
     go_wp2
     go_ret
     refine⟨rt1 (vbool ?_),hbr0.trans (hb4.mono (by omega))⟩
     have hf:(List.range ns.length).all (fun i=>decide ((ofTo rs i rs.length).length≠0))=false:=by
      rw[←Bool.not_eq_true,List.all_eq_true]
      intro h
      exact absurd HQ.out (of_decide_eq_true (h k (List.mem_range.2 hlt)))
     rw[HDEF.out,hf]
     simp
    ·have hqb:(((ofTo rs k rs.length).length:Int)==0)=false:=by rw[beq_eq_false_iff_ne];omega
     have HQ:=Lib.hid hq
     clear hq
     go_wp2_with fail
     refine (gram_of A1 A2 _ ns.length ts.length c1 c2 k rs wr (h3.next hbr0 (by omega)) (by omega)).mono ?_
     rintro e w3 ⟨v,rfl,hown,hb4⟩
     obtain⟨A5,c5,rfl,_,_⟩:=own_form hown
     go_wp2
     go_roundw
     case rel=>exact⟨k+1,by omega,by go_num,fun i hi=>by by_cases e:i=k;(subst e;exact HQ.out);exact hno.out i (by omega),hbr.trans (hb4.mono (by omega))⟩
     case measure=>simp[intOf];omega
   ·have hf:Hid ((List.range ns.length).all (fun i=>decide ((ofTo rs i rs.length).length≠0))=true):=by
     show _=_
     rw[List.all_eq_true]
     intro i hi
     have:=List.mem_range.1 hi
     exact decide_eq_true (hno.out i (by omega))
    go_wp2_with fail
    refine (twice_any _ rs wr (h3.next hbr0 (by omega))).mono ?_
    rintro e w3 ⟨rfl,hb4⟩
    go_wp2
    go_ret
    refine⟨rt1 (vbool ?_),hbr0.trans (hb4.mono (by omega))⟩
    rw[HDEF.out,HD1.out,HD2.out,HALL.out,hf.out]
    simp
end Go.Proofs.YtfpihflepeiagaaGreatDoor
namespace Go.Proofs.YtfpihflepeiagaaGreatDoor

abbrev Wd:=List UInt8
def setOf (l:List Wd):List Wd:=Lib.compact (l.mergeSort fun x y=>decide (x≤y))
abbrev Asc (l:List Wd):Prop:=l.Pairwise (·<·)

theorem compact_mem (zs:List Wd) (x:Wd):x∈Lib.compact zs↔x∈zs:=by
 unfold Lib.compact Lib.compactUpTo
 simp only[List.mem_map,List.mem_filter,List.mem_range]
 constructor
 ·rintro⟨j,⟨hj,_⟩,rfl⟩
  have:j<zs.toArray.size:=by simpa using hj
  rw[getElem!_pos zs.toArray j this]
  simp
 ·intro hx
  obtain⟨j,hj,rfl⟩:=List.getElem_of_mem hx
  clear hx
  induction j with
  |zero =>
   refine⟨0,⟨hj,by simp[Lib.keeps]⟩,?_⟩
   have:0<zs.toArray.size:=by simpa using hj
   rw[getElem!_pos zs.toArray 0 this]
   simp
  |succ j ih =>
   have h1:j+1<zs.toArray.size:=by simpa using hj
   have h0:j<zs.toArray.size:=by omega
   by_cases hk:zs.toArray[j+1]! = zs.toArray[j]!
   ·obtain⟨i,hi,e⟩:=ih (by simpa using h0)
    refine⟨i,hi,e.trans ?_⟩
    rw[getElem!_pos zs.toArray (j+1) h1,getElem!_pos zs.toArray j h0] at hk
    simpa using hk.symm
   ·refine⟨j+1,⟨hj,Lib.keeps_pos (by simpa using hk)⟩,?_⟩
    rw[getElem!_pos zs.toArray (j+1) h1]
    simp
theorem compact_asc (zs:List Wd) (hs:zs.Pairwise (·≤·)):Asc (Lib.compact zs):=by
 unfold Lib.compact Lib.compactUpTo Asc
 rw[List.pairwise_map]
 have h1:((List.range zs.length).filter (Lib.keeps zs.toArray)).Pairwise (·<·):=List.Pairwise.filter _ List.pairwise_lt_range
 refine h1.imp_of_mem ?_
 intro i j hi hj hij
 simp only[List.mem_filter,List.mem_range] at hi hj
 obtain⟨hj1,hj2⟩:=hj
 have hne:zs.toArray[j]! ≠ zs.toArray[j - 1]! := by
  simp only[Lib.keeps,decide_eq_true_eq] at hj2
  rcases hj2 with h | h
  ·omega
  ·exact h
 have a1:j<zs.toArray.size:=by simpa using hj1
 rw[getElem!_pos zs.toArray j a1,getElem!_pos zs.toArray (j - 1) (by omega)] at hne
 rw[getElem!_pos zs.toArray j a1,getElem!_pos zs.toArray i (by omega)]
 simp only[List.getElem_toArray] at hne ⊢
 have hP:=List.pairwise_iff_getElem.1 hs
 have h2:zs[j - 1]≤zs[j]:=hP (j - 1) j (by omega) hj1 (by omega)
 have h3:zs[j - 1]<zs[j]:=by
  rcases List.le_iff_lt_or_eq.1 h2 with h | h
  ·exact h
  ·exact absurd h.symm hne
 rcases Nat.lt_or_ge i (j - 1) with h | h
 ·exact List.lt_of_le_of_lt (hP i (j - 1) (by omega) (by omega) h) h3
 ·have:i=j - 1:=by omega
  subst this
  exact h3
theorem sort_le (l:List Wd):(l.mergeSort fun x y=>decide (x≤y)).Pairwise (·≤·):=by
 have:=List.pairwise_mergeSort (le:=fun x y:Wd=>decide (x≤y)) (fun a b c h1 h2=>by simp only[decide_eq_true_eq] at *;exact List.le_trans h1 h2) (fun a b=>by simp only[Bool.or_eq_true,decide_eq_true_eq];exact List.le_total a b) l
 exact this.imp fun h=>by simpa using h
theorem mem_setOf {l:List Wd} {x:Wd}:x∈setOf l↔x∈l:=by
 unfold setOf
 rw[compact_mem]
 exact (List.mergeSort_perm l _).mem_iff
theorem setOf_asc (l:List Wd):Asc (setOf l):=compact_asc _ (sort_le l)
theorem asc_ext:∀ {a b:List Wd},Asc a→Asc b→(∀ x,x∈a↔x∈b)→a=b
 |[],[],_,_,_=>rfl
 |[],y :: b,_,_,h=>absurd ((h y).2 (by simp)) (by simp)
 |x :: a,[],_,_,h=>absurd ((h x).1 (by simp)) (by simp)
 |x :: a,y :: b,ha,hb,h=>by
  have ha':=List.pairwise_cons.1 ha
  have hb':=List.pairwise_cons.1 hb
  have e:x=y:=by
   have h1:=(h x).1 (by simp)
   have h2:=(h y).2 (by simp)
   rw[List.mem_cons] at h1 h2
   rcases h1 with h1 | h1
   ·exact h1
   ·rcases h2 with h2 | h2
    ·exact h2.symm
    ·exact absurd (ha'.1 y h2) (List.lt_asymm (hb'.1 x h1))
  subst e
  rw[asc_ext ha'.2 hb'.2 fun z=>?_]
  have hz:=h z
  rw[List.mem_cons,List.mem_cons] at hz
  constructor
  ·intro hm
   rcases hz.1 (.inr hm) with e | h'
   ·subst e;exact absurd (ha'.1 _ hm) (List.lt_irrefl _)
   ·exact h'
  ·intro hm
   rcases hz.2 (.inr hm) with e | h'
   ·subst e;exact absurd (hb'.1 _ hm) (List.lt_irrefl _)
   ·exact h'
theorem Asc.nodup {l:List Wd} (h:Asc l):l.Nodup:=h.imp fun hlt e=>by subst e;exact List.lt_irrefl _ hlt
theorem setOf_eq {l t:List Wd} (ht:Asc t) (h:∀ x,x∈l↔x∈t):setOf l=t:=asc_ext (setOf_asc l) ht fun x=>mem_setOf.trans (h x)
theorem setOf_congr {l t:List Wd} (h:∀ x,x∈l↔x∈t):setOf l=setOf t:=setOf_eq (setOf_asc t) fun x=>(h x).trans mem_setOf.symm
theorem setOf_le (l:List Wd):(setOf l).length≤l.length:=by
 have h:=(setOf_asc l).nodup.length_le_of_subset (fun x hx=>mem_setOf.1 hx:setOf l ⊆ l)
 exact h
theorem union_len {a b:List Wd} (ha:Asc a):a.length≤(setOf (a++b)).length∧((setOf (a++b)).length≤a.length→setOf (a++b)=a∧∀ x∈b,x∈a):=by
 have hs:a ⊆ setOf (a++b):=fun x hx=>mem_setOf.2 (by simp[hx])
 refine⟨ha.nodup.length_le_of_subset hs,fun hle=>?_⟩
 have hall:∀ x∈b,x∈a:=by
  intro x hx
  by_cases hn:x∈a
  ·exact hn
  ·exfalso
   have hnd:(x :: a).Nodup:=List.nodup_cons.2 ⟨hn,ha.nodup⟩
   have:=hnd.length_le_of_subset (fun y hy=>by
    rcases List.mem_cons.1 hy with rfl | h
    ·exact mem_setOf.2 (by simp[hx])
    ·exact hs h:(x :: a) ⊆ setOf (a++b))
   simp at this
   omega
 refine⟨setOf_eq ha fun x=>?_,hall⟩
 rw[List.mem_append]
 exact⟨fun h=>h.elim id (hall x),.inl⟩
end Go.Proofs.YtfpihflepeiagaaGreatDoor
namespace Go.Proofs.YtfpihflepeiagaaGreatDoor

abbrev RuleL:=List (Int×List Int)
abbrev Sets:=List (List Wd)
def tb (s:Int):UInt8:=UInt8.ofNat (-1 - s).toNat
def prodW (k:Int) (a b:List Wd):List Wd:=a.flatMap fun x=>b.map fun y=>(x++y).take k.toNat
def catW (k:Int) (a b:List Wd):Option (List Wd):=if (setOf (prodW k a b)).length≤4096 then some (setOf (prodW k a b)) else none
def oneW (sets:Sets) (s:Int):Option (List Wd):=if s<0 then (if -256≤s then some [[tb s]] else none) else sets[s.toNat]?
def ofFrom (sets:Sets) (k:Int):List Wd→List Int→Option (List Wd)
 |acc,[]=>some acc
 |acc,s :: l=>(oneW sets s).bind fun x=>(catW k acc x).bind fun o=>ofFrom sets k o l
def ofW (sets:Sets) (k:Int) (syms:List Int):Option (List Wd):=ofFrom sets k [[]] syms
def unionW (a b:List Wd):List Wd:=setOf (a++b)
inductive RoundsTo {σ:Type} (f:σ→Option (σ×Bool)):σ→Option σ→Prop
 |fail {s}:f s=none→RoundsTo f s none
 |done {s s'}:f s=some (s',false)→RoundsTo f s (some s')
 |more {s s' o}:f s=some (s',true)→RoundsTo f s' o→RoundsTo f s o
theorem RoundsTo.det {σ:Type} {f:σ→Option (σ×Bool)} {s:σ} {o:Option σ} (h:RoundsTo f s o):∀ {o'},RoundsTo f s o'→o=o':=by
 induction h with
 |fail e=>intro o' h';cases h' with
  |fail _=>rfl
  |done e'=>rw[e] at e';cases e'
  |more e' _=>rw[e] at e';cases e'
 |done e=>intro o' h';cases h' with
  |fail e'=>rw[e] at e';cases e'
  |done e'=>rw[e] at e';cases e';rfl
  |more e' _=>rw[e] at e';cases e'
 |more e _ ih=>intro o' h';cases h' with
  |fail e'=>rw[e] at e';cases e'
  |done e'=>rw[e] at e';cases e'
  |more e' h=>rw[e] at e';cases e';exact ih h
theorem RoundsTo.inv {σ:Type} {f:σ→Option (σ×Bool)} (P:σ→Prop) (hp:∀ s s' g,P s→f s=some (s',g)→P s') {s:σ} {o:Option σ} (h:RoundsTo f s o):P s→∀ s',o=some s'→P s'∧∃ t,P t∧f t=some (s',false):=by
 induction h with
 |fail e=>intro _ s' h;cases h
 |done e=>intro h s' e2;cases e2;exact⟨hp _ _ _ h e,_,h,e⟩
 |more e _ ih=>intro h s' e2;exact ih (hp _ _ _ h e) s' e2

def growW (k:Int) (sets:Sets) (r:Int×List Int):Option (Sets×Bool) :=
 (ofW sets k r.2).bind fun x =>
  if (unionW (sets.getD r.1.toNat []) x).length≤4096 then some (sets.set r.1.toNat (unionW (sets.getD r.1.toNat []) x),decide ((sets.getD r.1.toNat []).length<(unionW (sets.getD r.1.toNat []) x).length)) else none
def roundW (k:Int):RuleL→Sets×Bool→Option (Sets×Bool)
 |[],p=>some p
 |r :: rs,p=>(growW k p.1 r).bind fun q=>roundW k rs (q.1,p.2||q.2)
def firstRound (k:Int) (rs:RuleL) (s:Sets):Option (Sets×Bool):=roundW k rs (s,false)
def FirstTo (k:Int) (rs:RuleL) (n:Nat) (o:Option Sets):Prop:=RoundsTo (firstRound k rs) (List.replicate n []) o

def behindW (sets fol:Sets) (k:Int) (r:Int×List Int) (at_:Int):Option (List Wd) :=
 if at_ < -1∨(r.2.length:Int)≤at_∨r.1<0∨(fol.length:Int)≤r.1 then none
 else (ofW sets k (r.2.drop (at_+1).toNat)).bind fun x=>catW k x (fol.getD r.1.toNat [])
structure FolS where
 fol:Sets
 grown:Bool
 limit:Bool
def spreadW (sets:Sets) (k:Int) (r:Int×List Int) (at_:Nat) (p:FolS):FolS :=
 match behindW sets p.fol k r at_ with
 |none=>⟨p.fol,p.grown,true⟩
 |some x=>if r.2.getD at_ 0<0 then p else
   let a:=(r.2.getD at_ 0).toNat
   ⟨p.fol.set a (unionW (p.fol.getD a []) x),p.grown||decide ((p.fol.getD a []).length<(unionW (p.fol.getD a []) x).length),p.limit||decide (4096<(unionW (p.fol.getD a []) x).length)⟩
def spreadsW (sets:Sets) (k:Int) (r:Int×List Int):Nat→Nat→FolS→FolS
 |0,_,p=>p
 |n+1,at_,p=>spreadsW sets k r n (at_+1) (spreadW sets k r at_ p)
def spreadAll (sets:Sets) (k:Int):RuleL→FolS→FolS
 |[],p=>p
 |r :: rs,p=>spreadAll sets k rs (spreadsW sets k r r.2.length 0 p)
def folRound (sets:Sets) (k:Int) (rs:RuleL) (fol:Sets):Option (Sets×Bool) :=
 let p:=spreadAll sets k rs ⟨fol,false,false⟩
 if p.limit then none else some (p.fol,p.grown)
def FollowTo (sets:Sets) (k:Int) (rs:RuleL) (n:Nat) (o:Option Sets):Prop:=RoundsTo (folRound sets k rs) ((List.replicate n []).set 0 [[]]) o
def aheadW (sets fol:Sets) (k:Int):RuleL→Option Sets
 |[]=>some []
 |r :: rs=>(behindW sets fol k r (-1)).bind fun x=>(aheadW sets fol k rs).map (x :: ·)

inductive Der (rs:RuleL):List Int→Wd→Prop
 |nil:Der rs [] []
 |term {s l w} (hs:s<0) (h:Der rs l w):Der rs (s :: l) (tb s :: w)
 |nont {a l r u v} (ha:0≤a) (hr:(a,r)∈rs) (h1:Der rs r u) (h2:Der rs l v):Der rs (a :: l) (u++v)
inductive Fol (rs:RuleL):Int→Wd→Prop
 |start:Fol rs 0 []
 |step {a r l1 b l2 u v} (hr:(a,r)∈rs) (e:r=l1++b :: l2) (hb:0≤b) (h1:Der rs l2 u) (h2:Fol rs a v):Fol rs b (u++v)

theorem take_cat (k:Nat) (u v:Wd):(u.take k++v.take k).take k=(u++v).take k:=by
 rw[List.take_append,List.take_append,List.take_take,List.take_take,List.length_take]
 congr 1
 ·simp
 ·rcases Nat.le_total k u.length with h | h
  ·rw[Nat.min_eq_left h];simp[Nat.sub_eq_zero_of_le h]
  ·rw[Nat.min_eq_right h,Nat.min_eq_left (Nat.sub_le _ _)]
theorem take_cat_l (k:Nat) (u v:Wd):(u.take k++v).take k=(u++v).take k:=by
 rw[←take_cat k (u.take k) v,List.take_take,Nat.min_self,take_cat]
theorem take_cat_r (k:Nat) (u v:Wd):(u++v.take k).take k=(u++v).take k:=by
 rw[←take_cat k u (v.take k),List.take_take,Nat.min_self,take_cat]
theorem mem_prodW {k:Int} {a b:List Wd} {z:Wd}:z∈prodW k a b↔∃ x∈a,∃ y∈b,z=(x++y).take k.toNat:=by
 unfold prodW
 simp only[List.mem_flatMap,List.mem_map]
 constructor
 ·rintro⟨x,hx,y,hy,rfl⟩;exact⟨x,hx,y,hy,rfl⟩
 ·rintro⟨x,hx,y,hy,rfl⟩;exact⟨x,hx,y,hy,rfl⟩
theorem mem_catW {k:Int} {a b o:List Wd} (h:catW k a b=some o) {z:Wd}:z∈o↔∃ x∈a,∃ y∈b,z=(x++y).take k.toNat:=by
 unfold catW at h
 split at h
 ·injection h with h;subst h;rw[mem_setOf,mem_prodW]
 ·cases h
theorem catW_asc {k:Int} {a b o:List Wd} (h:catW k a b=some o):Asc o:=by
 unfold catW at h
 split at h
 ·injection h with h;subst h;exact setOf_asc _
 ·cases h
def SoundF (rs:RuleL) (k:Nat) (sets:Sets):Prop:=∀ (a:Nat) (s:List Wd),sets[a]? = some s→∀ x∈s,∃ r u,((a:Int),r)∈rs∧Der rs r u∧x=u.take k
theorem ofFrom_sound {rs:RuleL} {k:Nat} {sets:Sets} (hs:SoundF rs k sets):∀ (syms:List Int) (acc out:List Wd),(∀ x∈acc,x.take k=x)→ofFrom sets k acc syms=some out→∀ z∈out,∃ x∈acc,∃ u,Der rs syms u∧z=(x++u).take k
 |[],acc,out,hk,h,z,hz=>by
  injection h with h
  subst h
  exact⟨z,hz,[],.nil,by rw[List.append_nil,hk z hz]⟩
 |s :: l,acc,out,hk,h,z,hz=>by
  simp only[ofFrom] at h
  cases h1:oneW sets s with
  |none=>rw[h1] at h;cases h
  |some x1 =>
   rw[h1,Option.bind_some] at h
   cases h2:catW (k:Int) acc x1 with
   |none=>rw[h2] at h;cases h
   |some o =>
    rw[h2,Option.bind_some] at h
    obtain⟨y,hy,u,hu,rfl⟩:=ofFrom_sound hs l o out (fun x hx=>by obtain⟨_,_,_,_,rfl⟩:=(mem_catW h2).1 hx;simp[List.take_take]) h z hz
    obtain⟨p,hp,q,hq,rfl⟩:=(mem_catW h2).1 hy
    simp only[Int.toNat_natCast]
    rw[take_cat_l]
    unfold oneW at h1
    split at h1
    ·rename_i hneg
     split at h1
     ·injection h1 with h1
      subst h1
      rw[List.mem_singleton] at hq
      subst hq
      exact⟨p,hp,tb s :: u,.term hneg hu,by simp⟩
     ·cases h1
    ·rename_i hpos
     obtain⟨r,v,hr,hv,rfl⟩:=hs _ _ h1 q hq
     rw[Int.toNat_of_nonneg (by omega)] at hr
     refine⟨p,hp,v++u,.nont (by omega) hr hv hu,?_⟩
     rw[←take_cat_l k (p++v.take k),take_cat_r,take_cat_l,List.append_assoc]
theorem ofW_sound {rs:RuleL} {k:Nat} {sets:Sets} (hs:SoundF rs k sets) {syms:List Int} {out:List Wd} (h:ofW sets k syms=some out) {z:Wd} (hz:z∈out):∃ u,Der rs syms u∧z=u.take k:=by
 obtain⟨x,hx,u,hu,e⟩:=ofFrom_sound hs syms [[]] out (fun x hx=>by rw[List.mem_singleton] at hx;subst hx;simp) h z hz
 rw[List.mem_singleton] at hx
 subst hx
 exact⟨u,hu,by simpa using e⟩
def ClosedF (rs:RuleL) (k:Nat) (sets:Sets):Prop:=∀ a r,(a,r)∈rs→0≤a→∃ x s,ofW sets k r=some x∧sets[a.toNat]? = some s∧∀ y∈x,y∈s
theorem ofFrom_full {rs:RuleL} {k:Nat} {sets:Sets} (hc:ClosedF rs k sets) {syms:List Int} {u:Wd} (h:Der rs syms u):∀ (acc out:List Wd),ofFrom sets k acc syms=some out→(∀ x∈acc,x.take k=x)→∀ x∈acc,(x++u).take k∈out:=by
 induction h with
 |nil =>
  intro acc out h hk x hx
  injection h with h
  subst h
  rw[List.append_nil,hk x hx]
  exact hx
 |@term s l w hs hd ih =>
  intro acc out h hk x hx
  simp only[ofFrom] at h
  cases h1:oneW sets s with
  |none=>rw[h1] at h;cases h
  |some x1 =>
   rw[h1,Option.bind_some] at h
   cases h2:catW (k:Int) acc x1 with
   |none=>rw[h2] at h;cases h
   |some o =>
    rw[h2,Option.bind_some] at h
    unfold oneW at h1
    rw[if_pos hs] at h1
    split at h1
    ·injection h1 with h1
     subst h1
     have hm:(x++[tb s]).take k∈o:=(mem_catW h2).2 ⟨x,hx,[tb s],by simp,by simp⟩
     have:=ih o out h (fun x hx=>by obtain⟨_,_,_,_,rfl⟩:=(mem_catW h2).1 hx;simp[List.take_take]) _ hm
     rw[take_cat_l,List.append_assoc] at this
     exact this
    ·cases h1
 |@nont a l r u v ha hr h1' h2' ih1 ih2 =>
  intro acc out h hk x hx
  simp only[ofFrom] at h
  cases h1:oneW sets a with
  |none=>rw[h1] at h;cases h
  |some x1 =>
   rw[h1,Option.bind_some] at h
   cases h2:catW (k:Int) acc x1 with
   |none=>rw[h2] at h;cases h
   |some o =>
    rw[h2,Option.bind_some] at h
    unfold oneW at h1
    rw[if_neg (by omega)] at h1
    obtain⟨xr,s,e1,e2,e3⟩:=hc a r hr ha
    rw[e2] at h1
    injection h1 with h1
    subst h1
    have hu:=ih1 [[]] xr e1 (fun x hx=>by rw[List.mem_singleton] at hx;subst hx;simp) [] (by simp)
    rw[List.nil_append] at hu
    have hm:(x++u.take k).take k∈o:=(mem_catW h2).2 ⟨x,hx,u.take k,e3 _ hu,by simp⟩
    have:=ih2 o out h (fun x hx=>by obtain⟨_,_,_,_,rfl⟩:=(mem_catW h2).1 hx;simp[List.take_take]) _ hm
    rw[take_cat_r,take_cat_l,List.append_assoc] at this
    exact this
theorem ofW_full {rs:RuleL} {k:Nat} {sets:Sets} (hc:ClosedF rs k sets) {syms:List Int} {u:Wd} (h:Der rs syms u) {out:List Wd} (ho:ofW sets k syms=some out):u.take k∈out:=by
 have:=ofFrom_full hc h [[]] out ho (fun x hx=>by rw[List.mem_singleton] at hx;subst hx;simp) [] (by simp)
 simpa using this
end Go.Proofs.YtfpihflepeiagaaGreatDoor
