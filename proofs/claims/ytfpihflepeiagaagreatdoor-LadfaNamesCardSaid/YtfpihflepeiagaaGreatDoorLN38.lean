/- Texts of this proof joined: Ladfa2, NamesM, Same26, Awk26, Rf24a, Rf24b, Rf24c, Rf24d, FewF, LadfaOfLaw, Rf15b. -/
import Derived.Test.YtfpihflepeiagaaGreatDoorLN37
import Derived.Test.YtfpihflepeiagaaGreatDoorLN28
import Derived.Deep.LoopGhost
import Derived.Test.YtfpihflepeiagaaGreatDoorLN29
import Derived.Test.YtfpihflepeiagaaGreatDoorLN34
import Derived.Test.YtfpihflepeiagaaGreatDoorLN13
import Derived.BigQuiet
import Derived.Test.YtfpihflepeiagaaGreatDoorLN06
import Derived.Test.YtfpihflepeiagaaGreatDoorLN10
namespace Go.Proofs.YtfpihflepeiagaaGreatDoor
open Go.RowKit

theorem mach_app:AppTy Tryz.prog 28 45 1 24 (.slice none 0 0):=appTy (by kernel_rfl) (by kernel_rfl) rfl (by omega)
def MachsTo (ms:List Mch) (w:World) (e:Ending) (w':World):Prop:=∃ v,e=.returned v∧SlR (eSl eState) w' w'.heap.size v ms∧Below w.heap.size w w'
set_option maxRecDepth 100000 in
set_option maxHeartbeats 4000000 in
theorem each_any (F:FuncId) (cap:Array Value) (n:Nat) (f:Nat→Mch) (w:World) (hn:n≤1099511627776) (hF:∀ (args:Array Value) (w:World),(callFunc F args).run Tryz.prog w=.ok (.enter F args) w)
  (hc:∀ left<n,∀ W,Below w.heap.size w W→Calls Tryz.prog F (#[.int .i64 (left:Nat)]++cap) W (MachTo (f left) W)) :
  Calls Tryz.prog 28 #[.int .i64 n,.func (.func F) #[] cap] w (MachsTo ((List.range n).map f) w):=by
 have HC:=Lib.hid hc
 clear hc
 go_enter Tryz.func28,Tryz.ntmps28
 go_wp2_with fail
 go_loopw [8,5] (fun v8 v5 wr=>∃ (k:Nat) (vs:List Value),k≤n∧v8=.int .i64 k∧vs.length=k∧Hid (EachI wr w.heap.size v5 vs ((List.range k).map f))∧Hid (Below w.heap.size w wr)) (fun v8 _ _=>n - (intOf v8).toNat)
 case atStart=>exact⟨0,[],by omega,rfl,rfl,EachI.nil _ _,Below.refl _ _⟩
 case round =>
  obtain⟨k,vs,hk,rfl,hvk,HE,HB⟩:=hrel
  obtain⟨A5,c5,rfl,hl5,hl6⟩:=own_form HE.out.row
  unfold maxLen at hl6
  have HVK:=Lib.hid hvk
  clear hvk
  by_cases hlt:k<n
  ·go_wp2_with fail
   refine (HC.out k hlt wr HB.out).mono ?_
   rintro e w1 ⟨vm,rfl,hm,hb1⟩
   obtain⟨Am,cm,rfl,hm1,hm2⟩:=(hm w1 fun _ _ _=>rfl).form
   have HM:=Lib.hid hm
   have HB1:=Lib.hid hb1
   have hvl:vs.length≤n:=by rw[HVK.out];omega
   have hbz:=HB1.out.size
   have hbz2:=HB.out.size
   have HE1:=Lib.hid (HE.out.below hb1)
   clear hm hb1
   go_wp2_with (refine stop_at (some 16) rfl ?_)
   refine Stop.go (wpList_app (m:=1) (n:=vs.length) mach_app rfl rfl rfl rfl (HE1.out.row.alloc _) (Rd.row (B:=w1.heap.size+1) (Go.heap_alloc_new w1 _) (by omega)) rfl (by simp[Value.oneCell']) ?h63 ?hby ?hbase ?_)
   case h63=>simp only[maxLen];omega
   case hby=>omega
   case hbase=>rw[World.size_alloc];omega
   intro v2 w2 hown2 hg2 hob2 _
   have HE2:=Lib.hid (HE.out.snoc HB1.out HM.out (.cells #[.slice Am (f k).length cm] 45) hown2 hg2 hob2)
   have HB2:=Lib.hid (grown_below ((HB.out.trans (HB1.out.mono HB.out.size)).alloc (by omega) (.cells #[.slice Am (f k).length cm] 45)) hg2 (HE1.out.row.alloc _) (Nat.le_refl _) (by rw[World.size_alloc];omega))
   clear hown2 hg2 hob2
   go_wp2_with fail
   go_roundw
   case rel =>
    refine⟨k+1,vs++[.slice Am (f k).length cm],by omega,by go_num,by rw[List.length_append,HVK.out];rfl,?_,HB2.out⟩
    show EachI _ _ _ _ _
    rw[List.range_succ,List.map_append]
    exact HE2.out
   case measure=>simp[intOf];omega
  ·have hkn:k=n:=by omega
   subst hkn
   go_wp2_with fail
   go_ret
   exact⟨_,rfl,HE.out.sl,HB.out⟩
set_option maxRecDepth 100000 in
set_option maxHeartbeats 4000000 in
theorem of26_any {A1 A2 A3 Ar:Option Addr} {n m q c1 c2 c3 nr cr:Nat} (rows:List Row) (w:World) (hv:SlR eRow w w.heap.size (.slice Ar nr cr) rows) (hf:RowsFit rows) (hn:n≤1099511627776) (ht:TabP w) :
  Calls Tryz.prog 13 #[gramV A1 A2 A3 n m q c1 c2 c3,.slice Ar nr cr] w (MachsTo (machsM rows n) w):=by
 have HV:=Lib.hid hv
 have HF:=Lib.hid hf
 have HT:=Lib.hid ht
 have hb3:=Go.heap_alloc_new (w.alloc (.cells #[.slice A1 n c1,.slice A2 m c2,.slice A3 q c3] 25)) (.cells #[.slice Ar nr cr] 41)
 rw[World.size_alloc] at hb3
 have HB3:=Lib.hid hb3
 have HBW:=Lib.hid (show Below w.heap.size w ((w.alloc (.cells #[.slice A1 n c1,.slice A2 m c2,.slice A3 q c3] 25)).alloc (.cells #[.slice Ar nr cr] 41)) from ((Below.refl _ _).alloc (Nat.le_refl _) _).alloc (by rw[World.size_alloc];omega) _)
 clear hv hf ht hb3
 unfold gramV
 go_enter Tryz.func13,Tryz.ntmps13
 go_wp2_with fail
 generalize (w.alloc (.cells #[.slice A1 n c1,.slice A2 m c2,.slice A3 q c3] 25)).alloc (.cells #[.slice Ar nr cr] 41)=wq at *
 have hcl:w.heap.size+1<wq.heap.size:=(Array.getElem?_eq_some_iff.1 HB3.out).1
 refine (each_any 29 #[.pointer (some ⟨w.heap.size+1,0,none⟩)] n (fun left=>machM (ofRows ((left:Nat):Int) rows)) wq hn (fun _ _=>by kernel_rfl) (fun left _ W hb=>?_)).mono ?_
 ·have hW:=HBW.out.trans (hb.mono HBW.out.size)
  exact of1_any (.slice Ar nr cr) rows (w.heap.size+1) left W (HV.out.fut hW (Nat.le_refl _) hW.size) HF.out (cell0 (t:=41) ((hb.block _ hcl).trans HB3.out)) (HT.out.below hW)
 rintro e w1 ⟨v,rfl,hs,hb1⟩
 have HS:=Lib.hid hs
 have HB1:=Lib.hid (HBW.out.trans (hb1.mono HBW.out.size))
 clear hs hb1
 go_wp2_with fail
 go_ret
 exact⟨_,rfl,HS.out,HB1.out⟩
def MachOut (n:Nat) (g:Gram) (w':World) (o:Option Sets) (e:Ending):Prop :=
 match o with
 |none=>e=.returned (.tuple #[.slice none 0 0,.slice none 0 0,.int .i64 21])
 |some s=>(clashW g.2.2 n s≠[]∧∃ A c,e=.returned (.tuple #[.slice none 0 0,.slice A (clashW g.2.2 n s).length c,.int .i64 20])) ∨
  (clashW g.2.2 n s=[]∧∃ v rows,e=.returned (.tuple #[v,.slice none 0 0,.int .i64 0])∧rows.Perm (rowsFrom 0 g.2.2 s)∧rows.Pairwise (fun a b=>¬ rowLt b a)∧SlR (eSl eState) w' w'.heap.size v (machsM rows n))
def MachRes (k:Int) (g:Gram) (n:Nat) (w:World) (e:Ending) (w':World):Prop :=
 Below w.heap.size w w'∧(BadK k g→e=.returned (.tuple #[.slice none 0 0,.slice none 0 0,.int .i64 1]))∧(¬ BadK k g→∃ o,AheadO k g o∧MachOut n g w' o e)
set_option maxRecDepth 100000 in
set_option maxHeartbeats 8000000 in
theorem make26_any {A1 A2 A3:Option Addr} {n m q c1 c2 c3:Nat} {g:Gram} (k:Int) (w:World) (h:GramR w w.heap.size A1 A2 A3 n m q c1 c2 c3 g) (hn:n≤1099511627776) (ht:TabP w)
  (hrf:¬ BadK k g→∀ s rows,AheadO k g (some s)→rows.Perm (rowsFrom 0 g.2.2 s)→RowsFit rows∧FitR rows) :
  Calls Tryz.prog 8 #[gramV A1 A2 A3 n m q c1 c2 c3,.int .i64 k] w (MachRes k g n w):=by
 have hbx:=(Below.refl w.heap.size w).alloc (Nat.le_refl _) (.cells #[.slice A1 n c1,.slice A2 m c2,.slice A3 q c3] 25)
 have HK:=Lib.hid (Go.heap_alloc_new w (.cells #[.slice A1 n c1,.slice A2 m c2,.slice A3 q c3] 25))
 have HM:=Lib.hid (make_any k (w.alloc (.cells #[.slice A1 n c1,.slice A2 m c2,.slice A3 q c3] 25)) (h.fut hbx (Nat.le_refl _) (by rw[World.size_alloc];omega)))
 have HBX:=Lib.hid hbx
 have HT:=Lib.hid ht
 have HRF:=Lib.hid hrf
 clear hbx h ht hrf
 unfold gramV at *
 go_enter Tryz.func8,Tryz.ntmps8
 go_wp2_with fail
 generalize w.alloc (.cells #[.slice A1 n c1,.slice A2 m c2,.slice A3 q c3] 25)=wq at *
 refine HM.out.mono ?_
 rintro e w1 ⟨hb1,hbad,hgood⟩
 have HB1:=Lib.hid (HBX.out.trans (hb1.mono HBX.out.size))
 have hk1:=(hb1.block w.heap.size (Array.getElem?_eq_some_iff.1 HK.out).1).trans HK.out
 have HK1:=Lib.hid hk1
 clear hb1 hk1 HM
 by_cases hb:BadK k g
 ·have HBD:=Lib.hid hb
  rw[hbad hb]
  clear hbad hgood hb
  go_wp2_with fail
  refine bodyPost_ret (results_tmp3 rfl _ _ _) rfl ?_
  exact⟨HB1.out,fun _=>rfl,fun h=>absurd HBD.out h⟩
 ·obtain⟨o,ha,ho⟩:=hgood hb
  have HBD:=Lib.hid hb
  have HA:=Lib.hid ha
  clear hbad hgood hb ha
  cases o with
  |none =>
   have he:e=_:=ho
   rw[he]
   clear he ho
   go_wp2_with fail
   refine bodyPost_ret (results_tmp3 rfl _ _ _) rfl ?_
   exact⟨HB1.out,fun h=>absurd h HBD.out,fun _=>⟨none,HA.out,rfl⟩⟩
  |some s =>
   rcases ho with ⟨hc,v,he,hown⟩ | ⟨hc,v,rows,he,hp,hs,hown⟩
   ·obtain⟨A5,c5,rfl,-,-⟩:=own_form hown
    have HC:=Lib.hid hc
    rw[he]
    clear he hown hc
    go_wp2_with fail
    refine bodyPost_ret (results_tmp3 rfl _ _ _) rfl ?_
    exact⟨HB1.out,fun h=>absurd h HBD.out,fun _=>⟨some s,HA.out,.inl ⟨HC.out,_,_,rfl⟩⟩⟩
   ·obtain⟨A5,c5,rfl,hl5,hl6⟩:=own_form hown
    obtain⟨hrf,hfit⟩:=HRF.out HBD.out s rows HA.out hp
    have HS:=Lib.hid (slR_own hfit hown)
    have HRR:=Lib.hid hrf
    have HC:=Lib.hid hc
    have HP:=Lib.hid hp
    have HSS:=Lib.hid hs
    rw[he]
    clear he hown hc hrf hfit hp hs
    have g0:w1.cell? ⟨w.heap.size,0,none⟩=some (.slice A1 n c1):=by rw[cell_of_row _ _ _ _ _ _ HK1.out];rfl
    have g1:w1.cell? ⟨w.heap.size,1,none⟩=some (.slice A2 m c2):=by rw[cell_of_row _ _ _ _ _ _ HK1.out];rfl
    have g2:w1.cell? ⟨w.heap.size,2,none⟩=some (.slice A3 q c3):=by rw[cell_of_row _ _ _ _ _ _ HK1.out];rfl
    go_wp2_with fail
    refine (of26_any (A1:=A1) (A2:=A2) (A3:=A3) (m:=m) (q:=q) (c1:=c1) (c2:=c2) (c3:=c3) rows w1 HS.out HRR.out hn (HT.out.below HB1.out)).mono ?_
    rintro e2 w2 ⟨v2,rfl,hs2,hb2⟩
    have HS2:=Lib.hid hs2
    have HB2:=Lib.hid (HB1.out.trans (hb2.mono HB1.out.size))
    clear hs2 hb2
    go_wp2_with fail
    refine bodyPost_ret (results_tmp3 rfl _ _ _) rfl ?_
    exact⟨HB2.out,fun h=>absurd h HBD.out,fun _=>⟨some s,HA.out,.inr ⟨HC.out,_,rows,rfl,HP.out,HSS.out,HS2.out⟩⟩⟩
set_option maxHeartbeats 1600000 in
theorem states26_any (v:Value) (ms:List Mch) (w:World) (hv:SlR (eSl eState) w w.heap.size v ms) (hs:(ms.map List.length).sum≤4611686018427387904) :
  Calls Tryz.prog 18 #[v] w fun e w'=>e=.returned (.int .i64 ((ms.map List.length).sum:Nat))∧w'=w:=by
 obtain⟨A,c,rfl,hc1,hc2⟩:=hv.form
 unfold maxLen at hc2
 have HV:=Lib.hid hv
 have HSM:=Lib.hid hs
 clear hv hs
 obtain⟨n,hn⟩:∃ n,n=ms.length:=⟨_,rfl⟩
 have HN:=Lib.hid hn
 rw[←hn] at hc1 HV ⊢
 clear hn
 go_enter Tryz.func18,Tryz.ntmps18
 go_wp2_with fail
 go_loopw [8,3] (fun v8 v3 wr=>∃ k:Nat,k≤n∧v8=.int .i64 k∧v3=.int .i64 (((ms.take k).map List.length).sum:Nat)∧wr=w) (fun v8 _ _=>n - (intOf v8).toNat)
 case atStart=>exact⟨0,by omega,rfl,rfl,rfl⟩
 case round =>
  obtain⟨k,hk,rfl,rfl,rfl⟩:=hrel
  by_cases hlt:k<n
  ·have hkl:k<ms.length:=by rw[←HN.out];exact hlt
   obtain⟨b1,o1,cs,rfl,-,hb1,hrep,hcell⟩:=HV.out.get hkl (by decide)
   obtain⟨u,rfl,hu⟩:=hrep
   obtain⟨A4,e4,rfl,he1,he2⟩:=hu.form
   have d0:=hcell 0 _ rfl
   clear hcell hu
   simp only[show (eSl eState).size=1 from rfl,Nat.add_zero,Nat.mul_one] at d0
   have HSN:=Lib.hid (show ((ms.take (k+1)).map List.length).sum=((ms.take k).map List.length).sum+ms[k].length by
    rw[List.take_succ_eq_append_getElem hkl,List.map_append,List.sum_append]
    simp)
   have hle:((ms.take k).map List.length).sum+ms[k].length≤4611686018427387904:=by
    rw[←HSN.out]
    refine Nat.le_trans ?_ HSM.out
    conv=>rhs;rw[←List.take_append_drop (k+1) ms,List.map_append,List.sum_append]
    omega
   generalize ((ms.take k).map List.length).sum=S at *
   generalize ms[k].length=L at *
   go_wp2_with fail
   go_roundw
   case rel=>exact⟨k+1,by omega,by go_num,by rw[HSN.out];go_num,trivial⟩
   case measure=>simp[intOf];omega
  ·have hkn:k=n:=by omega
   have HFN:=Lib.hid (show ((ms.take k).map List.length).sum=(ms.map List.length).sum by rw[hkn,HN.out,List.take_length])
   subst hkn
   go_wp2_with fail
   go_ret
   exact⟨rt1 (congrArg (fun z:Nat=>Value.int .i64 (z:Int)) HFN.out),rfl⟩
end Go.Proofs.YtfpihflepeiagaaGreatDoor
namespace Go.Proofs.YtfpihflepeiagaaGreatDoor

theorem find_row {rows:List Row} (left:Int) (l:Wd):(∃ r∈rows,r.1=left∧r.2.1=l∧wantOf rows left l=r.2.2)∨((∀ r∈rows,¬ (r.1=left∧r.2.1=l))∧wantOf rows left l=-1):=by
 unfold wantOf
 cases h:rows.find? fun r=>decide (r.1=left)&&decide (r.2.1=l) with
 |some r =>
  have h1:=List.find?_some h
  simp only[Bool.and_eq_true,decide_eq_true_eq] at h1
  exact .inl ⟨r,List.mem_of_find?_eq_some h,h1.1,h1.2,rfl⟩
 |none =>
  refine .inr ⟨fun r hr hx=>?_,rfl⟩
  have:=List.find?_eq_none.1 h r hr
  simp[hx.1,hx.2] at this
theorem words_short {m k:Nat} {x:Wd} (h:x∈wordsW m k) (hm:m≤256):x.length≤k:=((mem_wordsW hm k x).1 h).1
section
variable {g:Gram} {k:Nat} {s:Sets} (h:LawG g k) (hM:MadeG g.2.2 g.1.length k s)
include h hM
theorem made_fit {rows:List Row} (hs:SetsB s) (hq:g.2.2.length≤40) (hp:rows.Perm (rowsFrom 0 g.2.2 s)):RowsFit rows:=by
 refine⟨?_,fun r hr=>by have:=(row_good h hM hp r hr).2.2.2.1;omega⟩
 rw[hp.length_eq,←rowsTo_all hM.len]
 have:=rowsTo_len (rs:=g.2.2) hs g.2.2.length
 omega
theorem rows_low {rows:List Row} (hp:rows.Perm (rowsFrom 0 g.2.2 s)):∀ r∈rows,0≤r.2.2:=fun r hr=>(row_good h hM hp r hr).2.2.2.2.1
theorem want_val {rows:List Row} (hp:rows.Perm (rowsFrom 0 g.2.2 s)) (a:Nat) {w:Wd} (hwd:w∈wordsW g.2.1.length k) (h1:(matchW g.2.2 (ahD g.2.2 k w) (a:Int)).length≤1):wantOf rows (a:Int) w=valW g.2.2 k a w:=by
 have hin:∀ x:Row,x∈rows↔_:=fun x=>hp.mem_iff.trans (row_iff (by have:=h.few;omega) h.wellT hM (fun w _=>ahD_ok g.2.2 k w) (x:=x))
 unfold valW
 rcases find_row (rows:=rows) (a:Int) w with ⟨r,hr,e1,e2,he⟩ | ⟨hno,he⟩
 ·obtain⟨i,hi,_,hm⟩:=(hin r).1 hr
  rw[he,hi]
  rw[e1,e2] at hm
  match hL:matchW g.2.2 (ahD g.2.2 k w) (a:Int),h1,hm with
  |[x],_,hm=>rw[List.mem_singleton] at hm;rw[hm];rfl
  |_ :: _ :: _,h1,_=>simp at h1
 ·rw[he]
  rw[eq_comm,lastL_none,List.eq_nil_iff_forall_not_mem]
  exact fun i hi=>hno ((a:Int),w,(i:Int)) ((hin _).2 ⟨i,rfl,hwd,hi⟩) ⟨rfl,rfl⟩
theorem want_long {rows:List Row} (hp:rows.Perm (rowsFrom 0 g.2.2 s)) (a:Nat) {w:Wd} (hw:k<w.length):wantOf rows (a:Int) w=-1:=by
 rcases find_row (rows:=rows) (a:Int) w with ⟨r,hr,_,e2,_⟩ | ⟨_,he⟩
 ·exfalso
  obtain⟨i,hi,hwd,hm⟩:=(row_iff (by have:=h.few;omega) h.wellT hM (fun w _=>ahD_ok g.2.2 k w)).1 (hp.mem_iff.1 hr)
  have:=((mem_wordsW (by have:=h.few;omega) k r.2.1).1 hwd).1
  rw[e2] at this
  omega
 ·exact he
end
end Go.Proofs.YtfpihflepeiagaaGreatDoor
namespace Go.Proofs.YtfpihflepeiagaaGreatDoor
open Go.RowKit

end Go.Proofs.YtfpihflepeiagaaGreatDoor
namespace Go.Proofs.YtfpihflepeiagaaGreatDoor
open Go.RowKit

theorem aw_machs:machsM awRows 1=[machM awRows]:=by
 unfold machsM
 rw[show List.range 1=[0] from rfl,List.map_singleton,show ofRows ((0:Nat):Int) awRows=awRows from by kernel_rfl]
theorem aw_low:∀ r∈awRows,0≤r.2.2:=by
 intro r hr
 simp only[awRows,List.mem_cons,List.not_mem_nil,or_false] at hr
 rcases hr with rfl | rfl <;> decide
theorem aw_rowsFit:RowsFit awRows:=by
 refine⟨by decide,fun r hr=>?_⟩
 simp only[awRows,List.mem_cons,List.not_mem_nil,or_false] at hr
 rcases hr with rfl | rfl <;> decide
theorem aw_sum:((machsM awRows 1).map List.length).sum=2:=by
 rw[aw_machs,List.map_singleton,List.sum_singleton]
 exact (awM_rows (r:=awRows) rfl).1
theorem aw_pred1:predictR (machsM awRows 1) 0 [0]=1:=by rw[machs_predict aw_low];decide
theorem aw_pred2:predictR (machsM awRows 1) 0 [0,0]=-1:=by rw[machs_predict aw_low];decide
theorem aw_fits:¬ BadK 1 gA→∀ s rows,AheadO 1 gA (some s)→rows.Perm (rowsFrom 0 gA.2.2 s)→RowsFit rows∧FitR rows:=by
 intro _ s rows ha hp
 have:=ha.det aw_ahead
 injection this with this
 subst this
 rw[show gA.2.2=gAr from rfl,gA_rows] at hp
 exact⟨⟨by rw[hp.length_eq];decide,fun r hr=>aw_rowsFit.w r (hp.mem_iff.1 hr)⟩,fun r hr=>aw_fit r (hp.mem_iff.1 hr)⟩
set_option maxRecDepth 100000 in
set_option maxHeartbeats 4000000 in
theorem awake26_any (w:World) (ht:TabP w):Calls Tryz.prog 7 #[] w fun e w'=>e=.returned (.bool true)∧Below w.heap.size w w':=by
 obtain⟨W,hW⟩:∃ W,W=(awObjs w.heap.size).foldl World.alloc w:=⟨_,rfl⟩
 obtain⟨hs,hbW,hg⟩:=aw_data w W hW
 have hq4:W.heap[w.heap.size+4]? = some (.cells #[.slice (some ⟨w.heap.size,0,none⟩) 1 1,.slice (some ⟨w.heap.size+1,0,none⟩) 1 1,.slice (some ⟨w.heap.size+3,0,none⟩) 2 2] 25 (0,0)):=by rw[hW];exact heap_many _ w 4 _ rfl
 have r0:=cell_of_row W _ 0 _ _ _ hq4
 have r1:=cell_of_row W _ 1 _ _ _ hq4
 have r2:=cell_of_row W _ 2 _ _ _ hq4
 simp only[List.getElem?_toArray,List.getElem?_cons_succ,List.getElem?_cons_zero] at r0 r1 r2
 have HG:=Lib.hid hg
 have HS:=Lib.hid hs
 have HBW:=Lib.hid hbW
 have HW:=Lib.hid hW
 have HT:=Lib.hid (ht.below hbW)
 clear hg hq4 hs hbW hW ht
 go_enter Tryz.func7,Tryz.ntmps7
 go_wp2_with fail
 change Calls _ _ _ ((awObjs w.heap.size).foldl World.alloc w) _
 rw[←HW.out]
 refine (make26_any 1 W HG.out (by decide) HT.out aw_fits).mono ?_
 rintro e w1 ⟨hb1,_,hgood⟩
 obtain⟨o,ho,hout⟩:=hgood aw_bad
 have hoe:=ho.det aw_ahead
 subst hoe
 rcases hout with ⟨hne,_⟩ | ⟨_,v,rows,rfl,hp,hsd,hown⟩
 ·exact absurd gA_clash hne
 ·have hre:=aw_rows (show rows.Perm awRows by have:=hp;rwa [show gA.2.2=gAr from rfl,gA_rows] at this) hsd
  subst hre
  clear hp hsd ho hgood
  obtain⟨A5,c5,rfl,hc5,hc5'⟩:=hown.form
  unfold maxLen at hc5'
  rw[machs_len] at hc5 hown ⊢
  have HR:=Lib.hid hown
  have HB1:=Lib.hid hb1
  clear hown hb1 r0 r1 r2
  have HP1:=Lib.hid (fun (w':World) (hb:Below w1.heap.size w1 w')=>(show Calls Tryz.prog 12 #[.slice A5 1 c5,.int .i64 0,.string ⟨#[0]⟩] w' fun e w2=>e=.returned (.tuple #[.int .i64 1,.bool true])∧Below w'.heap.size w' w2 from (predict_any _ _ 0 ⟨#[0]⟩ w' (HR.out.next hb hb.size) (by decide)).mono fun e w2 ⟨h1,h2⟩=>⟨by rw[h1,show predictR (machsM awRows 1) 0 (⟨#[0]⟩:ByteArray).data.toList=1 from aw_pred1];rfl,h2⟩))
  have HP2:=Lib.hid (fun (w':World) (hb:Below w1.heap.size w1 w')=>(show Calls Tryz.prog 12 #[.slice A5 1 c5,.int .i64 0,.string ⟨#[0,0]⟩] w' fun e w2=>e=.returned (.tuple #[.int .i64 0,.bool false])∧Below w'.heap.size w' w2 from (predict_any _ _ 0 ⟨#[0,0]⟩ w' (HR.out.next hb hb.size) (by decide)).mono fun e w2 ⟨h1,h2⟩=>⟨by rw[h1,show predictR (machsM awRows 1) 0 (⟨#[0,0]⟩:ByteArray).data.toList=-1 from aw_pred2];rfl,h2⟩))
  go_wp2_with fail
  refine (HP1.out w1 (Below.refl _ _)).mono ?_
  rintro e w2 ⟨rfl,hb2⟩
  have HB2:=Lib.hid hb2
  clear hb2
  go_wp2_with fail
  refine (HP2.out w2 HB2.out).mono ?_
  rintro e w3 ⟨rfl,hb3⟩
  have HB3:=Lib.hid (HB2.out.trans (hb3.mono HB2.out.size))
  clear hb3
  have hR3:=HR.out.next HB3.out HB3.out.size
  have HST:=Lib.hid (show Calls Tryz.prog 18 #[.slice A5 1 c5] w3 fun e w'=>e=.returned (.int .i64 2)∧w'=w3 from (states26_any _ _ w3 hR3 (by rw[aw_sum];decide)).mono fun e w2 ⟨h1,h2⟩=>⟨by rw[h1,aw_sum];rfl,h2⟩)
  rw[aw_machs] at hR3
  obtain⟨b1,o1,cs,rfl,-,hb1,⟨u,rfl,hu⟩,hcell⟩:=hR3.get (k:=0) (by decide) (by decide)
  obtain⟨A4,e4,rfl,he1,he2⟩:=hu.form
  have d0:=hcell 0 _ rfl
  clear hcell hR3
  simp only[show (eSl eState).size=1 from rfl,Nat.zero_mul,Nat.add_zero] at d0
  obtain⟨hm1,hm2,hm3⟩:=awM_rows (r:=awRows) rfl
  change w3.cell? _=some (.slice A4 (machM awRows).length e4) at d0
  change SlR eState w3 _ (.slice A4 (machM awRows).length e4) (machM awRows) at hu
  change (machM awRows).length≤e4 at he1
  rw[hm1] at d0 hu he1
  obtain⟨b2,o2,cs,rfl,-,hb2,hrep,hcell⟩:=hu.get (k:=0) (by omega) (by decide)
  obtain⟨u0,rfl,-,-,-⟩:=eState_open hrep
  have f0:=hcell 0 _ rfl
  clear hcell hrep
  obtain⟨b3,o3,cs,e3,-,hb3,hrep,hcell⟩:=hu.get (k:=1) (by omega) (by decide)
  obtain⟨u1,rfl,-,-,-⟩:=eState_open hrep
  have f1:=hcell 0 _ rfl
  clear hcell hrep hu
  injection e3 with e3
  injection e3 with e31 e32 _
  subst e31 e32
  rw[outM_get (by omega)] at hm2 hm3
  rw[hm2] at f0
  rw[hm3] at f1
  simp only[show eState.size=2 from rfl,Nat.zero_mul,Nat.one_mul,Nat.add_zero] at f0 f1
  clear hm1 hm2 hm3
  go_wp2_with fail
  refine HST.out.mono ?_
  rintro e w4 ⟨rfl,rfl⟩
  go_wp2_with fail
  go_ret
  exact⟨rfl,HBW.out.trans ((HB1.out.trans (HB3.out.mono HB1.out.size)).mono (by have:=HS.out;omega))⟩
end Go.Proofs.YtfpihflepeiagaaGreatDoor
namespace Go.Proofs.YtfpihflepeiagaaGreatDoor
open Go.RowKit

end Go.Proofs.YtfpihflepeiagaaGreatDoor
namespace Go.Proofs.YtfpihflepeiagaaGreatDoor
open Go.RowKit

end Go.Proofs.YtfpihflepeiagaaGreatDoor
namespace Go.Proofs.YtfpihflepeiagaaGreatDoor
open Go.RowKit

theorem bl_of {M:List Bool} {L:Nat} {f:Nat→Bool} (hl:M.length=L+1) (h:∀ j<L+1,atB M j=f j):M=bl L f:=by
 apply List.ext_getElem (by rw[bl_len,hl])
 intro j h1 h2
 rw[bl_at (by omega)]
 have:=h j (by omega)
 rw[←this]
 unfold atB
 rw[List.getD_eq_getElem?_getD,List.getElem?_eq_getElem h1]
 rfl
theorem BoolsAt.blk {w:World} {x:Nat} {M:List Bool} {L:Nat} {f:Nat→Bool} (h:BoolsAt w x M) (hl:M.length=L+1) (hf:∀ j<L+1,atB M j=f j):BlkB w x L f:=by
 have:=bl_of hl hf
 subst this
 exact h
theorem roomF_put {n L:Nat} {F:Nat→Nat→Bool} {a p:Nat} (ha:a<n) (hp:p≤L) (h:F a p=false):roomF n L (putO F a p)+1≤roomF n L F:=by
 refine countP_lt _ (fun x _ hx=>?_) ⟨(a,p),mem_placesF ha hp,by simp[h],by simp[putO]⟩
 simp only[putO,Bool.not_or,Bool.and_eq_true] at hx
 exact hx.1
structure PassI (m:Mch) (tm:Nat) (F1 F:Nat→Nat→Bool) (more:Bool) (i k:Nat):Prop where
 out:∀ a≤m.length,∀ b≤m.length,F a b=false→outX m a=outX m b
 room:roomF (m.length+1) m.length F+more.toNat≤roomF (m.length+1) m.length F1
 done:more=false→∀ a≤m.length,∀ b≤m.length,(a<i∨a=i∧b<k)→F a b=false→∀ t<tm,F (goX m a t) (goX m b t)=false
def PassT (m:Mch) (F:Nat→Nat→Bool) (more:Bool) (i k t:Nat):Prop:=more=false→F i k=false→∀ u<t,F (goX m i u) (goX m k u)=false
theorem PassI.start {m:Mch} {tm:Nat} {F:Nat→Nat→Bool} (h:∀ a≤m.length,∀ b≤m.length,F a b=false→outX m a=outX m b):PassI m tm F F false 0 0 :=
 ⟨h,by simp,fun _ a _ b _ h2=>by omega⟩
theorem PassI.row {m:Mch} {tm:Nat} {F1 F:Nat→Nat→Bool} {more:Bool} {i:Nat} (h:PassI m tm F1 F more i (m.length+1)):PassI m tm F1 F more (i+1) 0 :=
 ⟨h.out,h.room,fun hm a ha b hb h2=>h.done hm a ha b hb (by omega)⟩
theorem PassI.next {m:Mch} {tm:Nat} {F1 F:Nat→Nat→Bool} {more:Bool} {i k t:Nat} (h:PassI m tm F1 F more i k) (hT:PassT m F more i k t) (ht:F i k=true∨tm≤t):PassI m tm F1 F more i (k+1) :=
 ⟨h.out,h.room,fun hm a ha b hb h2 hf u hu=>by
  by_cases e:a=i∧b=k
  ·obtain⟨rfl,rfl⟩:=e
   rcases ht with ht | ht
   ·rw[ht] at hf;cases hf
   ·exact hT hm hf u (by omega)
  ·exact h.done hm a ha b hb (by omega) hf u hu⟩
theorem PassI.put {m:Mch} {tm:Nat} {F1 F:Nat→Nat→Bool} {more:Bool} {i k:Nat} (h:PassI m tm F1 F more i k) (hi:i≤m.length) (hk:k≤m.length) (hf:F i k=false):PassI m tm F1 (putO F i k) true i k :=
 ⟨fun a ha b hb h2=>h.out a ha b hb (by unfold putO at h2;rw[Bool.or_eq_false_iff] at h2;exact h2.1),by
  have h1:=roomF_put (n:=m.length+1) (L:=m.length) (F:=F) (a:=i) (p:=k) (by omega) hk hf
  have h2:=h.room
  show _+1≤_
  omega,fun hm=>by cases hm⟩
end Go.Proofs.YtfpihflepeiagaaGreatDoor
namespace Go.Proofs.YtfpihflepeiagaaGreatDoor
open Go.RowKit

end Go.Proofs.YtfpihflepeiagaaGreatDoor
namespace Go.Proofs.YtfpihflepeiagaaGreatDoor
open Go.RowKit

def Few14To (ns ts:List ByteArray) (rs:List (Int×List Int)) (w:World) (e:Ending) (w':World):Prop:=∃ z:Int,e=.returned (.int .i64 z)∧(z=0∨(z=1∧ns.length≤12∧ts.length≤12∧rs.length≤40))∧Below w.heap.size w w'
set_option maxHeartbeats 2000000 in
theorem few14_any (v1 v2 v3:Value) (ns ts:List ByteArray) (rs:List (Int×List Int)) (w:World) (h1:SlR eStr w w.heap.size v1 ns) (h2:SlR eStr w w.heap.size v2 ts) (h3:SlR eRule w w.heap.size v3 rs) :
  Calls Tryz.prog 6 #[.agg #[v1,v2,v3]] w (Few14To ns ts rs w):=by
 obtain⟨A1,c1,rfl,hc1,hc1'⟩:=h1.form
 obtain⟨A2,c2,rfl,hc2,hc2'⟩:=h2.form
 obtain⟨A3,c3,rfl,hc3,hc3'⟩:=h3.form
 unfold maxLen at hc1' hc2' hc3'
 by_cases hgood:ns.length≤12∧ts.length≤12∧rs.length≤40
 case neg =>
  have hcase:12<ns.length∨(ns.length≤12∧12<ts.length)∨(ns.length≤12∧ts.length≤12∧40<rs.length):=by omega
  rcases hcase with h | ⟨h0,h⟩ | ⟨h0,h0',h⟩
  all_goals
   go_enter Tryz.func6,Tryz.ntmps6
   go_wp2_with fail
   all_goals first
    |(exfalso;omega)
    |(go_ret;exact⟨0,rfl,.inl rfl,by go_grown⟩)
 obtain⟨g1,g2,g3⟩:=hgood
 go_enter Tryz.func6,Tryz.ntmps6
 go_wp2_with fail
 all_goals first
  |(exfalso;omega)
  |skip
 have HW:Hid (Below w.heap.size w (w.alloc (Obj.cells #[Value.slice A1 ns.length c1,Value.slice A2 ts.length c2,Value.slice A3 rs.length c3] 25))):=(Below.refl _ _).alloc (Nat.le_refl _) _
 have HS:Hid ((w.alloc (Obj.cells #[Value.slice A1 ns.length c1,Value.slice A2 ts.length c2,Value.slice A3 rs.length c3] 25)).heap.size=w.heap.size+1):=by show _=_;simp
 have k0:(w.alloc (Obj.cells #[Value.slice A1 ns.length c1,Value.slice A2 ts.length c2,Value.slice A3 rs.length c3] 25)).cell? ⟨w.heap.size,0,none⟩=some (Value.slice A1 ns.length c1):=by simp
 have k1:(w.alloc (Obj.cells #[Value.slice A1 ns.length c1,Value.slice A2 ts.length c2,Value.slice A3 rs.length c3] 25)).cell? ⟨w.heap.size,1,none⟩=some (Value.slice A2 ts.length c2):=by simp
 have k2:(w.alloc (Obj.cells #[Value.slice A1 ns.length c1,Value.slice A2 ts.length c2,Value.slice A3 rs.length c3] 25)).cell? ⟨w.heap.size,2,none⟩=some (Value.slice A3 rs.length c3):=by simp
 generalize w.alloc (Obj.cells #[Value.slice A1 ns.length c1,Value.slice A2 ts.length c2,Value.slice A3 rs.length c3] 25)=W at HW HS k0 k1 k2 ⊢
 have h1W:=h1.below HW.out
 have h2W:=h2.below HW.out
 have h3W:=h3.below HW.out
 clear h1 h2 h3
 go_loop [3] (fun v=>∃ k:Nat,k≤rs.length∧v=.int .i64 k) (fun v=>rs.length - (intOf v).toNat)
 case atStart=>exact⟨0,by omega,rfl⟩
 case round =>
  obtain⟨k,hk,rfl⟩:=hrel
  by_cases hlt:k<rs.length
  ·obtain⟨ab,ao,cs,rfl,_,hab,hrep,hcell⟩:=h3W.get hlt (by decide)
   obtain⟨u,rfl,hu,hz1,hz2⟩:=eRule_open hrep
   obtain⟨A4,e4,rfl,hq1,hq2⟩:=hu.form
   unfold maxLen at hq2
   have hc1':=hcell 1 _ rfl
   clear hcell
   simp only[show eRule.size=2 from rfl,←Nat.add_assoc] at hc1'
   go_wp2_with fail
   ·go_ret
    exact⟨0,rfl,.inl rfl,HW.out⟩
   ·go_round
    case rel=>exact⟨k+1,by omega,by go_num⟩
    case measure=>simp[intOf];omega
  go_wp2_with fail
  go_loop [4] (fun v=>∃ j:Nat,j≤ns.length∧v=.int .i64 j) (fun v=>ns.length - (intOf v).toNat)
  case atStart=>exact⟨0,by omega,rfl⟩
  case round =>
   obtain⟨j,hj,rfl⟩:=hrel
   by_cases hlj:j<ns.length
   ·obtain⟨ab,ao,cs,rfl,_,hab,hrep,hcell⟩:=h1W.get hlj (by decide)
    obtain⟨rfl,hx1⟩:=hrep
    unfold maxLen at hx1
    have hc0:=hcell 0 _ rfl
    clear hcell
    simp only[show eStr.size=1 from rfl,Nat.mul_one,Nat.add_zero] at hc0
    go_wp2_with fail
    ·go_ret
     exact⟨0,rfl,.inl rfl,HW.out⟩
    ·go_round
     case rel=>exact⟨j+1,by omega,by go_num⟩
     case measure=>simp[intOf];omega
   go_wp2_with fail
   go_loop [5] (fun v=>∃ i:Nat,i≤ts.length∧v=.int .i64 i) (fun v=>ts.length - (intOf v).toNat)
   case atStart=>exact⟨0,by omega,rfl⟩
   case round =>
    obtain⟨i,hi,rfl⟩:=hrel
    by_cases hli:i<ts.length
    ·obtain⟨ab,ao,cs,rfl,_,hab,hrep,hcell⟩:=h2W.get hli (by decide)
     obtain⟨rfl,hx1⟩:=hrep
     unfold maxLen at hx1
     have hc0:=hcell 0 _ rfl
     clear hcell
     simp only[show eStr.size=1 from rfl,Nat.mul_one,Nat.add_zero] at hc0
     go_wp2_with fail
     ·go_ret
      exact⟨0,rfl,.inl rfl,HW.out⟩
     ·go_round
      case rel=>exact⟨i+1,by omega,by go_num⟩
      case measure=>simp[intOf];omega
    go_wp2_with fail
    go_ret
    exact⟨1,rfl,.inr ⟨rfl,g1,g2,g3⟩,HW.out⟩
end Go.Proofs.YtfpihflepeiagaaGreatDoor
namespace Go.Proofs.YtfpihflepeiagaaGreatDoor
open Go.RowKit

end Go.Proofs.YtfpihflepeiagaaGreatDoor
namespace Go.Proofs.YtfpihflepeiagaaGreatDoor
open Go.RowKit

set_option maxRecDepth 100000 in
set_option maxHeartbeats 16000000 in
theorem reached15_any {A1 A2 A3:Option Addr} {n m q c1 c2 c3:Nat} {g:Gram} (w:World) (h:GramR w w.heap.size A1 A2 A3 n m q c1 c2 c3 g) (hv:gramB g=true) :
  Calls Tryz.prog 22 #[gramV A1 A2 A3 n m q c1 c2 c3] w (OwnBools w (reached g.2.2 n)):=by
 have hbx:=(Below.refl w.heap.size w).alloc (Nat.le_refl _) (.cells #[.slice A1 n c1,.slice A2 m c2,.slice A3 q c3] 25)
 have HV:=Lib.hid ((h.fut (B':=w.heap.size+1) hbx (Nat.le_refl _) (by omega)).rules)
 have HK:=Lib.hid (Go.heap_alloc_new w (.cells #[.slice A1 n c1,.slice A2 m c2,.slice A3 q c3] 25))
 have HZ:=Lib.hid (World.size_alloc w (.cells #[.slice A1 n c1,.slice A2 m c2,.slice A3 q c3] 25))
 have HBX:=Lib.hid hbx
 have HCELL:Hid (∀ (w2:World),w2.heap[w.heap.size]? = some (.cells #[.slice A1 n c1,.slice A2 m c2,.slice A3 q c3] 25 (0,0))→w2.cell? ⟨w.heap.size,0,none⟩=some (.slice A1 n c1)∧w2.cell? ⟨w.heap.size,2,none⟩=some (.slice A3 q c3)):=fun w2 hk=>⟨by rw[cell_of_row _ _ _ _ _ _ hk];rfl,by rw[cell_of_row _ _ _ _ _ _ hk];rfl⟩
 have hn1:1≤n:=by have:=(gramB_good hv).n1;have:=h.ln.1;omega
 have hn2:n≤256:=by have:=(gramB_good hv).nm;have:=h.ln.1;omega
 have hq2:q≤4096:=by have:=(gramB_good hv).q;have:=h.ln.2.2;omega
 have HFIT:=Lib.hid (show ∀ r∈g.2.2,0≤r.1∧r.1<n∧r.2.length≤64∧∀ s∈r.2,s<(n:Int) from fun r hr=>by
  obtain⟨f1,f2,f3,f4⟩:=(gramB_good hv).fit r hr
  have:=h.ln.1
  exact⟨f1,by omega,f3,fun s hs=>by have:=(f4 s hs).1;omega⟩)
 have HQ:=Lib.hid h.ln.2.2
 obtain⟨ns,ts,rs⟩:=g
 simp only at HV HFIT HQ ⊢
 clear h hv hbx
 obtain⟨tot,htot⟩:∃ tot,tot=reached rs n:=⟨_,rfl⟩
 rw[←htot]
 have HTOT:=Lib.hid (show tot=roundsOf reachStep rs (n+1) ((List.replicate n false).set 0 true) from htot)
 clear htot
 have hmk:=bool_make n (by omega) (w.alloc (.cells #[.slice A1 n c1,.slice A2 m c2,.slice A3 q c3] 25))
 rw[World.size_alloc] at hmk
 have HK2:=Lib.hid (Go.heap_alloc_new (w.alloc (.cells #[.slice A1 n c1,.slice A2 m c2,.slice A3 q c3] 25)) (.cells (List.replicate n (Value.bool false)).toArray 4))
 rw[World.size_alloc] at HK2
 have HB2:=Lib.hid ((Below.refl (w.heap.size+1) (w.alloc (.cells #[.slice A1 n c1,.slice A2 m c2,.slice A3 q c3] 25))).alloc (Nat.le_of_eq (World.size_alloc _ _).symm) (.cells (List.replicate n (Value.bool false)).toArray 4))
 have HZ2:=Lib.hid (World.size_alloc (w.alloc (.cells #[.slice A1 n c1,.slice A2 m c2,.slice A3 q c3] 25)) (.cells (List.replicate n (Value.bool false)).toArray 4))
 obtain⟨w2,hw2⟩:∃ w2,w2=(w.alloc (.cells #[.slice A1 n c1,.slice A2 m c2,.slice A3 q c3] 25)).alloc (.cells (List.replicate n (Value.bool false)).toArray 4):=⟨_,rfl⟩
 rw[←hw2] at hmk HK2 HB2 HZ2
 clear hw2
 go_enter Tryz.func22,Tryz.ntmps22
 have HR2:=Lib.hid (show w2.heap[w.heap.size+1]? = some (.cells (bcellsB (List.replicate n false)).toArray 4 (0,0)) by rw[HK2.out];simp[bcellsB])
 have c9:w2.cell? ⟨w.heap.size+1,0,none⟩=some (.bool false):=by
  rw[bool_row_get HR2.out (by rw[List.length_replicate];exact hn1)]
  simp
 have f9:w2.frozen? ⟨w.heap.size+1,0,none⟩=false:=by simp[World.frozen?,HR2.out]
 have HR3:=Lib.hid (bool_row_set HR2.out (k:=0) true)
 have HB3:=Lib.hid (Below.setCell (p:=⟨w.heap.size+1,0,none⟩) HB2.out (Nat.le_refl _) (.bool true))
 clear HR2 HK2 HB2
 go_wp2_with fail
 generalize w.alloc (.cells #[.slice A1 n c1,.slice A2 m c2,.slice A3 q c3] 25)=w1 at *
 clear hmk c9 f9
 go_loopg [4] (n+1) (fun left v4 wr=>∃ (i:Nat) (S:List Bool),i≤n+1∧n+1 - i≤left∧v4=.int .i64 i∧Hid (tot=roundsOf reachStep rs (n+1 - i) S)∧Hid (S.length=n)∧Hid (wr.heap[w.heap.size+1]? = some (.cells (bcellsB S).toArray 4 (0,0)))∧Hid (Below (w.heap.size+1) w1 wr))
 case atStart=>exact⟨0,(List.replicate n false).set 0 true,by omega,by omega,rfl,HTOT.out,by show _=_;rw[List.length_set,List.length_replicate],HR3.out,HB3.out⟩
 case round =>
  clear HR3 HB3
  obtain⟨i,S,hi,hleft,rfl,HT,HSL,HR,HB⟩:=hrel
  obtain⟨gas,hgas⟩:∃ gas,gas=gk:=⟨_,rfl⟩
  rw[←hgas] at hleft
  have HGK:=Lib.hid hgas
  clear hgas
  generalize wr=wo at *
  obtain⟨a0,a2⟩:=HCELL.out wo ((HB.out.block w.heap.size (by omega)).trans HK.out)
  by_cases hlt:i<n+1
  ·have HT2:=Lib.hid (show tot=roundsOf reachStep rs (n - i) (rs.foldl reachStep S) by rw[HT.out,show n+1 - i=(n - i)+1 by omega];rfl)
   have hdi:decide ((i:Int)≤(n:Int))=true:=by rw[decide_eq_true_eq];omega
   have hdn:decide (i≤n)=true:=by rw[decide_eq_true_eq];omega
   clear HT
   go_wp2_with fail
   go_loopg [5] q (fun lf2 v5 wt=>∃ (j:Nat) (T:List Bool),j≤q∧q - j≤lf2∧v5=.int .i64 j∧Hid (rs.foldl reachStep S=(rs.drop j).foldl reachStep T)∧Hid (T.length=n)∧Hid (wt.heap[w.heap.size+1]? = some (.cells (bcellsB T).toArray 4 (0,0)))∧Hid (Below (w.heap.size+1) w1 wt))
   case atStart=>exact⟨0,S,by omega,by omega,rfl,rfl,HSL.out,HR.out,HB.out⟩
   case round =>
    clear HR HB HSL a0 a2
    obtain⟨j,T,hj,hlf2,rfl,HF,HTL,HR,HB⟩:=hrel
    obtain⟨gas2,hgas2⟩:∃ gas2,gas2=gk:=⟨_,rfl⟩
    rw[←hgas2] at hlf2
    have HGK2:=Lib.hid hgas2
    clear hgas2
    generalize wr=wp at *
    obtain⟨a0,a2⟩:=HCELL.out wp ((HB.out.block w.heap.size (by omega)).trans HK.out)
    by_cases hjq:j<q
    ·have hjl:j<rs.length:=by rw[←HQ.out];exact hjq
     have HF2:=Lib.hid (show rs.foldl reachStep S=(rs.drop (j+1)).foldl reachStep (rs[j].2.foldl (fun R s=>reachSym R rs[j].1 s) T) by rw[HF.out,foldl_drop hjl];rfl)
     obtain⟨f1,f2,f3,f4⟩:=HFIT.out rs[j] (List.getElem_mem hjl)
     have HRE:=Lib.hid (show ∀ w':World,Below (w.heap.size+1) w1 w'→∃ (b off:Nat) (A5:Option Addr) (c5:Nat),A3=some ⟨b,off,none⟩∧w'.cell? ⟨b,off+j*2,none⟩=some (.int .i64 rs[j].1)∧w'.cell? ⟨b,off+j*2+1,none⟩=some (.slice A5 rs[j].2.length c5)∧rs[j].2.length≤c5∧c5≤maxLen∧SlR eInt w' (w.heap.size+1) (.slice A5 rs[j].2.length c5) rs[j].2 from fun w' hb=>by
      obtain⟨b,off,cs,rfl,-,hbl,hrep,hcell⟩:=(HV.out.below hb).get (k:=j) hjl (by decide)
      obtain⟨v,rfl,hsl,hz1,hz2⟩:=eRule_open hrep
      obtain⟨A5,c5,rfl,hl5,hl6⟩:=hsl.form
      have hc0:=hcell 0 _ rfl
      have hc1:=hcell 1 _ rfl
      simp only[show eRule.size=2 from rfl,Nat.add_zero,←Nat.add_assoc] at hc0 hc1
      exact⟨b,off,A5,c5,rfl,hc0,hc1,hl5,hl6,hsl⟩)
     obtain⟨r,hr⟩:∃ r,r=rs[j]:=⟨_,rfl⟩
     rw[←hr] at HF2 HRE f1 f2 f3 f4
     obtain⟨a,right⟩:=r
     simp only at HF2 HRE f1 f2 f3 f4
     obtain⟨at_,rfl⟩:∃ at_:Nat,a=(at_:Int):=⟨a.toNat,by omega⟩
     have hatn:at_<n:=by omega
     obtain⟨p,hp⟩:∃ p,p=right.length:=⟨_,rfl⟩
     rw[←hp] at HRE f3
     have HP:=Lib.hid hp
     have HF4:=Lib.hid f4
     clear hr hp hjl HF f4 f1 f2
     go_wp2_with fail
     go_loopg [6] p (fun lf3 v6 wt=>∃ (k:Nat) (U:List Bool),k≤p∧p - k≤lf3∧v6=.int .i64 k∧Hid (right.foldl (fun R s=>reachSym R at_ s) T=(right.drop k).foldl (fun R s=>reachSym R at_ s) U)∧Hid (U.length=n)∧Hid (wt.heap[w.heap.size+1]? = some (.cells (bcellsB U).toArray 4 (0,0)))∧Hid (Below (w.heap.size+1) w1 wt))
     case atStart=>exact⟨0,T,by omega,by omega,rfl,rfl,HTL.out,HR.out,HB.out⟩
     case round =>
      clear HR HB HTL a0 a2
      obtain⟨k,U,hk,hlf3,rfl,HU,HUL,HR,HB⟩:=hrel
      obtain⟨a0,a2⟩:=HCELL.out wr ((HB.out.block w.heap.size (by omega)).trans HK.out)
      obtain⟨b,off,A5,c5,rfl,hc0,hc1,hl5,hl6,hsl⟩:=HRE.out wr HB.out
      by_cases hkp:k<p
      ·have hkl:k<right.length:=by rw[←HP.out];exact hkp
       obtain⟨b4,o4,cs4,rfl,-,-,hrep4,hcell4⟩:=hsl.get (k:=k) hkl (by decide)
       obtain⟨rfl,hx1,hx2⟩:=hrep4
       have hc4:=hcell4 0 _ rfl
       simp only[show eInt.size=1 from rfl,Nat.mul_one,Nat.add_zero] at hc4
       have HU2:=Lib.hid (show right.foldl (fun R s=>reachSym R at_ s) T=(right.drop (k+1)).foldl (fun R s=>reachSym R at_ s) (reachSym U at_ right[k]) by rw[HU.out,List.drop_eq_getElem_cons hkl,List.foldl_cons])
       have hsn:=HF4.out _ (List.getElem_mem hkl)
       obtain⟨s,hs⟩:∃ s,s=right[k]:=⟨_,rfl⟩
       rw[←hs] at hc4 HU2 hsn hx1 hx2
       have hatU:at_<U.length:=by rw[HUL.out];exact hatn
       have cK:=bool_row_get HR.out hatU
       have HKB:=Lib.hid (show U.getD at_ false=U[at_] by rw[List.getD_eq_getElem?_getD,List.getElem?_eq_getElem hatU];rfl)
       obtain⟨bk,hbk⟩:∃ bk,bk=U[at_]:=⟨_,rfl⟩
       rw[←hbk] at cK HKB
       clear hcell4 hs hkl hsl hbk hatU
       by_cases hs0:s<0
       ·have hd:decide (0≤s)=false:=by simpa using hs0
        have HE:=Lib.hid (show reachSym U at_ s=U by unfold reachSym;rw[if_neg (by simp;omega)])
        rw[HE.out] at HU2
        go_wp2_with fail
        go_roundg (gk - 1)
        case measure=>omega
        case rel=>exact⟨k+1,U,by omega,by omega,by go_num,HU2.out,HUL.out,HR.out,HB.out⟩
       ·have hd:decide (0≤s)=true:=by simp;omega
        obtain⟨t,rfl⟩:∃ t:Nat,s=(t:Int):=⟨s.toNat,by omega⟩
        have htn:t<n:=by omega
        cases bk with
        |false =>
         have HE:=Lib.hid (show reachSym U at_ (t:Int)=U by unfold reachSym;rw[Int.toNat_natCast,HKB.out];simp)
         rw[HE.out] at HU2
         go_wp2_with fail
         go_roundg (gk - 1)
         case measure=>omega
         case rel=>exact⟨k+1,U,by omega,by omega,by go_num,HU2.out,HUL.out,HR.out,HB.out⟩
        |true =>
         have HE:=Lib.hid (show reachSym U at_ (t:Int)=U.set t true by unfold reachSym;rw[Int.toNat_natCast,HKB.out];simp)
         rw[HE.out] at HU2
         have htU:t<U.length:=by rw[HUL.out];exact htn
         have cT:=bool_row_get HR.out htU
         have fT:wr.frozen? ⟨w.heap.size+1,t,none⟩=false:=by simp[World.frozen?,HR.out]
         obtain⟨bt,hbt⟩:∃ bt,bt=U[t]:=⟨_,rfl⟩
         rw[←hbt] at cT
         have HR3:=Lib.hid (bool_row_set HR.out (k:=t) true)
         have HB3:=Lib.hid (Below.setCell (p:=⟨w.heap.size+1,t,none⟩) HB.out (Nat.le_refl _) (.bool true))
         clear hbt htU
         go_wp2_with fail
         go_roundg (gk - 1)
         case measure=>omega
         case rel=>exact⟨k+1,U.set t true,by omega,by omega,by go_num,HU2.out,by show _=_;rw[List.length_set];exact HUL.out,HR3.out,HB3.out⟩
      ·have HF3:=Lib.hid (show rs.foldl reachStep S=(rs.drop (j+1)).foldl reachStep U by
        rw[HF2.out,HU.out,show right.drop k=[] from List.drop_eq_nil_of_le (by rw[←HP.out];omega)];rfl)
       clear hsl
       go_wp2_with fail
       go_roundg (gas2 - 1)
       case measure=>have:=HGK2.out;omega
       case rel=>exact⟨j+1,U,by omega,by omega,by go_num,HF3.out,HUL.out,HR.out,HB.out⟩
    ·have HT3:=Lib.hid (show tot=roundsOf reachStep rs (n+1 - (i+1)) T by
      rw[HT2.out,HF.out,List.drop_eq_nil_of_le (by rw[←HQ.out];omega),show n+1 - (i+1)=n - i by omega];rfl)
     go_wp2_with fail
     go_roundg (gas - 1)
     case measure=>have:=HGK.out;omega
     case rel=>exact⟨i+1,T,by omega,by omega,by go_num,HT3.out,HTL.out,HR.out,HB.out⟩
  ·have HE:=Lib.hid (show tot=S by rw[HT.out,show n+1 - i=0 by omega];rfl)
   have hdi:decide ((i:Int)≤(n:Int))=false:=by simp;omega
   go_wp2_with fail
   go_ret
   refine⟨w.heap.size+1,?_,?_,Nat.le_succ _,HBX.out.trans (HB.out.mono (Nat.le_succ _))⟩
   ·rw[HE.out,HSL.out];rfl
   ·rw[HE.out];exact HR.out
end Go.Proofs.YtfpihflepeiagaaGreatDoor
