/- Texts of this proof joined: MiniMake, Ladfa1, MacW6, Drive1, Mach26. -/
import Derived.Test.YtfpihflepeiagaaGreatDoorLN35
import Derived.Test.YtfpihflepeiagaaGreatDoorLN36
import Derived.Test.YtfpihflepeiagaaGreatDoorLN32
import Derived.Test.YtfpihflepeiagaaGreatDoorLN30
import Derived.Test.YtfpihflepeiagaaGreatDoorLN29
import Derived.Test.YtfpihflepeiagaaGreatDoorLN06
namespace Go.Proofs.YtfpihflepeiagaaGreatDoor
open Go.RowKit

theorem int_appW:AppTy Tryz.prog 39 3 1 8 (.int .i64 0):=appTy Tryz.underlying39 (by kernel_rfl) rfl (by omega)
theorem state_app:AppTy Tryz.prog 45 58 2 32 (.agg #[.int .i64 0,.slice none 0 0]):=appTy (by kernel_rfl) (by kernel_rfl) rfl (by omega)
theorem intInt_keys:KeyTy Tryz.prog 97 3 3 (Value.int .i64):=keyTy_int (by kernel_rfl) (by kernel_rfl)
def MiniTo (m:Mch) (w:World) (e:Ending) (w':World):Prop:=∃ vm,e=.returned vm∧(∀ w'':World,(∀ b,w.heap.size≤b→b<w'.heap.size→w''.heap[b]? = w'.heap[b]?)→SlR eState w'' w''.heap.size vm (miniM m))∧Below w.heap.size w w'
set_option maxRecDepth 100000 in
set_option maxHeartbeats 16000000 in
theorem miniMake_any (v:Value) (m:Mach) (w:World) (hv:SlR eState w w.heap.size v m) (hl:m.length≤2199023255552) (he:∀ k<m.length,(edM m k).length≤2199023255552) (ht:TabP w) :
  Calls Tryz.prog 30 #[v] w (MiniTo m w):=by
 have HR:=Lib.hid (miniRight_any v m w hv)
 obtain⟨A,c,rfl,-,-⟩:=hv.form
 have hc1:=hv.n_le
 have HV:=Lib.hid hv
 have HE:=Lib.hid he
 have HT:=Lib.hid ht
 clear hv he ht
 by_cases hvd:validM m 9223372036854775807=true
 ·rw[hvd] at HR
  have HVD:=Lib.hid hvd
  have HG:=Lib.hid (valid_good hvd)
  clear hvd
  obtain⟨n,hn⟩:∃ n,n=m.length:=⟨_,rfl⟩
  have HN:=Lib.hid hn
  rw[←hn] at hc1 HV hl HE HR ⊢
  clear hn
  have hpos:0<n:=by rw[HN.out];exact List.length_pos_iff.2 HG.out.some
  go_enter Tryz.func30,Tryz.ntmps30
  go_wp2_with fail
  refine HR.out.mono ?_
  rintro e w1 ⟨rfl,hb1⟩
  have HB1:=Lib.hid hb1
  have HU:=Lib.hid (useful_any (.slice A m.length c) m w1 (by have:=HV.out.fut hb1 (Nat.le_refl _) hb1.size;rwa [HN.out] at this) HVD.out (by rw[←HN.out];exact hl))
  rw[←HN.out] at HU
  clear hb1 HR
  go_wp2_with fail
  refine HU.out.mono ?_
  rintro e w2 ⟨x,rfl,hx,hxl,hb2⟩
  have HX:=Lib.hid hx
  have HB2:=Lib.hid (HB1.out.trans (hb2.mono HB1.out.size))
  have c0:=(hx.at_ (k:=0) (by rw[bmap_len];exact hpos)).1
  rw[bmap_at,decide_eq_true hpos,Bool.true_and] at c0
  clear hx hb2 HU HB1
  obtain⟨b,hb⟩:∃ b,b=useB m 0:=⟨_,rfl⟩
  rw[←hb] at c0
  have HUB:=Lib.hid hb
  clear hb
  cases b
  ·have HM:Hid (miniM m=[(-1,[])]):=by
    show _=_
    unfold miniM
    rw[if_pos HVD.out,←HUB.out]
    rfl
   go_wp2_with fail
   go_ret
   refine⟨_,rfl,fun w'' hw=>?_,HB2.out.alloc HB2.out.size _⟩
   have hO:OwnT w'' w2.heap.size w2.heap.size (List.replicate 1 (-1,.slice none 0 0)) (List.replicate 1 []):=OwnS.mk0 ((hw _ HB2.out.size (by rw[World.size_alloc];omega)).trans (Go.heap_alloc_new w2 _))
   have hs:=hO.sl eState eEdge rfl rfl (c:=1) (by simp) (by simp[maxLen]) (fun r hr=>by simp at hr;subst hr;omega) (fun l hl e he=>by simp at hl;subst hl;simp at he)
   rw[HM.out]
   exact hs
  ·have HC:=Lib.hid (classes_any A c x m w2 (by have:=HV.out.fut HB2.out (Nat.le_refl _) HB2.out.size;rwa [HN.out] at this) (by rw[←HN.out];exact HX.out) HVD.out (by rw[←HN.out];exact hl) (by rw[←HN.out];exact HE.out) (HT.out.below HB2.out))
   rw[←HN.out] at HC
   go_wp2_with fail
   refine HC.out.mono ?_
   rintro e w3 ⟨y,cl,rfl,hy,hyl,hb3,hcb,hca⟩
   have HY:=Lib.hid hy
   have HB3:=Lib.hid (HB2.out.trans (hb3.mono HB2.out.size))
   have HX3:=Lib.hid (show BoolsAt w3 x (bmap n (useB m)) from (hb3.block x (Array.getElem?_eq_some_iff.1 HX.out).1).trans HX.out)
   have HCB:=Lib.hid hcb
   have HCA:=Lib.hid hca
   have hyw:y<w3.heap.size:=(Array.getElem?_eq_some_iff.1 hy).1
   have c1:=(hy.at_ hpos).1
   have hmm:=@run_makeMap Tryz.prog
   obtain⟨W1,hup,hm1,hg1,hs1⟩:=(MapR.made (κ:=Value.int .i64) w3).update intInt_keys (cl 0) (.int .i64 0)
   have HM1:=Lib.hid hm1
   have HG1:=Lib.hid hg1
   have HS1:=Lib.hid hs1
   clear hy hb3 hcb hca HX HB2 HC hm1 hg1 hs1 c0
   go_wp2_with fail
   have HMK:=Lib.hid (show MkI w3 (W1.alloc (.cells #[.int .i64 0] 3)) w3.heap.size cl [0] (.slice (some ⟨W1.heap.size,0,none⟩) 1 1) (.slice none 0 0) [] [] from by
    have hB1:Below w3.heap.size w3 W1:=((Below.refl w3.heap.size w3).alloc (Nat.le_refl _) (.map #[] 0)).grown HG1.out (by rw[World.size_alloc];omega) (fun k e=>by injection e with e;omega)
    have hz:w3.heap.size<W1.heap.size:=by rw[HS1.out,World.size_alloc];omega
    refine⟨⟨_,HM1.out.alloc _,fun z=>?_⟩,⟨rfl,.inr ⟨_,1,_,rfl,by omega,Go.heap_alloc_new W1 _,by decide,by decide,rfl,rfl⟩⟩,⟨rfl,World.ownsRow_nil _ _ _ _,fun i r l hr=>by simp at hr⟩,hB1.alloc (by omega) _,Nat.le_refl _⟩
    rw[assoc_setT]
    by_cases hz:z=cl 0
    ·subst hz
     simp[List.findIdx?_cons]
    ·have:¬ cl 0=z:=fun e=>hz e.symm
     rw[if_neg hz]
     simp[List.findIdx?_cons,this,assoc])
   generalize W1.alloc (.cells #[.int .i64 0] 3)=wq at *
   generalize hv6:(Value.slice (some ⟨W1.heap.size,0,none⟩) 1 1)=v6 at *
   clear hv6 hup HG1 HS1 HM1 c1
   obtain⟨g,hg⟩:∃ g,g=w3.heap.size:=⟨_,rfl⟩
   have HMK':=Lib.hid (show MkI w3 wq g cl [0] v6 (.slice none 0 0) [] [] from hg ▸ HMK.out)
   rw[←hg]
   clear hg HMK
   have h0:useB m 0=true:=HUB.out.symm
   have HQU:=Lib.hid (bfs_queue HG.out h0)
   have HFQ:=Lib.hid (fun (n x:Nat) (h:(bfsM m n).1[n]? = some x) (k:Nat)=>foldQ_queue HG.out h0 h k)
   have HFN:=Lib.hid (fun (n x:Nat) (h:(bfsM m n).1[n]? = some x) (hx:x<m.length)=>foldQ_num HG.out h0 h hx)
   clear h0
   go_loopw [8,6,7] (fun v8 v6 v7 wr=>∃ (i:Nat) (q:List Nat) (rs:List (Int×Value)) (es:List (List (Int×Int))),v8=.int .i64 i∧i≤q.length∧q.length≤n∧Hid (q=(bfsM m i).1)∧Hid (rs.length=i)∧Hid ((rs.zip es).map (fun p=>(p.1.1,p.2))=(bfsM m i).2) ∧
    Hid (∀ r∈rs,-9223372036854775808≤r.1∧r.1≤9223372036854775807)∧Hid (∀ l∈es,∀ e∈l,(-9223372036854775808≤e.1∧e.1≤9223372036854775807)∧-9223372036854775808≤e.2∧e.2≤9223372036854775807)∧Hid (MkI w3 wr g cl q v6 v7 rs es)) (fun v8 _ _ _=>n+1 - (intOf v8).toNat)
   case atStart=>exact⟨0,[0],[],[],rfl,by simp,by simp;omega,rfl,rfl,rfl,fun r hr=>by simp at hr,fun l hl=>by simp at hl,HMK'.out⟩
   case round =>
    clear HMK'
    obtain⟨i,q,rs,es,rfl,hi,hqn,HQ,HRL,HZ,HB1,HB2,HK⟩:=hrel
    obtain⟨A6,c6,rfl,hl5,hl6⟩:=own_form HK.out.que
    obtain⟨A7,c7,rfl,hl7,hl8⟩:=own_form HK.out.out.row
    unfold maxLen at hl6 hl8
    by_cases hlt:i<q.length
    ·obtain⟨g6,cap6,hv6⟩:=own_some2 HK.out.que (by omega)
     injection hv6 with e1 e2 e3
     subst e1
     clear e2 e3 cap6
     obtain⟨xq,hxq⟩:∃ xq,q[i]? = some xq:=⟨_,List.getElem?_eq_getElem hlt⟩
     have cq:wr.cell? ⟨g6,i,none⟩=some (.int .i64 xq):=by
      rw[(HK.out.que).cellAt (g:=g6) (cap:=c6) i (by omega)]
      unfold qcells
      rw[List.getElem?_map,hxq]
      rfl
     have HXQ:=Lib.hid (show (bfsM m i).1[i]? = some xq by rw[←HQ.out];exact hxq)
     have hxn:xq<n:=by
      have h:=((HQU.out i).1 xq (List.mem_of_getElem? HXQ.out)).1
      rw[HN.out];exact h
     have hxm:xq<m.length:=by rw[←HN.out];exact hxn
     have HBW:=Lib.hid (HB3.out.trans (HK.out.bel.mono HB3.out.size))
     obtain⟨b1,o1,cs,rfl,-,hb1,hrep,hcell⟩:=(HV.out.below HBW.out).get hxm (by decide)
     obtain⟨u0,rfl,hu,hz1,hz2⟩:=eState_open hrep
     obtain⟨A4,e4,rfl,he1,he2⟩:=hu.form
     unfold maxLen at he2
     have d0:=hcell 0 _ rfl
     have d1:=hcell 1 _ rfl
     clear hcell hrep
     simp only[show eState.size=2 from rfl,Nat.add_zero,←Nat.add_assoc] at d0 d1
     have HED:=Lib.hid (edM_get hxm)
     have HOU:=Lib.hid (outM_get hxm)
     have HEL:=Lib.hid (HE.out xq hxn)
     have HTO:=Lib.hid (HG.out.tos xq hxm)
     have HU:=Lib.hid (show SlR eEdge w w.heap.size (.slice A4 (m[xq]).2.length e4) (m[xq]).2 from hu.keep fun p hp=>(HBW.out.cell hp).symm)
     obtain⟨s,hs⟩:∃ s,s=m[xq]:=⟨_,rfl⟩
     rw[←hs] at d0 d1 HED HOU HU he1 hz1 hz2
     clear hs hu
     obtain⟨so,se⟩:=s
     simp only at d0 d1 he1 hz1 hz2 HU HED HOU
     obtain⟨qe,hqe⟩:∃ qe,qe=se.length:=⟨_,rfl⟩
     have HQE:=Lib.hid hqe
     rw[←hqe] at d1 he1 HU
     clear hqe
     have HK2:=Lib.hid ((HK.out.alloc (.cells #[.int .i64 so,.slice A4 qe e4] 58)).open_ so)
     have hb9:(wr.alloc (.cells #[.int .i64 so,.slice A4 qe e4] 58)).heap.size=wr.heap.size+1:=World.size_alloc ..
     rw[hb9] at HK2
     clear hb9
     go_wp2_with fail
     generalize (wr.alloc (.cells #[.int .i64 so,.slice A4 qe e4] 58)).alloc (.cells #[.int .i64 so,.slice none 0 0] 58)=wa at *
     generalize wr.heap.size+1=b10 at *
     go_loopw [54,6] (fun v54 v6 wt=>∃ (k:Nat) (q2:List Nat) (l:List (Int×Int)) (u:Value),v54=.int .i64 k∧k≤qe∧Hid (foldQ m xq (bfsM m i).1 k=(q2,l))∧Hid (EdI w3 wt g b10 cl q2 q2 v6 (.slice A7 rs.length c7) rs es so u l)) (fun v54 _ _=>qe - (intOf v54).toNat)
     case atStart=>exact⟨0,q,[],.slice none 0 0,rfl,by omega,(foldQ_zero m xq _).trans (by rw[HQ.out]),HK2.out⟩
     case round =>
      clear HK2 HK cq d0 d1
      obtain⟨k,q2,l,u,rfl,hk,HF,HK⟩:=hrel
      obtain⟨A9,c9,rfl,hl5',hl6'⟩:=own_form HK.out.que
      obtain⟨Au,cu,rfl,hlu,hlu2⟩:=own_form HK.out.uo
      unfold maxLen at hl6' hlu2
      have HQ2:=Lib.hid (HFQ.out i xq HXQ.out k)
      rw[HF.out,←HN.out] at HQ2
      have hq2n:q2.length≤n:=HQ2.out.2
      have hlk2:l.length≤k:=by
       have h:=foldQ_len m xq (bfsM m i).1 k
       rw[HF.out] at h
       exact h
      have hqeb:qe≤2199023255552:=by
       have h:=HEL.out
       rw[HED.out,←HQE.out] at h
       exact h
      by_cases hlk:k<qe
      ·have hkl:k<se.length:=by rw[←HQE.out];exact hlk
       have HBW2:=Lib.hid (HB3.out.trans (HK.out.bel.mono HB3.out.size))
       obtain⟨b2,o2,cs,rfl,-,hb2,hrep,hcell⟩:=(HU.out.below HBW2.out).get hkl (by decide)
       obtain⟨rfl,hy1,hy2,hy3,hy4⟩:=eEdge_open hrep
       have d0:=hcell 0 _ rfl
       have d1:=hcell 1 _ rfl
       clear hcell hrep
       simp only[show eEdge.size=2 from rfl,Nat.add_zero,←Nat.add_assoc] at d0 d1
       have hmem:se[k]∈edM m xq:=by rw[HED.out];exact List.getElem_mem hkl
       have HST:=Lib.hid (foldQ_succ (q:=(bfsM m i).1) (show (edM m xq)[k]? = some se[k] by rw[HED.out];exact List.getElem?_eq_getElem hkl))
       rw[HF.out] at HST
       have hto:=HTO.out _ hmem
       obtain⟨ed,hed⟩:∃ ed,ed=se[k]:=⟨_,rfl⟩
       rw[←hed] at d0 d1 hy1 hy2 hy3 hy4 HST hto
       clear hed hmem
       obtain⟨et,en0⟩:=ed
       simp only at d0 d1 hy1 hy2 hy3 hy4 hto
       obtain⟨en,rfl⟩:∃ en:Nat,en0=(en:Int):=⟨en0.toNat,by omega⟩
       have hen:en<n:=by rw[HN.out];omega
       have HE1:=Lib.hid (HK.out.alloc (.cells #[.int .i64 et,.int .i64 en] 80))
       have hcu:=((show BoolsAt (wr.alloc (.cells #[.int .i64 et,.int .i64 en] 80)) x (bmap n (useB m)) from (HE1.out.bel.block x (Array.getElem?_eq_some_iff.1 HX3.out).1).trans HX3.out).at_ (k:=en) (by rw[bmap_len];exact hen)).1
       rw[bmap_at,decide_eq_true hen,Bool.true_and] at hcu
       have hcy:=((show IntsAt (wr.alloc (.cells #[.int .i64 et,.int .i64 en] 80)) y (imap n cl) from (HE1.out.bel.block y hyw).trans HY.out).at_ hen).1
       have hbx:=Go.heap_alloc_new wr (.cells #[.int .i64 et,.int .i64 en] 80)
       have HBX:=Lib.hid hbx
       clear hbx HK HBW2 HF
       obtain⟨b,hb⟩:∃ b,b=useB m en:=⟨_,rfl⟩
       rw[←hb] at hcu
       have HUE:=Lib.hid hb
       clear hb
       cases b
       ·have HFK:=Lib.hid (show foldQ m xq (bfsM m i).1 (k+1)=(q2,l) by
         rw[HST.out]
         unfold stepQ
         simp only[Int.toNat_natCast]
         rw[←HUE.out]
         rfl)
        clear HST
        go_wp2_with fail
        go_roundw
        case rel=>exact⟨k+1,q2,l,.slice Au l.length cu,by go_num,by omega,HFK.out,HE1.out⟩
        case measure=>simp[intOf];omega
       ·have hfi:=class_idx (m:=m) HCA.out HQ2.out.1 hen HUE.out.symm
        have hlook:=HE1.out.map.look (P:=Tryz.prog) intInt_keys zero_intW (cl en)
        rw[hfi] at hlook
        have cbx:(wr.alloc (.cells #[.int .i64 et,.int .i64 en] 80)).cell? ⟨b10,1,none⟩=some (.slice Au l.length cu):=by rw[cell_of_row _ _ _ _ _ _ HE1.out.box];rfl
        cases hf:q2.findIdx? (alikeB m en) with
        |some nn =>
         rw[hf] at hlook
         simp only at hlook
         have hnn:nn<q2.length:=(List.findIdx?_eq_some_iff_getElem.1 hf).1
         have HFK:=Lib.hid (show foldQ m xq (bfsM m i).1 (k+1)=(q2,l++[(et,(nn:Int))]) by
          rw[HST.out]
          unfold stepQ
          simp only[Int.toNat_natCast]
          rw[←HUE.out,if_pos rfl,hf])
         clear HST hf hfi
         go_wp2_with (refine stop_at (some 97) rfl ?_)
         refine Stop.go (wpList_app (m:=1) (n:=l.length) edge_app rfl rfl rfl rfl (HE1.out.uo.alloc _) (Rd.row (B:=wr.heap.size+2) (heap_two wr _ _) (by omega)) rfl (by simp[Value.oneCell']) ?h63 ?hby ?hbase ?_)
         case h63=>simp only[maxLen];omega
         case hby=>omega
         case hbase=>have h:=HE1.out.bel.size;rw[World.size_alloc] at h;simp only[World.size_alloc];omega
         intro v8 w8 hown8 hg8 hob8 _
         obtain⟨A8,c8,rfl,hl9,hl10⟩:=own_form hown8
         have hbx1:=(Below.heap_alloc (wr.alloc (.cells #[.int .i64 et,.int .i64 en] 80)) (.cells #[.int .i64 et,.int .i64 nn] 80) _ (Array.getElem?_eq_some_iff.1 HE1.out.box).1).trans HE1.out.box
         have hbx8:=app_stay (HE1.out.uo.alloc (.cells #[.int .i64 et,.int .i64 nn] 80)) hg8 hbx1 (fun cur e=>by cases e)
         have hc8:w8.cell? ⟨b10,1,none⟩=some (.slice Au l.length cu):=by rw[cell_of_row _ _ _ _ _ _ hbx8];rfl
         have hf8:w8.frozen? ⟨b10,1,none⟩=false:=by simp[World.frozen?,hbx8]
         have HE9:=Lib.hid ((HE1.out.alloc (.cells #[.int .i64 et,.int .i64 nn] 80)).edge (W':=w8) (e:=(et,(nn:Int))) (by rw[ecells_snoc];exact hown8) hg8 hob8)
         clear hown8 hg8 hob8 hbx1 hbx8
         go_wp2_with fail
         go_roundw
         case rel=>exact⟨k+1,q2,l++[(et,(nn:Int))],.slice A8 (l.length+1) c8,by go_num,by omega,HFK.out,HE9.out⟩
         case measure=>simp[intOf];omega
        |none =>
         rw[hf] at hlook
         simp only at hlook
         have hf2:(q2.findIdx? fun x=>decide (cl x=cl en))=none:=by rw[hfi,hf]
         obtain⟨W4,hup,hE4,-,hst4⟩:=HE1.out.put (P:=Tryz.prog) intInt_keys hf2
         have hbx4:=hst4 _ _ _ _ HBX.out
         have e40:W4.cell? ⟨wr.heap.size,0,none⟩=some (.int .i64 et):=by rw[cell_of_row _ _ _ _ _ _ hbx4];rfl
         have e41:W4.cell? ⟨wr.heap.size,1,none⟩=some (.int .i64 en):=by rw[cell_of_row _ _ _ _ _ _ hbx4];rfl
         have HBX4:=Lib.hid hbx4
         have HE4:=Lib.hid hE4
         have hz4:=hE4.bel.size
         have HFK:=Lib.hid (show foldQ m xq (bfsM m i).1 (k+1)=(q2++[en],l++[(et,(q2.length:Int))]) by
          rw[HST.out]
          unfold stepQ
          simp only[Int.toNat_natCast]
          rw[←HUE.out,if_pos rfl,hf])
         clear HST hf hfi hf2 hE4 hbx4 hst4
         go_wp2_with (refine stop_at (some 89) rfl ?_)
         refine Stop.go (wpList_app (m:=1) (n:=q2.length) int_appW rfl rfl rfl rfl (HE4.out.que.alloc _) (Rd.row (B:=W4.heap.size+1) (Go.heap_alloc_new W4 (.cells #[.int .i64 en] 3)) (by omega)) rfl (by simp[Value.oneCell']) ?h63 ?hby ?hbase ?_)
         case h63=>simp only[maxLen];omega
         case hby=>omega
         case hbase=>rw[World.size_alloc];omega
         intro v5 w5 hown5 hg5 hob5 _
         obtain⟨A5,c5,rfl,hl11,hl12⟩:=own_form hown5
         have hbx5:=app_stay (HE4.out.que.alloc (.cells #[.int .i64 en] 3)) hg5 ((Below.heap_alloc W4 _ _ (Array.getElem?_eq_some_iff.1 HBX4.out).1).trans HBX4.out) (fun cur e=>by cases e)
         have f50:w5.cell? ⟨wr.heap.size,0,none⟩=some (.int .i64 et):=by rw[cell_of_row _ _ _ _ _ _ hbx5];rfl
         have HE5:=Lib.hid ((HE4.out.alloc (.cells #[.int .i64 en] 3)).quep (y:=en) hown5 hg5)
         have cbx5:w5.cell? ⟨b10,1,none⟩=some (.slice Au l.length cu):=by rw[cell_of_row _ _ _ _ _ _ HE5.out.box];rfl
         clear hown5 hg5 hob5 hbx5 e40 e41
         go_wp2_with (refine stop_at (some 97) rfl ?_)
         refine Stop.go (wpList_app (m:=1) (n:=l.length) edge_app rfl rfl rfl rfl (HE5.out.uo.alloc _) (Rd.row (B:=w5.heap.size+1) (Go.heap_alloc_new w5 _) (by omega)) rfl (by simp[Value.oneCell']) ?h63 ?hby ?hbase ?_)
         case h63=>simp only[maxLen];omega
         case hby=>omega
         case hbase=>have h:=HE5.out.bel.size;rw[World.size_alloc];omega
         intro v8 w8 hown8 hg8 hob8 _
         obtain⟨A8,c8,rfl,hl9,hl10⟩:=own_form hown8
         have hbx1:=(Below.heap_alloc w5 (.cells #[.int .i64 et,.int .i64 (q2.length:Int)] 80) _ (Array.getElem?_eq_some_iff.1 HE5.out.box).1).trans HE5.out.box
         have hbx8:=app_stay (HE5.out.uo.alloc (.cells #[.int .i64 et,.int .i64 (q2.length:Int)] 80)) hg8 hbx1 (fun cur e=>by cases e)
         have hc8:w8.cell? ⟨b10,1,none⟩=some (.slice Au l.length cu):=by rw[cell_of_row _ _ _ _ _ _ hbx8];rfl
         have hf8:w8.frozen? ⟨b10,1,none⟩=false:=by simp[World.frozen?,hbx8]
         have HE9:=Lib.hid ((HE5.out.alloc (.cells #[.int .i64 et,.int .i64 (q2.length:Int)] 80)).edge (W':=w8) (e:=(et,(q2.length:Int))) (by rw[ecells_snoc];exact hown8) hg8 hob8)
         clear hown8 hg8 hob8 hbx1 hbx8
         go_wp2_with fail
         go_roundw
         case rel=>exact⟨k+1,q2++[en],l++[(et,(q2.length:Int))],.slice A8 (l.length+1) c8,by go_num,by omega,HFK.out,HE9.out⟩
         case measure=>simp[intOf];omega
      ·have hkq:k=qe:=by omega
       subst hkq
       have HBS:=Lib.hid (bfs_step HXQ.out)
       have hke:k=(edM m xq).length:=by rw[HED.out,HQE.out]
       rw[←hke,HF.out,HOU.out] at HBS
       have hpre:(bfsM m i).1.length≤q2.length:=by
        have h:=(foldl_pre (useB m) (alikeB m) ((edM m xq).take k) ((bfsM m i).1,[])).1.length_le
        have h2:=HF.out
        unfold foldQ at h2
        rw[h2] at h
        exact h
       rw[←HQ.out] at hpre
       have HNM:=Lib.hid (HFN.out i xq HXQ.out hxm k)
       rw[HF.out] at HNM
       have HEB:=Lib.hid (fun e (he:e∈l)=>by
        obtain⟨⟨d,hd,h1⟩,h2,h3⟩:=HNM.out e he
        rw[HED.out] at hd
        obtain⟨j,hj,rfl⟩:=List.getElem_of_mem hd
        obtain⟨_,_,cs,_,_,_,hrep,_⟩:=HU.out.get hj (by decide)
        obtain⟨_,h4,h5,_,_⟩:=eEdge_open hrep
        exact (show (-9223372036854775808≤e.1∧e.1≤9223372036854775807)∧-9223372036854775808≤e.2∧e.2≤9223372036854775807 from ⟨by rw[h1];exact⟨h4,h5⟩,by omega,by rw[←HN.out] at h3;omega⟩))
       have b0:wr.cell? ⟨b10,0,none⟩=some (.int .i64 so):=by rw[cell_of_row _ _ _ _ _ _ HK.out.box];rfl
       have b1':wr.cell? ⟨b10,1,none⟩=some (.slice Au l.length cu):=by rw[cell_of_row _ _ _ _ _ _ HK.out.box];rfl
       have hrn:rs.length≤n:=by rw[HRL.out];omega
       clear hke hxq
       go_wp2_with (refine stop_at (some 103) rfl ?_)
       refine Stop.go (wpList_app (m:=1) (n:=rs.length) state_app rfl rfl rfl rfl (HK.out.out.row.alloc _) (Rd.row (B:=wr.heap.size+1) (Go.heap_alloc_new wr _) (by omega)) rfl (by simp[Value.oneCell']) ?h63 ?hby ?hbase ?_)
       case h63=>simp only[maxLen];omega
       case hby=>omega
       case hbase=>have h:=HK.out.bel.size;rw[World.size_alloc];omega
       intro v8 w8 hown8 hg8 hob8 _
       have HD:=Lib.hid ((HK.out.alloc (.cells #[.int .i64 so,.slice Au l.length cu] 58)).done hown8 hg8)
       clear hown8 hg8 hob8
       go_wp2_with fail
       go_roundw
       case rel =>
        refine⟨i+1,q2,rs++[(so,Value.slice Au l.length cu)],es++[l],by go_num,by omega,by omega,?_,?_,?_,?_,?_,HD.out⟩
        ·show q2=_
         rw[HBS.out]
        ·show _=_
         rw[List.length_append,HRL.out]
         rfl
        ·show _=_
         rw[HBS.out,←HZ.out,List.zip_append HK.out.out.len,List.map_append]
         rfl
        ·intro r hr
         rcases List.mem_append.1 hr with hr | hr
         ·exact HB1.out r hr
         ·rw[List.mem_singleton] at hr
          subst hr
          exact⟨hz1,hz2⟩
        ·intro l' hl' e he
         rcases List.mem_append.1 hl' with hl' | hl'
         ·exact HB2.out l' hl' e he
         ·rw[List.mem_singleton] at hl'
          subst hl'
          exact HEB.out e he
       case measure=>simp[intOf];omega
    ·have hiq:i=q.length:=by omega
     have HM:Hid (miniM m=(bfsM m i).2):=by
      show _=_
      unfold miniM
      rw[if_pos HVD.out,if_pos HUB.out.symm]
      exact congrArg Prod.snd (bfs_end HG.out ((useB_iff m 0).1 HUB.out.symm) (by rw[←HQ.out];exact hiq.symm))
     have HSL:=Lib.hid (fun (w'':World) (hw:∀ b,w.heap.size≤b→b<wr.heap.size→w''.heap[b]? = wr.heap[b]?)=>by
      have hs:=(HK.out.out.fresh (W':=w'') fun b h1 h2=>hw b (Nat.le_trans HB3.out.size h1) h2).sl HB1.out HB2.out
      rw[HZ.out,←HM.out] at hs
      exact hs)
     have HBF:=Lib.hid (HB3.out.trans (HK.out.bel.mono HB3.out.size))
     clear HK
     go_wp2_with fail
     go_ret
     exact⟨_,rfl,HSL.out,HBF.out⟩
 ·rw[show validM m 9223372036854775807=false by simpa using hvd] at HR
  have HM:=Lib.hid (mini_bad hvd)
  clear hvd
  go_enter Tryz.func30,Tryz.ntmps30
  go_wp2_with fail
  refine HR.out.mono ?_
  rintro e w1 ⟨rfl,hb1⟩
  go_wp2_with fail
  go_ret
  exact⟨_,rfl,fun w'' _=>by rw[HM.out];exact SlR.nil_,hb1⟩
end Go.Proofs.YtfpihflepeiagaaGreatDoor
namespace Go.Proofs.YtfpihflepeiagaaGreatDoor
open Go.RowKit

noncomputable def theFronts (rows:List RowW):List Wd:=@dite _ (∃ F,Fronts rows F) (Classical.propDecidable _) (fun h=>Classical.choose h) (fun _=>[])
theorem theFronts_eq {rows:List RowW} {F:List Wd} (h:Fronts rows F):theFronts rows=F:=by
 have hx:∃ F,Fronts rows F:=⟨F,h⟩
 unfold theFronts
 rw[dif_pos hx]
 exact fronts_unique (Classical.choose_spec hx) h
noncomputable def treeM (rows:List RowW):Mch:=trieM rows (theFronts rows)
noncomputable def machM (rows:List RowW):Mch:=miniM (treeM rows)
noncomputable def machsM (rows:List RowW) (n:Nat):List Mch:=(List.range n).map fun (left:Nat)=>machM (ofRows ((left:Nat):Int) rows)
def MachTo (m:Mch) (w:World) (e:Ending) (w':World):Prop:=∃ vm,e=.returned vm∧(∀ w'':World,(∀ b,w.heap.size≤b→b<w'.heap.size→w''.heap[b]? = w'.heap[b]?)→SlR eState w'' w''.heap.size vm m)∧Below w.heap.size w w'
structure RowsFit (rows:List Row):Prop where
 n:rows.length≤1048576
 w:∀ r∈rows,r.2.1.length≤1048576
theorem RowsFit.of {rows:List Row} (h:RowsFit rows) (left:Int):RowsFit (ofRows left rows):=by
 have hs:(ofRows left rows).Sublist rows:=List.filter_sublist
 exact⟨Nat.le_trans hs.length_le h.n,fun r hr=>h.w r (hs.subset hr)⟩
set_option maxHeartbeats 1600000 in
theorem of1_any (v:Value) (rows:List Row) (b3 left:Nat) (w:World) (hv:SlR eRow w w.heap.size v rows) (hf:RowsFit rows) (h3:w.cell? ⟨b3,0,none⟩=some v) (ht:TabP w) :
  Calls Tryz.prog 29 #[.int .i64 left,.pointer (some ⟨b3,0,none⟩)] w (MachTo (machM (ofRows left rows)) w):=by
 obtain⟨A,c,rfl,hc1,hc2⟩:=hv.form
 unfold maxLen at hc2
 have HV:=Lib.hid hv
 have HF:=Lib.hid (hf.of left)
 have HFR:=Lib.hid hf.n
 have HT:=Lib.hid ht
 clear hv hf ht
 obtain⟨nr,hnr⟩:∃ nr,nr=rows.length:=⟨_,rfl⟩
 have HNR:=Lib.hid hnr
 rw[←hnr] at h3 hc1 HV
 clear hnr
 go_enter Tryz.func29,Tryz.ntmps29
 go_wp2_with fail
 refine (of_rows _ left rows w HV.out HFR.out).mono ?_
 rintro e w1 ⟨v1,rfl,ho1,hb1⟩
 have hfit:FitR (ofRows left rows):=fun x hx=>HV.out.fitR x (List.mem_filter.1 hx).1
 have HS1:=Lib.hid (slR_own hfit ho1)
 have HB1:=Lib.hid hb1
 clear ho1 hb1
 go_wp2_with fail
 refine (trieMake_any v1 (ofRows left rows) w1 HS1.out HF.out.w HF.out.n).mono ?_
 rintro e w2 ⟨v2,F,rfl,hF,hFl,hs2,hb2⟩
 have htr:trieM (ofRows left rows) F=treeM (ofRows left rows):=by unfold treeM;rw[theFronts_eq hF]
 have HL2:=Lib.hid (show (treeM (ofRows left rows)).length≤1099512676353 by rw[←htr,trie_len];exact hFl)
 have HE2:=Lib.hid (show ∀ k<(treeM (ofRows left rows)).length,(edM (treeM (ofRows left rows)) k).length≤2199023255552 from fun k hk=>by
  rw[←htr] at hk ⊢
  rw[trie_len] at hk
  rw[(trie_get (List.getElem?_eq_getElem hk)).2]
  have:=kidsT_len F F[k]
  omega)
 rw[htr] at hs2
 have HS2:=Lib.hid hs2
 have HB2:=Lib.hid (HB1.out.trans (hb2.mono HB1.out.size))
 clear hs2 hb2 htr hF hFl HS1
 go_wp2_with fail
 refine (miniMake_any v2 (treeM (ofRows left rows)) w2 HS2.out (by have:=HL2.out;omega) HE2.out (HT.out.below HB2.out)).mono ?_
 rintro e w3 ⟨v3,rfl,hs3,hb3⟩
 have HS3:=Lib.hid hs3
 have HB3:=Lib.hid (HB2.out.trans (hb3.mono HB2.out.size))
 clear hs3 hb3
 go_wp2_with fail
 go_ret
 exact⟨_,rfl,fun w'' hw=>HS3.out w'' fun b h1 h2=>hw b (Nat.le_trans HB2.out.size h1) h2,HB3.out⟩
structure EachI (W:World) (N:Nat) (v:Value) (vs:List Value) (ms:List Mch):Prop where
 len:vs.length=ms.length
 row:W.ownsRow N 45 1 v vs.length vs
 el:∀ (i:Nat) (u:Value) (x:Mch),vs[i]? = some u→ms[i]? = some x→∃ s e,e≤W.heap.size∧(∀ g,v.ownBlock=some g→g<s∨e≤g)∧∀ w'':World,(∀ b,s≤b→b<e→w''.heap[b]? = W.heap[b]?)→SlR eState w'' w''.heap.size u x
theorem EachI.nil (W:World) (N:Nat):EachI W N (.slice none 0 0) [] []:=⟨rfl,World.ownsRow_nil _ _ _ _,fun i u x h=>by simp at h⟩
theorem EachI.below {W W':World} {N:Nat} {v:Value} {vs:List Value} {ms:List Mch} (h:EachI W N v vs ms) (hb:Below W.heap.size W W'):EachI W' N v vs ms:=by
 refine⟨h.len,own_below h.row hb,fun i u x hu hx=>?_⟩
 obtain⟨s,e,h1,h2,h3⟩:=h.el i u x hu hx
 exact⟨s,e,Nat.le_trans h1 hb.size,h2,fun w'' hw=>h3 w'' fun b hb1 hb2=>(hw b hb1 hb2).trans (hb.block b (by omega))⟩
theorem EachI.snoc {W0 W W':World} {N:Nat} {v v' vm:Value} {vs:List Value} {ms:List Mch} {m:Mch} (h:EachI W0 N v vs ms) (hb:Below W0.heap.size W0 W) (hm:∀ w'':World,(∀ b,W0.heap.size≤b→b<W.heap.size→w''.heap[b]? = W.heap[b]?)→SlR eState w'' w''.heap.size vm m)
  (o:Obj) (hown:W'.ownsRow N 45 1 v' (vs.length+1) (vs++[vm])) (hg:(W.alloc o).grownBy W' v.ownBlock) (hv:v'.ownBlock=v.ownBlock∨v'.ownBlock=some (W.alloc o).heap.size):EachI W' N v' (vs++[vm]) (ms++[m]):=by
 have hz:W.heap.size<W'.heap.size:=by have:=hg.size;rw[World.size_alloc] at this;omega
 have hlt:∀ g,v.ownBlock=some g→g<W0.heap.size:=fun g hg'=>(h.row.lt g hg').2
 have hsame:∀ b,b<W.heap.size→some b≠v.ownBlock→W'.heap[b]? = W.heap[b]? := fun b h1 h2=>(hg.block b (by rw[World.size_alloc];omega) h2).trans (Below.heap_alloc W o b h1)
 refine⟨by simp[h.len],by rw[List.length_append];exact hown,fun i u x hu hx=>?_⟩
 by_cases hil:i<vs.length
 ·rw[List.getElem?_append_left hil] at hu
  rw[List.getElem?_append_left (by rw[←h.len];exact hil)] at hx
  obtain⟨s,e,h1,h2,h3⟩:=(h.below hb).el i u x hu hx
  have h1':e≤W0.heap.size∨W0.heap.size≤e:=by omega
  refine⟨s,e,by omega,fun g hg'=>?_,fun w'' hw=>h3 w'' fun b hb1 hb2=>(hw b hb1 hb2).trans (hsame b (by omega) fun e'=>?_)⟩
  ·rcases hv with h4 | h4
   ·exact h2 g (by rw[←h4];exact hg')
   ·rw[h4] at hg'
    injection hg' with hg'
    rw[World.size_alloc] at hg'
    exact .inr (by omega)
  ·rcases h2 b e'.symm with h5 | h5 <;> omega
 ·have hie:i=vs.length:=by
   have:=(List.getElem?_eq_some_iff.1 hu).1
   rw[List.length_append,List.length_singleton] at this
   omega
  subst hie
  rw[List.getElem?_append_right (Nat.le_refl _),Nat.sub_self] at hu
  rw[h.len,List.getElem?_append_right (Nat.le_refl _),Nat.sub_self] at hx
  injection hu with hu
  injection hx with hx
  subst hu hx
  refine⟨W0.heap.size,W.heap.size,by omega,fun g hg'=>?_,fun w'' hw=>hm w'' fun b hb1 hb2=>(hw b hb1 hb2).trans (hsame b hb2 fun e'=>?_)⟩
  ·rcases hv with h4 | h4
   ·exact .inl (hlt g (by rw[←h4];exact hg'))
   ·rw[h4] at hg'
    injection hg' with hg'
    rw[World.size_alloc] at hg'
    exact .inr (by omega)
  ·have:=hlt b e'.symm
   omega
theorem EachI.sl {W:World} {N:Nat} {v:Value} {vs:List Value} {ms:List Mch} (h:EachI W N v vs ms):SlR (eSl eState) W W.heap.size v ms:=by
 have hrow:=h.row
 obtain⟨A,c,hv,hc,hc2⟩:=own_form hrow
 rw[hv] at hrow ⊢
 refine⟨A,c,vs.map fun u=>[u],by rw[h.len],by rw[←h.len];exact hc,hc2,by rw[List.length_map];exact h.len,?_,fun i cs x hi hx=>?_⟩
 ·have:(vs.map fun u=>[u]).flatten=vs:=by
   generalize vs=l
   induction l with
   |nil=>rfl
   |cons u l ih=>rw[List.map_cons,List.flatten_cons,ih];rfl
  rw[this]
  exact Rd.of_own hrow
 ·rw[List.getElem?_map] at hi
  cases hu:vs[i]? with
  |none=>rw[hu] at hi;cases hi
  |some u =>
   rw[hu] at hi
   injection hi with hi
   subst hi
   obtain⟨s,e,h1,h2,h3⟩:=h.el i u x hu hx
   exact⟨u,rfl,h3 W fun _ _ _=>rfl⟩
end Go.Proofs.YtfpihflepeiagaaGreatDoor
namespace Go.Proofs.YtfpihflepeiagaaGreatDoor

def outX (m:Mch) (i:Nat):Int:=if i<m.length then outM m i else -1
def goX (m:Mch) (i t:Nat):Nat:=if i<m.length then (stepI m i t).getD m.length else m.length
theorem least_term {m M:Mch} (h:LeastM m M) {terms:Int} (ht:∀ k<m.length,∀ e∈edM m k,e.1<terms):∀ k<M.length,∀ e∈edM M k,e.1<terms:=by
 intro k hk e he
 obtain⟨i,hi,d,hd,e2⟩:=h.term k hk e he
 rw[e2]
 exact ht i hi d hd
end Go.Proofs.YtfpihflepeiagaaGreatDoor
namespace Go.Proofs.YtfpihflepeiagaaGreatDoor
open Go.RowKit

def predictR (ms:List Mach) (left:Int) (l:List UInt8):Int:=if 0≤left∧left<ms.length then runM (ms.getD left.toNat []) l else -1
theorem predict_any (v:Value) (ms:List Mach) (left:Int) (s:ByteArray) (w:World) (hv:SlR (eSl eState) w w.heap.size v ms) (hs:s.size≤1099511627776) :
  Calls Tryz.prog 12 #[v,.int .i64 left,.string s] w fun e w'=>e=.returned (.tuple #[.int .i64 (max (predictR ms left s.data.toList) 0),.bool (decide (0≤predictR ms left s.data.toList))])∧Below w.heap.size w w':=by
 obtain⟨A,c,rfl,hc1,hc2⟩:=hv.form
 unfold maxLen at hc2
 by_cases hl:0≤left∧left<ms.length
 ·obtain⟨h1,h2⟩:=hl
  obtain⟨k,rfl⟩:∃ k:Nat,left=k:=⟨left.toNat,by omega⟩
  have hk:k<ms.length:=by omega
  have HP:Hid (predictR ms k s.data.toList=runM ms[k] s.data.toList):=by
   show _=_
   unfold predictR
   rw[if_pos ⟨h1,h2⟩,List.getD_eq_getElem?_getD,Int.toNat_natCast,List.getElem?_eq_getElem hk]
   rfl
  obtain⟨ab,ao,cs,rfl,_,hab,hrep,hcell⟩:=hv.get hk (by decide)
  obtain⟨u,rfl,hu⟩:=hrep
  obtain⟨A4,e4,rfl,he1,he2⟩:=hu.form
  have hc0:=hcell 0 _ rfl
  clear hcell
  simp only[show (eSl eState).size=1 from rfl,Nat.add_zero,Nat.mul_one] at hc0
  go_enter Tryz.func12,Tryz.ntmps12
  go_wp2_with fail
  refine (trie_run _ ms[k] s w hu hs).mono ?_
  rintro e w1 ⟨rfl,hb1⟩
  go_wp2_with fail
  all_goals
   go_ret2
   exact⟨rt2 (vint (by rw[HP.out];first | done | omega)) (vbool (by rw[HP.out,eq_comm];first | done | (simp;done) | (simp;omega))),hb1⟩
 ·have HP:Hid (predictR ms left s.data.toList=-1):=by
   show _=_
   unfold predictR
   rw[if_neg hl]
  have hc:left<0∨(0≤left∧(ms.length:Int)≤left):=by omega
  rcases hc with h | ⟨h,h'⟩
  all_goals
   go_enter Tryz.func12,Tryz.ntmps12
   go_wp2_with fail
   all_goals first
    |(exfalso;omega)
    |(go_ret2;exact⟨rt2 (vint (by rw[HP.out];first | done | rfl)) (vbool (by rw[HP.out];first | done | decide)),Below.refl _ _⟩)

end Go.Proofs.YtfpihflepeiagaaGreatDoor
namespace Go.Proofs.YtfpihflepeiagaaGreatDoor

theorem fronts_all (rows:List Row):∃ F,Fronts rows F∧F.length≤(begWs rows).length+1:=by
 have hd:∀ a b,Decidable (slLt a b):=fun a b=>Classical.propDecidable _
 refine⟨(frontsOf (begWs rows)).mergeSort (fun a b=>@decide (¬ slLt b a) (@instDecidableNot _ (hd b a))),?_,?_⟩
 ·refine fronts_sorted (List.mergeSort_perm _ _) ?_
  refine (List.pairwise_mergeSort (le:=fun a b=>@decide (¬ slLt b a) (@instDecidableNot _ (hd b a))) ?_ ?_ _).imp ?_
  ·intro a b c h1 h2
   simp only[decide_eq_true_eq] at h1 h2 ⊢
   intro h3
   rcases slLt_tri a b with h | h | h
   ·exact h2 (slLt_trans h3 h)
   ·subst h;exact h2 h3
   ·exact h1 h
  ·intro a b
   simp only[Bool.or_eq_true,decide_eq_true_eq]
   by_cases h:slLt b a
   ·exact .inr (slLt_asymm h)
   ·exact .inl h
  ·intro a b h
   simpa only[decide_eq_true_eq] using h
 ·rw[(List.mergeSort_perm _ _).length_eq]
  exact (frontsOf_ok (begWs rows)).2.2
theorem tree_fronts (rows:List Row):Fronts rows (theFronts rows):=by
 obtain⟨F,hF,_⟩:=fronts_all rows
 rw[theFronts_eq hF]
 exact hF
section
variable {rows:List Row} (hr:∀ r∈rows,0≤r.2.2)
include hr
theorem tree_valid:validM (treeM rows) 9223372036854775807=true:=trie_valid (tree_fronts rows) hr
theorem mach_least:LeastM (treeM rows) (machM rows):=mini_least (tree_valid hr)
theorem mach_tell (l:Wd):tellM (machM rows) 0 (byI l)=outOf rows l:=by
 rw[(mach_least hr).tell,show treeM rows=trieM rows (theFronts rows) from rfl,trie_tell (tree_fronts rows) hr]
theorem mach_term {n:Nat} (hb:∀ r∈rows,∀ c∈r.2.1,c.toNat<n):∀ k<(machM rows).length,∀ e∈edM (machM rows) k,e.1<(n:Int) :=
 least_term (mach_least hr) (trie_term (tree_fronts rows) hb)
end
theorem runS_I (m:Mach):∀ (l:Wd) (k:Nat),runS m k l=runI m k (byI l)
 |[],_=>rfl
 |b :: r,k=>by
  show (match stepM m k (b.toNat:Int) with | some j=>runS m j r | none=>none)=(match stepI m k (b.toNat:Int) with | some j=>runI m j (byI r) | none=>none)
  rw[show stepM m k (b.toNat:Int)=stepI m k (b.toNat:Int) from rfl]
  cases stepI m k (b.toNat:Int) with
  |none=>rfl
  |some j=>exact runS_I m r j
theorem run_tell {m:Mach} (hm:m≠[]) (l:Wd):runM m l=tellM m 0 (byI l):=by
 unfold runM tellM
 rw[if_neg hm,runS_I]
 rfl
def saysL (rows:List Row) (n:Nat) (left:Int) (l:Wd):Int:=if 0≤left∧left<n then outOf (ofRows left rows) l else -1
theorem machs_len (rows:List Row) (n:Nat):(machsM rows n).length=n:=by simp[machsM]
theorem machs_get (rows:List Row) {n k:Nat} (hk:k<n):(machsM rows n)[k]? = some (machM (ofRows (k:Int) rows)):=by
 unfold machsM
 rw[List.getElem?_map,List.getElem?_range hk]
 rfl
theorem ofRows_low {rows:List Row} (hr:∀ r∈rows,0≤r.2.2) (left:Int):∀ r∈ofRows left rows,0≤r.2.2:=fun r h=>hr r (List.mem_filter.1 h).1
theorem machs_predict {rows:List Row} (hr:∀ r∈rows,0≤r.2.2) (n:Nat) (left:Int) (l:Wd):predictR (machsM rows n) left l=saysL rows n left l:=by
 unfold predictR saysL
 rw[machs_len]
 by_cases h:0≤left∧left<n
 ·rw[if_pos h,if_pos h]
  obtain⟨k,rfl⟩:∃ k:Nat,left=k:=⟨left.toNat,by omega⟩
  rw[Int.toNat_natCast,List.getD_eq_getElem?_getD,machs_get rows (by omega:k<n)]
  show runM (machM _) l=_
  rw[run_tell (mach_least (ofRows_low hr k)).good.some,mach_tell (ofRows_low hr k)]
 ·rw[if_neg h,if_neg h]
def wantOf (rows:List Row) (left:Int) (l:Wd):Int:=match rows.find? fun r=>decide (r.1=left)&&decide (r.2.1=l) with | some r=>r.2.2 | none=>-1
theorem outOf_want {rows:List Row} (hr:∀ r∈rows,0≤r.2.2) (left:Int) (l:Wd):outOf (ofRows left rows) l=wantOf rows left l:=by
 have h:(ofRows left rows).find? (fun r=>decide (r.2.1=l))=rows.find? fun r=>decide (r.1=left)&&decide (r.2.1=l):=by
  unfold ofRows
  rw[List.find?_filter]
  congr 1
  funext x
  by_cases h1:x.1=left <;> by_cases h2:x.2.1=l <;> simp[h1,h2]
 rw[outOf_low (ofRows_low hr left),h]
 rfl
theorem awM_rows {r:List Row} (h:r=[(0,[],0),(0,[0],1)]):(machM r).length=2∧outM (machM r) 0=0∧outM (machM r) 1=1:=by
 have hr:∀ x∈r,0≤x.2.2:=by
  subst h
  intro x hx
  simp only[List.mem_cons,List.not_mem_nil,or_false] at hx
  rcases hx with rfl | rfl <;> decide
 have hb:∀ x∈r,∀ c∈x.2.1,c.toNat<1:=by
  subst h
  intro x hx c hc
  simp only[List.mem_cons,List.not_mem_nil,or_false] at hx
  rcases hx with rfl | rfl
  ·simp at hc
  ·simp only[List.mem_cons,List.not_mem_nil,or_false] at hc
   subst hc
   decide
 have hL:=mach_least hr
 have hT:=mach_term hr hb
 have htell:=mach_tell hr
 have o0:outOf r []=0:=by subst h;decide
 have o1:outOf r [0]=1:=by subst h;decide
 have o2:∀ l:Wd,outOf r (0 :: 0 :: l)=-1:=by subst h;intro l;rw[outOf_low hr];simp
 have hg:=hL.good
 have hp:=List.length_pos_iff.2 hg.some
 generalize machM r=M at *
 have t0:outM M 0=0:=by rw[←tellM_nil,←o0];exact htell []
 have t1:tellM M 0 [0]=1:=by rw[←o1];exact htell [0]
 -- all edges are of terminal 0
 have h0:∀ k<M.length,∀ e∈edM M k,e.1=0:=fun k hk e he=>by
  have h1:=(hg.tos k hk e he).1
  have h2:=hT k hk e he
  omega
 -- from the first state one goes to state j
 obtain⟨j,hj⟩:∃ j,stepI M 0 0=some j:=by
  rw[tellM_cons] at t1
  cases h:stepI M 0 0 with
  |none=>rw[h] at t1;cases t1
  |some j=>exact⟨j,rfl⟩
 have hjl:=step_lt hj
 have tj:outM M j=1:=by
  have:=t1
  rw[tellM_cons,hj] at this
  exact this
 have hj0:j≠0:=fun e=>by rw[e,t0] at tj;cases tj
 -- from there nothing is told behind one more
 have tjj:∀ i,stepI M j 0=some i→∀ l:List Int,(∀ b∈l,b=0)→tellM M i l=-1:=fun i hi l hl=>by
  obtain⟨w,rfl⟩:∃ w:Wd,l=byI w:=⟨List.replicate l.length 0,by
   unfold byI
   rw[List.map_replicate]
   exact List.eq_replicate_iff.2 ⟨rfl,hl⟩⟩
  have h1:=htell (0 :: 0 :: w)
  rw[o2] at h1
  have h2:byI (0 :: 0 :: w)=(0:Int) :: (0:Int) :: byI w:=rfl
  rw[h2,tellM_cons,hj] at h1
  simp only at h1
  rw[tellM_cons,hi] at h1
  exact h1
 -- what is told is told of words of zeros alone
 have hz:∀ (l:List Int) (k:Nat),k<M.length→tellM M k l≠-1→∀ b∈l,b=0:=by
  intro l
  induction l with
  |nil=>intro k _ _ b hb;cases hb
  |cons c l ih =>
   intro k hk ht b hb
   rw[tellM_cons] at ht
   cases hs:stepI M k c with
   |none=>rw[hs] at ht;exact absurd rfl ht
   |some i =>
    rw[hs] at ht
    have he:=(step_edge hg hk c i).1 hs
    rcases List.mem_cons.1 hb with rfl | hb
    ·exact h0 k hk _ he
    ·exact ih i (step_lt hs) ht b hb
 have hj1:j=1:=by
  have h1l:1<M.length:=by omega
  obtain⟨p,hp1,t,ht⟩:=hL.new 1 (by omega) h1l
  have hp0:p=0:=by omega
  subst hp0
  have h3:=h0 0 hp _ ht
  simp only at h3
  subst h3
  have h4:=(step_edge hg hp 0 1).2 ht
  rw[hj] at h4
  injection h4
 subst hj1
 refine⟨?_,t0,tj⟩
 rcases Nat.lt_or_ge 2 M.length with h2l | h2l
 ·exfalso
  obtain⟨p,hp1,t,ht⟩:=hL.new 2 (by omega) h2l
  have h3:=h0 p (by omega) _ ht
  simp only at h3
  subst h3
  have h4:=(step_edge hg (by omega) 0 2).2 ht
  have hp2:p=1:=by
   rcases Nat.lt_or_ge p 1 with h5 | h5
   ·have:p=0:=by omega
    subst this
    rw[hj] at h4
    injection h4 with h4
    cases h4
   ·omega
  subst hp2
  obtain⟨l,hl⟩:=hL.tells 2 (by omega) h2l
  exact hl (tjj 2 h4 l (hz l 2 h2l hl))
 ·omega
end Go.Proofs.YtfpihflepeiagaaGreatDoor
