/- Texts of this proof joined: LawW, Predict, Rf18. -/
import Derived.Test.YtfpihflepeiagaaGreatDoorLN17
import Derived.Test.YtfpihflepeiagaaGreatDoorLN09
import Derived.Test.YtfpihflepeiagaaGreatDoorLN21
import Derived.Test.YtfpihflepeiagaaGreatDoorLN19
import Derived.Test.YtfpihflepeiagaaGreatDoorLN15
import Derived.Test.YtfpihflepeiagaaGreatDoorLN04
import Derived.Deep.LoopGhost
namespace Go.Proofs.YtfpihflepeiagaaGreatDoor

structure LawG (g:Gram) (k:Nat):Prop where
 b:gramB g=true
 k1:1≤k
 k4:k≤4
 few:g.2.1.length≤3
 made:∀ a,0≤a→a<(g.1.length:Int)→Makes g.2.2 a∧Stands g.2.2 a
theorem lawG_of {g:Gram} {k:Int} (h:¬ BadK k g) (hm:g.2.1.length≤3):∃ kk:Nat,k=(kk:Int)∧LawG g kk:=by
 unfold BadK at h
 have h1:¬ k<1:=fun e=>h (.inl e)
 have h2:¬ 4<k:=fun e=>h (.inr (.inl e))
 have h3:checkN g=0:=by
  rcases Decidable.em (checkN g=0) with e | e
  ·exact e
  ·exact absurd (.inr (.inr e)) h
 have hb:gramB g=true:=by
  unfold checkN at h3
  split at h3
  ·assumption
  ·cases h3
 have hw:wellE g.1.length g.2.1.length g.2.2=0:=by
  unfold checkN at h3
  rwa [if_pos hb] at h3
 exact⟨k.toNat,by omega,hb,by omega,by omega,hm,wellE_ok (gramB_good hb).well hw⟩
section
variable {g:Gram} {k:Nat} (h:LawG g k)
include h
theorem LawG.well:WellG g.2.2 g.1.length:=(gramB_good h.b).well
theorem LawG.wellT:WellT g.2.2 g.2.1.length:=fun a r hr s hs=>(((gramB_good h.b).fit (a,r) hr).2.2.2 s hs).2
theorem LawG.fewR:FewR g.2.2:=fun a r hr s hs=>by
 have:=h.wellT a r hr s hs
 have:=h.few
 omega
theorem LawG.wellS:WellS g.2.2:=fun a r hr s hs=>by
 have:=h.fewR a r hr s hs
 omega
theorem LawG.n0:0<g.1.length:=(gramB_good h.b).n1
theorem LawG.sets {o:Option Sets} (ho:AheadO k g o):∃ s,o=some s∧MadeG g.2.2 g.1.length k s:=by
 have hk4:(k:Int)≤4:=by have:=h.k4;omega
 obtain⟨o1,h1,h2⟩:=ho
 obtain⟨s,rfl,hs1,hs2⟩:=h1.few hk4 h.well h.fewR
 obtain⟨o2,h3,h4⟩:=h2
 obtain⟨f,rfl,hf1,hf2⟩:=h3.few hk4 h.well h.fewR hs1 hs2
 obtain⟨out,hout⟩:=aheadW_few hk4 hs1 hf1 g.2.2 (fun r hr=>by
  have hw:=h.well r.1 r.2 hr
  exact⟨⟨hw.1,by rw[hf2];exact hw.2.1⟩,fun x hx=>⟨h.fewR r.1 r.2 hr x hx,by rw[hs2];exact hw.2.2 x hx⟩⟩)
 exact⟨out,h4.trans hout,madeG h.n0 h.well h1 h3 hout⟩
end
noncomputable def ahD (rs:RuleL) (k:Nat) (w:Wd) (i:Nat):Bool:=@decide (∃ r,rs[i]? = some r∧AheadD rs k r w) (Classical.propDecidable _)
theorem ahD_ok (rs:RuleL) (k:Nat) (w:Wd):AhOk rs k (ahD rs k) w:=fun i r hr=>by
 unfold ahD
 rw[@decide_eq_true_iff _ (Classical.propDecidable _)]
 constructor
 ·rintro⟨r',hr',h⟩
  rw[hr] at hr'
  injection hr' with e
  subst e
  exact h
 ·exact fun h=>⟨r,hr,h⟩
theorem ahD_eq {g:Gram} {k:Nat} (h:LawG g k) {w:Wd} {T:TabD} {O:Nat→Nat→Bool} (hT:TabTo w g.2.2 g.1.length T) (hO:FolTo w T k g.2.2 g.1.length O) {i:Nat} (hi:i<g.2.2.length):aheadB w T k O g.2.2[i]=ahD g.2.2 k w i:=by
 rw[Bool.eq_iff_iff,aheadB_iff h.n0 h.well h.wellS h.made hT hO (List.getElem_mem hi)]
 exact (ahD_ok g.2.2 k w i _ (List.getElem?_eq_getElem hi)).symm
def lastL (l:List Nat):Int:=match l.getLast? with
 |none=>-1
 |some i=>i
def matchTo (rs:RuleL) (ah:Nat→Bool) (a:Int) (i:Nat):List Nat:=(List.range i).filter fun i=>decide ((rs.getD i (0,[])).1=a)&&ah i
theorem matchTo_all (rs:RuleL) (ah:Nat→Bool) (a:Int):matchTo rs ah a rs.length=matchW rs ah a:=rfl
theorem matchTo_succ (rs:RuleL) (ah:Nat→Bool) (a:Int) (i:Nat):matchTo rs ah a (i+1)=matchTo rs ah a i++if decide ((rs.getD i (0,[])).1=a)&&ah i then [i] else []:=by
 unfold matchTo
 rw[List.range_succ,List.filter_append]
 congr 1
 rw[List.filter_cons,List.filter_nil]
theorem lastL_snoc (l:List Nat) (i:Nat):lastL (l++[i])=i:=by simp[lastL]
theorem lastL_none (l:List Nat):lastL l=-1↔l=[]:=by
 unfold lastL
 cases h:l.getLast? with
 |none=>simpa using h
 |some i =>
  have:l≠[]:=fun e=>by subst e;simp at h
  simp[this]
theorem lastL_bd (l:List Nat):-1≤lastL l:=by
 unfold lastL
 split <;> omega
theorem gram_bounds {g:Gram} (h:gramB g=true):∀ r∈g.2.2,0≤r.1∧r.1<(g.1.length:Int)∧∀ s∈r.2,s<(g.1.length:Int)∧-256≤s:=fun r hr=>by
 obtain⟨f1,f2,f3,f4⟩:=(gramB_good h).fit r hr
 have:=(gramB_good h).nm
 exact⟨f1,f2,fun s hs=>⟨(f4 s hs).1,by have:=(f4 s hs).2;omega⟩⟩
end Go.Proofs.YtfpihflepeiagaaGreatDoor
namespace Go.Proofs.YtfpihflepeiagaaGreatDoor
open Go.RowKit

end Go.Proofs.YtfpihflepeiagaaGreatDoor
namespace Go.Proofs.YtfpihflepeiagaaGreatDoor
open Go.RowKit

def kids (t:Nat) (w:Wd):List Wd:=(List.range t).map fun c=>w++[UInt8.ofNat c]
theorem kids_len (t:Nat) (w:Wd):(kids t w).length=t:=by simp[kids]
theorem lvl_succ (t n:Nat):lvl t (n+1)=(lvl t n).flatMap (kids t):=rfl
theorem lvl_len (t:Nat):∀ n,(lvl t n).length=t ^ n
 |0=>rfl
 |n+1=>by
  rw[lvl_succ,List.length_flatMap,show (fun w=>(kids t w).length)=fun _=>t from funext fun w=>kids_len t w]
  rw[List.map_const',List.sum_replicate_nat,lvl_len t n,Nat.pow_succ]
theorem words_len {t n:Nat} (ht:t≤3) (hn:n≤4):(wordsW t n).length≤121:=by
 have h:∀ m,t ^ m≤3 ^ m:=fun m=>Nat.pow_le_pow_left ht m
 have h0:=h 0
 have h1:=h 1
 have h2:=h 2
 have h3:=h 3
 have h4:=h 4
 have e:∀ m,(wordsW t (m+1)).length=(wordsW t m).length+t ^ (m+1):=fun m=>by simp only[wordsW,List.length_append,lvl_len]
 have e0:(wordsW t 0).length=1:=rfl
 have e1:=e 0
 have e2:=e 1
 have e3:=e 2
 have e4:=e 3
 simp only[Nat.zero_add,Nat.reduceAdd,Nat.reducePow] at *
 rcases (by omega:n=0∨n=1∨n=2∨n=3∨n=4) with rfl | rfl | rfl | rfl | rfl <;> omega
theorem lvl_nil {t n:Nat} (h:lvl t n=[]):∀ j,lvl t (n+j)=[]
 |0=>h
 |j+1=>by rw[←Nat.add_assoc,lvl_succ,lvl_nil h j];rfl
theorem words_nil {t n:Nat} (h:lvl t (n+1)=[]):∀ j,wordsW t (n+j)=wordsW t n
 |0=>rfl
 |j+1=>by
  rw[←Nat.add_assoc]
  simp only[wordsW]
  rw[words_nil h j,show n+j+1=(n+1)+j by omega,lvl_nil h j,List.append_nil]
def partW (W D:List Wd) (t a c:Nat) (x:Wd):List Wd:=W++(D.take a).flatMap (kids t)++(kids t x).take c
theorem partW_le {W D:List Wd} {t a c:Nat} (ha:a<D.length):(partW W D t a c D[a]).length≤(W++D.flatMap (kids t)).length:=by
 have e:D.flatMap (kids t)=(D.take a).flatMap (kids t)++(kids t D[a]++(D.drop (a+1)).flatMap (kids t)):=by
  conv=>lhs;rw[←List.take_append_drop a D,List.flatMap_append,List.drop_eq_getElem_cons ha,List.flatMap_cons]
 rw[e]
 unfold partW
 simp only[List.length_append,List.length_take]
 omega
theorem partW_succ {W D:List Wd} {t a c:Nat} {x:Wd} (hc:c<t):partW W D t a (c+1) x=partW W D t a c x++[x++[UInt8.ofNat c]]:=by
 unfold partW
 rw[List.take_succ_eq_append_getElem (by rw[kids_len];exact hc)]
 simp[kids]
theorem partW_zero {W D:List Wd} {t a:Nat} {x:Wd}:partW W D t a 0 x=W++(D.take a).flatMap (kids t):=by simp[partW]
theorem partW_end {W D:List Wd} {t a:Nat} (ha:a<D.length):partW W D t a t D[a]=W++(D.take (a+1)).flatMap (kids t):=by
 unfold partW
 rw[List.take_succ_eq_append_getElem ha,List.flatMap_append,List.take_of_length_le (l:=kids t D[a]) (by rw[kids_len];exact Nat.le_refl _)]
 simp
theorem partW_get {W D:List Wd} {t a c i:Nat} {x:Wd} (hi:i<W.length) (h:i<(partW W D t a c x).length):(partW W D t a c x)[i]=W[i]:=by
 have e:(partW W D t a c x)[i]? = W[i]? := by
  unfold partW
  rw[List.append_assoc,List.getElem?_append_left hi]
 rw[List.getElem?_eq_getElem h,List.getElem?_eq_getElem hi] at e
 injection e
theorem overW_len {t n:Nat} (ht:t≤256) {x:Wd} (h:x∈wordsW t n):x.length≤n:=((mem_wordsW ht n x).1 h).1
set_option maxRecDepth 100000 in
set_option maxHeartbeats 16000000 in
theorem words18_any (t k:Nat) (w:World) (ht:t≤3) (hk1:1≤k) (hk:k≤4) :
  Calls Tryz.prog 11 #[.int .i64 t,.int .i64 k] w fun e w'=>∃ v,e=.returned v∧w'.ownsRow w.heap.size 9 1 v (wordsW t k).length (wcells (wordsW t k))∧Below w.heap.size w w':=by
 have hd0:decide ((t:Int)<0)=false:=by rw[decide_eq_false_iff_not];omega
 have hd1:decide ((256:Int)<(t:Int))=false:=by rw[decide_eq_false_iff_not];omega
 have hd2:decide ((k:Int)<0)=false:=by rw[decide_eq_false_iff_not];omega
 obtain⟨tot,htot⟩:∃ tot,tot=wordsW t k:=⟨_,rfl⟩
 rw[←htot]
 have HTOT:=Lib.hid htot
 clear htot
 go_enter Tryz.func11,Tryz.ntmps11
 go_wp2_with fail
 have HO1:=Lib.hid (show (w.alloc (.cells #[.string ⟨#[]⟩] 9)).ownsRow w.heap.size 9 1 (.slice (some ⟨w.heap.size,0,none⟩) 1 1) 1 (wcells [[]]) from ⟨rfl,.inr ⟨w.heap.size,1,#[.string ⟨#[]⟩],rfl,Nat.le_refl _,Go.heap_alloc_new w _,Nat.le_refl _,by simp[maxLen],rfl,rfl⟩⟩)
 have HB1:=Lib.hid ((Below.refl w.heap.size w).alloc (Nat.le_refl _) (.cells #[.string ⟨#[]⟩] 9))
 generalize w.alloc (.cells #[.string ⟨#[]⟩] 9)=w1 at *
 go_loopg [7,5,6] k (fun left v7 v5 v6 wr=>∃ (m F:Nat),m≤k∧k - m≤left∧v7=.int .i64 ((m:Int)+1)∧v6=.int .i64 F∧Hid (wr.ownsRow w.heap.size 9 1 v5 (wordsW t m).length (wcells (wordsW t m)))∧Hid (F+(lvl t m).length=(wordsW t m).length∧(wordsW t m).drop F=lvl t m)∧Hid (Below w.heap.size w wr))
 case atStart=>exact⟨0,0,by omega,by omega,rfl,rfl,HO1.out,⟨rfl,rfl⟩,HB1.out⟩
 case round =>
  clear HO1 HB1
  obtain⟨m,F,hm,hleft,rfl,rfl,HO,HF,HB⟩:=hrel
  obtain⟨gas,hgas⟩:∃ gas,gas=gk:=⟨_,rfl⟩
  rw[←hgas] at hleft
  have HGK:=Lib.hid hgas
  clear hgas
  generalize wr=wo at *
  have hwl:=words_len (t:=t) (n:=m) ht (by omega)
  obtain⟨A5,c5,rfl,h51,h52⟩:=own_form HO.out
  by_cases hmk:m<k
  ·have hdm:decide ((m:Int)+1≤(k:Int))=true:=by rw[decide_eq_true_eq];omega
   have hwl2:=words_len (t:=t) (n:=m+1) ht (by omega)
   have HW2:=Lib.hid (show wordsW t (m+1)=wordsW t m++(lvl t m).flatMap (kids t) from rfl)
   have HFIT:=Lib.hid (show ∀ x∈wordsW t m,x.length≤4 from fun x hx=>Nat.le_trans (overW_len (by omega) hx) (by omega))
   have HWNIL:=Lib.hid (show (lvl t m).flatMap (kids t)=[]→tot=wordsW t m from fun h=>by
    have:=words_nil (t:=t) (n:=m) h (k - m)
    rwa [show m+(k - m)=k by omega,←HTOT.out] at this)
   obtain⟨W,hW⟩:∃ W,W=wordsW t m:=⟨_,rfl⟩
   obtain⟨D,hD⟩:∃ D,D=lvl t m:=⟨_,rfl⟩
   rw[←hW,←hD] at HF
   rw[←hW] at HO hwl HFIT h51 ⊢
   rw[←hW,←hD] at HW2 HWNIL
   have HWW:=Lib.hid hW
   rw[HW2.out] at hwl2
   obtain⟨E,hE⟩:∃ E,E=W.length:=⟨_,rfl⟩
   rw[←hE] at HO HF hwl h51 ⊢
   have HE:=Lib.hid hE
   clear hW hD hE
   have hFE:F≤E:=by have:=HF.out.1;omega
   have HDL:=Lib.hid (show E - F=D.length by have:=HF.out.1;omega)
   have HDG:=Lib.hid (show ∀ i (h1:F≤i) (h2:i<W.length),∃ h3:i - F<D.length,W[i]=D[i - F] from fun i h1 h2=>by
    have h3:i - F<D.length:=by have:=HDL.out;have:=HE.out;omega
    refine⟨h3,?_⟩
    have e:=HF.out.2
    have:(W.drop F)[i - F]? = D[i - F]? := by rw[e]
    rw[List.getElem?_drop,show F+(i - F)=i by omega,List.getElem?_eq_getElem h2,List.getElem?_eq_getElem h3] at this
    injection this)
   go_wp2_with fail
   go_loopg [9,5] E (fun lf2 v9 v5 wt=>∃ (i:Nat) (n5:Nat),F≤i∧i≤E∧E - i≤lf2∧v9=.int .i64 i∧Hid (n5=(W++(D.take (i - F)).flatMap (kids t)).length)∧(∃ A c,v5=.slice A n5 c∧n5≤c∧c≤maxLen)∧Hid (wt.ownsRow w.heap.size 9 1 v5 n5 (wcells (W++(D.take (i - F)).flatMap (kids t))))∧Hid (Below w.heap.size w wt))
   case atStart=>exact⟨F,E,by omega,by omega,by omega,rfl,by simp[Hid];exact HE.out,⟨_,_,rfl,h51,h52⟩,by rw[Nat.sub_self];simp only[List.take_zero,List.flatMap_nil,List.append_nil];exact HO.out,HB.out⟩
   case round =>
    clear HO HB
    obtain⟨i,n5,hFi,hi,hlf2,rfl,HN5,⟨A6,c6,rfl,h61,h62⟩,HO,HB⟩:=hrel
    obtain⟨gas2,hgas2⟩:∃ gas2,gas2=gk:=⟨_,rfl⟩
    rw[←hgas2] at hlf2
    have HGK2:=Lib.hid hgas2
    clear hgas2
    generalize wr=wp at *
    by_cases hiE:i<E
    ·have hiW:i<W.length:=by rw[←HE.out];exact hiE
     obtain⟨h3,HXW⟩:=HDG.out i hFi hiW
     have HLE:=Lib.hid (fun c=>partW_le (W:=W) (t:=t) (c:=c) h3)
     have HEND:=Lib.hid (partW_end (W:=W) (t:=t) h3)
     have HIX:=Lib.hid (fun (c:Nat) (x:Wd) (h:i<(partW W D t (i - F) c x).length)=>partW_get hiW h)
     have HXF:=Lib.hid (HFIT.out W[i] (List.getElem_mem hiW))
     obtain⟨x,hx⟩:∃ x,x=W[i]:=⟨_,rfl⟩
     rw[←HXW,←hx] at HLE HEND
     rw[←hx] at HIX HXF
     have HIN:=Lib.hid (show (i+1) - F=i - F+1 by omega)
     clear hx HXW h3
     go_wp2_with fail
     go_loopg [10,5] t (fun lf3 v10 v5 wt=>∃ (c:Nat) (n5:Nat),c≤t∧t - c≤lf3∧v10=.int .i64 c∧Hid (n5=(partW W D t (i - F) c x).length)∧(∃ A cc,v5=.slice A n5 cc∧n5≤cc∧cc≤maxLen)∧Hid (wt.ownsRow w.heap.size 9 1 v5 n5 (wcells (partW W D t (i - F) c x)))∧Hid (Below w.heap.size w wt))
     case atStart=>exact⟨0,n5,by omega,by omega,rfl,by rw[partW_zero];exact HN5.out,⟨_,_,rfl,h61,h62⟩,by rw[partW_zero];exact HO.out,HB.out⟩
     case round =>
      clear HO HB HN5 h61 h62
      obtain⟨c,n6,hc,hlf3,rfl,HN6,⟨A7,c7,rfl,h71,h72⟩,HO,HB⟩:=hrel
      have hn6:n6≤121:=by have:=HLE.out c;have:=HN6.out;omega
      by_cases hct:c<t
      ·have hEn:i<n6:=by
        have:=HN6.out
        unfold partW at this
        rw[List.length_append,List.length_append] at this
        omega
       obtain⟨b9,o9,he9,hb9,hc9⟩:=(Rd.of_own HO.out).at_ (k:=i) (by rw[wcells_len];have:=HN6.out;omega)
       have hxi:(wcells (partW W D t (i - F) c x))[i]'(by rw[wcells_len];have:=HN6.out;omega)=wv x:=by
        unfold wcells
        rw[List.getElem_map,HIX.out c x (by have:=HN6.out;omega)]
       rw[hxi] at hc9
       subst he9
       have hd5:decide ((4096:Int)≤(n6:Int))=false:=by rw[decide_eq_false_iff_not];omega
       have HSC:=Lib.hid (partW_succ (W:=W) (D:=D) (a:=i - F) (x:=x) hct)
       have HBZ:=Lib.hid (show w.heap.size≤wr.heap.size from HB.out.size)
       have hc256:(c:Int)%256=c:=by omega
       clear hxi
       have hcv:=conv_bytes (P:=Tryz.prog) (l:=[UInt8.ofNat c]) (B:=wr.heap.size+1) (w:=(wr.alloc (.cells #[.int .u8 (c:Int)] 5)).drew) (A:=some ⟨wr.heap.size,0,none⟩) (by
        have h:Rd (wr.alloc (.cells #[.int .u8 (c:Int)] 5)).drew _ _ _:=Rd.row (B:=wr.heap.size+1) (Go.heap_alloc_new wr (.cells #[.int .u8 (c:Int)] 5)) (Nat.lt_succ_self wr.heap.size)
        have e:bcells [UInt8.ofNat c]=[.int .u8 (c:Int)]:=by
         simp only[bcells,List.map_cons,List.map_nil,bcell]
         rw[UInt8.toNat_ofNat',Nat.mod_eq_of_lt (by omega)]
        rw[e]
        exact h) Tryz.underlying70 Tryz.underlying5 Tryz.underlying9 1 rfl 1
       have HAPP:=Lib.hid (wv_app x [UInt8.ofNat c])
       obtain⟨xl,hxl⟩:∃ xl,xl=x.length:=⟨_,rfl⟩
       have hxs:(⟨x.toArray⟩:ByteArray).size=xl:=hxl.symm
       have hxl2:x.length=xl:=hxl.symm
       have hxl4:xl≤4:=by rw[hxl];exact HXF.out
       have hxs1:(⟨[UInt8.ofNat c].toArray⟩:ByteArray).size=1:=rfl
       have hxs2:([UInt8.ofNat c]:Wd).length=1:=rfl
       clear hxl
       go_wp2_with fail
       refine Text.wp_grow [7,8,10] [4] [8] (by kernel_rfl) (by kernel_rfl) ?_
       refine Text.wpS_seg 7 _ _ _ _ (by decide) (fun Q' hQ'=>?_)
       simp only[List.take_succ_cons,List.take_zero]
       go_wp2_with fail
       try simp only[List.drop_succ_cons,List.drop_zero]
       refine Text.wpS_one (fun Q' hQ'=>?_)
       go_wp2_with fail
       refine⟨(Below.refl _ _).alloc (Nat.le_refl _) _,?_⟩
       refine Text.wpS_one (fun Q' hQ'=>?_)
       go_wp2_with fail
       refine⟨(Below.refl _ _).alloc (Nat.le_refl _) _,?_⟩
       refine Text.wpS_seg 1 _ _ _ _ (by decide) (fun Q' hQ'=>?_)
       simp only[List.take_succ_cons,List.take_zero]
       go_wp2_with fail
       try simp only[List.drop_succ_cons,List.drop_zero]
       refine Text.wpS_one (fun Q' hQ'=>?_)
       go_wp2_with fail
       rw[show (⟨#[UInt8.ofNat c]⟩:ByteArray)=⟨[UInt8.ofNat c].toArray⟩ from rfl,HAPP.out]
       obtain⟨xc,hxc⟩:∃ xc,xc=x++[UInt8.ofNat c]:=⟨_,rfl⟩
       rw[←hxc] at HSC ⊢
       have hb1:Below wr.drew.heap.size wr.drew ((wr.alloc (.cells #[.int .u8 (c:Int)] 5)).alloc (.cells #[wv xc] 9)).drew:=((Below.refl wr.drew.heap.size wr.drew).alloc (Nat.le_refl _) (.cells #[.int .u8 (c:Int)] 5)).alloc (by rw[World.size_alloc];omega) (.cells #[wv xc] 9)
       have hb2:Below wr.heap.size wr ((wr.alloc (.cells #[.int .u8 (c:Int)] 5)).alloc (.cells #[wv xc] 9)).drew:=(Below.refl wr.heap.size wr).drew.trans hb1
       have hro:Rd ((wr.alloc (.cells #[.int .u8 (c:Int)] 5)).alloc (.cells #[wv xc] 9)).drew (wr.heap.size+2) (some ⟨wr.heap.size+1,0,none⟩) [wv xc]:=Rd.row (g:=wr.heap.size+1) (heap_two wr _ _) (by omega)
       have hO2:((wr.alloc (.cells #[.int .u8 (c:Int)] 5)).alloc (.cells #[wv xc] 9)).drew.ownsRow w.heap.size 9 1 (.slice (some ⟨b9,o9,none⟩) n6 c7) n6 (wcells (partW W D t (i - F) c x)):=(HO.out.alloc _).alloc _
       have hz2:((wr.alloc (.cells #[.int .u8 (c:Int)] 5)).alloc (.cells #[wv xc] 9)).drew.heap.size=wr.heap.size+2:=by
        show ((wr.alloc _).alloc _).heap.size=_
        rw[World.size_alloc,World.size_alloc]
       refine⟨hb1,?_⟩
       have HB5:=Lib.hid hb2
       have HRO:=Lib.hid hro
       have HO5:=Lib.hid hO2
       have HZ5:=Lib.hid hz2
       clear hb1 hb2 hro hO2 hz2 hcv hxc HAPP
       generalize ((wr.alloc (.cells #[.int .u8 (c:Int)] 5)).alloc (.cells #[wv xc] 9)).drew=w5 at *
       refine Text.wpS_seg 2 _ _ _ _ (by decide) (fun Q' hQ'=>?_)
       simp only[List.take_succ_cons,List.take_zero]
       go_wp2_with (at_builtin;refine wpList_app (m:=1) (n:=n6) str_appW rfl rfl rfl rfl HO5.out HRO.out rfl (fun u hu=>by simp at hu;subst hu;rfl) (by unfold maxLen;omega) (by omega) (by have:=HZ5.out;have:=HBZ.out;omega) ?_)
       intro v' w' ho hg _ _
       have HO6:=Lib.hid (show w'.ownsRow w.heap.size 9 1 v' (n6+1) (wcells (partW W D t (i - F) (c+1) x)) by
        rw[HSC.out]
        simp only[wcells,List.map_append]
        exact ho)
       have HB6:=Lib.hid (grown_below (HB.out.trans (HB5.out.mono HBZ.out)) hg HO5.out (Nat.le_refl _) (by have:=HZ5.out;have:=HBZ.out;omega))
       have HN7:=Lib.hid (show n6+1=(partW W D t (i - F) (c+1) x).length by rw[HSC.out,List.length_append,←HN6.out];rfl)
       obtain⟨A8,c8,rfl,h81,h82⟩:=own_form ho
       clear ho hg
       go_wp2_with fail
       refine⟨by rfl,?_,?_⟩
       ·exact⟨fun _=>⟨_,_,rfl,hc9⟩,trivial⟩
       go_wp2_with fail
       go_roundg (gk - 1)
       case measure=>omega
       case rel=>exact⟨c+1,n6+1,by omega,by omega,by go_num,HN7.out,⟨_,_,rfl,h81,h82⟩,HO6.out,HB6.out⟩
      ·have hct':c=t:=by omega
       have HN7:=Lib.hid (show n6=(W++(D.take (i+1 - F)).flatMap (kids t)).length by rw[HN6.out,hct',HEND.out,HIN.out])
       have HO7:=Lib.hid (show wr.ownsRow w.heap.size 9 1 (.slice A7 n6 c7) n6 (wcells (W++(D.take (i+1 - F)).flatMap (kids t))) by
        have:=HO.out
        rw[hct',HEND.out] at this
        rwa [HIN.out])
       clear hct'
       go_wp2_with fail
       go_roundg (gas2 - 1)
       case measure=>have:=HGK2.out;omega
       case rel=>exact⟨i+1,n6,by omega,by omega,by omega,by go_num,HN7.out,⟨_,_,rfl,h71,h72⟩,HO7.out,HB.out⟩
    ·have hiE':i=E:=by omega
     have HALL:=Lib.hid (show W++(D.take (i - F)).flatMap (kids t)=wordsW t (m+1) by
      rw[HW2.out,List.take_of_length_le (by have:=HDL.out;omega)])
     rw[HALL.out] at HO
     have HN7:=Lib.hid (show n5=(wordsW t (m+1)).length by rw[HN5.out,HALL.out])
     have hn5:n5≤121:=by have:=HN7.out;rw[HW2.out] at this;omega
     clear hiE'
     by_cases hnE:n5=E
     ·have hq:((n5:Int)==(E:Int))=true:=by rw[beq_iff_eq];omega
      have HX:=Lib.hid (show wordsW t (m+1)=tot by
       have h1:=HN7.out
       rw[HW2.out,List.length_append] at h1
       have h2:(D.flatMap (kids t)).length=0:=by have:=HE.out;omega
       have h3:=List.eq_nil_of_length_eq_zero h2
       rw[HW2.out,h3,List.append_nil,HWNIL.out h3])
      have HN8:=Lib.hid (show n5=tot.length by rw[HN7.out,HX.out])
      rw[HX.out] at HO
      clear hnE
      go_wp2_with fail
      go_ret
      exact⟨_,rfl,by rw[←HN8.out];exact HO.out,HB.out⟩
     ·have hq:((n5:Int)==(E:Int))=false:=by rw[beq_eq_false_iff_ne];omega
      have HFN:=Lib.hid (show E+(lvl t (m+1)).length=(wordsW t (m+1)).length∧(wordsW t (m+1)).drop E=lvl t (m+1) by
       constructor
       ·show _=(wordsW t m++lvl t (m+1)).length
        rw[List.length_append,←HWW.out,←HE.out]
       ·show (wordsW t m++lvl t (m+1)).drop E=_
        rw[←HWW.out,HE.out,List.drop_left])
      have HO9:=Lib.hid (show wp.ownsRow w.heap.size 9 1 (.slice A6 n5 c6) (wordsW t (m+1)).length (wcells (wordsW t (m+1))) by rw[←HN7.out];exact HO.out)
      clear hnE
      go_wp2_with fail
      go_roundg (gas - 1)
      case measure=>have:=HGK.out;omega
      case rel=>exact⟨m+1,E,by omega,by omega,by go_num,rfl,HO9.out,HFN.out,HB.out⟩
  ·have hmk':m=k:=by omega
   have hdm:decide ((m:Int)+1≤(k:Int))=false:=by rw[decide_eq_false_iff_not];omega
   have HX:=Lib.hid (show wordsW t m=tot by rw[HTOT.out,hmk'])
   rw[HX.out] at HO h51 ⊢
   clear hmk'
   obtain⟨nt,hnt⟩:∃ nt,nt=tot.length:=⟨_,rfl⟩
   rw[←hnt] at HO h51 ⊢
   have HNT:=Lib.hid hnt
   clear hnt
   go_wp2_with fail
   go_ret
   refine⟨.slice A5 nt c5,rfl,?_,HB.out⟩
   rw[←HNT.out]
   exact HO.out
end Go.Proofs.YtfpihflepeiagaaGreatDoor
