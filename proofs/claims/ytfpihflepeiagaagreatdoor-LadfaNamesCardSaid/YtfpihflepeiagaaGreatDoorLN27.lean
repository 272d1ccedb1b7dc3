/- Texts of this proof joined: Pairs, Clash1, Clash2. -/
import Derived.Test.YtfpihflepeiagaaGreatDoorLN26
import Derived.Test.YtfpihflepeiagaaGreatDoorLN17
namespace Go.Proofs.YtfpihflepeiagaaGreatDoor
open Go.RowKit Go.Sort

structure Calm (N0:Nat) (w w':World):Prop where
 below:Below N0 w w'
 size:w.heap.size≤w'.heap.size
 typed:∀ (g:Nat) (cs:Array Value) (t:TypeId) (fr:Nat×Nat),w.heap[g]? = some (.cells cs t fr)→t≠114→t≠29→w'.heap[g]? = some (.cells cs t fr)
theorem Calm.refl (N0:Nat) (w:World):Calm N0 w w:=⟨Below.refl _ _,Nat.le_refl _,fun _ _ _ _ h _ _=>h⟩
theorem Calm.trans {N0:Nat} {w w1 w2:World} (h:Calm N0 w w1) (h2:Calm N0 w1 w2):Calm N0 w w2:=⟨h.below.trans h2.below,Nat.le_trans h.size h2.size,fun g cs t fr hg h3 h4=>h2.typed g cs t fr (h.typed g cs t fr hg h3 h4) h3 h4⟩
theorem Calm.of_below {N0:Nat} {w w':World} (h:Below w.heap.size w w') (hN:N0≤w.heap.size):Calm N0 w w':=⟨h.mono hN,h.size,fun _ _ _ _ hg _ _=>(h.block _ (Array.getElem?_eq_some_iff.1 hg).1).trans hg⟩
def pairsOf:List Nat→List (Nat×Nat)
 |[]=>[]
 |a :: l=>l.map (fun b=>(a,b))++pairsOf l
def StepP {σ:Type} (F:FuncId) (cap:Array Value) (l:List Nat) (N0:Nat) (f:σ→Nat×Nat→σ) (s0:σ) (I:σ→World→Prop):Prop :=
 ∀ (pre post:List (Nat×Nat)) (w1:World) (a b:Nat),pairsOf l=pre++(a,b) :: post→a∈l→b∈l→I (pre.foldl f s0) w1→N0≤w1.heap.size→Calls Tryz.prog F (#[.int .i64 a,.int .i64 b]++cap) w1 fun e w2=>e=.returned (.tuple #[])∧I (f (pre.foldl f s0) (a,b)) w2∧Calm N0 w1 w2
def LeftP {σ:Type} (l:List Nat) (f:σ→Nat×Nat→σ) (s0 s:σ) (rest:List (Nat×Nat)):Prop:=∃ pre,s=pre.foldl f s0∧pairsOf l=pre++rest
theorem LeftP.next {σ:Type} {l:List Nat} {f:σ→Nat×Nat→σ} {s0 s:σ} {p:Nat×Nat} {rest:List (Nat×Nat)} (h:LeftP l f s0 s (p :: rest)):LeftP l f s0 (f s p) rest:=by
 obtain⟨pre,rfl,h⟩:=h
 exact⟨pre++[p],by simp,by simp[h]⟩
theorem LeftP.done {σ:Type} {l:List Nat} {f:σ→Nat×Nat→σ} {s0 s:σ} (h:LeftP l f s0 s []):s=(pairsOf l).foldl f s0:=by
 obtain⟨pre,rfl,h⟩:=h
 rw[h,List.append_nil]
theorem ofTo_rules (rs:RuleL) (left:Int):ofTo rs left rs.length=(rulesOf rs left).map fun i:Nat=>(i:Int):=rfl
set_option maxRecDepth 100000 in
set_option maxHeartbeats 8000000 in
theorem pairs_any {σ:Type} (F:FuncId) (cap:Array Value) (hF:∀ (args:Array Value) (w:World),(callFunc F args).run Tryz.prog w=.ok (.enter F args) w) (f:σ→Nat×Nat→σ) (I:σ→World→Prop) {A1 A2 A3:Option Addr} {n m q c1 c2 c3 N0:Nat} {g:Gram} (left:Int) (s0:σ) (w:World)
  (h:GramR w w.heap.size A1 A2 A3 n m q c1 c2 c3 g) (hN:N0≤w.heap.size) (hI:∀ s w1 w2,I s w1→Below w1.heap.size w1 w2→I s w2) (h0:I s0 w) (hstep:StepP F cap (rulesOf g.2.2 left) N0 f s0 I) :
  Calls Tryz.prog 62 #[gramV A1 A2 A3 n m q c1 c2 c3,.int .i64 left,.func (.func F) #[] cap] w fun e w'=>e=.returned (.tuple #[])∧I ((pairsOf (rulesOf g.2.2 left)).foldl f s0) w'∧Calm N0 w w':=by
 have hbx:=(Below.refl w.heap.size w).alloc (Nat.le_refl _) (.cells #[.slice A1 n c1,.slice A2 m c2,.slice A3 q c3] 25)
 have HZ:=Lib.hid (World.size_alloc w (.cells #[.slice A1 n c1,.slice A2 m c2,.slice A3 q c3] 25))
 have HV:=Lib.hid (h.fut (B':=w.heap.size+1) hbx (Nat.le_refl _) (by omega))
 have HBX:=Lib.hid hbx
 have HI:=Lib.hid hI
 have HI1:=Lib.hid (hI _ _ _ h0 hbx)
 have HF:=Lib.hid hF
 have HS:=Lib.hid hstep
 have hsm:=h.small
 have HQ:=Lib.hid h.ln.2.2
 have HLE:=Lib.hid (show (rulesOf g.2.2 left).length≤1048576 by
  unfold rulesOf
  refine Nat.le_trans (List.length_filter_le _ _) ?_
  rw[List.length_range,←h.ln.2.2]
  exact hsm.2.2)
 clear h hbx hI h0 hF hstep
 go_enter Tryz.func62,Tryz.ntmps62
 go_wp2_with fail
 generalize w.alloc (.cells #[.slice A1 n c1,.slice A2 m c2,.slice A3 q c3] 25)=w1 at *
 refine (gram_of A1 A2 (.slice A3 q c3) n m c1 c2 left g.2.2 w1 (by rw[HZ.out];exact HV.out.rules) (by rw[←HQ.out];omega)).mono ?_
 rintro e w2 ⟨v,rfl,hown,hb2⟩
 rw[ofTo_rules] at hown
 obtain⟨l,hl⟩:∃ l,l=rulesOf g.2.2 left:=⟨_,rfl⟩
 rw[←hl] at hown HLE
 have HLL:=Lib.hid hl
 have HI2:=Lib.hid (HI.out _ _ _ HI1.out hb2)
 have HC2:=Lib.hid (Calm.of_below (HBX.out.trans (hb2.mono (by rw[HZ.out];omega))) hN)
 have HO:=Lib.hid hown
 rw[List.length_map] at HO hown
 obtain⟨nl,hnl⟩:∃ nl,nl=l.length:=⟨_,rfl⟩
 rw[←hnl] at HO HLE hown
 have HNL:=Lib.hid hnl
 obtain⟨tot,htot⟩:∃ tot,tot=(pairsOf l).foldl f s0:=⟨_,rfl⟩
 have HTOT:=Lib.hid htot
 have HFIN:Hid (∀ (e:Ending) (w':World),e=.returned (.tuple #[])→I tot w'→Calm N0 w w'→e=.returned (.tuple #[])∧I ((pairsOf (rulesOf g.2.2 left)).foldl f s0) w'∧Calm N0 w w'):=by
  intro e w' h1 h2 h3
  rw[←HLL.out,←HTOT.out]
  exact⟨h1,h2,h3⟩
 rcases hown.2 with ⟨rfl,hz⟩ | ⟨gl,cap',cur,rfl,hbase,hgl,hl1,hl2,hl3,hl4⟩
 ·have HT0:=Lib.hid (show tot=s0 by
   rw[htot,(List.eq_nil_of_length_eq_zero (by rw[←hnl];exact hz):l=[])]
   rfl)
  have hnl0:nl=0:=hz
  clear hown hb2 hl hnl htot hz
  go_wp2_with fail
  go_loopg [16] 0 (fun lft v16 wr=>v16=.int .i64 0∧wr=w2)
  case atStart=>exact⟨rfl,rfl⟩
  case round =>
   obtain⟨rfl,rfl⟩:=hrel
   go_wp2_with fail
   go_end0
   exact HFIN.out _ _ rfl (by rw[HT0.out];exact HI2.out) HC2.out
 ·have HGL:=Lib.hid hgl
  have HCUR:Hid (∀ (w':World),w'.heap[gl]? = some (.cells cur 3 (0,0))→∀ i (hi:i<l.length),w'.cell? ⟨gl,i,none⟩=some (.int .i64 ((l[i]:Nat):Int))):=by
   intro w' hw i hi
   rw[cell_of_row w' gl i _ _ _ hw,←Array.getElem?_toList]
   have:(cur.toList.take (nl*1))[i]? = cur.toList[i]? := List.getElem?_take_of_lt (by omega)
   rw[←this,hl4]
   simp[icells,hi]
  have hle:=HLE.out
  clear hown hb2 hl hnl htot hgl hl4
  go_wp2_with fail
  go_loopg [16] nl (fun lft v16 wr=>∃ (i:Nat) (s:σ),i≤nl∧nl - i≤lft∧v16=.int .i64 i∧Hid (LeftP l f s0 s (pairsOf (l.drop i)))∧Hid (I s wr)∧Hid (Calm N0 w2 wr))
  case atStart=>exact⟨0,s0,by omega,by omega,rfl,⟨[],rfl,rfl⟩,HI2.out,Calm.refl _ _⟩
  case round =>
   clear HI2
   obtain⟨i,s,hi,hlft,rfl,HTI,HIS,HCA⟩:=hrel
   obtain⟨gas,hgas⟩:∃ gas,gas=gk:=⟨_,rfl⟩
   rw[←hgas] at hlft
   have HGK:=Lib.hid hgas
   clear hgas
   have hg3:=HCA.out.typed gl cur _ _ HGL.out (by decide) (by decide)
   by_cases hin:i<nl
   ·have hil:i<l.length:=by rw[←HNL.out];exact hin
    have hc0:=HCUR.out _ hg3 i hil
    have HMEM:=Lib.hid (List.getElem_mem hil)
    have HTI2:=Lib.hid (show LeftP l f s0 s (((l.drop (i+1)).map fun b=>(l[i],b))++pairsOf (l.drop (i+1))) by have:=HTI.out;rwa [List.drop_eq_getElem_cons hil] at this)
    obtain⟨a,ha⟩:∃ a,a=l[i]:=⟨_,rfl⟩
    rw[←ha] at hc0 HMEM HTI2
    clear ha hil hg3 HTI
    by_cases hci:cap'=i+1
    ·have hni:nl=i+1:=by omega
     have HTI3:=Lib.hid (show LeftP l f s0 s (pairsOf (l.drop (i+1))) by
      have:=HTI2.out
      rwa [List.drop_eq_nil_of_le (by rw[←HNL.out];omega)] at this ⊢)
     subst hci
     subst hni
     go_wp2_with fail
     go_loopg [26] 0 (fun lft v26 wt=>v26=.int .i64 0∧wt=wr)
     case atStart=>exact⟨rfl,rfl⟩
     case round =>
      obtain⟨rfl,rfl⟩:=hrel
      go_wp2_with fail
      go_roundg (gas - 1)
      case measure=>have:=HGK.out;omega
      case rel=>exact⟨i+1,s,by omega,by omega,by go_num,HTI3.out,HIS.out,HCA.out⟩
    ·go_wp2_with fail
     go_loopg [26] (nl - (i+1)) (fun lft v26 wt=>∃ (j:Nat) (t:σ),j≤nl - (i+1)∧nl - (i+1) - j≤lft∧v26=.int .i64 j∧Hid (LeftP l f s0 t ((((l.drop (i+1)).drop j).map fun b=>(a,b))++pairsOf (l.drop (i+1))))∧Hid (I t wt)∧Hid (Calm N0 w2 wt))
     case atStart=>exact⟨0,s,by omega,by omega,rfl,HTI2.out,HIS.out,HCA.out⟩
     case round =>
      clear HTI2 HIS HCA hc0
      obtain⟨j,t,hj,hlft2,rfl,HTJ,HIT,HCA⟩:=hrel
      have hg3:=HCA.out.typed gl cur _ _ HGL.out (by decide) (by decide)
      by_cases hjn:j<nl - (i+1)
      ·have hjl:i+1+j<l.length:=by rw[←HNL.out];omega
       have hc1:=HCUR.out _ hg3 (i+1+j) hjl
       have HMEM2:=Lib.hid (List.getElem_mem hjl)
       have HTJ2:=Lib.hid (show LeftP l f s0 t ((a,l[i+1+j]) :: ((((l.drop (i+1)).drop (j+1)).map fun b=>(a,b))++pairsOf (l.drop (i+1)))) by
        have hj2:j<(l.drop (i+1)).length:=by rw[List.length_drop];omega
        have:=HTJ.out
        rwa [List.drop_eq_getElem_cons hj2,List.map_cons,List.cons_append,List.getElem_drop] at this)
       obtain⟨b,hb⟩:∃ b,b=l[i+1+j]:=⟨_,rfl⟩
       rw[←hb] at hc1 HMEM2 HTJ2
       clear hb hjl hg3 HTJ
       go_wp2_with fail
       rw[HF.out]
       obtain⟨pre,hpre,hall⟩:=HTJ2.out
       refine (HS.out pre _ _ a b (by rw[←HLL.out];exact hall) (by rw[←HLL.out];exact HMEM.out) (by rw[←HLL.out];exact HMEM2.out) (by rw[←hpre];exact HIT.out) (Nat.le_trans hN (Nat.le_trans HC2.out.size HCA.out.size))).mono ?_
       rw[←hpre]
       clear hpre hall
       rintro e w5 ⟨rfl,hi5,hc5⟩
       have HI5:=Lib.hid hi5
       have HC5:=Lib.hid (HCA.out.trans hc5)
       clear hi5 hc5
       go_wp2_with fail
       go_roundg (gk - 1)
       case measure=>omega
       case rel=>exact⟨j+1,f t (a,b),by omega,by omega,by go_num,HTJ2.out.next,HI5.out,HC5.out⟩
      ·have HTJ2:=Lib.hid (show LeftP l f s0 t (pairsOf (l.drop (i+1))) by
        have:=HTJ.out
        rwa [show (l.drop (i+1)).drop j=[] from List.drop_eq_nil_of_le (by rw[List.length_drop,←HNL.out];omega)] at this)
       clear hg3 HTJ
       go_wp2_with fail
       go_roundg (gas - 1)
       case measure=>have:=HGK.out;omega
       case rel=>exact⟨i+1,t,by omega,by omega,by go_num,HTJ2.out,HIT.out,HCA.out⟩
   ·have HT0:=Lib.hid (show tot=s by
     have:=HTI.out
     rw[List.drop_eq_nil_of_le (by rw[←HNL.out];omega)] at this
     exact HTOT.out.trans (LeftP.done this).symm)
    go_wp2_with fail
    go_end0
    exact HFIN.out _ _ rfl (by rw[HT0.out];exact HIS.out) (HC2.out.trans HCA.out)
end Go.Proofs.YtfpihflepeiagaaGreatDoor
namespace Go.Proofs.YtfpihflepeiagaaGreatDoor
open Go.RowKit

theorem clash_app:AppTy Tryz.prog 29 114 4 40 (.agg #[.int .i64 0,.string ⟨#[]⟩,.int .i64 0,.int .i64 0]):=appTy (by kernel_rfl) (by kernel_rfl) rfl (by omega)
abbrev clc (x:Clash):List Value:=[.int .i64 x.1,wv x.2.1,.int .i64 x.2.2.1,.int .i64 x.2.2.2]
def ccells (xs:List Clash):List Value:=(xs.map clc).flatten
theorem ccells_snoc (xs:List Clash) (x:Clash):ccells (xs++[x])=ccells xs++clc x:=by simp[ccells]
def clashF (left:Int) (sets:Sets) (s:List Clash) (p:Nat×Nat):List Clash:=s++pairW left sets p.1 p.2
def ofOpt (left:Int) (a b:Nat):Option Wd→List Clash
 |none=>[]
 |some w=>[(left,w,(a:Int),(b:Int))]
theorem pairW_opt (left:Int) (sets:Sets) (a b:Nat):pairW left sets a b=ofOpt left a b (commonW (sets.getD a []) (sets.getD b [])):=by
 unfold pairW ofOpt
 cases commonW (sets.getD a []) (sets.getD b []) <;> rfl
theorem pairW_le (left:Int) (sets:Sets) (a b:Nat):(pairW left sets a b).length≤1:=by
 unfold pairW
 split <;> simp
theorem clashF_fold (left:Int) (sets:Sets):∀ (l:List (Nat×Nat)) (s:List Clash),l.foldl (clashF left sets) s=s++l.flatMap fun p=>pairW left sets p.1 p.2
 |[],s=>by simp
 |p :: l,s=>by rw[List.foldl_cons,clashF_fold left sets l];simp[clashF]
theorem clashF_len (left:Int) (sets:Sets):∀ (l:List (Nat×Nat)) (s:List Clash),(l.foldl (clashF left sets) s).length≤s.length+l.length
 |[],s=>by simp
 |p :: l,s=>by
  rw[List.foldl_cons]
  have h1:=clashF_len left sets l (clashF left sets s p)
  have h2:=pairW_le left sets p.1 p.2
  simp only[clashF,List.length_append,List.length_cons] at h1 ⊢
  omega
theorem pairs_len:∀ l:List Nat,(pairsOf l).length≤l.length*l.length
 |[]=>by simp[pairsOf]
 |a :: l=>by
  have:=pairs_len l
  simp only[pairsOf,List.length_append,List.length_map,List.length_cons,Nat.mul_add,Nat.add_mul]
  omega
theorem pairsW_eq (left:Int) (sets:Sets):∀ l:List Nat,((pairsOf l).flatMap fun p=>pairW left sets p.1 p.2)=pairsW left sets l
 |[]=>rfl
 |a :: l=>by
  simp only[pairsOf,List.flatMap_append,pairsW,pairsW_eq left sets l,List.flatMap_map]
structure ClSt (N0 GS GO GL:Nat) (A:Option Addr) (ns c:Nat) (left:Int) (sets:Sets) (s:List Clash) (w:World):Prop where
 hs:w.heap[GS]? = some (.cells #[.slice A ns c] 81 (0,0))
 hl:w.heap[GL]? = some (.cells #[.int .i64 left] 3 (0,0))
 ho:∃ v,w.heap[GO]? = some (.cells #[v] 29 (0,0))∧w.ownsRow N0 114 4 v s.length (ccells s)
 sl:SlR (eSl eW) w N0 (.slice A ns c) sets
 hN:N0≤w.heap.size
 hO:N0≤GO
theorem ClSt.below {N0 GS GO GL:Nat} {A:Option Addr} {ns c:Nat} {left:Int} {sets:Sets} {s:List Clash} {w w':World} (h:ClSt N0 GS GO GL A ns c left sets s w) (hb:Below w.heap.size w w'):ClSt N0 GS GO GL A ns c left sets s w':=by
 obtain⟨v,h1,h2⟩:=h.ho
 have l1:=(Array.getElem?_eq_some_iff.1 h.hs).1
 have l2:=(Array.getElem?_eq_some_iff.1 h.hl).1
 have l3:=(Array.getElem?_eq_some_iff.1 h1).1
 exact⟨(hb.block _ l1).trans h.hs,(hb.block _ l2).trans h.hl,⟨v,(hb.block _ l3).trans h1,own_below h2 hb⟩,h.sl.below (hb.mono h.hN),Nat.le_trans h.hN hb.size,h.hO⟩
set_option maxRecDepth 100000 in
set_option maxHeartbeats 8000000 in
theorem clash1_any {N0 GS GO GL:Nat} {A:Option Addr} {ns c:Nat} {left:Int} {sets:Sets} {s:List Clash} {a b:Nat} (w:World) (h:ClSt N0 GS GO GL A ns c left sets s w) (hls:s.length≤1099511627776) (ha:a<ns) (hb:b<ns) (hsz:∀ x∈sets,x.length≤1048576) :
  Calls Tryz.prog 63 #[.int .i64 a,.int .i64 b,.pointer (some ⟨GS,0,none⟩),.pointer (some ⟨GO,0,none⟩),.pointer (some ⟨GL,0,none⟩)] w fun e w'=>e=.returned (.tuple #[])∧ClSt N0 GS GO GL A ns c left sets (clashF left sets s (a,b)) w'∧Calm N0 w w':=by
 obtain⟨v,h1,h2⟩:=h.ho
 have cS:=cell0 h.hs
 have cL:=cell0 h.hl
 have cO:=cell0 h1
 have HN:=h.sl.n_eq
 have hal:a<sets.length:=by omega
 have hbl:b<sets.length:=by omega
 obtain⟨b1,o1,cs1,rfl,_,hb1,hrep1,hcell1⟩:=h.sl.get hal (by decide)
 obtain⟨v1,rfl,hv1⟩:=hrep1
 have x1:=hcell1 0 _ rfl
 obtain⟨b2,o2,cs2,he2,_,hb2,hrep2,hcell2⟩:=h.sl.get hbl (by decide)
 obtain⟨v2,rfl,hv2⟩:=hrep2
 injection he2 with he2
 injection he2 with e1 e2
 subst e1 e2
 have x2:=hcell2 0 _ rfl
 simp only[show (eSl eW).size=1 from rfl,Nat.mul_one,Nat.add_zero] at x1 x2
 have HP:=Lib.hid (show clashF left sets s (a,b)=s++ofOpt left a b (commonW sets[a] sets[b]) by
  unfold clashF
  rw[pairW_opt]
  simp only[List.getD_eq_getElem?_getD,List.getElem?_eq_getElem hal,List.getElem?_eq_getElem hbl,Option.getD_some])
 have z1:=hsz _ (List.getElem_mem hal)
 have z2:=hsz _ (List.getElem_mem hbl)
 obtain⟨p1,hp1⟩:∃ p1,p1=sets[a]:=⟨_,rfl⟩
 obtain⟨p2,hp2⟩:∃ p2,p2=sets[b]:=⟨_,rfl⟩
 rw[←hp1] at HP hv1 z1
 rw[←hp2] at HP hv2 z2
 obtain⟨A3,c3,rfl,_,_⟩:=hv1.form
 obtain⟨A4,c4,rfl,_,_⟩:=hv2.form
 have HV1:=Lib.hid hv1
 have HV2:=Lib.hid hv2
 have HH:=Lib.hid h
 have HO:=Lib.hid h2
 have HZ1:=Lib.hid z1
 have HZ2:=Lib.hid z2
 have HNN:=Lib.hid h.hN
 clear hp1 hp2 hv1 hv2 h h2 hcell1 hcell2 hsz hal hbl z1 z2
 go_enter Tryz.func63,Tryz.ntmps63
 go_wp2_with fail
 refine Text.wp_text [] (by kernel_rfl) (by kernel_rfl) (fun Q' hQ'=>?_)
 go_wp2_with fail
 have HW:=Lib.hid (((Below.refl w.heap.size w).alloc (Nat.le_refl _) (.cells #[.slice A3 p1.length c3,.slice A4 p2.length c4] 22)).drew)
 have HK:=Lib.hid (show (w.alloc (.cells #[.slice A3 p1.length c3,.slice A4 p2.length c4] 22)).drew.heap[w.heap.size]? = _ from Go.heap_alloc_new w (.cells #[.slice A3 p1.length c3,.slice A4 p2.length c4] 22))
 have HS2:=Lib.hid (show (w.alloc (.cells #[.slice A3 p1.length c3,.slice A4 p2.length c4] 22)).drew.heap.size=w.heap.size+1 from World.size_alloc w _)
 generalize (w.alloc (.cells #[.slice A3 p1.length c3,.slice A4 p2.length c4] 22)).drew=w2 at *
 refine (common_any w.heap.size A3 A4 c3 c4 p1 p2 w2 (by rw[cell_of_row _ _ _ _ _ _ HK.out];rfl) (by rw[cell_of_row _ _ _ _ _ _ HK.out];rfl) (HV1.out.fut (HW.out.mono HNN.out) (Nat.le_refl _) (by rw[HS2.out];have:=HNN.out;omega)) (HV2.out.fut (HW.out.mono HNN.out) (Nat.le_refl _) (by rw[HS2.out];have:=HNN.out;omega)) HZ1.out HZ2.out).mono ?_
 rintro e w5 ⟨hb5,hres⟩
 have HB5:=Lib.hid (HW.out.trans (hb5.mono (by rw[HS2.out];omega)))
 have H5:=Lib.hid (HH.out.below HB5.out)
 have HC5:=Lib.hid (Calm.of_below HB5.out HNN.out)
 cases hco:commonW p1 p2 with
 |none =>
  rw[hco] at hres HP
  simp only at hres
  subst hres
  have HP2:=Lib.hid (show clashF left sets s (a,b)=s by rw[HP.out];simp[ofOpt])
  clear hco hb5
  go_wp2_with fail
  refine⟨by rfl,?_⟩
  go_wp2_with fail
  go_end0
  exact⟨rfl,by rw[HP2.out];exact H5.out,HC5.out⟩
 |some x =>
  rw[hco] at hres HP
  simp only at hres
  subst hres
  have HP2:=Lib.hid (show clashF left sets s (a,b)=s++[(left,x,(a:Int),(b:Int))] by rw[HP.out];rfl)
  obtain⟨l1,l2,l3⟩:GS<w.heap.size∧GL<w.heap.size∧GO<w.heap.size:=⟨(Array.getElem?_eq_some_iff.1 HH.out.hs).1,(Array.getElem?_eq_some_iff.1 HH.out.hl).1,(Array.getElem?_eq_some_iff.1 h1).1⟩
  have HO5:=Lib.hid (own_below HO.out HB5.out)
  have HG5:=Lib.hid ((HB5.out.block _ l3).trans h1)
  have HL3:=Lib.hid (Nat.lt_of_lt_of_le l3 HB5.out.size)
  have HN5:=Lib.hid (Nat.le_trans HNN.out HB5.out.size)
  clear hco hb5 cS cO cL x1 x2 l1 l2 l3 h1
  have cO:=cell0 HG5.out
  have cL:=cell0 H5.out.hl
  go_wp2_with fail
  refine⟨by rfl,?_⟩
  go_wp2_with (at_builtin;refine wpList_app (m:=1) (n:=s.length) clash_app rfl rfl rfl rfl (HO5.out.alloc _) (Rd.row (B:=w5.heap.size+1) (Go.heap_alloc_new w5 _) (by omega)) rfl (by simp[Value.oneCell']) (by unfold maxLen;omega) (by omega) (by rw[World.size_alloc];have:=HN5.out;omega) ?_)
  intro v' w7 ho7 hg7 hv7 _
  have HT7:=Lib.hid (show ∀ (g:Nat) (cs:Array Value) (t:TypeId) (fr:Nat×Nat),w5.heap[g]? = some (.cells cs t fr)→t≠114→w7.heap[g]? = some (.cells cs t fr) from fun g cs t fr hg ht=>by
   refine grown_other (HO5.out.alloc _) hg7 ?_ ht
   rw[Below.heap_alloc _ _ _ (Array.getElem?_eq_some_iff.1 hg).1]
   exact hg)
  have HG7:=Lib.hid (HT7.out _ _ _ _ HG5.out (by decide))
  have HB7:=Lib.hid (show Below N0 w5 w7 from grown_below (((Below.refl w5.heap.size w5).mono HN5.out).alloc HN5.out (.cells (clc (left,x,(a:Int),(b:Int))).toArray 114)) hg7 (HO5.out.alloc _) (Nat.le_refl _) (by rw[World.size_alloc];have:=HN5.out;omega))
  have HS7:=Lib.hid (show w5.heap.size≤w7.heap.size by have:=hg7.size;rw[World.size_alloc] at this;omega)
  obtain⟨A7,c7,rfl,h71,h72⟩:=own_form ho7
  have HO7:=Lib.hid ho7
  have cO7:=cell0 HG7.out
  have fO:w7.frozen? ⟨GO,0,none⟩=false:=by simp[World.frozen?,HG7.out]
  clear ho7 hg7 hv7 cO cL
  go_wp2_with fail
  go_end0
  have hgo:N0≤GO:=HH.out.hO
  have HT8:∀ (g:Nat) (cs:Array Value) (t:TypeId) (fr:Nat×Nat),w5.heap[g]? = some (.cells cs t fr)→t≠114→t≠29→(w7.setCell ⟨GO,0,none⟩ (.slice A7 (s.length+1) c7)).heap[g]? = some (.cells cs t fr):=fun g cs t fr hg ht ht2=>by
   rw[Below.heap_setCell _ _ _ _ (fun e=>ht2 ?_)]
   ·exact HT7.out g cs t fr hg ht
   ·have e2:g=GO:=e
    rw[e2,HG5.out] at hg
    injection hg with hg
    injection hg with _ hg
    exact hg.symm
  have HB8:Below N0 w5 (w7.setCell ⟨GO,0,none⟩ (.slice A7 (s.length+1) c7)):=HB7.out.setCell (p:=⟨GO,0,none⟩) hgo _
  have hz8:w5.heap.size≤(w7.setCell ⟨GO,0,none⟩ (.slice A7 (s.length+1) c7)).heap.size:=by have:=HS7.out;simp[World.setCell];omega
  have hbox:(w7.setCell ⟨GO,0,none⟩ (.slice A7 (s.length+1) c7)).heap[GO]? = some (.cells #[.slice A7 (s.length+1) c7] 29 (0,0)):=by
   simp only[World.setCell,Array.getElem?_modify,if_true,HG7.out,Option.map_some]
   rfl
  have hown:(w7.setCell ⟨GO,0,none⟩ (.slice A7 (s.length+1) c7)).ownsRow N0 114 4 (.slice A7 (s.length+1) c7) (s.length+1) (ccells s++clc (left,x,(a:Int),(b:Int))):=World.ownsRow.kept HO7.out (grown_set w7 GO 0 _) (.inr (own_not2 HO7.out HG7.out (by decide)))
  refine⟨rfl,?_,HC5.out.trans ⟨HB8,hz8,HT8⟩⟩
  refine⟨HT8 _ _ _ _ H5.out.hs (by decide) (by decide),HT8 _ _ _ _ H5.out.hl (by decide) (by decide),⟨_,hbox,?_⟩,H5.out.sl.below HB8,Nat.le_trans HN5.out hz8,hgo⟩
  rw[HP2.out,List.length_append,ccells_snoc]
  exact hown
end Go.Proofs.YtfpihflepeiagaaGreatDoor
namespace Go.Proofs.YtfpihflepeiagaaGreatDoor
open Go.RowKit

def clashTo (rs:RuleL) (sets:Sets) (i:Nat):List Clash:=(List.range i).flatMap fun left:Nat=>pairsW (left:Int) sets (rulesOf rs left)
theorem clashTo_succ (rs:RuleL) (sets:Sets) (i:Nat):clashTo rs sets (i+1)=clashTo rs sets i++pairsW (i:Int) sets (rulesOf rs i):=by
 unfold clashTo
 rw[List.range_succ,List.flatMap_append]
 simp
theorem pairsW_le (left:Int) (sets:Sets) (l:List Nat):(pairsW left sets l).length≤l.length*l.length:=by
 rw[←pairsW_eq]
 refine Nat.le_trans ?_ (pairs_len l)
 have:=clashF_len left sets (pairsOf l) []
 rw[clashF_fold] at this
 simpa using this
theorem rulesOf_le (rs:RuleL) (left:Int):(rulesOf rs left).length≤rs.length:=by
 unfold rulesOf
 refine Nat.le_trans (List.length_filter_le _ _) ?_
 simp
theorem clashTo_le (rs:RuleL) (sets:Sets) (hq:rs.length≤4096):∀ i,(clashTo rs sets i).length≤i*16777216
 |0=>by simp[clashTo]
 |i+1=>by
  rw[clashTo_succ,List.length_append]
  have h1:=clashTo_le rs sets hq i
  have h2:=pairsW_le (i:Int) sets (rulesOf rs i)
  have h3:=rulesOf_le rs (i:Int)
  have h4:(rulesOf rs (i:Int)).length*(rulesOf rs (i:Int)).length≤4096*4096:=Nat.mul_le_mul (by omega) (by omega)
  omega
theorem heap3 (w:World) (a b c:Obj):(((w.alloc a).alloc b).alloc c).heap[w.heap.size]? = some a∧(((w.alloc a).alloc b).alloc c).heap[w.heap.size+1]? = some b∧(((w.alloc a).alloc b).alloc c).heap[w.heap.size+1+1]? = some c:=by
 refine⟨?_,?_,?_⟩
 ·rw[Below.heap_alloc _ _ _ (by simp;omega),Below.heap_alloc _ _ _ (by simp)]
  exact Go.heap_alloc_new w a
 ·rw[Below.heap_alloc _ _ _ (by simp)]
  exact heap_two w a b
 ·have:=heap_two (w.alloc a) b c
  rwa [World.size_alloc] at this
set_option maxRecDepth 100000 in
set_option maxHeartbeats 8000000 in
theorem clashes_any {A1 A2 A3 A:Option Addr} {n m q c1 c2 c3 c:Nat} {g:Gram} {sets:Sets} (w:World) (h:GramR w w.heap.size A1 A2 A3 n m q c1 c2 c3 g) (hg:GoodG g) (hs:SlR (eSl eW) w w.heap.size (.slice A q c) sets) (hsz:∀ x∈sets,x.length≤1048576) :
  Calls Tryz.prog 36 #[gramV A1 A2 A3 n m q c1 c2 c3,.slice A q c] w fun e w'=>∃ v,e=.returned v∧w'.ownsRow w.heap.size 114 4 v (clashW g.2.2 n sets).length (ccells (clashW g.2.2 n sets))∧Below w.heap.size w w':=by
 have HG:=Lib.hid h
 have HS:=Lib.hid hs
 have HSZ:=Lib.hid hsz
 have hsm:=h.small
 have HN2:=Lib.hid (show n≤256 by have:=hg.nm;have:=h.ln.1;omega)
 have HQL:=Lib.hid hs.n_eq
 have HTL:=Lib.hid (clashTo_le g.2.2 sets hg.q)
 have HRL:=Lib.hid (show ∀ left:Int,(rulesOf g.2.2 left).length≤4096 from fun left=>Nat.le_trans (rulesOf_le _ _) hg.q)
 have HRQ:=Lib.hid (show ∀ (left:Int) (a:Nat),a∈rulesOf g.2.2 left→a<q from fun left a ha=>by
  obtain⟨r,hr,_⟩:=mem_rulesOf.1 ha
  have:=(List.getElem?_eq_some_iff.1 hr).1
  have:=h.ln.2.2
  omega)
 clear h hs hsz hg
 go_enter Tryz.func36,Tryz.ntmps36
 go_wp2_with fail
 obtain⟨k1,k2,k3⟩:=heap3 w (.cells #[.slice A1 n c1,.slice A2 m c2,.slice A3 q c3] 25) (.cells #[.slice A q c] 81) (.cells #[.slice none 0 0] 29)
 have hb1:Below w.heap.size w (((w.alloc (.cells #[.slice A1 n c1,.slice A2 m c2,.slice A3 q c3] 25)).alloc (.cells #[.slice A q c] 81)).alloc (.cells #[.slice none 0 0] 29)):=by go_grown
 have hz1:(((w.alloc (.cells #[.slice A1 n c1,.slice A2 m c2,.slice A3 q c3] 25)).alloc (.cells #[.slice A q c] 81)).alloc (.cells #[.slice none 0 0] 29)).heap.size=w.heap.size+3:=by rw[World.size_alloc,World.size_alloc,World.size_alloc]
 generalize ((w.alloc (.cells #[.slice A1 n c1,.slice A2 m c2,.slice A3 q c3] 25)).alloc (.cells #[.slice A q c] 81)).alloc (.cells #[.slice none 0 0] 29)=w1 at *
 have K1:=Lib.hid k1
 have K2:=Lib.hid k2
 have K3:=Lib.hid k3
 have HB1:=Lib.hid hb1
 have HZ1:=Lib.hid hz1
 clear k1 k2 k3 hb1 hz1
 go_loopg [16] n (fun lft v16 wr=>∃ i:Nat,i≤n∧n - i≤lft∧v16=.int .i64 i∧Hid (Below w.heap.size w wr)∧Hid (wr.heap[w.heap.size]? = some (.cells #[.slice A1 n c1,.slice A2 m c2,.slice A3 q c3] 25 (0,0)))∧Hid (wr.heap[w.heap.size+1]? = some (.cells #[.slice A q c] 81 (0,0))) ∧
  Hid (∃ v,wr.heap[w.heap.size+1+1]? = some (.cells #[v] 29 (0,0))∧wr.ownsRow w.heap.size 114 4 v (clashTo g.2.2 sets i).length (ccells (clashTo g.2.2 sets i))))
 case atStart=>exact⟨0,by omega,by omega,rfl,HB1.out,K1.out,K2.out,_,K3.out,World.ownsRow_nil _ _ _ _⟩
 case round =>
  clear K1 K2 K3 HB1 HZ1
  obtain⟨i,hi,hlft,rfl,HB,K1,K2,HO⟩:=hrel
  obtain⟨vo,K3',HO'⟩:=HO.out
  have K3:=Lib.hid K3'
  have HOW:=Lib.hid HO'
  have hle:=HB.out.size
  have lK1:=(Array.getElem?_eq_some_iff.1 K1.out).1
  have lK2:=(Array.getElem?_eq_some_iff.1 K2.out).1
  have lK3:=(Array.getElem?_eq_some_iff.1 K3.out).1
  obtain⟨a0,a1,a2⟩:wr.cell? ⟨w.heap.size,0,none⟩=some (.slice A1 n c1)∧wr.cell? ⟨w.heap.size,1,none⟩=some (.slice A2 m c2)∧wr.cell? ⟨w.heap.size,2,none⟩=some (.slice A3 q c3):=⟨by rw[cell_of_row _ _ _ _ _ _ K1.out];rfl,by rw[cell_of_row _ _ _ _ _ _ K1.out];rfl,by rw[cell_of_row _ _ _ _ _ _ K1.out];rfl⟩
  have cO:=cell0 K3.out
  clear HO K3' HO'
  by_cases hin:i<n
  ·have HTS:=Lib.hid (clashTo_succ g.2.2 sets i)
   have HTI:=Lib.hid (HTL.out i)
   go_wp2_with fail
   have hb2:=(Below.refl wr.heap.size wr).alloc (Nat.le_refl _) (.cells #[.int .i64 (i:Int)] 3)
   have HB2:=Lib.hid hb2
   have HZ2:=Lib.hid (World.size_alloc wr (.cells #[.int .i64 (i:Int)] 3))
   have HL2:=Lib.hid (Go.heap_alloc_new wr (.cells #[.int .i64 (i:Int)] 3))
   have HO2:=Lib.hid (HOW.out.alloc (.cells #[.int .i64 (i:Int)] 3))
   have HK2:=Lib.hid ((hb2.block _ lK2).trans K2.out)
   have HK3:=Lib.hid ((hb2.block _ lK3).trans K3.out)
   have HK1:=Lib.hid ((hb2.block _ lK1).trans K1.out)
   clear hb2 a0 a1 a2 cO K1 K2 K3 HOW
   generalize wr.alloc (.cells #[.int .i64 (i:Int)] 3)=w2 at *
   have HBW:=Lib.hid (HB.out.trans (HB2.out.mono hle))
   refine (pairs_any (N0:=w.heap.size) 63 #[.pointer (some ⟨w.heap.size+1,0,none⟩),.pointer (some ⟨w.heap.size+1+1,0,none⟩),.pointer (some ⟨wr.heap.size,0,none⟩)] (fun args w=>by kernel_rfl) (clashF (i:Int) sets)
    (ClSt w.heap.size (w.heap.size+1) (w.heap.size+1+1) wr.heap.size A q c (i:Int) sets) (i:Int) (clashTo g.2.2 sets i) w2 (HG.out.fut HBW.out (Nat.le_refl _) (by rw[HZ2.out];omega)) (by rw[HZ2.out];omega) (fun s w1 w2 h hb=>h.below hb) ?_ ?_).mono ?_
   ·exact⟨HK2.out,HL2.out,⟨vo,HK3.out,HO2.out⟩,HS.out.below HBW.out,by rw[HZ2.out];omega,by omega⟩
   ·intro pre post wq a b hp ha hb hI _
    have h1:=clashF_len (i:Int) sets pre (clashTo g.2.2 sets i)
    have h2:=pairs_len (rulesOf g.2.2 (i:Int))
    have h3:=HRL.out (i:Int)
    have h4:(rulesOf g.2.2 (i:Int)).length*(rulesOf g.2.2 (i:Int)).length≤4096*4096:=Nat.mul_le_mul h3 h3
    have h5:pre.length≤(pairsOf (rulesOf g.2.2 (i:Int))).length:=by rw[hp];simp
    have h6:=HTI.out
    have h7:=HN2.out
    exact clash1_any wq hI (by omega) (HRQ.out _ _ ha) (HRQ.out _ _ hb) HSZ.out
   ·rintro e w5 ⟨rfl,hI,hC⟩
    rw[clashF_fold,pairsW_eq,←HTS.out] at hI
    have H5:=Lib.hid hI
    have HC5:=Lib.hid hC
    clear hI hC
    go_wp2_with fail
    go_roundg (gk - 1)
    case measure=>omega
    case rel=>exact⟨i+1,by omega,by omega,by go_num,HBW.out.trans HC5.out.below,HC5.out.typed _ _ _ _ HK1.out (by decide) (by decide),H5.out.hs,H5.out.ho⟩
  ·have hin2:i=n:=by omega
   subst hin2
   go_wp2_with fail
   go_ret
   exact⟨_,rfl,HOW.out,HB.out⟩
end Go.Proofs.YtfpihflepeiagaaGreatDoor
