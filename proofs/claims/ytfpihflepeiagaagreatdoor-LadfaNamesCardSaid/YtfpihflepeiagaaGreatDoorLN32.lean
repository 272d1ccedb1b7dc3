import Derived.Test.YtfpihflepeiagaaGreatDoorLN28
import Derived.Test.YtfpihflepeiagaaGreatDoorLN29
import Derived.Test.YtfpihflepeiagaaGreatDoorLN13
import Derived.Test.YtfpihflepeiagaaGreatDoorLN30
import Derived.Test.YtfpihflepeiagaaGreatDoorLN31
import Derived.Test.YtfpihflepeiagaaGreatDoorLN15
import Derived.Deep.DeepCutAuto
namespace Go.Proofs.YtfpihflepeiagaaGreatDoor
open Go.RowKit
attribute [local go_sem] Oper.semAt_some

def frontsOf (ws:List Wd):List Wd:=ws.foldl (fun F w=>if w∈F then F else F++[w]) [[]]
theorem frontsOf_snoc (ws:List Wd) (w:Wd):frontsOf (ws++[w])=if w∈frontsOf ws then frontsOf ws else frontsOf ws++[w]:=by
 unfold frontsOf
 rw[List.foldl_append]
 rfl
theorem frontsOf_ok (ws:List Wd):(frontsOf ws).Nodup∧(∀ w,w∈frontsOf ws↔w=[]∨w∈ws)∧(frontsOf ws).length≤ws.length+1:=by
 have key:∀ (ws F:List Wd),F.Nodup→(ws.foldl (fun F w=>if w∈F then F else F++[w]) F).Nodup∧(∀ w,w∈ws.foldl (fun F w=>if w∈F then F else F++[w]) F↔w∈F∨w∈ws)∧(ws.foldl (fun F w=>if w∈F then F else F++[w]) F).length≤ws.length+F.length:=by
  intro ws
  induction ws with
  |nil=>intro F hF;exact⟨hF,by simp,by simp⟩
  |cons a r ih =>
   intro F hF
   rw[List.foldl_cons]
   by_cases ha:a∈F
   ·rw[if_pos ha]
    obtain⟨h1,h2,h3⟩:=ih F hF
    refine⟨h1,fun w=>?_,by rw[List.length_cons];omega⟩
    rw[h2,List.mem_cons]
    constructor
    ·rintro (h | h)
     ·exact .inl h
     ·exact .inr (.inr h)
    ·rintro (h | rfl | h)
     ·exact .inl h
     ·exact .inl ha
     ·exact .inr h
   ·rw[if_neg ha]
    obtain⟨h1,h2,h3⟩:=ih (F++[a]) (List.nodup_append.2 ⟨hF,by simp,fun x hx y hy=>by simp at hy;subst hy;rintro rfl;exact ha hx⟩)
    refine⟨h1,fun w=>?_,by rw[List.length_append,List.length_singleton] at h3;rw[List.length_cons];omega⟩
    rw[h2,List.mem_append,List.mem_singleton,List.mem_cons]
    constructor
    ·rintro ((h | rfl) | h)
     ·exact .inl h
     ·exact .inr (.inl rfl)
     ·exact .inr (.inr h)
    ·rintro (h | rfl | h)
     ·exact .inl (.inl h)
     ·exact .inl (.inr rfl)
     ·exact .inr h
 obtain⟨h1,h2,h3⟩:=key ws [[]] (by simp)
 refine⟨h1,fun w=>?_,h3⟩
 rw[←List.mem_singleton (a:=w)]
 exact h2 w
def begWs (rows:List Row):List Wd:=(begs rows).map (·.2)
theorem begWs_mem (rows:List Row) (w:Wd):w∈begWs rows↔∃ r∈rows,w <+: r.2.1:=by
 unfold begWs begs begOf
 simp only[List.mem_map,List.mem_flatMap,List.mem_range]
 constructor
 ·rintro⟨x,⟨r,hr,k,hk,rfl⟩,rfl⟩
  exact⟨r,hr,List.take_prefix _ _⟩
 ·rintro⟨r,hr,hp⟩
  refine⟨(r,w),⟨r,hr,w.length,by have:=hp.length_le;omega,?_⟩,rfl⟩
  rw[←List.prefix_iff_eq_take.1 hp]
theorem fronts_sorted {rows:List Row} {ts:List Wd} (hp:ts.Perm (frontsOf (begWs rows))) (hs:ts.Pairwise fun a b=>¬ slLt b a):Fronts rows ts:=by
 obtain⟨h1,h2,h3⟩:=frontsOf_ok (begWs rows)
 refine⟨fun w=>by rw[hp.mem_iff,h2,begWs_mem],?_⟩
 have hn:ts.Nodup:=hp.nodup_iff.2 h1
 refine (List.Pairwise.and hs hn).imp fun {a b} ⟨h4,h5⟩=>?_
 rcases slLt_tri a b with h | h | h
 ·exact h
 ·exact absurd h h5
 ·exact absurd h h4
def seenAt (F:List Wd):List (Wd×Value):=F.map fun w=>(w,.int .i64 0)
theorem assoc_seen {F:List Wd} {w:Wd}:assoc (seenAt F) w=if w∈F then some (.int .i64 0) else none:=by
 induction F with
 |nil=>rfl
 |cons a r ih =>
  unfold assoc seenAt at ih ⊢
  rw[List.map_cons,List.find?_cons]
  by_cases h:a=w
  ·subst h
   simp
  ·have h':w≠a:=fun e=>h e.symm
   simp only[h,decide_false,List.mem_cons,h',false_or]
   exact ih
theorem assocSet_seen {F:List Wd} {w:Wd} (h:w∉F):assocSet (seenAt F) w (.int .i64 0)=seenAt (F++[w]):=by
 induction F with
 |nil=>rfl
 |cons a r ih =>
  have h1:a≠w:=fun e=>h (by subst e;exact List.mem_cons_self ..)
  unfold seenAt at ih ⊢
  rw[List.map_cons,assocSet,if_neg h1,ih fun hm=>h (List.mem_cons_of_mem _ hm)]
  rfl
def wdsOf {rows:List Row} (pre:List (BegT rows)):List Wd:=pre.map fun x=>x.1.2
theorem wdsOf_snoc {rows:List Row} (pre:List (BegT rows)) (x:BegT rows):wdsOf (pre++[x])=wdsOf pre++[x.1.2]:=by simp[wdsOf]
theorem wdsOf_len {rows:List Row} (pre:List (BegT rows)):(wdsOf pre).length=pre.length:=by simp[wdsOf]
theorem wdsOf_all {rows:List Row} {pre:List (BegT rows)} (h:pre.map Subtype.val=begs rows):wdsOf pre=begWs rows:=by
 have:=congrArg (List.map Prod.snd) h
 rw[List.map_map] at this
 exact this
structure MeetI (g1 b3 b4:Nat) (w:World) (ws:List Wd) (W:World):Prop where
 map:MapR wv W g1 (seenAt (frontsOf ws))
 box:W.heap[b3]? = some (.cells #[.map (some g1)] 98 (0,0))
 fr:∃ v,W.heap[b4]? = some (.cells #[v] 22 (0,0))∧W.ownsRow w.heap.size 9 1 v (frontsOf ws).length (wcells (frontsOf ws))
 bel:Below w.heap.size w W
theorem MeetI.own {g1 b3 b4 B:Nat} {w:World} {ws:List Wd} {A C:World} {row:Option Nat} (h:MeetI g1 b3 b4 w ws A) (hN:w.heap.size≤B) (h1:g1<B) (hg:A.grownBy C row) (hr:∀ r,row=some r→B≤r∧∃ o:Obj,A.heap[r]? = some o∧o.isCells=false):MeetI g1 b3 b4 w ws C:=by
 have hr':∀ r,row=some r→∃ o:Obj,A.heap[r]? = some o∧o.isCells=false:=fun r e=>(hr r e).2
 refine⟨h.map.grown hg fun e=>by have:=(hr g1 e.symm).1;omega,cells_stayB hg hr' h.box,?_,?_⟩
 ·obtain⟨v,a,b⟩:=h.fr
  exact⟨v,cells_stayB hg hr' a,own_stay hg hr' b⟩
 ·refine h.bel.trans ⟨hg.os,hg.tape,hg.output,hg.size,fun k hk=>?_⟩
  have h2:=h.bel.size
  exact hg.block k (by omega) fun e=>by have:=(hr k e.symm).1;omega
theorem begs_bound {rows:List Row} (hw:∀ r∈rows,r.2.1.length≤1048576):(begs rows).length≤rows.length*1048577:=by
 unfold begs
 induction rows with
 |nil=>simp
 |cons r l ih =>
  rw[List.flatMap_cons,List.length_append,List.length_cons,begOf_len]
  have:=ih fun x hx=>hw x (List.mem_cons_of_mem _ hx)
  have:=hw r (List.mem_cons_self ..)
  omega
def outsTo (i j:Nat):Int:=if j<i then -1 else 0
theorem outsTo_succ (i k:Nat):outsTo (i+1) k=if k=i then -1 else outsTo i k:=by
 unfold outsTo
 by_cases hk:k=i
 ·subst hk;simp
 ·have:(k<i+1)=(k<i):=by apply propext;omega
  simp only[this,if_neg hk]
theorem meet_step {rows:List Row} {w W W1 w5:World} {b3 b4 B:Nat} {pre:List (BegT rows)} {x:BegT rows} {F:List Wd} {v4:Value} {A5:Option Addr} {c5:Nat} {xw:Wd} (hI:MeetI w.heap.size b3 b4 w (wdsOf pre) W) (hB:w.heap.size<B) (hB4:b4<B) (n4:w.heap.size<b4)
  (hE:frontsOf (wdsOf (pre++[x]))=F++[xw]) (hm:MapR wv W1 w.heap.size (seenAt (F++[xw]))) (hg1:W.grownBy W1 (some w.heap.size)) (hs1:W1.heap.size=W.heap.size) (hown1:W1.ownsRow w.heap.size 9 1 v4 F.length (wcells F))
  (hb31:W1.heap[b3]? = some (.cells #[.map (some w.heap.size)] 98 (0,0))) (hb41:W1.heap[b4]? = some (.cells #[v4] 22 (0,0)))
  (hown5:w5.ownsRow w.heap.size 9 1 (.slice A5 (F.length+1) c5) (F.length+1) (wcells F++[wv xw])) (hg5:(W1.alloc (.cells #[wv xw] 9)).grownBy w5 v4.ownBlock) :
  KeepsFrom B W (w5.setCell ⟨b4,0,none⟩ (.slice A5 (F.length+1) c5))∧KpR w.heap.size W (w5.setCell ⟨b4,0,none⟩ (.slice A5 (F.length+1) c5))∧MeetI w.heap.size b3 b4 w (wdsOf (pre++[x])) (w5.setCell ⟨b4,0,none⟩ (.slice A5 (F.length+1) c5)):=by
 have hz:=hI.bel.size
 have hstay1:∀ (k:Nat) (o:Obj),W1.heap[k]? = some o→k≠b4→(∀ cur,o≠.cells cur 9 (0,0))→(w5.setCell ⟨b4,0,none⟩ (.slice A5 (F.length+1) c5)).heap[k]? = some o:=fun k o hk hn hne =>
  (heap_setCell_other _ _ _ _ hn).trans (app_stay (hown1.alloc _) hg5 ((Below.heap_alloc W1 _ _ (Array.getElem?_eq_some_iff.1 hk).1).trans hk) hne)
 have hstay:∀ (k:Nat) (o:Obj),W.heap[k]? = some o→k≠w.heap.size→k≠b4→(∀ cur,o≠.cells cur 9 (0,0))→(w5.setCell ⟨b4,0,none⟩ (.slice A5 (F.length+1) c5)).heap[k]? = some o:=fun k o hk h0 hn hne =>
  hstay1 k o ((hg1.block k (Array.getElem?_eq_some_iff.1 hk).1 fun e=>h0 (by injection e)).trans hk) hn hne
 have hb1:Below w.heap.size W W1:=(Below.refl _ _).grown hg1 hz (fun k e=>by injection e with e;omega)
 have hb2:=hb1.alloc (by omega) (.cells #[wv xw] 9)
 have hb3:=grown_below hb2 hg5 (hown1.alloc _) (Nat.le_refl _) (by rw[World.size_alloc];omega)
 have hb4:Below w.heap.size W (w5.setCell ⟨b4,0,none⟩ (.slice A5 (F.length+1) c5)):=hb3.setCell (by show _≤b4;omega) _
 have hbox5:w5.heap[b4]? = some (.cells #[v4] 22 (0,0)):=app_stay (hown1.alloc _) hg5 ((Below.heap_alloc W1 _ _ (Array.getElem?_eq_some_iff.1 hb41).1).trans hb41) fun cur e=>by cases e
 refine⟨⟨hb4.size,fun k o hk ho hc=>hstay k o ho (by omega) (by omega) fun cur e=>by subst e;cases hc⟩,⟨hb4,fun k cs hk=>hstay k _ hk (fun e=>map_ne hI.map hk e.symm) ?_ fun cur e=>by cases e⟩,?_,?_,?_,?_⟩
 ·obtain⟨v,hv,_⟩:=hI.fr
  exact type_ne2 hk hv (by decide)
 ·rw[hE]
  exact hm.stay fun o ho hc=>hstay1 _ _ ho (by omega) fun cur e=>by subst e;cases hc
 ·refine hstay1 b3 _ hb31 (type_ne2 hb31 hb41 (by decide)) fun cur e=>by cases e
 ·rw[hE]
  refine⟨_,by rw[heap_setCell_at hbox5];rfl,?_⟩
  have hw:wcells (F++[xw])=wcells F++[wv xw]:=by simp[wcells]
  rw[hw,List.length_append]
  exact own_keepS hown5 fun g cur _ hh=>(heap_setCell_other _ _ _ _ (type_ne2 hh hbox5 (by decide))).trans hh
 ·exact hI.bel.trans hb4
set_option maxRecDepth 100000 in
set_option maxHeartbeats 8000000 in
theorem trieMake_any (v:Value) (rows:List Row) (w:World) (hv:SlR eRow w w.heap.size v rows) (hw:∀ r∈rows,r.2.1.length≤1048576) (hn:rows.length≤1048576) :
  Calls Tryz.prog 31 #[v] w fun e w'=>∃ vm F,e=.returned vm∧Fronts rows F∧F.length≤1099512676353∧SlR eState w' w'.heap.size vm (trieM rows F)∧Below w.heap.size w w':=by
 obtain⟨A,c,rfl,hc1,hc2⟩:=hv.form
 unfold maxLen at hc2
 have HV:=Lib.hid hv
 obtain⟨nr,hnr⟩:∃ nr,nr=rows.length:=⟨_,rfl⟩
 have HNR:=Lib.hid hnr
 rw[←hnr] at hc1
 clear hv
 have hmm:=@run_makeMap Tryz.prog
 obtain⟨N0,hN0⟩:∃ N0,N0=w.heap.size:=⟨_,rfl⟩
 refine (callsIn_wide (n:=9)).1 (callsIn_of_wp_marks (F:=Fence.wide) (n:=9) Tryz.func31 rfl trivial (wpIn_wide.2 ?_) rfl)
 simp only[Tryz.ntmps31,List.size_toArray,List.length_cons,List.length_nil,Nat.reduceAdd,Nat.reduceSub,Array.replicate_succ,Array.replicate_zero,List.push_toArray,List.append_toArray,List.nil_append,List.cons_append]
 obtain⟨w1,hup,hm1,hg1,hs1⟩:=(MapR.made (κ:=wv) w).update wdInt_keys [] (.int .i64 0)
 replace hup:(Instr.mapUpdate 98 (.map (some w.heap.size)) (.string ⟨#[]⟩) (.int .i64 0)).run Tryz.prog (w.alloc (.map #[] 0))=.ok () w1:=hup
 have HM1:=Lib.hid hm1
 have HG1:=Lib.hid hg1
 have HS1:=Lib.hid (show w1.heap.size=w.heap.size+1 by rw[hs1];simp)
 clear hm1 hg1 hs1
 go_wp2_with fail
 have hs1:w1.heap.size=w.heap.size+1:=HS1.out
 obtain⟨w2,hw2⟩:∃ w2,w2=(((w1.alloc (.cells #[.map (some w.heap.size)] 98)).alloc (.cells #[.string ⟨#[]⟩] 9)).alloc (.cells #[.slice (some ⟨w1.heap.size+1,0,none⟩) 1 1] 22)):=⟨_,rfl⟩
 have HS2:=Lib.hid (show w2.heap.size=w.heap.size+4 by rw[hw2];simp only[World.size_alloc];omega)
 have HB3:=Lib.hid (show w2.heap[w1.heap.size]? = some (.cells #[.map (some w.heap.size)] 98 (0,0)) by
  rw[hw2,Below.heap_alloc _ _ _ (by simp only[World.size_alloc];omega),Below.heap_alloc _ _ _ (by simp only[World.size_alloc];omega)]
  exact Go.heap_alloc_new w1 _)
 have HR4:=Lib.hid (show w2.heap[w1.heap.size+1]? = some (.cells #[.string ⟨#[]⟩] 9 (0,0)) by
  rw[hw2,Below.heap_alloc _ _ _ (by simp only[World.size_alloc];omega)]
  exact heap_two w1 _ _)
 have HB4:=Lib.hid (show w2.heap[w1.heap.size+1+1]? = some (.cells #[.slice (some ⟨w1.heap.size+1,0,none⟩) 1 1] 22 (0,0)) by
  rw[hw2]
  have:=Go.heap_alloc_new ((w1.alloc (.cells #[.map (some w.heap.size)] 98)).alloc (.cells #[.string ⟨#[]⟩] 9)) (.cells #[.slice (some ⟨w1.heap.size+1,0,none⟩) 1 1] 22)
  rwa [World.size_alloc,World.size_alloc] at this)
 have HM2:=Lib.hid (show MapR wv w2 w.heap.size (seenAt (frontsOf [])) by rw[hw2];exact ((HM1.out.alloc _).alloc _).alloc _)
 have HBW:=Lib.hid (show Below w.heap.size w w2 by
  rw[hw2]
  have h1:Below w.heap.size w w1:=((Below.refl w.heap.size w).alloc (Nat.le_refl _) (.map #[] 0)).grown HG1.out (by simp) (fun k e=>by cases e;exact Nat.le_refl _)
  exact ((h1.alloc (by omega) _).alloc (by simp only[World.size_alloc];omega) _).alloc (by simp only[World.size_alloc];omega) _)
 rw[←hw2]
 clear hw2 HM1 HG1 hup
 obtain⟨N1,hN1⟩:∃ N1,N1=w1.heap.size:=⟨_,rfl⟩
 rw[←hN1] at HB3 HR4 HB4 hs1 ⊢
 clear hN1 HS1
 rw[hs1] at HB3 HR4 HB4 ⊢
 refine (beginnings_any A rows.length c w2).mono ?_
 rintro e w3 ⟨rfl,hw3⟩
 go_wp2_with fail
 have hws:∀ r∈rows,r.2.1.length≤4611686018427387904:=fun r hr=>by have:=hw r hr;omega
 have hs2:w2.heap.size=w.heap.size+4:=HS2.out
 have H0:=Lib.hid (show MeetI w.heap.size (w.heap.size+1) (w.heap.size+1+1+1) w [] w3 from hw3 ▸
  ⟨HM2.out.alloc _,(Below.heap_alloc _ _ _ (by omega)).trans HB3.out,⟨_,(Below.heap_alloc _ _ _ (by omega)).trans HB4.out,⟨rfl,.inr ⟨_,1,_,rfl,by omega,(Below.heap_alloc _ _ _ (by omega)).trans HR4.out,by decide,by decide,rfl,rfl⟩⟩⟩,HBW.out.alloc (by omega) _⟩)
 have HS3:=Lib.hid (show w3.heap.size=w.heap.size+5 by rw[hw3,World.size_alloc];omega)
 have HBX:=Lib.hid (show w3.cell? ⟨w2.heap.size,0,none⟩=some (.slice A rows.length c) by
  rw[hw3]
  exact cell_of_row _ _ _ _ _ _ (Go.heap_alloc_new w2 _))
 have HV3:=Lib.hid (HV.out.below H0.out.bel)
 rw[←hw3]
 clear hw3 HM2 HBW HB4 HR4 HB3
 rw[hs2] at HBX ⊢
 clear HS2 hs2
 refine (wpIn_wide (n:=9)).1 ?_
 apply wpIn_rangeFunc_ownG (F:=Fence.wide) rfl (by omega) (gf:=82) (lb:=#[.pointer (some ⟨w.heap.size+4,0,none⟩)]) rfl trivial (enters_of Tryz.func82 (by kernel_rfl) rfl)
  (begs_stops (9 - 1) (w.heap.size+4) w.heap.size _ rows hws w3 (by have:=HS3.out;omega) (by have:=HS3.out;omega) HBX.out HV3.out) (fun h k=>h.trans k) (fun W l o o'=>KpR.putObj (by have:=HS3.out;omega) W l o o') (Below.refl _ _) (fun _=>rfl)
  (fun pre W=>MeetI w.heap.size (w.heap.size+1) (w.heap.size+1+1+1) w (wdsOf pre) W) (fun _ _ _=>False)
  (fun s A B row hs hg hr=>hs.own (by have:=HS3.out;omega) (by have:=HS3.out;omega) hg hr)
  (fun _ _ _ _ _ hs _ _=>hs) H0.out
 case hassign =>
  intro l x W K hK
  gi_wp2
  exact hK
 case hstop=>exact fun _ _ _ _ _ _ h _=>h.elim
 case hbody =>
  rintro l pre ⟨⟨xr,xw⟩,hxm⟩ W hI hlen
  have hlb:(frontsOf (wdsOf pre)).length≤pre.length+1:=by have:=(frontsOf_ok (wdsOf pre)).2.2;rwa [wdsOf_len] at this
  have hbl:=begs_bound hw
  have HSN:=Lib.hid (frontsOf_snoc (wdsOf pre) xw)
  have HEQ:=Lib.hid (wdsOf_snoc pre ⟨(xr,xw),hxm⟩)
  generalize hF:frontsOf (wdsOf pre)=F at *
  have hbd:F.length≤1099512676352:=by
   have:=Nat.mul_le_mul_right 1048577 hn
   omega
  clear hlen
  have HI:=Lib.hid hI
  clear hI
  have c3:W.cell? ⟨w.heap.size+1,0,none⟩=some (.map (some w.heap.size)):=cell_of_row _ _ 0 _ _ _ HI.out.box
  have hlk:=HI.out.map.lookup_ok wdInt_keys zero_intW xw
  rw[hF,assoc_seen] at hlk
  by_cases hx:xw∈F
  ·rw[if_pos hx] at hlk
   have HX:=Lib.hid hx
   clear hx
   simp only[Option.getD_some,Option.isSome_some] at hlk
   gi_wp2
   refine⟨KeepsFrom.refl _ _,⟨Below.refl _ _,fun _ _ h=>h⟩,?_⟩
   have hE:frontsOf (wdsOf (pre++[⟨(xr,xw),hxm⟩]))=frontsOf (wdsOf pre):=by rw[HEQ.out,HSN.out,if_pos HX.out,hF]
   show MeetI _ _ _ _ (wdsOf (pre++[⟨(xr,xw),hxm⟩])) W
   have h:=HI.out
   exact⟨by rw[hE];exact h.map,h.box,by rw[hE];exact h.fr,h.bel⟩
  ·rw[if_neg hx] at hlk
   obtain⟨v4,hb4,hown⟩:=HI.out.fr
   rw[hF] at hown
   have hm0:=HI.out.map
   rw[hF] at hm0
   obtain⟨W1,hup,hm1,hg1,hs1'⟩:=hm0.update wdInt_keys xw (.int .i64 0)
   rw[assocSet_seen hx] at hm1
   have HX:=Lib.hid hx
   clear hx
   replace hup:(Instr.mapUpdate 98 (.map (some w.heap.size)) (.string ⟨xw.toArray⟩) (.int .i64 0)).run Tryz.prog W=.ok () W1:=hup
   have hrow:∀ r,some w.heap.size=some r→∃ o:Obj,W.heap[r]? = some o∧o.isCells=false:=fun r e=>by cases e;exact hm0.obj
   have HOWN1:=Lib.hid (own_stay hg1 hrow hown)
   have HB41:=Lib.hid (cells_stayB hg1 hrow hb4)
   have HB31:=Lib.hid (cells_stayB hg1 hrow HI.out.box)
   have HM1:=Lib.hid hm1
   have HG1:=Lib.hid hg1
   have HS1:=Lib.hid hs1'
   have c4:W1.cell? ⟨w.heap.size+1+1+1,0,none⟩=some v4:=cell0 HB41.out
   simp only[Option.getD_none,Option.isSome_none] at hlk
   clear hown hm0 hm1 hg1 hs1' hb4 hrow
   gi_wp2_with (gi_at_builtin;refine wpListIn_plain rfl fun K hK=>wpIn_of_wp (fun c h=>by cases h) (wp_appB (m:=1) (n:=F.length) str_appW rfl rfl rfl (HOWN1.out.alloc _) (Rd.row (B:=W1.heap.size+1) (Go.heap_alloc_new W1 _) (by omega)) rfl (by simp[Value.oneCell']) ((Below.heap_alloc W1 _ _ (Array.getElem?_eq_some_iff.1 HB41.out).1).trans HB41.out) (by decide) ?h63 ?hby ?hbase fun A5 c5 w5 hown5 hg5 hob5 hb5 hc5 hf5=>hK _ _ ?_))
   case h63=>simp[maxLen];omega
   case hby=>omega
   case hbase=>have:=HI.out.bel.size;have:=HS1.out;omega
   have hE:frontsOf (wdsOf (pre++[⟨(xr,xw),hxm⟩]))=F++[xw]:=by rw[HEQ.out,HSN.out,if_neg HX.out]
   exact meet_step HI.out (by have:=HS3.out;omega) (by have:=HS3.out;omega) (by omega) hE HM1.out HG1.out HS1.out HOWN1.out HB31.out HB41.out hown5 hg5
 case hdone =>
  intro Dx xs Wx hDx hxs hI hdf
  rw[wdsOf_all hxs] at hI
  have HFS:=Lib.hid (fun ts=>fronts_sorted (rows:=rows) (ts:=ts))
  obtain⟨f1,f2,f3⟩:=frontsOf_ok (begWs rows)
  have hbl:=begs_bound hw
  have hfl:(frontsOf (begWs rows)).length≤1099512676353:=by
   have h1:(begWs rows).length=(begs rows).length:=by simp[begWs]
   have:=Nat.mul_le_mul_right 1048577 hn
   omega
  have hpos:0<(frontsOf (begWs rows)).length:=List.length_pos_iff.2 fun e=>by have:=(f2 []).2 (.inl rfl);rw[e] at this;cases this
  obtain⟨hm,hb3,⟨v4,hb4,hown4⟩,hbel⟩:=hI
  clear f1 f2 f3 hbl hxs
  generalize frontsOf (begWs rows)=F at *
  obtain⟨A4,c4,rfl,hl5,hl6⟩:=own_form hown4
  unfold maxLen at hl6
  have hc4:=cell0 hb4
  have HM:=Lib.hid hm
  have HB3:=Lib.hid hb3
  have HB4:=Lib.hid hb4
  have HO4:=Lib.hid hown4
  have HBE:=Lib.hid hbel
  have HZ:=Lib.hid (show w.heap.size+5≤Wx.heap.size by have:=HS3.out;have:=(Array.getElem?_eq_some_iff.1 hdf).1;omega)
  have HFL:=Lib.hid hfl
  have HDF:=Lib.hid hdf
  have HDL:=Lib.hid (show w.heap.size≤Dx by have:=HS3.out;omega)
  clear hm hb3 hb4 hown4 hbel hdf hDx hfl
  obtain⟨n,hnF⟩:∃ n,n=F.length:=⟨_,rfl⟩
  have HNF:=Lib.hid hnF
  clear hnF
  go_wp2_with fail
  refine (sortWords_any w.heap.size A4 c4 F Wx HO4.out (by have:=HFL.out;omega) hpos).mono ?_
  rintro e w6 ⟨rfl,ts,hperm,hsorted,hown6,hg6⟩
  have hst6:∀ (k:Nat) (o:Obj),Wx.heap[k]? = some o→(∀ cur,o≠.cells cur 9 (0,0))→w6.heap[k]? = some o:=fun k o hk hne=>app_stay HO4.out hg6 hk hne
  have HM6:=Lib.hid (HM.out.stay fun o ho hc=>hst6 _ _ ho fun cur e=>by subst e;cases hc)
  have HB36:=Lib.hid (hst6 _ _ HB3.out fun cur e=>by cases e)
  have HB46:=Lib.hid (hst6 _ _ HB4.out fun cur e=>by cases e)
  have HDF6:=Lib.hid (hst6 _ _ HDF.out fun cur e=>by cases e)
  have HBE6:=Lib.hid (grown_below HBE.out hg6 HO4.out (Nat.le_refl _) HBE.out.size)
  have HZ6:=Lib.hid (Nat.le_trans HZ.out hg6.size)
  have HF:=Lib.hid (HFS.out ts hperm hsorted)
  have HPM:=Lib.hid hperm
  have hlt:F.length=ts.length:=hperm.length_eq.symm
  have HO6:=Lib.hid hown6
  rw[hlt] at HO6 HB46 HFL hpos hl5
  clear hst6 hperm hsorted hown6 hg6 HB4 HB3 HM HBE HZ HO4 hc4 HFS
  have hc4:=cell0 HB46.out
  obtain⟨nt,hnt⟩:∃ nt,nt=ts.length:=⟨_,rfl⟩
  have HNT:=Lib.hid hnt
  have hmk:=state_make nt (by have:=HFL.out;omega) w6
  rw[←hnt] at HO6 HB46 HFL hpos hl5 hc4
  clear hnt
  rw[show F.length=nt by rw[hlt,←HNT.out]]
  have hl46:w.heap.size+1+1+1<w6.heap.size:=(Array.getElem?_eq_some_iff.1 HB46.out).1
  obtain⟨w8,hw8⟩:∃ w8,w8=(w6.alloc (.cells (scells (List.replicate nt (0,.slice none 0 0))).toArray 58)).alloc (.cells #[.slice (some ⟨w6.heap.size,0,none⟩) nt nt] 45):=⟨_,rfl⟩
  have HNS:=Lib.hid (show NumS Dx w w8 w.heap.size (w.heap.size+1) (w6.heap.size+1) w6.heap.size ts (.slice A4 nt c4) 0 0 (outsTo 0) by
   have hk:∀ (k:Nat) (o:Obj),w6.heap[k]? = some o→w8.heap[k]? = some o:=fun k o hk=>by
    rw[hw8]
    have h1:=(Array.getElem?_eq_some_iff.1 hk).1
    exact (Below.heap_alloc _ _ _ (by rw[World.size_alloc];omega)).trans ((Below.heap_alloc _ _ _ h1).trans hk)
   refine⟨⟨seenAt F,HM6.out.stay fun o ho _=>hk _ _ ho,fun y=>?_⟩,hk _ _ HB36.out,?_,?_,⟨List.replicate nt (0,.slice none 0 0),?_,fun j r hj=>?_⟩,?_,⟨by omega,by omega⟩,hk _ _ HDF6.out⟩
   ·rw[assoc_seen]
    unfold atF
    rw[List.take_zero,if_neg List.not_mem_nil]
    simp only[HPM.out.mem_iff]
   ·rw[hw8,←HNT.out]
    have:=Go.heap_alloc_new (w6.alloc (.cells (scells (List.replicate nt (0,.slice none 0 0))).toArray 58)) (.cells #[.slice (some ⟨w6.heap.size,0,none⟩) nt nt] 45)
    rwa [World.size_alloc] at this
   ·rw[←HNT.out]
    exact own_keepS HO6.out fun g cur _ hh=>hk _ _ hh
   ·have h2:kidsAt ts 0=List.replicate nt []:=by
     unfold kidsAt
     rw[HNT.out]
     simp only[kids_none,List.map_const']
    rw[h2]
    refine OwnS.mk0 ?_
    rw[hw8]
    exact (Below.heap_alloc _ _ _ (by rw[World.size_alloc];omega)).trans (Go.heap_alloc_new _ _)
   ·rw[List.getElem?_replicate] at hj
    split at hj
    ·injection hj with hj
     rw[←hj]
     simp[outsTo]
    ·cases hj
   ·rw[hw8]
    exact (HBE6.out.alloc (by omega) _).alloc (by rw[World.size_alloc];omega) _)
  have hc48:((w6.alloc (.cells (scells (List.replicate nt (0,.slice none 0 0))).toArray 58)).alloc (.cells #[.slice (some ⟨w6.heap.size,0,none⟩) nt nt] 45)).cell? ⟨w.heap.size+1+1+1,0,none⟩=some (.slice A4 nt c4) :=
   cell0 (t:=22) ((Below.heap_alloc _ _ _ (by rw[World.size_alloc];omega)).trans ((Below.heap_alloc _ _ _ hl46).trans HB46.out))
  go_wp2_with fail
  rw[←hw8]
  have hl8:w6.heap.size+1<w8.heap.size:=by rw[hw8,World.size_alloc,World.size_alloc];omega
  have HZ8:=Lib.hid (Nat.le_trans HZ6.out (show w6.heap.size≤w8.heap.size by omega))
  clear hw8 hmk HM6 HB36 HBE6 HB46 HO6 hc4
  generalize w6.heap.size=bo at *
  obtain⟨g4,cap4,hv4⟩:=own_some2 HNS.out.own (by rw[←HNT.out];exact hpos)
  injection hv4 with e1 e2 e3
  subst e1
  clear e2 e3 cap4
  have HND:=Lib.hid (show ts.Nodup from HF.out.asc.imp fun h e=>by subst e;exact slLt_irrefl _ h)
  go_loopw [45] (fun v45 wr=>∃ i:Nat,i≤nt∧v45=.int .i64 i∧w8.heap.size≤wr.heap.size∧Hid (NumS Dx w wr w.heap.size (w.heap.size+1) (bo+1) bo ts (.slice (some ⟨g4,0,none⟩) nt c4) i i (outsTo i))) (fun v45 _=>nt - (intOf v45).toNat)
  case atStart=>exact⟨0,by omega,rfl,Nat.le_refl _,HNS.out⟩
  case round =>
   clear HNS
   obtain⟨i,hi,rfl,hzr,HS⟩:=hrel
   by_cases hlt2:i<nt
   ·have hil:i<ts.length:=by rw[←HNT.out];exact hlt2
    have hx0:=List.getElem?_eq_getElem hil
    obtain⟨x,hx⟩:∃ x,x=ts[i]:=⟨_,rfl⟩
    rw[←hx] at hx0
    clear hx
    have HX:=Lib.hid hx0
    have c43:wr.cell? ⟨g4,i,none⟩=some (wv x):=by
     have:=HS.out.own
     rw[←HNT.out] at this
     rw[this.cellAt (g:=g4) (cap:=c4) i (by omega)]
     unfold wcells
     rw[List.getElem?_map,hx0]
     rfl
    obtain⟨W1,hup,hm1,hg1,hs1⟩:=HS.out.drew.put (P:=Tryz.prog) HND.out hx0 wdInt_keys
    replace hup:(Instr.mapUpdate 98 (.map (some w.heap.size)) (.string ⟨x.toArray⟩) (.int .i64 i)).run Tryz.prog wr.drew=.ok () W1:=hup
    have c3:=HS.out.c3
    have c9:=HS.out.c9
    have c9':=hm1.c9
    rw[←HNT.out] at c9 c9'
    obtain⟨u1,k1,k2,k3,-⟩:=hm1.at_out hil
    have k4:=k3 (i*2)
    clear k2 k3
    have HM2:=Lib.hid (hm1.setOut hil (-1) (outsTo_succ i))
    have HS1:=Lib.hid hs1
    have HM1:=Lib.hid hm1
    clear hm1 hg1 hs1 hx0
    have HC9:=Lib.hid (show (wr.cell? ⟨w.heap.size+1,0,none⟩=some (.map (some w.heap.size))∧wr.cell? ⟨bo+1,0,none⟩=some (.slice (some ⟨bo,0,none⟩) nt nt))∧(W1.cell? ⟨w.heap.size+1,0,none⟩=some (.map (some w.heap.size))∧W1.cell? ⟨bo+1,0,none⟩=some (.slice (some ⟨bo,0,none⟩) nt nt))∧((W1.setCell ⟨bo,i*2,none⟩ (.int .i64 (-1))).cell? ⟨w.heap.size+1,0,none⟩=some (.map (some w.heap.size))∧(W1.setCell ⟨bo,i*2,none⟩ (.int .i64 (-1))).cell? ⟨bo+1,0,none⟩=some (.slice (some ⟨bo,0,none⟩) nt nt)) by
     rw[HNT.out]
     exact⟨⟨HS.out.c3,HS.out.c9⟩,⟨HM1.out.c3,HM1.out.c9⟩,HM2.out.c3,HM2.out.c9⟩)
    clear HM1
    go_wp2_with fail
    refine wpJ_inv [5,8] [0,2] [] (fun W'=>W'.cell? ⟨w.heap.size+1,0,none⟩=some (.map (some w.heap.size))∧W'.cell? ⟨bo+1,0,none⟩=some (.slice (some ⟨bo,0,none⟩) nt nt)) HC9.out.1 (by kernel_rfl) (by kernel_rfl) ?_
    refine wpJ_seg 5 (by decide) (fun Q0 hQ0=>?_)
    simp only[List.take_succ_cons,List.take_zero]
    go_wp2_with fail
    try simp only[List.drop_succ_cons,List.drop_zero]
    refine wpJ_one (fun Q1 hQ1=>?_)
    go_wp2_with fail
    refine⟨HC9.out.2.1,?_⟩
    refine wpJ_seg 2 (by decide) (fun Q0 hQ0=>?_)
    simp only[List.take_succ_cons,List.take_zero]
    go_wp2_with fail
    try simp only[List.drop_succ_cons,List.drop_zero]
    refine wpJ_one (fun Q1 hQ1=>?_)
    go_wp2_with fail
    refine⟨HC9.out.2.2,?_⟩
    refine wpJ_end ⟨by rfl,⟨fun _=>⟨_,fun w' hI=>loadJ_map Tryz.underlying98 hI.1⟩,fun _=>⟨_,fun w' hI=>loadJ_slice Tryz.underlying45 hI.2⟩,trivial⟩,?_⟩
    have hzr2:w8.heap.size≤(W1.setCell ⟨bo,i*2,none⟩ (.int .i64 (-1))).heap.size:=by
     rw[World.size_setCell,HS1.out]
     exact hzr
    have hC:=HC9.out.2.2
    clear HC9 c3 c9 c9' k1 k4 hup c43 HS hzr HS1
    generalize W1.setCell ⟨bo,i*2,none⟩ (.int .i64 (-1))=W2 at *
    obtain⟨c3,c9⟩:=hC
    by_cases hxe:x=[]
    ·subst hxe
     have HM3:=Lib.hid (HM2.out.root HX.out)
     go_wp2_with fail
     go_roundw
     case rel=>exact⟨i+1,by omega,by go_num,hzr2,HM3.out⟩
     case measure=>simp[intOf];omega
    ·obtain⟨j,hji,hj⟩:=fronts_parent HF.out HX.out hxe
     have HXE:=Lib.hid hxe
     have HJ:=Lib.hid hj
     have hjl:j<nt:=by rw[HNT.out];exact (List.getElem?_eq_some_iff.1 hj).1
     have hxl:=fronts_len HF.out hw HX.out
     obtain⟨m,hm⟩:∃ m,x.length=m+1:=⟨x.length - 1,by have:=List.length_pos_iff.2 hxe;omega⟩
     have hlk:(Instr.lookup 98 (.map (some w.heap.size)) (.string ((⟨x.toArray⟩:ByteArray).extract 0 m)) false).run Tryz.prog W2.drew=.ok (.int .i64 j) W2.drew:=by
      rw[wv_take,show x.take m=x.dropLast by rw[List.dropLast_eq_take,hm];rfl]
      exact HM2.out.drew.look HND.out wdInt_keys zero_intW hj (by omega)
     rw[hm] at hxl
     clear hxe hj
     go_wp2_with fail
     refine Text.wp_grow [6] [0,1] [] (by kernel_rfl) (by kernel_rfl) ?_
     refine Text.wpS_seg 6 _ _ _ _ (by decide) (fun Q' hQ'=>?_)
     simp only[List.take_succ_cons,List.take_zero]
     go_wp2_with fail
     try simp only[List.drop_succ_cons,List.drop_zero]
     refine Text.wpS_one (fun Q' hQ'=>?_)
     go_wp2_with fail
     refine⟨Below.refl _ _,?_⟩
     refine Text.wpS_seg 2 _ _ _ _ (by decide) (fun Q' hQ'=>?_)
     simp only[List.take_succ_cons,List.take_zero]
     go_wp2_with fail
     try simp only[List.drop_succ_cons,List.drop_zero]
     refine⟨by rfl,⟨fun _=>⟨_,_,rfl,c9⟩,fun _=>⟨_,_,rfl,c3⟩,trivial⟩,?_⟩
     go_wp2_with fail
     obtain⟨v5,d0,d1,df,down⟩:=HM2.out.at_out (j:=j) (by rw[←HNT.out];exact hjl)
     have hdown:=down (kidsT (ts.take i) x.dropLast) (by unfold kidsAt;rw[List.getElem?_map,HJ.out];rfl)
     have hql:(kidsT (ts.take i) x.dropLast).length≤1099512676353:=by
      have h1:=kidsT_len (ts.take i) x.dropLast
      rw[List.length_take] at h1
      have:=HFL.out
      omega
     have HV5:=Lib.hid d1
     obtain⟨q,hq⟩:∃ q,q=(kidsT (ts.take i) x.dropLast).length:=⟨_,rfl⟩
     rw[←hq] at hdown hql
     obtain⟨A7,c7,rfl,hl7,hl8⟩:=own_form hdown
     unfold maxLen at hl8
     have HDO:=Lib.hid hdown
     have HQ:=Lib.hid hq
     have dfr:=df (j*2+1)
     clear df d0 down hdown hq hlk c3 c9
     refine Text.wp_grow [11,12] [4] [] (by kernel_rfl) (by kernel_rfl) ?_
     refine Text.wpS_seg 11 _ _ _ _ (by decide) (fun Q' hQ'=>?_)
     simp only[List.take_succ_cons,List.take_zero]
     go_wp2_with fail
     try simp only[List.drop_succ_cons,List.drop_zero]
     refine Text.wpS_one (fun Q' hQ'=>?_)
     go_wp2_with fail
     refine⟨Below.refl _ _,?_⟩
     refine Text.wpS_one (fun Q' hQ'=>?_)
     go_wp2_with fail
     refine⟨(Below.refl _ _).alloc (Nat.le_refl _) _,?_⟩
     refine Text.wpS_seg 4 _ _ _ _ (by decide) (fun Q' hQ'=>?_)
     simp only[List.take_succ_cons,List.take_zero]
     rw[last_byte hm]
     refine wpList_app edge_app rfl rfl rfl rfl (HDO.out.alloc _) (Rd.row (B:=W2.heap.size+1) (Go.heap_alloc_new W2 _) (by omega)) rfl (by simp[Value.oneCell']) (by unfold maxLen;omega) (by omega) (by have:=HM2.out.bel.size;show _≤(W2.alloc _).heap.size;rw[World.size_alloc];omega) fun v6 w6 hown6 hg6 hob6 _=>?_
     obtain⟨A6,c6,rfl,hl9,hl10⟩:=own_form hown6
     obtain⟨rs,hO,-⟩:=HM2.out.outs
     have hbox:=hO.box
     have hbox1:=(Below.heap_alloc W2 (.cells #[.int .i64 ((x.getLastD 0).toNat:Int),.int .i64 i] 80) _ (Array.getElem?_eq_some_iff.1 hbox).1).trans hbox
     have hbox6:=app_stay (HDO.out.alloc (.cells #[.int .i64 ((x.getLastD 0).toNat:Int),.int .i64 i] 80)) ⟨hg6.os,hg6.tape,hg6.output,hg6.size,hg6.block⟩ hbox1 (fun cur e=>by cases e)
     have d6:=(World.cell?_of_block (w:=W2) (a:=⟨bo,j*2+1,none⟩) (hbox6.trans hbox.symm)).trans HV5.out
     have f6:=(World.frozen?_of_block (w:=W2) (a:=⟨bo,j*2+1,none⟩) (hbox6.trans hbox.symm)).trans dfr
     have HN4:=Lib.hid ((HM2.out.alloc (.cells #[.int .i64 ((x.getLastD 0).toNat:Int),.int .i64 i] 80)).edge (W':=w6) HND.out HX.out HXE.out rfl HJ.out ((World.cell?_of_block (w:=W2) (a:=⟨bo,j*2+1,none⟩) (hbox1.trans hbox.symm)).trans HV5.out) (by rw[ecells_snoc,←HQ.out];exact hown6) ⟨hg6.os,hg6.tape,hg6.output,hg6.size,hg6.block⟩ hob6)
     have hz6:w8.heap.size≤(w6.setCell ⟨bo,j*2+1,none⟩ (.slice A6 (q+1) c6)).heap.size:=by
      rw[World.size_setCell]
      have h1:(W2.alloc (.cells #[.int .i64 ((x.getLastD 0).toNat:Int),.int .i64 i] 80)).heap.size≤w6.heap.size:=hg6.size
      rw[World.size_alloc] at h1
      omega
     clear hown6 hg6 hob6 hO hbox hbox1 hbox6
     go_wp2_with fail
     refine⟨by rfl,⟨fun _=>⟨_,_,rfl,HV5.out⟩,trivial⟩,?_⟩
     go_wp2_with fail
     go_roundw
     case rel=>exact⟨i+1,by omega,by go_num,hz6,HN4.out⟩
     case measure=>simp[intOf];omega
   ·have hin:i=nt:=by omega
    subst hin
    go_wp2_with fail
    have HS0:=Lib.hid (show NumS Dx w wr w.heap.size (w.heap.size+1) (bo+1) bo ts (.slice (some ⟨g4,0,none⟩) i c4) ts.length ts.length (outR ts []) from by
     have h:=HS.out.ext (out':=outR ts []) fun k hk=>by unfold outsTo;rw[if_pos (by have:=HNT.out;omega),outR_nil]
     rw[←HNT.out]
     exact h)
    clear HS
    refine (beginnings_any A rows.length c wr).mono ?_
    rintro e w9 ⟨rfl,hw9⟩
    have HS9:=Lib.hid (show w9.heap.size=wr.heap.size+1 by rw[hw9,World.size_alloc])
    have HBX9:=Lib.hid (show w9.cell? ⟨wr.heap.size,0,none⟩=some (.slice A rows.length c) by
     rw[hw9]
     exact cell_of_row _ _ _ _ _ _ (Go.heap_alloc_new wr _))
    have HN9:=Lib.hid (show NumS Dx w w9 w.heap.size (w.heap.size+1) (bo+1) bo ts (.slice (some ⟨g4,0,none⟩) i c4) ts.length ts.length (outR ts []) from hw9 ▸ HS0.out.alloc _)
    have HV9:=Lib.hid (HV.out.below HN9.out.bel)
    have HDX9:=Lib.hid (Array.getElem?_eq_some_iff.1 HN9.out.dfr).1
    have HZ9:=Lib.hid (show w.heap.size+5≤wr.heap.size from Nat.le_trans HZ8.out hzr)
    clear hw9 HS0 hc48
    go_wp2_with fail
    refine (wpIn_wide (n:=9)).1 ?_
    apply wpIn_rangeFunc_box (F:=Fence.wide) rfl (by omega) (gf:=82) (lb:=#[.pointer (some ⟨wr.heap.size,0,none⟩)]) rfl trivial (enters_of Tryz.func82 (by kernel_rfl) rfl)
     (begs_stops (9 - 1) wr.heap.size w.heap.size _ rows hws w9 (by have:=HS9.out;have:=HZ9.out;omega) (by have:=HS9.out;omega) HBX9.out HV9.out) (fun h k=>h.trans k) (fun W l o o'=>KpR.putObj (by have:=HS9.out;have:=HZ9.out;omega) W l o o') (Below.refl _ _) (fun _=>rfl)
     (fun pre W=>NumS Dx w W w.heap.size (w.heap.size+1) (bo+1) bo ts (.slice (some ⟨g4,0,none⟩) i c4) ts.length ts.length (outR ts (pre.map Subtype.val))) (fun _ _ _=>False)
     (fun s A B row hs hg hr=>hs.others hg fun r e=>⟨by have:=(hr r e).1;have:=HS9.out;have:=HZ9.out;omega,by have:=(hr r e).1;have:=HDX9.out;omega,(hr r e).2⟩)
     (fun _ _ _ _ _ hs _ _=>hs) HN9.out (fun x=>#[.int .i64 x.1.1.1,.string ⟨x.1.1.2.1.toArray⟩,.int .i64 x.1.1.2.2]) 43
     (fun pre x W hI=>⟨⟨(Below.refl _ _).alloc hI.bel.size _,fun k cs hk=>(Below.heap_alloc W _ k (Array.getElem?_eq_some_iff.1 hk).1).trans hk⟩,hI.alloc _⟩)
    case hassign =>
     intro l x W Wn b K hb hWn hK
     gi_wp2
     rw[←hb,←hWn]
     exact hK
    case hstop=>exact fun _ _ _ _ _ _ h _=>h.elim
    case hbody =>
     rintro l pre ⟨⟨⟨xa,xs1,xi⟩,xw⟩,hxm⟩ b W hbx hI -
     dsimp only at hbx ⊢
     obtain⟨r,hr,hpre⟩:=(begWs_mem rows xw).1 (List.mem_map.2 ⟨_,hxm,rfl⟩)
     obtain⟨j,hj⟩:=List.getElem?_of_mem ((HF.out.mem xw).2 (.inr ⟨r,hr,hpre⟩))
     have hjl:=(List.getElem?_eq_some_iff.1 hj).1
     have hlk:(Instr.lookup 98 (.map (some w.heap.size)) (.string ⟨xw.toArray⟩) false).run Tryz.prog W=.ok (.int .i64 j) W:=hI.look HND.out wdInt_keys zero_intW hj hjl
     have c3:=hI.c3
     have c9:=hI.c9
     rw[←HNT.out] at c9
     obtain⟨v5,d0,-,df,-⟩:=hI.at_out hjl
     have dfr:=df (j*2)
     have y1:W.cell? ⟨b,1,none⟩=some (.string ⟨xs1.toArray⟩):=by rw[cell_of_row _ _ _ _ _ _ hbx];rfl
     have y2:W.cell? ⟨b,2,none⟩=some (.int .i64 xi):=by rw[cell_of_row _ _ _ _ _ _ hbx];rfl
     have HSTEP:=Lib.hid (fun k (hk:k<ts.length)=>outR_step HND.out (j:=j) (x:=((xa,xs1,xi),xw)) hj (pre.map Subtype.val) hk)
     have HMP:=Lib.hid (show (pre++[(⟨((xa,xs1,xi),xw),hxm⟩:BegT rows)]).map Subtype.val=pre.map Subtype.val++[((xa,xs1,xi),xw)] by simp)
     have hji:j<i:=by rw[HNT.out];exact hjl
     have HII:=Lib.hid hI
     have HBXR:=Lib.hid hbx
     clear df hr hpre hj hI hbx
     generalize ho:outR ts (pre.map Subtype.val) j=o at *
     by_cases hse:xw=xs1
     ·subst hse
      by_cases hon:o<0
      ·gi_wp2
       obtain⟨rs,hO,-⟩:=HII.out.outs
       have hbo:=hO.box
       change _∧_∧_
       refine⟨⟨by rw[World.size_setCell];exact Nat.le_refl _,fun k o' _ hk hc=>(heap_setCell_other _ _ _ _ fun e=>?_).trans hk⟩,⟨(Below.refl _ _).setCell HII.out.lo.2 _,fun k cs hk=>(heap_setCell_other _ _ _ _ (type_ne2 hk hbo (by decide))).trans hk⟩,?_⟩
       ·rw[show k=bo from e,hbo] at hk
        cases hk
        cases hc
       ·refine (HII.out.setOut hjl xi (out':=fun k=>if k=j then xi else outR ts (pre.map Subtype.val) k) (fun k=>rfl)).ext fun k hk=>?_
        rw[HMP.out,HSTEP.out k hk]
        by_cases hkj:k=j
        ·rw[if_pos hkj,if_pos (by first | exact⟨hkj,rfl,hon⟩ | exact⟨hkj,trivial,hon⟩)]
        ·rw[if_neg hkj,if_neg fun h=>hkj h.1]
      ·gi_wp2
       change _∧_∧_
       refine And.intro (KeepsFrom.refl _ _) (And.intro ⟨Below.refl _ _,fun _ _ h=>h⟩ (HII.out.ext fun k hk=>?_))
       rw[HMP.out,HSTEP.out k hk,if_neg fun h=>by have:=h.2.2;omega]
     ·have hse2:((⟨xw.toArray⟩:ByteArray)==⟨xs1.toArray⟩)=false:=by rw[wv_eq];simpa using hse
      gi_wp2
      change _∧_∧_
      refine And.intro (KeepsFrom.refl _ _) (And.intro ⟨Below.refl _ _,fun _ _ h=>h⟩ (HII.out.ext fun k hk=>?_))
      rw[HMP.out,HSTEP.out k hk,if_neg fun h=>hse h.2.1]
    case hdone =>
     intro Dy ys Wy hDy hys hN hdy
     rw[hys] at hN
     have c9:=hN.c9
     rw[←HNT.out] at c9
     have HNY:=Lib.hid hN
     have HDY:=Lib.hid hdy
     clear hN hdy
     go_wp2_with fail
     have hb:∀ x,-9223372036854775808≤outOf rows x∧outOf rows x≤9223372036854775807:=fun x=>by
      rcases outOf_cases rows x with h | ⟨r,hr,h⟩
      ·rw[h];omega
      ·rw[h];exact (HV.out.fitR r hr).2.2
     have hT:=HNY.out.tree (rows:=rows) (by have:=HFL.out;have:=HNT.out;unfold maxLen;omega) (fun k x hk=>by
      unfold outR
      rw[List.getD_eq_getElem?_getD,hk]
      exact outAt_all rows x) hb
     have hne:Dy≠Dx:=by have:=HDX9.out;omega
     have hd1:(Wy.putObj Dy (.deferred none)).heap[Dx]? = some (.deferred (some [])):=(World.putObj_heap_other hne.symm).trans HNY.out.dfr
     refine⟨by simp,.inl ⟨_,_,rfl,run_takeDeferred HDY.out,?_⟩⟩
     refine⟨by simp,.inl ⟨_,_,rfl,run_takeDeferred hd1,?_⟩⟩
     refine⟨_,results_tmp rfl _ _ _,_,ts,rfl,HF.out,by have:=HFL.out;have:=HNT.out;omega,?_,?_⟩
     ·rw[World.putObj_size,World.putObj_size,HNT.out]
      exact hT.keep fun p _=>(cell_put hd1 rfl rfl p).trans (cell_put HDY.out rfl rfl p)
     ·exact HNY.out.bel.trans ((belowK_b (w:=w) (Nat.le_refl _) _ Dy _ _ (by have:=HDX9.out;have:=HDL.out;omega) HDY.out rfl rfl).trans (belowK_b (w:=w) (Nat.le_refl _) _ Dx _ _ HDL.out hd1 rfl rfl))
end Go.Proofs.YtfpihflepeiagaaGreatDoor
