import Derived.Test.YtfpihflepeiagaaGreatDoorLN22
import Derived.Test.YtfpihflepeiagaaGreatDoorLN24
import Derived.Deep.DeepCutAuto
namespace Go.Proofs.YtfpihflepeiagaaGreatDoor
open Go.RowKit

theorem ints_make (n:Nat) (hn:n≤1048576) (w:World):(Instr.makeSlice 33 (.int .i64 (n:Int)) (.int .i64 (n:Int))).run Tryz.prog w=.ok (.slice (some ⟨w.heap.size,0,none⟩) n n) (w.alloc (.cells (List.replicate n (Value.slice none 0 0)).toArray 39)):=by
 rw[←made_rep]
 exact run_make_row' 33 39 (.slice none 0 0) 24 Tryz.underlying33 (by kernel_rfl) rfl .i64 .i64 n (by omega) (by omega) w
theorem load_strU {P:Program} {w:World} {ty:TypeId} {v:Value} {p:Addr} (hu:P.underlying ty=some .string) (hc:w.cell? p=some v):(Instr.loadAt ty (.pointer (some p))).run P w=.ok v w:=by
 have hagg:(isAgg ty).run P w=.ok false w:=by
  unfold isAgg
  rw[Sem.run_bind,run_underlying hu w]
  rfl
 simp[Instr.loadAt,Instr.sureAddr,loadVar,Sem.run_bind,hagg,hc]
structure Cols (w:World) (base G n:Nat) (vs:List Value) (cols:List (List Int)):Prop where
 lv:vs.length=n
 lc:cols.length=n
 blk:w.heap[G]? = some (.cells vs.toArray 39 (0,0))
 lt:G<base
 row:∀ (a:Nat) (v:Value) (c:List Int),vs[a]? = some v→cols[a]? = some c→w.ownsRow base 3 1 v c.length (icells c)
 ne:∀ (a b:Nat) (v u:Value),a≠b→vs[a]? = some v→vs[b]? = some u→v.ownBlock=none∨v.ownBlock≠u.ownBlock
theorem Cols.below {w w':World} {base G n:Nat} {vs:List Value} {cols:List (List Int)} (h:Cols w base G n vs cols) (hb:Below w.heap.size w w'):Cols w' base G n vs cols :=
 ⟨h.lv,h.lc,(hb.block G (Array.getElem?_eq_some_iff.1 h.blk).1).trans h.blk,h.lt,fun a v c hv hc=>own_below (h.row a v c hv hc) hb,h.ne⟩
theorem Cols.app {w w1 w2:World} {base G n a:Nat} {vs:List Value} {cols:List (List Int)} {v v':Value} {c:List Int} {p:Int} (h:Cols w base G n vs cols) (hb:Below w.heap.size w w1) (hv:vs[a]? = some v) (hc:cols[a]? = some c)
  (ho:w2.ownsRow base 3 1 v' (c.length+1) (icells c++[.int .i64 p])) (hg:w1.grownBy w2 v.ownBlock) (hk:v'.ownBlock=v.ownBlock∨v'.ownBlock=some w1.heap.size):Cols (w2.setCell ⟨G,a,none⟩ v') base G n (vs.set a v') (cols.set a (c++[p])):=by
 have h1:=h.below hb
 have hr:=h1.row a v c hv hc
 have hGne:some G≠v.ownBlock:=fun e=>by have:=(hr.lt G e.symm).1;have:=h.lt;omega
 have hG:w2.heap[G]? = some (.cells vs.toArray 39 (0,0)):=(hg.block G (Array.getElem?_eq_some_iff.1 h1.blk).1 hGne).trans h1.blk
 have hlow:∀ {u:Value} {m:Nat} {xs:List Value},w2.ownsRow base 3 1 u m xs→(w2.setCell ⟨G,a,none⟩ v').ownsRow base 3 1 u m xs:=fun h'=>own_keep20 h' fun g _ hg _ _=>Below.heap_setCell _ _ _ _ (by have:=h.lt;show g≠G;omega)
 have hnv:∀ (b:Nat) (u:Value),b≠a→vs[b]? = some u→u.ownBlock=none∨u.ownBlock≠v'.ownBlock:=fun b u hb hu=>by
  rcases hk with hk | hk
  ·rw[hk];exact h.ne b a u v hb hu hv
  ·cases hub:u.ownBlock with
   |none=>exact .inl rfl
   |some g =>
    right
    rw[hk]
    intro e
    injection e with e
    have hbc:b<cols.length:=by rw[h.lc,←h.lv];exact (List.getElem?_eq_some_iff.1 hu).1
    have:=((h1.row b u cols[b] hu (List.getElem?_eq_getElem hbc)).lt g hub).2
    omega
 refine⟨by rw[List.length_set];exact h.lv,by rw[List.length_set];exact h.lc,?_,h.lt,fun b u d hu hd=>?_,fun b d u u' hbd hu hu'=>?_⟩
 ·simp only[World.setCell,Array.getElem?_modify,if_true,hG,Option.map_some]
  congr 2
  simp
 ·rw[List.getElem?_set] at hu hd
  by_cases e:a=b
  ·subst e
   rw[if_pos rfl,if_pos (List.getElem?_eq_some_iff.1 hv).1] at hu
   rw[if_pos rfl,if_pos (List.getElem?_eq_some_iff.1 hc).1] at hd
   injection hu with hu
   injection hd with hd
   subst hu hd
   rw[List.length_append,show icells (c++[p])=icells c++[.int .i64 p] by simp[icells]]
   exact hlow ho
  ·rw[if_neg e] at hu hd
   exact hlow ((h1.row b u d hu hd).kept hg (h.ne b a u v (fun e2=>e e2.symm) hu hv))
 ·rw[List.getElem?_set] at hu hu'
  by_cases e:a=b
  ·subst e
   rw[if_pos rfl,if_pos (List.getElem?_eq_some_iff.1 hv).1] at hu
   rw[if_neg hbd] at hu'
   injection hu with hu
   subst hu
   rcases hnv d u' (fun e=>hbd e.symm) hu' with h2 | h2
   ·cases hvb:v'.ownBlock with
    |none=>exact .inl rfl
    |some g=>right;rw[h2];simp
   ·exact .inr fun e=>h2 e.symm
  ·rw[if_neg e] at hu
   by_cases e2:a=d
   ·subst e2
    rw[if_pos rfl,if_pos (List.getElem?_eq_some_iff.1 hv).1] at hu'
    injection hu' with hu'
    subst hu'
    exact hnv b u (fun e3=>e e3.symm) hu
   ·rw[if_neg e2] at hu'
    exact h.ne b d u u' hbd hu hu'
theorem slI_own {w:World} {base n:Nat} {t:TypeId} {v:Value} {l:List Int} (hf:∀ x∈l,-1≤x∧x≤1048576) (h:w.ownsRow base t 1 v n (icells l)):SlR eInt w w.heap.size v l:=by
 obtain⟨A,c,rfl,h1,h2⟩:=own_form h
 have hn:n=l.length:=by have:=h.1;simp[icells] at this;omega
 subst hn
 refine⟨A,c,l.map fun x=>[Value.int .i64 x],rfl,h1,h2,by simp,?_,fun i cs x hc hx=>?_⟩
 ·have:(l.map fun x=>[Value.int .i64 x]).flatten=icells l:=by
   unfold icells
   clear h h1 hf
   induction l with
   |nil=>rfl
   |cons x l ih=>rw[List.map_cons,List.flatten_cons,ih];rfl
  rw[this]
  exact Rd.of_own h
 ·rw[List.getElem?_map,hx] at hc
  injection hc with hc
  have:=hf x (List.mem_of_getElem? hx)
  exact⟨hc.symm,by omega,by omega⟩
theorem Cols.sl {w:World} {base G n:Nat} {vs:List Value} {cols:List (List Int)} (h:Cols w base G n vs cols) (hf:∀ c∈cols,∀ x∈c,-1≤x∧x≤1048576) (hn:n≤maxLen):SlR (eSl eInt) w w.heap.size (.slice (some ⟨G,0,none⟩) n n) cols:=by
 refine⟨some ⟨G,0,none⟩,n,vs.map fun v=>[v],by rw[h.lc],by rw[h.lc];exact Nat.le_refl _,hn,by simp[h.lv,h.lc],?_,fun i cs x hc hx=>?_⟩
 ·have:(vs.map fun v=>[v]).flatten=vs:=by
   generalize vs=us
   induction us with
   |nil=>rfl
   |cons v us ih=>rw[List.map_cons,List.flatten_cons,ih];rfl
  rw[this]
  have h2:Rd w w.heap.size (some ⟨G,0,none⟩) vs.toArray.toList:=Rd.row h.blk (Array.getElem?_eq_some_iff.1 h.blk).1
  exact h2
 ·rw[List.getElem?_map] at hc
  cases hv:vs[i]? with
  |none=>rw[hv] at hc;cases hc
  |some v =>
   rw[hv,Option.map_some] at hc
   injection hc with hc
   subst hc
   exact⟨v,rfl,slI_own (hf x (List.mem_of_getElem? hx)) (h.row i v x hv hx)⟩
noncomputable def valW (rs:RuleL) (k:Nat) (a:Nat) (w:Wd):Int:=lastL (matchW rs (ahD rs k w) (a:Int))
noncomputable def colsAt (rs:RuleL) (k n:Nat) (words:List Wd) (i a:Nat):List (List Int):=(List.range n).map fun b=>(words.take (if b<a then i+1 else i)).map (valW rs k b)
noncomputable def oneB (rs:RuleL) (k:Nat) (w:Wd) (a:Nat):Bool:=(List.range a).all fun b=>decide ((matchW rs (ahD rs k w) (b:Int)).length≤1)
noncomputable def okB (rs:RuleL) (k n:Nat) (words:List Wd):Bool:=words.all fun w=>oneB rs k w n
theorem oneB_succ (rs:RuleL) (k:Nat) (w:Wd) (a:Nat):oneB rs k w (a+1)=(oneB rs k w a&&decide ((matchW rs (ahD rs k w) (a:Int)).length≤1)):=by
 unfold oneB
 rw[List.range_succ,List.all_append]
 simp
theorem colsAt_get {rs:RuleL} {k n:Nat} {words:List Wd} {i a:Nat} (ha:a<n):(colsAt rs k n words i a)[a]? = some ((words.take i).map (valW rs k a)):=by
 unfold colsAt
 rw[List.getElem?_map,List.getElem?_range ha,Option.map_some,if_neg (Nat.lt_irrefl _)]
theorem colsAt_set {rs:RuleL} {k n:Nat} {words:List Wd} {i a:Nat} {wi:Wd} (ha:a<n) (ht:words.take (i+1)=words.take i++[wi]):colsAt rs k n words i (a+1)=(colsAt rs k n words i a).set a ((words.take i).map (valW rs k a)++[valW rs k a wi]):=by
 unfold colsAt
 apply List.ext_getElem?
 intro b
 rw[List.getElem?_set,List.getElem?_map]
 by_cases hb:b<n
 ·rw[List.getElem?_range hb,Option.map_some]
  by_cases e:a=b
  ·subst e
   rw[if_pos (Nat.lt_succ_self _),if_pos rfl,if_pos (by simpa using hb),ht,List.map_append]
   rfl
  ·rw[if_neg e,List.getElem?_map,List.getElem?_range hb,Option.map_some]
   by_cases h1:b<a
   ·rw[if_pos h1,if_pos (by omega)]
   ·rw[if_neg h1,if_neg (by omega)]
 ·rw[List.getElem?_eq_none (by simp;omega)]
  rw[if_neg (by omega),List.getElem?_eq_none (by simp;omega)]
  rfl
theorem colsAt_next {rs:RuleL} {k n:Nat} {words:List Wd} {i:Nat}:colsAt rs k n words i n=colsAt rs k n words (i+1) 0:=by
 unfold colsAt
 apply List.map_congr_left
 intro b hb
 rw[if_pos (List.mem_range.1 hb),if_neg (Nat.not_lt_zero _)]
theorem valW_bd {rs:RuleL} {k a:Nat} {w:Wd} (h:rs.length≤4096):-1≤valW rs k a w∧valW rs k a w≤1048576:=by
 refine⟨lastL_bd _,?_⟩
 unfold valW lastL
 cases e:(matchW rs (ahD rs k w) (a:Int)).getLast? with
 |none=>simp
 |some i =>
  have hm:i∈matchW rs (ahD rs k w) (a:Int):=List.mem_of_getLast? e
  obtain⟨r,hr,_,_⟩:=mem_matchW.1 hm
  have:=(List.getElem?_eq_some_iff.1 hr).1
  simp only
  omega
def AllTo (g:Gram) (k n m:Nat) (w:World) (e:Ending) (w':World):Prop:=∃ G,e=.returned (.tuple #[.slice (some ⟨G,0,none⟩) n n,.bool (okB g.2.2 k n (wordsW m k))])∧SlR (eSl eInt) w' w'.heap.size (.slice (some ⟨G,0,none⟩) n n) ((List.range n).map fun b=>(wordsW m k).map (valW g.2.2 k b))∧Below w.heap.size w w'
set_option maxRecDepth 100000 in
set_option maxHeartbeats 40000000 in
theorem all23_any {A1 A2 A3:Option Addr} {n m q c1 c2 c3:Nat} {g:Gram} (k:Nat) (w:World) (h:GramR w w.heap.size A1 A2 A3 n m q c1 c2 c3 g) (hp:LawG g k) :
  Calls Tryz.prog 10 #[gramV A1 A2 A3 n m q c1 c2 c3,.int .i64 k] w (AllTo g k n m w):=by
 have hbx:=(Below.refl w.heap.size w).alloc (Nat.le_refl _) (.cells #[.slice A1 n c1,.slice A2 m c2,.slice A3 q c3] 25)
 have HV:=Lib.hid ((h.fut (B':=w.heap.size+1) hbx (Nat.le_refl _) (by omega)).rules)
 have HK:=Lib.hid (Go.heap_alloc_new w (.cells #[.slice A1 n c1,.slice A2 m c2,.slice A3 q c3] 25))
 have HZ:=Lib.hid (World.size_alloc w (.cells #[.slice A1 n c1,.slice A2 m c2,.slice A3 q c3] 25))
 have HBX:=Lib.hid hbx
 have HCELL:Hid (∀ (w2:World),w2.heap[w.heap.size]? = some (.cells #[.slice A1 n c1,.slice A2 m c2,.slice A3 q c3] 25 (0,0))→w2.cell? ⟨w.heap.size,0,none⟩=some (.slice A1 n c1)∧w2.cell? ⟨w.heap.size,1,none⟩=some (.slice A2 m c2)∧w2.cell? ⟨w.heap.size,2,none⟩=some (.slice A3 q c3)):=fun w2 hk=>⟨by rw[cell_of_row _ _ _ _ _ _ hk];rfl,by rw[cell_of_row _ _ _ _ _ _ hk];rfl,by rw[cell_of_row _ _ _ _ _ _ hk];rfl⟩
 have HQ:=Lib.hid h.ln.2.2
 have HN:=Lib.hid h.ln.1
 have hn4:n≤4096:=by have:=(gramB_good hp.b).nm;have:=h.ln.1;omega
 have hn1:1≤n:=by have:=hp.n0;have:=h.ln.1;omega
 have hm3:m≤3:=by have:=hp.few;have:=h.ln.2.1;omega
 have hk1:=hp.k1
 have hk4:=hp.k4
 have hq4:=h.small.2.2
 have hq5:q≤4096:=by have:=(gramB_good hp.b).q;have:=h.ln.2.2;omega
 have HW:=Lib.hid (show ∀ r∈g.2.2,0≤r.1∧r.1<(n:Int)∧∀ s∈r.2,s<(n:Int)∧-256≤s by
  rw[h.ln.1]
  exact gram_bounds hp.b)
 have HP:=Lib.hid hp
 obtain⟨words,hwords⟩:∃ words,words=wordsW m k:=⟨_,rfl⟩
 have HPOST:=Lib.hid (show ∀ (G:Nat) (w':World),SlR (eSl eInt) w' w'.heap.size (.slice (some ⟨G,0,none⟩) n n) ((List.range n).map fun b=>words.map (valW g.2.2 k b))→Below w.heap.size w w'→AllTo g k n m w (.returned (.tuple #[.slice (some ⟨G,0,none⟩) n n,.bool (okB g.2.2 k n words)])) w' from fun G w' h1 h2=>by subst hwords;exact⟨G,rfl,h1,h2⟩)
 have HFT:=Lib.hid (show ∀ x∈words,x.length≤4 from fun x hx=>by
  rw[hwords] at hx
  exact Nat.le_trans (overW_len (by omega) hx) hk4)
 have HWL:=Lib.hid (show words.length≤121 by rw[hwords];exact words_len hm3 hk4)
 have HWW:=Lib.hid hwords
 clear h hp hbx hwords
 go_enter Tryz.func10,Tryz.ntmps10
 go_wp2_with fail
 generalize w.alloc (.cells #[.slice A1 n c1,.slice A2 m c2,.slice A3 q c3] 25)=w1 at *
 refine (words18_any m k w1 hm3 hk1 hk4).mono ?_
 rintro e w2 ⟨v,rfl,hown,hb2⟩
 rw[←HWW.out] at hown
 have HB2:=Lib.hid (hb2.mono (Nat.le_of_eq HZ.out.symm))
 have HS2:=Lib.hid (show w.heap.size+1≤w2.heap.size by have:=hb2.size;have:=HZ.out;omega)
 obtain⟨nw,hnw⟩:∃ nw,nw=words.length:=⟨_,rfl⟩
 rw[←hnw] at hown HWL
 have HNW:=Lib.hid hnw
 obtain⟨A6,c6,rfl,h61,h62⟩:=own_form hown
 have HOW:=Lib.hid hown
 obtain⟨a0,a1,a2⟩:=HCELL.out w2 ((HB2.out.block w.heap.size (by omega)).trans HK.out)
 have hmk:=ints_make n (by omega) w2
 have hrow0:∀ (w':World) (a:Nat) (v:Value) (c:List Int),(List.replicate n (Value.slice none 0 0))[a]? = some v→(colsAt g.2.2 k n words 0 0)[a]? = some c→w'.ownsRow (w2.heap.size+1) 3 1 v c.length (icells c):=by
  intro w' a v c hv hc
  rw[List.getElem?_replicate] at hv
  split at hv
  ·injection hv with hv
   unfold colsAt at hc
   rw[List.getElem?_map] at hc
   cases hr:(List.range n)[a]? with
   |none=>rw[hr] at hc;cases hc
   |some b =>
    rw[hr] at hc
    simp at hc
    subst hv hc
    exact World.ownsRow_nil _ _ _ _
  ·cases hv
 have hne0:∀ (a b:Nat) (v u:Value),a≠b→(List.replicate n (Value.slice none 0 0))[a]? = some v→(List.replicate n (Value.slice none 0 0))[b]? = some u→v.ownBlock=none∨v.ownBlock≠u.ownBlock:=by
  intro a b v u _ hv _
  rw[List.getElem?_replicate] at hv
  split at hv
  ·injection hv with hv
   subst hv
   exact .inl rfl
  ·cases hv
 have HC0:=Lib.hid (show Cols (w2.alloc (.cells (List.replicate n (Value.slice none 0 0)).toArray 39)) (w2.heap.size+1) w2.heap.size n (List.replicate n (Value.slice none 0 0)) (colsAt g.2.2 k n words 0 0) from ⟨by simp,by simp[colsAt],Go.heap_alloc_new w2 _,Nat.lt_succ_self _,hrow0 _,hne0⟩)
 clear hrow0 hne0
 have HB3:=Lib.hid (HB2.out.trans (((Below.refl w2.heap.size w2).alloc (Nat.le_refl _) (.cells (List.replicate n (Value.slice none 0 0)).toArray 39)).mono HS2.out))
 have HOW3:=Lib.hid (hown.alloc (.cells (List.replicate n (Value.slice none 0 0)).toArray 39))
 have HZ3:=Lib.hid (World.size_alloc w2 (.cells (List.replicate n (Value.slice none 0 0)).toArray 39))
 obtain⟨w3,hw3⟩:∃ w3,w3=w2.alloc (.cells (List.replicate n (Value.slice none 0 0)).toArray 39):=⟨_,rfl⟩
 rw[←hw3] at hmk HC0 HB3 HOW3 HZ3
 clear hown hb2 hnw hw3
 go_wp2_with fail
 clear hmk a0 a1 a2
 go_loopg [9,7] nw (fun lft v9 v7 wr=>∃ (i:Nat) (vs:List Value),i≤nw∧nw - i≤lft∧v9=.int .i64 i∧v7=.bool (okB g.2.2 k n (words.take i))∧Hid (Cols wr (w2.heap.size+1) w2.heap.size n vs (colsAt g.2.2 k n words i 0))∧Hid (Below w2.heap.size w3 wr))
 case atStart=>exact⟨0,_,by omega,by omega,rfl,rfl,HC0.out,Below.refl _ _⟩
 case round =>
  clear HC0
  obtain⟨i,vs,hi,hlft,rfl,rfl,HC,HBW⟩:=hrel
  have hs3:=HZ3.out
  have HB4:=Lib.hid (HB3.out.trans (HBW.out.mono (by have:=HS2.out;omega)))
  have HS4:=Lib.hid (show w2.heap.size+1≤wr.heap.size by have:=HBW.out.size;omega)
  obtain⟨a0,a1,a2⟩:=HCELL.out wr ((HB4.out.block w.heap.size (by omega)).trans HK.out)
  by_cases hib:i<nw
  ·have hil:i<words.length:=by rw[←HNW.out];exact hib
   have hlw:w2.heap.size<w3.heap.size:=by omega
   obtain⟨b6,hA6,hc6⟩:∃ b6,A6=some ⟨b6,0,none⟩∧∀ w',Below w2.heap.size w3 w'→w'.cell? ⟨b6,i,none⟩=some (wv words[i]):=by
    rcases HOW3.out.2 with ⟨e,h0⟩ | ⟨gg,cap,cur,e,_,hh,_,_,_,_⟩
    ·omega
    ·injection e with e1 _ _
     subst e1
     refine⟨gg,rfl,fun w' hb=>?_⟩
     have hgl:gg<w2.heap.size:=by
      rcases HOW.out.2 with ⟨e,h0⟩ | ⟨g2,_,_,e,_,hh2,_⟩
      ·cases e
      ·injection e with e1 _ _
       injection e1 with e1
       injection e1 with e1
       subst e1
       exact (Array.getElem?_eq_some_iff.1 hh2).1
     have h1:=(HOW3.out).cellAt (g:=gg) i (by omega)
     rw[wcells_get hil] at h1
     exact (hb.cell (p:=⟨gg,i,none⟩) (by show gg<w2.heap.size;omega)).trans h1
   subst hA6
   have hcw:=hc6 wr HBW.out
   have HFTI:=Lib.hid (HFT.out words[i] (List.getElem_mem hil))
   have HTK:=Lib.hid (List.take_succ_eq_append_getElem hil)
   obtain⟨wi,hwi⟩:∃ wi,wi=words[i]:=⟨_,rfl⟩
   rw[←hwi] at HFTI HTK hcw
   clear hc6 hwi hil
   have HKR:=Lib.hid ((HB4.out.block w.heap.size (by omega)).trans HK.out)
   have hs4:=HS4.out
   obtain⟨gas,hgas⟩:∃ gas,gas=gk:=⟨_,rfl⟩
   rw[←hgas] at hlft
   have HGK:=Lib.hid hgas
   clear hgas
   generalize wr=wo at *
   go_upto_region 7 with fail
   go_cut [10] (fun v10 wx=>∃ (gb:Nat) (AE AF:Option Addr) (ce cf:Nat) (T:TabD),v10=.pointer (some ⟨gb,0,none⟩)∧wo.heap.size≤gb∧Hid (wx.heap[gb]? = some (.cells #[.slice A1 n c1,.slice A2 m c2,.slice A3 q c3,wv wi,.slice AE n ce,.slice AF n cf] 66 (0,0)))∧Hid (TabTo wi g.2.2 n T)∧Hid (∀ w'':World,(∀ b,wo.heap.size≤b→b<wx.heap.size→w''.heap[b]? = wx.heap[b]?)→wx.heap.size≤w''.heap.size→TabR w'' w''.heap.size AE ce AF cf n wi.length T)∧Hid (Below wo.heap.size wo wx))
   case first =>
    have HD0:=Lib.hid (show Below wo.heap.size wo wo.drew from (Below.refl _ _).drew)
    have HDK:=Lib.hid (show wo.drew.heap[w.heap.size]? = some (.cells #[.slice A1 n c1,.slice A2 m c2,.slice A3 q c3] 25 (0,0)) from HKR.out)
    have hcw':wo.drew.cell? ⟨b6,i,none⟩=some (wv wi):=hcw
    have HDS:=Lib.hid (show wo.drew.heap.size=wo.heap.size from rfl)
    refine wpU_start (fun w'=>Below wo.drew.heap.size wo.drew w') [7] 8 (by kernel_rfl) rfl ?_
    generalize wo.drew=wd at *
    have hlk:=(Array.getElem?_eq_some_iff.1 HDK.out).1
    have hlc:=World.block_lt_of_cell? wd _ hcw'
    refine wpU_load (i:=0) (v:=.agg #[.slice A1 n c1,.slice A2 m c2,.slice A3 q c3]) rfl (by kernel_rfl) (by kernel_rfl) (by kernel_rfl) (by kernel_rfl) (by kernel_rfl) (by kernel_rfl) rfl (fun wq hbq=>exec_load rfl rfl (load_agg (cs:=[.slice A1 n c1,.slice A2 m c2,.slice A3 q c3]) Tryz.underlying25 rfl (by kernel_rfl) (fun j u hu=>by
     rw[Nat.zero_add,cell_of_row _ _ _ _ _ _ ((hbq.block _ hlk).trans HDK.out),←Array.getElem?_toList]
     exact hu))) (Below.refl _ _) ?_
    generalize hac:Act.put _ _ _=a9
    simp[Act.put] at hac
    subst hac
    refine wpU_pure (i:=1) (v:=.slice (some ⟨b6,0,none⟩) nw c6) rfl (by kernel_rfl) (by kernel_rfl) (by kernel_rfl) (by kernel_rfl) (by kernel_rfl) rfl (fun wq=>by go_simp) (Below.refl _ _) ?_
    generalize hac:Act.put _ _ _=a9
    simp[Act.put] at hac
    subst hac
    refine wpU_pure (i:=2) (v:=.int .i64 i) rfl (by kernel_rfl) (by kernel_rfl) (by kernel_rfl) (by kernel_rfl) (by kernel_rfl) rfl (fun wq=>by go_simp) (Below.refl _ _) ?_
    generalize hac:Act.put _ _ _=a9
    simp[Act.put] at hac
    subst hac
    refine wpU_pure (i:=3) (v:=.pointer (some ⟨b6,i,none⟩)) rfl (by kernel_rfl) (by kernel_rfl) (by kernel_rfl) (by kernel_rfl) (by kernel_rfl) rfl (fun wq=>by go_simp) (Below.refl _ _) ?_
    generalize hac:Act.put _ _ _=a9
    simp[Act.put] at hac
    subst hac
    refine wpU_load (i:=4) (v:=wv wi) rfl (by kernel_rfl) (by kernel_rfl) (by kernel_rfl) (by kernel_rfl) (by kernel_rfl) (by kernel_rfl) rfl (fun wq hbq=>exec_load rfl rfl (load_strU Tryz.underlying9 ((hbq.cell (p:=⟨b6,i,none⟩) hlc).trans hcw'))) (Below.refl _ _) ?_
    generalize hac:Act.put _ _ _=a9
    simp[Act.put] at hac
    subst hac
    refine wpU_two (i:=5) (j:=6) (by kernel_rfl) rfl rfl (fun Q' hQ'=>?_) (fun Q' hQ'=>?_)
    ·go_wp2_with fail
     refine (makeTab_any (A1:=A1) (A2:=A2) (m:=m) (c1:=c1) (c2:=c2) wi wd (HV.out.fut (HB4.out.trans (HD0.out.mono (by have:=HS2.out;omega))) (Nat.le_refl _) (by have:=HDS.out;have:=HS2.out;omega)) HW.out (by have:=HFTI.out;omega) hn4 hq4).mono ?_
     rintro e w5 ⟨AE,AF,ce,cf,T,rfl,hT1,-,hT3,hb5⟩
     have hs5:=hb5.size
     go_wp2_with fail
     refine⟨okU hb5,?_⟩
     refine wpU_one (i:=6) (by kernel_rfl) rfl (fun Q' hQ'=>?_)
     go_wp2_with fail
     refine⟨okU (hb5.alloc hs5 _),?_⟩
     refine wpU_one (i:=7) (by kernel_rfl) rfl (fun Q' hQ'=>?_)
     refine wpList_store_agg rfl 66 rfl rfl rfl (store_tab (Go.heap_alloc_new w5 _)) ?_
     have HTB:=Lib.hid (setRow_heap (w5.alloc (.cells #[.slice none 0 0,.slice none 0 0,.slice none 0 0,.string ⟨#[]⟩,.slice none 0 0,.slice none 0 0] 66)) w5.heap.size _ #[.slice A1 n c1,.slice A2 m c2,.slice A3 q c3,wv wi,.slice AE n ce,.slice AF n cf] _ (0,0) (Go.heap_alloc_new w5 _))
     have HBB:=Lib.hid (below_setRow ((HD0.out.trans (hb5.mono (by have:=HDS.out;omega:wo.heap.size≤wd.heap.size))).alloc (by have:=HDS.out;omega:wo.heap.size≤w5.heap.size) (.cells #[.slice none 0 0,.slice none 0 0,.slice none 0 0,.string ⟨#[]⟩,.slice none 0 0,.slice none 0 0] 66)) (by have:=HDS.out;omega:wo.heap.size≤w5.heap.size) #[.slice A1 n c1,.slice A2 m c2,.slice A3 q c3,wv wi,.slice AE n ce,.slice AF n cf])
     have HKB:=Lib.hid (show ∀ b,b<w5.heap.size→((w5.alloc (.cells #[.slice none 0 0,.slice none 0 0,.slice none 0 0,.string ⟨#[]⟩,.slice none 0 0,.slice none 0 0] 66)).setRow w5.heap.size #[.slice A1 n c1,.slice A2 m c2,.slice A3 q c3,wv wi,.slice AE n ce,.slice AF n cf]).heap[b]? = w5.heap[b]? from fun b hb=>(setRow_other _ _ _ _ (by omega)).trans (heap_alloc_old _ _ hb))
     have HZB:=Lib.hid (show w5.heap.size≤((w5.alloc (.cells #[.slice none 0 0,.slice none 0 0,.slice none 0 0,.string ⟨#[]⟩,.slice none 0 0,.slice none 0 0] 66)).setRow w5.heap.size #[.slice A1 n c1,.slice A2 m c2,.slice A3 q c3,wv wi,.slice AE n ce,.slice AF n cf]).heap.size by rw[setRow_size,World.size_alloc];omega)
     have HT1:=Lib.hid hT1
     have HT3:=Lib.hid hT3
     generalize (w5.alloc (.cells #[.slice none 0 0,.slice none 0 0,.slice none 0 0,.string ⟨#[]⟩,.slice none 0 0,.slice none 0 0] 66)).setRow w5.heap.size #[.slice A1 n c1,.slice A2 m c2,.slice A3 q c3,wv wi,.slice AE n ce,.slice AF n cf]=w6 at *
     clear hT1 hT3 hb5
     refine hQ' _ _ ⟨okU_past (by kernel_rfl),?_⟩
     generalize hac:Act.put _ _ _=a9
     simp[Act.put] at hac
     subst hac
     refine wpU_end (by kernel_rfl) ?_ _
     go_wp2_with fail
     go_meet
     case rel=>exact⟨w5.heap.size,AE,AF,ce,cf,T,rfl,by have:=HDS.out;omega,HTB.out,HT1.out,fun w'' hk hs=>HT3.out w'' (fun b h1 h2=>(hk b (by have:=HDS.out;omega) (Nat.lt_of_lt_of_le h2 HZB.out)).trans (HKB.out b h2)),HBB.out⟩
    ·go_wp2_with fail
     refine⟨okU ((Below.refl wd.heap.size wd).alloc (Nat.le_refl _) _),?_⟩
     refine wpU_one (i:=5) (by kernel_rfl) rfl (fun Q' hQ'=>?_)
     go_wp2_with fail
     have hba:=(Below.refl wd.heap.size wd).alloc (Nat.le_refl _) (.cells #[.slice none 0 0,.slice none 0 0,.slice none 0 0,.string ⟨#[]⟩,.slice none 0 0,.slice none 0 0] 66)
     have HGA:=Lib.hid (Go.heap_alloc_new wd (.cells #[.slice none 0 0,.slice none 0 0,.slice none 0 0,.string ⟨#[]⟩,.slice none 0 0,.slice none 0 0] 66))
     have HZA:=Lib.hid (World.size_alloc wd (.cells #[.slice none 0 0,.slice none 0 0,.slice none 0 0,.string ⟨#[]⟩,.slice none 0 0,.slice none 0 0] 66))
     generalize wd.alloc (.cells #[.slice none 0 0,.slice none 0 0,.slice none 0 0,.string ⟨#[]⟩,.slice none 0 0,.slice none 0 0] 66)=wa at *
     refine (makeTab_any (A1:=A1) (A2:=A2) (m:=m) (c1:=c1) (c2:=c2) wi wa (HV.out.fut ((HB4.out.trans (HD0.out.mono (by have:=HS2.out;omega))).trans (hba.mono (by have:=HS2.out;have:=HDS.out;omega))) (Nat.le_refl _) (by have:=HZA.out;have:=HDS.out;have:=HS2.out;omega)) HW.out (by have:=HFTI.out;omega) hn4 hq4).mono ?_
     rintro e w5 ⟨AE,AF,ce,cf,T,rfl,hT1,-,hT3,hb5⟩
     have hs5:=hb5.size
     have hb5':Below wd.heap.size wd w5:=hba.trans (hb5.mono (by have:=HZA.out;omega))
     go_wp2_with fail
     refine⟨okU hb5',?_⟩
     refine wpU_one (i:=7) (by kernel_rfl) rfl (fun Q' hQ'=>?_)
     have hg5:=(hb5.block wd.heap.size (by have:=HZA.out;omega)).trans HGA.out
     refine wpList_store_agg rfl 66 rfl rfl rfl (store_tab hg5) ?_
     have HTB:=Lib.hid (setRow_heap w5 wd.heap.size _ #[.slice A1 n c1,.slice A2 m c2,.slice A3 q c3,wv wi,.slice AE n ce,.slice AF n cf] _ (0,0) hg5)
     have HBB:=Lib.hid (below_setRow (HD0.out.trans (hb5'.mono (by have:=HDS.out;omega:wo.heap.size≤wd.heap.size))) (by have:=HDS.out;omega:wo.heap.size≤wd.heap.size) #[.slice A1 n c1,.slice A2 m c2,.slice A3 q c3,wv wi,.slice AE n ce,.slice AF n cf])
     have HKB:=Lib.hid (show ∀ b,wd.heap.size+1≤b→(w5.setRow wd.heap.size #[.slice A1 n c1,.slice A2 m c2,.slice A3 q c3,wv wi,.slice AE n ce,.slice AF n cf]).heap[b]? = w5.heap[b]? from fun b hb=>setRow_other _ _ _ _ (by omega))
     have HZB:=Lib.hid (show (w5.setRow wd.heap.size #[.slice A1 n c1,.slice A2 m c2,.slice A3 q c3,wv wi,.slice AE n ce,.slice AF n cf]).heap.size=w5.heap.size by rw[setRow_size])
     have HT1:=Lib.hid hT1
     have HT3:=Lib.hid hT3
     generalize w5.setRow wd.heap.size #[.slice A1 n c1,.slice A2 m c2,.slice A3 q c3,wv wi,.slice AE n ce,.slice AF n cf]=w6 at *
     clear hT1 hT3 hb5 hb5' hg5 hba
     refine hQ' _ _ ⟨okU_past (by kernel_rfl),?_⟩
     generalize hac:Act.put _ _ _=a9
     simp[Act.put] at hac
     subst hac
     refine wpU_end (by kernel_rfl) ?_ _
     go_wp2_with fail
     go_meet
     case rel=>exact⟨wd.heap.size,AE,AF,ce,cf,T,rfl,by have:=HDS.out;omega,HTB.out,HT1.out,fun w'' hk hs=>HT3.out w'' (fun b h1 h2=>(hk b (by have:=HZA.out;have:=HDS.out;omega) (by rw[HZB.out];exact h2)).trans (HKB.out b (by have:=HZA.out;omega))),HBB.out⟩
   case rest =>
    obtain⟨gb,AE,AF,ce,cf,T,rfl,hgb,HTB,HT1,HT3,HBX7⟩:=hcut
    generalize wc=wx at *
    have HB5:=Lib.hid (HB4.out.trans (HBX7.out.mono (by have:=HS2.out;omega)))
    have HC5:=Lib.hid (HC.out.below HBX7.out)
    have HBW5:=Lib.hid (HBW.out.trans (HBX7.out.mono (by omega)))
    have hs5:=HBX7.out.size
    have HGL:=Lib.hid (Array.getElem?_eq_some_iff.1 HTB.out).1
    have HCT:Hid (∀ (w':World),w'.heap[gb]? = some (.cells #[.slice A1 n c1,.slice A2 m c2,.slice A3 q c3,wv wi,.slice AE n ce,.slice AF n cf] 66 (0,0))→w'.cell? ⟨gb,0,none⟩=some (.slice A1 n c1)∧w'.cell? ⟨gb,1,none⟩=some (.slice A2 m c2)∧w'.cell? ⟨gb,2,none⟩=some (.slice A3 q c3)∧w'.cell? ⟨gb,3,none⟩=some (wv wi)∧w'.cell? ⟨gb,4,none⟩=some (.slice AE n ce)∧w'.cell? ⟨gb,5,none⟩=some (.slice AF n cf)):=fun w' hk=>⟨by rw[cell_of_row _ _ _ _ _ _ hk];rfl,by rw[cell_of_row _ _ _ _ _ _ hk];rfl,by rw[cell_of_row _ _ _ _ _ _ hk];rfl,by rw[cell_of_row _ _ _ _ _ _ hk];rfl,by rw[cell_of_row _ _ _ _ _ _ hk];rfl,by rw[cell_of_row _ _ _ _ _ _ hk];rfl⟩
    obtain⟨t0,t1,t2,t3,t4,t5⟩:=HCT.out wx HTB.out
    go_wp2_with fail
    refine (follows20_any (A1:=A1) (A2:=A2) (m:=m) (c1:=c1) (c2:=c2) wi k wx (HV.out.fut HB5.out (Nat.le_refl _) (by have:=HS2.out;omega)) (HT3.out wx (fun _ _ _=>rfl) (Nat.le_refl _)) HW.out (by have:=HFTI.out;omega) hn4 hn1 hq4).mono ?_
    rintro e w6 ⟨AO,co,O,rfl,hO1,-,hO3,hb6⟩
    have HO3:=Lib.hid hO3
    have HAH:=Lib.hid (show ∀ r (hr:r<g.2.2.length),aheadB wi T k O g.2.2[r]=ahD g.2.2 k wi r from fun r hr=>ahD_eq HP.out (by rw[←HN.out];exact HT1.out) (by rw[←HN.out];exact hO1) hr)
    have hs6:=hb6.size
    have HX6:=Lib.hid (show ∀ b,b<wx.heap.size→w6.heap[b]? = wx.heap[b]? from fun b hb=>hb6.block b hb)
    have HC6:=Lib.hid (HC5.out.below hb6)
    have HBW6:=Lib.hid (HBW5.out.trans (hb6.mono (by omega)))
    have HOB:=Lib.hid (show ∀ v∈vs,∀ g',v.ownBlock=some g'→g'<wo.heap.size∨w6.heap.size≤g' from fun v hv g' hg'=>by
     obtain⟨a,ha,rfl⟩:=List.getElem_of_mem hv
     have hac:a<(colsAt g.2.2 k n words i 0).length:=by rw[HC.out.lc,←HC.out.lv];exact ha
     exact .inl ((HC.out.row a _ _ (List.getElem?_eq_getElem ha) (List.getElem?_eq_getElem hac)).lt g' hg').2)
    clear t0 t1 t2 t3 t4 t5 hO1 hO3 hb6 HC5 HBW5 HC
    go_wp2_with fail
    go_loopg [12,7] n (fun lf2 v12 v7 wt=>∃ (a:Nat) (us:List Value),a≤n∧n - a≤lf2∧v12=.int .i64 a∧v7=.bool (okB g.2.2 k n (words.take i)&&oneB g.2.2 k wi a)∧Hid (Cols wt (w2.heap.size+1) w2.heap.size n us (colsAt g.2.2 k n words i a))∧Hid (∀ v∈us,∀ g',v.ownBlock=some g'→g'<wo.heap.size∨w6.heap.size≤g')∧Hid (∀ b,wo.heap.size≤b→b<w6.heap.size→wt.heap[b]? = w6.heap[b]?)∧Hid (w6.heap.size≤wt.heap.size)∧Hid (Below w2.heap.size w3 wt))
    case atStart=>exact⟨0,vs,by omega,by omega,rfl,by simp[oneB],HC6.out,HOB.out,fun _ _ _=>rfl,Nat.le_refl _,HBW6.out⟩
    case round =>
     clear HC6 HBW6 HOB
     obtain⟨a,us,ha,hlf2,rfl,rfl,HC,HOB,HMID,HSZ,HBW6⟩:=hrel
     have HB6:=Lib.hid (HB3.out.trans (HBW6.out.mono (by have:=HS2.out;omega)))
     obtain⟨a0,a1,a2⟩:=HCELL.out wr ((HB6.out.block w.heap.size (by omega)).trans HK.out)
     by_cases hab:a<n
     ·obtain⟨gas2,hgas2⟩:∃ gas2,gas2=gk:=⟨_,rfl⟩
      rw[←hgas2] at hlf2
      have HGK2:=Lib.hid hgas2
      clear hgas2
      obtain⟨ok0,hok0⟩:∃ ok0,ok0=(okB g.2.2 k n (words.take i)&&oneB g.2.2 k wi a):=⟨_,rfl⟩
      rw[←hok0]
      have HOK:=Lib.hid hok0
      clear hok0
      generalize wr=wp at *
      go_wp2_with fail
      go_loopg [14,13,7] q (fun lf3 v14 v13 v7 wt=>∃ (r:Nat) (M:List Nat),r≤q∧q - r≤lf3∧v14=.int .i64 r∧v13=.int .i64 (lastL M)∧v7=.bool (ok0&&decide (M.length≤1))∧Hid (M=matchTo g.2.2 (ahD g.2.2 k wi) (a:Int) r)∧Hid (Below wp.heap.size wp wt))
      case atStart=>exact⟨0,[],by omega,by omega,rfl,rfl,by simp,rfl,Below.refl _ _⟩
      case round =>
       clear a0 a1 a2
       obtain⟨r,M,hr,hlf3,rfl,rfl,rfl,HM,HBP⟩:=hrel
       have HB7:=Lib.hid (HB6.out.trans (HBP.out.mono (by have:=HSZ.out;have:=HS2.out;omega)))
       obtain⟨a0,a1,a2⟩:=HCELL.out wr ((HB7.out.block w.heap.size (by omega)).trans HK.out)
       have HMID7:=Lib.hid (show ∀ b,wo.heap.size≤b→b<w6.heap.size→wr.heap[b]? = w6.heap[b]? from fun b h1 h2=>(HBP.out.block b (Nat.lt_of_lt_of_le h2 HSZ.out)).trans (HMID.out b h1 h2))
       have hszr:w6.heap.size≤wr.heap.size:=Nat.le_trans HSZ.out HBP.out.size
       by_cases hrq:r<q
       ·have hrl:r<g.2.2.length:=by rw[←HQ.out];exact hrq
        obtain⟨t0,t1,t2,t3,t4,t5⟩:=HCT.out wr ((HMID7.out gb hgb (Nat.lt_of_lt_of_le HGL.out hs6)).trans ((HX6.out gb HGL.out).trans HTB.out))
        have HMS:=Lib.hid (matchTo_succ g.2.2 (ahD g.2.2 k wi) (a:Int) r)
        have hgd:g.2.2.getD r (0,[])=g.2.2[r]:=by rw[List.getD_eq_getElem?_getD,List.getElem?_eq_getElem hrl];rfl
        rw[hgd] at HMS
        obtain⟨b,off,cs,rfl,-,hbl,hrep,hcell⟩:=(HV.out.below HB7.out).get (k:=r) hrl (by decide)
        obtain⟨v,rfl,-,-,-⟩:=eRule_open hrep
        have hc0:=hcell 0 _ rfl
        simp only[show eRule.size=2 from rfl,Nat.add_zero] at hc0
        have hcall:=ahead_any (A1:=A1) (A2:=A2) (A3:=some ⟨b,off,none⟩) (m:=m) (q:=q) (c1:=c1) (c2:=c2) (c3:=c3) wi k O r hrl wr (HV.out.fut HB7.out (Nat.le_refl _) (by have:=HS2.out;omega)) (HT3.out wr (fun b h1 h2=>(HMID7.out b h1 (Nat.lt_of_lt_of_le h2 hs6)).trans (HX6.out b h2)) (by omega)) (HO3.out wr (fun b h1 h2=>HMID7.out b (by omega) h2)) HW.out (by have:=HFTI.out;omega) hn4
        rw[HAH.out r hrl] at hcall
        obtain⟨ba,hba⟩:∃ ba,ba=ahD g.2.2 k wi r:=⟨_,rfl⟩
        rw[←hba] at hcall HMS
        have HCALL:=Lib.hid hcall
        obtain⟨lf,hlf⟩:∃ lf,lf=g.2.2[r].1:=⟨_,rfl⟩
        rw[←hlf] at hc0 HMS
        clear hcell hrep hgd hcall hba hlf hrl
        by_cases hll:lf=(a:Int)
        ·have hq1:(lf != (a:Int))=false:=by simpa using hll
         have HD:=Lib.hid (show decide (lf=(a:Int))=true by simpa using hll)
         clear hll
         go_wp2_with fail
         refine HCALL.out.mono ?_
         rintro e w7 ⟨rfl,hb7⟩
         have HBP7:=Lib.hid (HBP.out.trans (hb7.mono HBP.out.size))
         clear hb7
         cases ba with
         |false =>
          have HM2:=Lib.hid (show M=matchTo g.2.2 (ahD g.2.2 k wi) (a:Int) (r+1) by rw[HMS.out,←HM.out];simp)
          go_wp2_with fail
          go_roundg (gk - 1)
          case measure=>omega
          case rel=>exact⟨r+1,M,by omega,by omega,by go_num,rfl,rfl,HM2.out,HBP7.out⟩
         |true =>
          have HM2:=Lib.hid (show M++[r]=matchTo g.2.2 (ahD g.2.2 k wi) (a:Int) (r+1) by rw[HMS.out,←HM.out,HD.out];simp)
          have HLS:=Lib.hid (lastL_snoc M r)
          by_cases hM:M=[]
          ·have hq2:(lastL M != -1)=false:=by rw[(lastL_none M).2 hM];rfl
           have HO2:=Lib.hid (show (ok0&&decide (M.length≤1))=(ok0&&decide ((M++[r]).length≤1)) by rw[hM];simp)
           obtain⟨pm,hpm⟩:∃ pm,pm=lastL M:=⟨_,rfl⟩
           rw[←hpm] at hq2 ⊢
           obtain⟨ok1,hok1⟩:∃ ok1,ok1=(ok0&&decide (M.length≤1)):=⟨_,rfl⟩
           rw[←hok1] at HO2 ⊢
           clear hM hpm hok1
           go_wp2_with fail
           go_roundg (gk - 1)
           case measure=>omega
           case rel=>exact⟨r+1,M++[r],by omega,by omega,by go_num,by rw[HLS.out],by rw[HO2.out],HM2.out,HBP7.out⟩
          ·have hq2:(lastL M != -1)=true:=by
            rw[bne_iff_ne]
            intro e
            exact hM ((lastL_none M).1 e)
           have HO2:=Lib.hid (show false=(ok0&&decide ((M++[r]).length≤1)) by
            have:=List.length_pos_iff.2 hM
            rw[show decide ((M++[r]).length≤1)=false by rw[decide_eq_false_iff_not,List.length_append];simp;omega]
            simp)
           obtain⟨pm,hpm⟩:∃ pm,pm=lastL M:=⟨_,rfl⟩
           rw[←hpm] at hq2 ⊢
           obtain⟨ok1,hok1⟩:∃ ok1,ok1=(ok0&&decide (M.length≤1)):=⟨_,rfl⟩
           rw[←hok1]
           clear hM hpm hok1
           go_wp2_with fail
           go_roundg (gk - 1)
           case measure=>omega
           case rel=>exact⟨r+1,M++[r],by omega,by omega,by go_num,by rw[HLS.out],by rw[HO2.out],HM2.out,HBP7.out⟩
        ·have hq1:(lf != (a:Int))=true:=by simpa using hll
         have HM2:=Lib.hid (show M=matchTo g.2.2 (ahD g.2.2 k wi) (a:Int) (r+1) by rw[HMS.out,←HM.out,show decide (lf=(a:Int))=false by simpa using hll];simp)
         clear hll
         go_wp2_with fail
         go_roundg (gk - 1)
         case measure=>omega
         case rel=>exact⟨r+1,M,by omega,by omega,by go_num,rfl,rfl,HM2.out,HBP.out⟩
       ·have HMW:=Lib.hid (show M=matchW g.2.2 (ahD g.2.2 k wi) (a:Int) by rw[HM.out,←matchTo_all,show r=g.2.2.length by rw[←HQ.out];omega])
        have HV1:=Lib.hid (show lastL M=valW g.2.2 k a wi by rw[HMW.out];rfl)
        have HOK2:=Lib.hid (show (ok0&&decide (M.length≤1))=(okB g.2.2 k n (words.take i)&&oneB g.2.2 k wi (a+1)) by rw[HOK.out,HMW.out,oneB_succ,Bool.and_assoc])
        have HCR:=Lib.hid (HC.out.below HBP.out)
        have hau:a<us.length:=by rw[HCR.out.lv];exact hab
        have hcol:=colsAt_get (rs:=g.2.2) (k:=k) (words:=words) (i:=i) hab
        have hrow:=HCR.out.row a us[a] _ (List.getElem?_eq_getElem hau) hcol
        have hcell:wr.cell? ⟨w2.heap.size,a,none⟩=some us[a]:=by rw[cell_of_row _ _ _ _ _ _ HCR.out.blk];simp[hau]
        have hfz:wr.frozen? ⟨w2.heap.size,a,none⟩=false:=by simp[World.frozen?,HCR.out.blk]
        have hmem:=List.getElem_mem hau
        obtain⟨u,hu⟩:∃ u,u=us[a]:=⟨_,rfl⟩
        have HUA:=Lib.hid (show us[a]? = some u by rw[hu];exact List.getElem?_eq_getElem hau)
        rw[←hu] at hrow hcell hmem
        have HOBU:=Lib.hid (HOB.out u hmem)
        obtain⟨cl,hcl⟩:∃ cl,cl=(words.take i).map (valW g.2.2 k a):=⟨_,rfl⟩
        have HCL:=Lib.hid hcl
        rw[←hcl] at hrow hcol
        have HCOL:=Lib.hid hcol
        obtain⟨ncl,hncl⟩:∃ ncl,ncl=cl.length:=⟨_,rfl⟩
        rw[←hncl] at hrow
        have hncl2:ncl≤121:=by rw[hncl,hcl,List.length_map,List.length_take];have:=HWL.out;have:=HNW.out;omega
        have HNCL:=Lib.hid hncl
        obtain⟨Au,cu,rfl,hu1,hu2⟩:=own_form hrow
        have HROW:=Lib.hid hrow
        obtain⟨ok1,hok1⟩:∃ ok1,ok1=(ok0&&decide (M.length≤1)):=⟨_,rfl⟩
        rw[←hok1] at HOK2 ⊢
        obtain⟨pm,hpm⟩:∃ pm,pm=lastL M:=⟨_,rfl⟩
        rw[←hpm] at HV1 ⊢
        have hw2r:w2.heap.size+1≤wr.heap.size:=by have:=HS4.out;omega
        clear hau hcol hrow hu hmem hcl hncl hok1 hpm
        go_upto_region 20 with fail
        go_wp2_with (at_builtin;refine wpList_app (m:=1) (n:=ncl) int_app rfl rfl rfl rfl (HROW.out.alloc _) (Rd.row (B:=wr.heap.size+1) (Go.heap_alloc_new wr _) (by omega)) rfl (fun u hu=>by simp at hu;subst hu;rfl) (by unfold maxLen;omega) (by omega) (by rw[World.size_alloc];omega) ?_)
        intro v' w8 ho hg hk _
        have hgs:=hg.size
        rw[World.size_alloc] at hgs
        have hbl:Below wr.heap.size wr (wr.alloc (.cells #[.int .i64 pm] 3)):=(Below.refl wr.heap.size wr).alloc (Nat.le_refl _) _
        have ho':w8.ownsRow (w2.heap.size+1) 3 1 v' (cl.length+1) (icells cl++[.int .i64 pm]):=by rw[←HNCL.out];exact ho
        have HC9:=Lib.hid (HCR.out.app hbl HUA.out HCOL.out ho' hg (by rw[World.size_alloc];exact hk))
        have HOBN:=Lib.hid (show ∀ v∈us.set a v',∀ g',v.ownBlock=some g'→g'<wo.heap.size∨w6.heap.size≤g' from fun v hv g' hg'=>by
         rcases List.mem_or_eq_of_mem_set hv with hv | hv
         ·exact HOB.out v hv g' hg'
         ·subst hv
          rcases hk with hk | hk
          ·rw[hk] at hg';exact HOBU.out g' hg'
          ·rw[hk] at hg'
           injection hg' with hg'
           right
           omega)
        have hgblk:w8.heap[w2.heap.size]? = wr.heap[w2.heap.size]? := (hg.block w2.heap.size (by rw[World.size_alloc];omega) (fun e=>by
         have:=(HROW.out.lt w2.heap.size e.symm).1
         omega)).trans (heap_alloc_old _ _ (by omega))
        have HMID9:=Lib.hid (show ∀ b,wo.heap.size≤b→b<w6.heap.size→(w8.setCell ⟨w2.heap.size,a,none⟩ v').heap[b]? = w6.heap[b]? from fun b h1 h2=>by
         refine (Below.heap_setCell _ _ _ _ (by show b≠w2.heap.size;have:=HS4.out;omega)).trans ((hg.block b (by rw[World.size_alloc];omega) (fun e=>?_)).trans ((heap_alloc_old _ _ (by omega)).trans (HMID7.out b h1 h2)))
         rcases HOBU.out b e.symm with h3 | h3 <;> omega)
        have HSZ9:=Lib.hid (show w6.heap.size≤(w8.setCell ⟨w2.heap.size,a,none⟩ v').heap.size by simp[World.setCell];omega)
        have HBW9:=Lib.hid (Below.setCell (p:=⟨w2.heap.size,a,none⟩) (grown_below ((HBW6.out.trans (HBP.out.mono (by have:=HSZ.out;have:=HS4.out;omega))).alloc (by omega) (.cells #[.int .i64 pm] 3)) hg (HROW.out.alloc _) (by omega) (by rw[World.size_alloc];omega)) (Nat.le_refl _) v')
        have hcell8:=(World.cell?_of_block (a:=⟨w2.heap.size,a,none⟩) hgblk).trans hcell
        have hfz8:w8.frozen? ⟨w2.heap.size,a,none⟩=false:=by simp[World.frozen?,hgblk,HCR.out.blk]
        have HCS:=Lib.hid (show (colsAt g.2.2 k n words i a).set a (cl++[pm])=colsAt g.2.2 k n words i (a+1) by
         rw[HCL.out,HV1.out]
         exact (colsAt_set hab HTK.out).symm)
        rw[HCS.out] at HC9
        obtain⟨A8,c8,rfl,h81,h82⟩:=own_form ho
        clear ho ho' hg hk hbl hgblk
        go_wp2_with fail
        go_roundg (gas2 - 1)
        case measure=>have:=HGK2.out;omega
        case rel=>exact⟨a+1,us.set a (Value.slice A8 (ncl+1) c8),by omega,by omega,by go_num,by rw[HOK2.out],HC9.out,HOBN.out,HMID9.out,HSZ9.out,HBW9.out⟩
     ·obtain rfl:n=a:=by omega
      have HC9:=Lib.hid (show Cols wr (w2.heap.size+1) w2.heap.size n us (colsAt g.2.2 k n words (i+1) 0) by rw[←colsAt_next];exact HC.out)
      have HOK:=Lib.hid (show (okB g.2.2 k n (words.take i)&&oneB g.2.2 k wi n)=okB g.2.2 k n (words.take (i+1)) by
       unfold okB
       rw[HTK.out,List.all_append]
       simp)
      rw[HOK.out]
      have hnw9:nw≤121:=HWL.out
      go_wp2_with fail
      go_roundg (gas - 1)
      case measure=>have:=HGK.out;omega
      case rel=>exact⟨i+1,us,by omega,by omega,by go_num,rfl,HC9.out,HBW6.out⟩
  ·have HE:=Lib.hid (show words.take i=words from List.take_of_length_le (by rw[←HNW.out];omega))
   rw[HE.out]
   have HIW:=Lib.hid (show colsAt g.2.2 k n words i 0=(List.range n).map fun b=>words.map (valW g.2.2 k b) by
    unfold colsAt
    apply List.map_congr_left
    intro b _
    rw[if_neg (Nat.not_lt_zero _),HE.out])
   have HFIN:=Lib.hid (HPOST.out w2.heap.size wr (by
    have:=HC.out.sl (fun c hc x hx=>?_) (by unfold maxLen;omega)
    ·rwa [HIW.out] at this
    ·rw[HIW.out] at hc
     obtain⟨b,_,rfl⟩:=List.mem_map.1 hc
     obtain⟨y,_,rfl⟩:=List.mem_map.1 hx
     exact valW_bd (by rw[←HQ.out];omega)) (HBX.out.trans (HB4.out.mono (Nat.le_succ _))))
   obtain⟨okf,hokf⟩:∃ okf,okf=okB g.2.2 k n words:=⟨_,rfl⟩
   rw[←hokf] at HFIN ⊢
   clear hokf
   go_wp2_with fail
   go_ret2
   exact HFIN.out
end Go.Proofs.YtfpihflepeiagaaGreatDoor
