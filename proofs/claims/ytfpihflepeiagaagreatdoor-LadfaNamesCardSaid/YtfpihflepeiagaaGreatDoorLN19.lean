import Derived.Test.YtfpihflepeiagaaGreatDoorLN14
import Derived.Test.YtfpihflepeiagaaGreatDoorLN18
namespace Go.Proofs.YtfpihflepeiagaaGreatDoor
open Go.RowKit

def GrewF (n L:Nat) (O:Nat→Nat→Bool) (o:(Nat→Nat→Bool)×Bool):Prop:=(∀ a p,O a p=true→o.1 a p=true)∧(o.2=true→∃ a p,a<n∧p≤L∧O a p=false∧o.1 a p=true)
theorem GrewF.room {n L:Nat} {O O':Nat→Nat→Bool} (h:GrewF n L O (O',true)):roomF n L O'<roomF n L O:=by
 obtain⟨h2,h3⟩:=h
 have hF:∀ x∈placesF n L,(!O' x.1 x.2)=true→(!O x.1 x.2)=true:=fun x _ hx=>by
  cases e:O x.1 x.2 with
  |false=>rfl
  |true=>rw[show O' x.1 x.2=true from h2 _ _ e] at hx;cases hx
 obtain⟨a,p,ha,hp,e1,e2⟩:=h3 rfl
 exact countP_lt (placesF n L) hF ⟨(a,p),mem_placesF ha hp,by simp[e1],by simp;exact e2⟩
theorem folP_grew {n:Nat} {w:Wd} {T:TabD} {k:Int} {a:Nat} {left:Int} {right:List Int} {O:Nat→Nat→Bool} (ha:a<n) {o:(Nat→Nat→Bool)×Bool} {p:Nat} (hp:p≤w.length) (h:GrewF n w.length O o):GrewF n w.length O (folP w T k a left right o p):=by
 obtain⟨h1,h2⟩:=h
 unfold folP
 split
 ·rename_i hc
  refine⟨fun a' p' he=>?_,fun _=>⟨a,p,ha,hp,?_,?_⟩⟩
  ·show (o.1 a' p'||_)=true
   rw[h1 a' p' he,Bool.true_or]
  ·cases e:O a p with
   |false=>rfl
   |true=>rw[h1 _ _ e] at hc;cases hc.1
  ·show (o.1 a p||_)=true
   simp
 ·exact⟨h1,h2⟩
theorem passO_room {n:Nat} {w:Wd} {T:TabD} {k:Int} {rs:RuleL} (hw:∀ r∈rs,∀ s∈r.2,s<(n:Int)) {O O':Nat→Nat→Bool} (h:passO w T k rs O=some (O',true)):roomF n w.length O'<roomF n w.length O:=by
 have h0:GrewF n w.length O (O,false):=⟨fun _ _ h=>h,fun h=>by cases h⟩
 have:GrewF n w.length O (rs.foldl (folR w T k) (O,false)):=foldl_inv (GrewF n w.length O) rs (O,false) (fun o r hr ho=>by
  unfold folR
  refine foldl_inv (GrewF n w.length O) (List.range r.2.length) o (fun o s hs ho=>?_) ho
  unfold folS
  split
  ·exact ho
  ·rename_i hge
   have hsl:=List.mem_range.1 hs
   have hlt:=hw r hr r.2[s] (List.getElem_mem hsl)
   have hgd:r.2.getD s 0=r.2[s]:=by rw[List.getD_eq_getElem?_getD,List.getElem?_eq_getElem hsl];rfl
   rw[hgd] at hge ⊢
   exact foldl_inv (GrewF n w.length O) (List.range (w.length+1)) o (fun o p hp ho=>folP_grew (by omega) (by have:=List.mem_range.1 hp;omega) ho) ho) h0
 unfold passO at h
 injection h with h
 rw[h] at this
 exact this.room
theorem bl_setb (L:Nat) (b:Bool):(bl L fun _=>false).set L b=bl L (fun x=>decide (x=L)&&b):=by
 cases b with
 |true =>
  rw[bl_set]
  exact bl_ext fun k _=>by simp
 |false =>
  apply List.ext_getElem?
  intro i
  rw[List.getElem?_set]
  by_cases hi:i≤L
  ·rw[bl_get hi,bl_get hi]
   split
   ·rw[if_pos (by rw[bl_len];omega)];simp
   ·simp
  ·rw[List.getElem?_eq_none (by rw[bl_len];omega),List.getElem?_eq_none (by rw[bl_len];omega)]
   split
   ·rw[if_neg (by rw[bl_len];omega)]
   ·rfl
def FollowsTo (n:Nat) (wd:Wd) (k:Int) (T:TabD) (rs:RuleL) (w:World) (e:Ending) (w':World):Prop :=
 ∃ (AO:Option Addr) (co:Nat) (O:Nat→Nat→Bool),e=.returned (.slice AO n co)∧FolTo wd T k rs n O∧SlR (eSl eBool) w' w'.heap.size (.slice AO n co) (sqL n wd.length O)∧(∀ w'':World,(∀ b,w.heap.size≤b→b<w'.heap.size→w''.heap[b]? = w'.heap[b]?)→SlR (eSl eBool) w'' w''.heap.size (.slice AO n co) (sqL n wd.length O))∧Below w.heap.size w w'
abbrev RBox (w:World) (g lf:Nat) (A5:Option Addr) (np c5:Nat):Prop:=w.heap[g]? = some (.cells #[.int .i64 lf,.slice A5 np c5] 55 (0,0))
set_option maxRecDepth 100000 in
set_option maxHeartbeats 40000000 in
theorem follows20_any {A1 A2 A3 AE AF:Option Addr} {n m q c1 c2 c3 ce cf:Nat} {T:TabD} {rs:RuleL} (wd:Wd) (k:Int) (w:World) (hR:SlR eRule w w.heap.size (.slice A3 q c3) rs) (hT:TabR w w.heap.size AE ce AF cf n wd.length T) (hw:∀ r∈rs,0≤r.1∧r.1<(n:Int)∧∀ s∈r.2,s<(n:Int)∧-256≤s) (hL:wd.length≤4096) (hn:n≤4096) (hn1:1≤n) (hq4:q≤1048576) :
  Calls Tryz.prog 25 #[tabV A1 A2 A3 n m q c1 c2 c3 wd AE ce AF cf,.int .i64 k] w (FollowsTo n wd k T rs w):=by
 have HBH0:=Lib.hid (fun (w':World) (right:List Int) (fol:Nat→Bool) (Ar Ao:Option Addr) (p cr co at_:Nat) (hT:TabR w' w'.heap.size AE ce AF cf n wd.length T) (hr:SlR eInt w' w'.heap.size (.slice Ar p cr) right) (hf:SlR eBool w' w'.heap.size (.slice Ao (wd.length+1) co) (bl wd.length fol)) (hs:∀ s∈right,s<(n:Int)∧-256≤s) (ha:at_≤wd.length)=>behind20_any (A1:=A1) (A2:=A2) (A3:=A3) (m:=m) (q:=q) (c1:=c1) (c2:=c2) (c3:=c3) wd k right fol at_ w' hT hr hf hs ha hL hn)
 obtain⟨X,hX⟩:∃ X:ByteArray,X=⟨wd.toArray⟩:=⟨_,rfl⟩
 have hXs:X.size=wd.length:=by rw[hX];rfl
 unfold tabV at HBH0 ⊢
 have HBH:=Lib.hid (show ∀ (w':World) (right:List Int) (fol:Nat→Bool) (Ar Ao:Option Addr) (p cr co at_:Nat),TabR w' w'.heap.size AE ce AF cf n wd.length T→SlR eInt w' w'.heap.size (.slice Ar p cr) right→SlR eBool w' w'.heap.size (.slice Ao (wd.length+1) co) (bl wd.length fol)→(∀ s∈right,s<(n:Int)∧-256≤s)→at_≤wd.length→Calls Tryz.prog 47 #[.agg #[.slice A1 n c1,.slice A2 m c2,.slice A3 q c3,.string X,.slice AE n ce,.slice AF n cf],.int .i64 k,.slice Ar p cr,.slice Ao (wd.length+1) co,.int .i64 at_] w' (fun e w''=>e=.returned (.bool (behindL wd T k right fol at_))∧Below w'.heap.size w' w'') from fun w' right fol Ar Ao p cr co at_ h1 h2 h3 h4 h5=>by rw[hX];exact HBH0.out w' right fol Ar Ao p cr co at_ h1 h2 h3 h4 h5)
 rw[show wv wd=Value.string X by rw[hX]]
 have hbx:=(Below.refl w.heap.size w).alloc (Nat.le_refl _) (.cells #[.slice A1 n c1,.slice A2 m c2,.slice A3 q c3,.string X,.slice AE n ce,.slice AF n cf] 66)
 have HK:=Lib.hid (show TBox _ w.heap.size A1 A2 A3 n m q c1 c2 c3 X (.slice AE n ce) (.slice AF n cf) from Go.heap_alloc_new w (.cells #[.slice A1 n c1,.slice A2 m c2,.slice A3 q c3,.string X,.slice AE n ce,.slice AF n cf] 66))
 have HZ:=Lib.hid (World.size_alloc w (.cells #[.slice A1 n c1,.slice A2 m c2,.slice A3 q c3,.string X,.slice AE n ce,.slice AF n cf] 66))
 have HBX:=Lib.hid hbx
 have HR:=Lib.hid hR
 have HT:=Lib.hid hT
 have HW:=Lib.hid hw
 have HQ:=Lib.hid hR.n_eq
 have hcq:=hR.n_le
 obtain⟨L,hLL⟩:∃ L,L=wd.length:=⟨_,rfl⟩
 rw[←hLL] at hXs HBH HT hL
 have HLW:=Lib.hid hLL
 obtain⟨kb,hkb⟩:∃ kb,((L:Int)==k)=kb:=⟨_,rfl⟩
 have HKB:=Lib.hid (show decide ((wd.length:Int)=k)=kb by rw[←hLL,←hkb];by_cases e:(L:Int)=k <;> simp[e])
 clear hX hLL hR hT hbx HBH0 hw
 have HCT:Hid (∀ (w2:World),TBox w2 w.heap.size A1 A2 A3 n m q c1 c2 c3 X (.slice AE n ce) (.slice AF n cf)→w2.cell? ⟨w.heap.size,0,none⟩=some (.slice A1 n c1)∧w2.cell? ⟨w.heap.size,1,none⟩=some (.slice A2 m c2)∧w2.cell? ⟨w.heap.size,2,none⟩=some (.slice A3 q c3)∧w2.cell? ⟨w.heap.size,3,none⟩=some (.string X)∧w2.cell? ⟨w.heap.size,4,none⟩=some (.slice AE n ce)∧w2.cell? ⟨w.heap.size,5,none⟩=some (.slice AF n cf)):=fun w2 hk=>⟨by rw[cell_of_row _ _ _ _ _ _ hk];rfl,by rw[cell_of_row _ _ _ _ _ _ hk];rfl,by rw[cell_of_row _ _ _ _ _ _ hk];rfl,by rw[cell_of_row _ _ _ _ _ _ hk];rfl,by rw[cell_of_row _ _ _ _ _ _ hk];rfl,by rw[cell_of_row _ _ _ _ _ _ hk];rfl⟩
 obtain⟨t0,t1,t2,t3,t4,t5⟩:=HCT.out _ HK.out
 go_enter Tryz.func25,Tryz.ntmps25
 go_wp2_with fail
 generalize w.alloc (.cells #[.slice A1 n c1,.slice A2 m c2,.slice A3 q c3,.string X,.slice AE n ce,.slice AF n cf] 66)=w1 at *
 have HF1:=Lib.hid (show (0:Nat)=0 from rfl)
 obtain⟨F1,hF1⟩:∃ F1:Nat→Nat→Bool,F1=fun _ p=>decide (p=L)&&kb:=⟨_,rfl⟩
 have HF1E:=Lib.hid hF1
 clear HF1 hF1
 go_loopg [7,6] n (fun left v7 v6 wr=>∃ (i:Nat) (fs:List Nat),i≤n∧n - i≤left∧v7=.int .i64 i∧(∃ A c,v6=.slice A i c∧i≤c∧c≤maxLen)∧Hid (Sq wr (w.heap.size+1) i L v6 fs F1)∧Hid (Below (w.heap.size+1) w1 wr))
 case atStart=>exact⟨0,[],by omega,by omega,rfl,⟨_,_,rfl,by omega,by unfold maxLen;omega⟩,⟨rfl,World.ownsRow_nil _ _ _ _,fun a x hx=>by simp at hx,by simp⟩,Below.refl _ _⟩
 case round =>
  clear t0 t1 t2 t3 t4 t5
  obtain⟨i,fs,hi,hleft,rfl,⟨A6,c6,rfl,h61,h62⟩,HS,HB⟩:=hrel
  obtain⟨t0,t1,t2,t3,t4,t5⟩:=HCT.out wr ((HB.out.block w.heap.size (by omega)).trans HK.out)
  have HBS:=Lib.hid (show w.heap.size+1≤wr.heap.size by have:=HB.out.size;have:=HZ.out;omega)
  by_cases hib:i<n
  ·have hbs:=HBS.out
   have hmk:(Instr.makeSlice 60 (.int .i64 ((L:Int)+1)) (.int .i64 ((L:Int)+1))).run Tryz.prog wr=_:=bool_make (L+1) (by omega) wr
   have HXB:=Lib.hid (Go.heap_alloc_new wr (.cells (List.replicate (L+1) (Value.bool false)).toArray 4))
   rw[←bl_false] at hmk HXB
   have hba:Below wr.heap.size wr (wr.alloc (.cells (bcellsB (bl L fun _=>false)).toArray 4)):=(Below.refl wr.heap.size wr).alloc (Nat.le_refl _) _
   obtain⟨wa,hwa⟩:∃ wa,wa=wr.alloc (.cells (bcellsB (bl L fun _=>false)).toArray 4):=⟨_,rfl⟩
   rw[←hwa] at hmk HXB hba
   clear hwa
   have c9:wa.cell? ⟨wr.heap.size,L,none⟩=some (.bool false):=by
    rw[bool_row_get HXB.out (by rw[bl_len];omega),bl_at (Nat.le_refl _)]
   have f9:wa.frozen? ⟨wr.heap.size,L,none⟩=false:=by simp[World.frozen?,HXB.out]
   have HB5:=Lib.hid (show Below wr.heap.size wr (wa.setCell ⟨wr.heap.size,L,none⟩ (.bool kb)) from Below.setCell (p:=⟨wr.heap.size,L,none⟩) hba (Nat.le_refl _) _)
   have HX5:=Lib.hid (show BlkB (wa.setCell ⟨wr.heap.size,L,none⟩ (.bool kb)) wr.heap.size L (F1 i) by
    have:=bool_row_set HXB.out (k:=L) kb
    rw[bl_setb] at this
    rw[HF1E.out]
    exact this)
   go_upto_region 8 with fail
   generalize wa.setCell ⟨wr.heap.size,L,none⟩ (.bool kb)=w5 at *
   have HO5:=Lib.hid (own_below HS.out.own HB5.out)
   have hs5:=HB5.out.size
   clear hmk c9 f9 hba HXB
   go_wp2_with (at_builtin;refine wpList_app (m:=1) (n:=i) brow_app rfl rfl rfl rfl (HO5.out.alloc _) (Rd.row (B:=w5.heap.size+1) (Go.heap_alloc_new w5 _) (by omega)) rfl (fun u hu=>by simp at hu;subst hu;rfl) (by unfold maxLen;omega) (by omega) (by rw[World.size_alloc];omega) ?_)
   intro v' w' ho hg _ _
   have hb6:Below wr.heap.size wr (w5.alloc (.cells #[.slice (some ⟨wr.heap.size,0,none⟩) (L+1) (L+1)] 60)):=HB5.out.alloc hs5 _
   have HS2:=Lib.hid (HS.out.snoc (x:=wr.heap.size) hb6 ((heap_alloc_old _ _ (Array.getElem?_eq_some_iff.1 HX5.out).1).trans HX5.out) (Nat.le_refl _) hbs ho hg)
   have HB2:=Lib.hid (grown_below (HB.out.trans (hb6.mono hbs)) hg (HO5.out.alloc _) (Nat.le_refl _) (by rw[World.size_alloc];omega))
   obtain⟨A8,c8,rfl,h81,h82⟩:=own_form ho
   clear ho hg hb6 HX5
   go_wp2_with fail
   go_roundg (gk - 1)
   case measure=>omega
   case rel=>exact⟨i+1,fs++[wr.heap.size],by omega,by omega,by go_num,⟨_,_,rfl,h81,h82⟩,HS2.out,HB2.out⟩
  ·obtain rfl:n=i:=by omega
   obtain⟨b,x,rfl,e1,hx,hbx,hB,z1,z2,fz⟩:=HS.out.at_ (a:=0) (p:=L) (by omega) (Nat.le_refl _)
   have HS2:=Lib.hid (HS.out.set (p:=L) hx)
   have HB2:=Lib.hid (Below.setCell (p:=⟨x,L,none⟩) HB.out hbx (.bool true))
   obtain⟨bt,hbt⟩:∃ bt,bt=F1 0 L:=⟨_,rfl⟩
   rw[←hbt] at z2
   clear hbt hx hB hbx
   obtain⟨O0,hO0⟩:∃ O0,O0=folStart wd k n:=⟨_,rfl⟩
   have HS3:=Lib.hid (show Sq (wr.setCell ⟨x,L,none⟩ (.bool true)) (w.heap.size+1) n L (.slice (some ⟨b,0,none⟩) n c6) fs O0 from HS2.out.ext fun a ha p hp=>by
    rw[hO0,HF1E.out]
    unfold folStart putO
    rw[HKB.out,←HLW.out,show decide (a<n)=true by simpa using ha]
    by_cases e:p=L
    ·subst e;cases kb <;> simp
    ·simp[e])
   have HO0:=Lib.hid hO0
   clear hO0 HS2
   go_wp2_with fail
   generalize wr.setCell ⟨x,L,none⟩ (.bool true)=wS at *
   clear z1 z2 fz t0 t1 t2 t3 t4 t5 HS
   have HALL:=Lib.hid (fun w' (h:Below (w.heap.size+1) wS w')=>HBX.out.trans ((HB2.out.trans h).mono (by omega:w.heap.size≤w.heap.size+1)))
   have HT2:=Lib.hid (fun w' (h:Below (w.heap.size+1) wS w')=>HCT.out w' ((h.block w.heap.size (by omega)).trans ((HB2.out.block w.heap.size (by omega)).trans HK.out)))
   have HSS:=Lib.hid (show w.heap.size+1≤wS.heap.size by have:=HB2.out.size;have:=HZ.out;omega)
   have HRT:=Lib.hid (show ∀ Of,RoundsTo (passO wd T k rs) O0 (some Of)→FolTo wd T k rs n Of from fun Of h=>by
    unfold FolTo
    rw[←HO0.out]
    exact h)
   have HRM:=Lib.hid (show ∀ (O O':Nat→Nat→Bool),passO wd T k rs O=some (O',true)→roomF n L O'<roomF n L O from fun O O' h=>by
    rw[HLW.out]
    exact passO_room (fun r hr s hs=>((HW.out r hr).2.2 s hs).1) h)
   have HSTR:=Lib.hid (show ∀ (o:(Nat→Nat→Bool)×Bool) (r:Int×List Int) (s:Nat),folS wd T k r o s=if r.2.getD s 0<0 then o else (List.range (L+1)).foldl (folP wd T k (r.2.getD s 0).toNat r.1 (r.2.drop (s+1))) o from fun o r s=>by rw[HLW.out];rfl)
   go_loopg [9] (roomF n L O0+1) (fun left v9 wr=>∃ (O:Nat→Nat→Bool) (mb:Bool),v9=.bool mb∧Hid (mb=true→roomF n L O+1≤left)∧Hid (mb=true→∀ Of,RoundsTo (passO wd T k rs) O (some Of)→FolTo wd T k rs n Of)∧Hid (mb=false→FolTo wd T k rs n O)∧Hid (Sq wr (w.heap.size+1) n L (.slice (some ⟨b,0,none⟩) n c6) fs O)∧Hid (Below (w.heap.size+1) wS wr))
   case atStart=>exact⟨O0,true,rfl,fun _=>Nat.le_refl _,fun _=>HRT.out,(fun h=>absurd h (by decide):true=false→FolTo wd T k rs n O0),HS3.out,Below.refl _ _⟩
   case round =>
    clear HS3 HRT
    obtain⟨O,mb,rfl,HRO,HRN,HRD,HS,HBL⟩:=hrel
    cases mb with
    |false =>
     have HTT:=Lib.hid (HRD.out rfl)
     have HFIN:=Lib.hid (show FollowsTo n wd k T rs w (.returned (.slice (some ⟨b,0,none⟩) n c6)) wr from ⟨_,_,O,rfl,HTT.out,by have:=HS.out.sl (by unfold maxLen;omega);rwa [HLW.out] at this,fun w'' hk=>(by have:=(HS.out.high2 (w':=w'') (fun b hb hl=>hk b (by omega) hl)).sl (by unfold maxLen;omega);rwa [HLW.out] at this),HALL.out wr HBL.out⟩)
     clear HRO HRN HRD
     go_wp2_with fail
     go_ret
     exact HFIN.out
    |true =>
    have HRO2:=Lib.hid (HRO.out rfl)
    have HRN2:=Lib.hid (HRN.out rfl)
    clear HRO HRN HRD
    obtain⟨gas1,hgas1⟩:∃ gas1,gas1=gk:=⟨_,rfl⟩
    rw[←hgas1] at HRO2
    have HGK1:=Lib.hid hgas1
    clear hgas1
    generalize wr=wA at *
    go_wp2_with fail
    go_loopg [10,9] q (fun lf2 v10 v9 wt=>∃ (i:Nat) (O1:Nat→Nat→Bool) (m1:Bool),i≤q∧q - i≤lf2∧v10=.int .i64 i∧v9=.bool m1∧Hid (rs.foldl (folR wd T k) (O,false)=(rs.drop i).foldl (folR wd T k) (O1,m1))∧Hid (Sq wt (w.heap.size+1) n L (.slice (some ⟨b,0,none⟩) n c6) fs O1)∧Hid (Below (w.heap.size+1) wS wt))
    case atStart=>exact⟨0,O,false,by omega,by omega,rfl,rfl,rfl,HS.out,HBL.out⟩
    case round =>
     clear HS HBL
     obtain⟨i,O1,m1,hi,hlf2,rfl,rfl,HFD,HS,HBL⟩:=hrel
     obtain⟨t0,t1,t2,t3,t4,t5⟩:=HT2.out wr HBL.out
     by_cases hiq:i<q
     ·have hil:i<rs.length:=by rw[←HQ.out];exact hiq
      have HFD2:=Lib.hid (show rs.foldl (folR wd T k) (O,false)=(rs.drop (i+1)).foldl (folR wd T k) (folR wd T k (O1,m1) rs[i]) by rw[HFD.out,List.drop_eq_getElem_cons hil,List.foldl_cons])
      obtain⟨b5,o5,cs,rfl,-,hbl,hrep,hcell⟩:=HR.out.get (k:=i) hil (by decide)
      obtain⟨v,rfl,hsl,hz1,hz2⟩:=eRule_open hrep
      obtain⟨A5,c5,rfl,hl5,hl6⟩:=hsl.form
      have hl7:c5≤9223372036854775807:=by simpa[maxLen] using hl6
      have hc0:=hcell 0 _ rfl
      have hc1:=hcell 1 _ rfl
      simp only[show eRule.size=2 from rfl,Nat.add_zero,←Nat.add_assoc] at hc0 hc1
      obtain⟨f1,f2,f3⟩:=HW.out rs[i] (List.getElem_mem hil)
      obtain⟨r,hr⟩:∃ r,r=rs[i]:=⟨_,rfl⟩
      rw[←hr] at hc0 hc1 hsl hl5 f1 f2 f3 HFD2
      obtain⟨a,right⟩:=r
      simp only at hc0 hc1 hsl hl5 f1 f2 f3
      obtain⟨lf,rfl⟩:∃ lf:Nat,a=(lf:Int):=⟨a.toNat,by omega⟩
      have hln:lf<n:=by omega
      have HC1:=Lib.hid (show ∀ w',Below (w.heap.size+1) wS w'→SlR eInt w' w'.heap.size (.slice A5 right.length c5) right from fun w' h=>hsl.fut (HALL.out w' h) (Nat.le_refl _) (HALL.out w' h).size)
      have HF3:=Lib.hid f3
      have hc0':=((HALL.out wr HBL.out).cell hbl).trans hc0
      have hc1':=((HALL.out wr HBL.out).cell hbl).trans hc1
      have HSTR2:=Lib.hid (show folR wd T k (O1,m1) ((lf:Int),right)=(List.range right.length).foldl (folS wd T k ((lf:Int),right)) (O1,m1) from rfl)
      have HSTS:=Lib.hid (fun o s=>HSTR.out o ((lf:Int),right) s)
      obtain⟨np,hnp⟩:∃ np,np=right.length:=⟨_,rfl⟩
      rw[←hnp] at HC1 hl5 hc1' HSTR2
      have HNP:=Lib.hid hnp
      clear hcell hrep hr hsl hil HFD hz1 hz2 f1 f2 f3 hc0 hc1 hbl hnp
      obtain⟨gas2,hgas2⟩:∃ gas2,gas2=gk:=⟨_,rfl⟩
      rw[←hgas2] at hlf2
      have HGK2:=Lib.hid hgas2
      clear hgas2
      generalize wr=wB at *
      go_wp2_with fail
      have hbB:=(Below.refl wB.heap.size wB).alloc (Nat.le_refl _) (.cells #[.int .i64 lf,.slice A5 np c5] 55)
      have HSB:=Lib.hid (Nat.le_trans HSS.out HBL.out.size)
      have HRX:=Lib.hid (show RBox _ wB.heap.size lf A5 np c5 from Go.heap_alloc_new wB (.cells #[.int .i64 lf,.slice A5 np c5] 55))
      have HSA:=Lib.hid (HS.out.below hbB)
      have HBA:=Lib.hid (HBL.out.trans (hbB.mono HSB.out))
      generalize wB.alloc (.cells #[.int .i64 lf,.slice A5 np c5] 55)=w6 at *
      have HCR:Hid (∀ w':World,RBox w' wB.heap.size lf A5 np c5→w'.cell? ⟨wB.heap.size,0,none⟩=some (.int .i64 lf)∧w'.cell? ⟨wB.heap.size,1,none⟩=some (.slice A5 np c5)):=fun w' hk=>⟨by rw[cell_of_row _ _ _ _ _ _ hk];rfl,by rw[cell_of_row _ _ _ _ _ _ hk];rfl⟩
      clear hbB t0 t1 t2 t3 t4 t5 hc0' hc1'
      go_loopg [12,9] np (fun lf3 v12 v9 wt=>∃ (s:Nat) (O2:Nat→Nat→Bool) (m2:Bool),s≤np∧np - s≤lf3∧v12=.int .i64 s∧v9=.bool m2∧Hid (folR wd T k (O1,m1) ((lf:Int),right)=((List.range np).drop s).foldl (folS wd T k ((lf:Int),right)) (O2,m2))∧Hid (Sq wt (w.heap.size+1) n L (.slice (some ⟨b,0,none⟩) n c6) fs O2)∧Hid (RBox wt wB.heap.size lf A5 np c5)∧Hid (Below (w.heap.size+1) wS wt))
      case atStart=>exact⟨0,O1,m1,by omega,by omega,rfl,rfl,HSTR2.out,HSA.out,HRX.out,HBA.out⟩
      case round =>
       clear HSA HRX HBA HS HBL
       obtain⟨s,O2,m2,hs,hlf3,rfl,rfl,HSR,HS,HRX,HBL⟩:=hrel
       obtain⟨r0,r1⟩:=HCR.out wr HRX.out
       by_cases hsp:s<np
       ·have hsl:s<right.length:=by rw[←HNP.out];exact hsp
        obtain⟨b4,o4,cs4,rfl,-,-,hrep4,hcell4⟩:=(HC1.out wr HBL.out).get (k:=s) hsl (by decide)
        obtain⟨rfl,hx1,hx2⟩:=hrep4
        have hc4:=hcell4 0 _ rfl
        simp only[show eInt.size=1 from rfl,Nat.mul_one,Nat.add_zero] at hc4
        have HDR:=Lib.hid (show folR wd T k (O1,m1) ((lf:Int),right)=((List.range np).drop (s+1)).foldl (folS wd T k ((lf:Int),right)) (folS wd T k ((lf:Int),right) (O2,m2) s) by rw[HSR.out,range_drop hsp,List.foldl_cons])
        have hgd:right.getD s 0=right[s]:=by rw[List.getD_eq_getElem?_getD,List.getElem?_eq_getElem hsl];rfl
        have HFS:=Lib.hid (HSTS.out (O2,m2) s)
        simp only[hgd] at HFS
        obtain⟨hsn,hs2⟩:=HF3.out _ (List.getElem_mem hsl)
        obtain⟨z,hz⟩:∃ z,z=right[s]:=⟨_,rfl⟩
        rw[←hz] at hc4 HFS hsn hs2 hx1 hx2
        clear hcell4 hz hsl hgd HSR
        obtain⟨gas3,hgas3⟩:∃ gas3,gas3=gk:=⟨_,rfl⟩
        rw[←hgas3] at hlf3
        have HGK3:=Lib.hid hgas3
        clear hgas3
        generalize wr=wC at *
        by_cases hz0:z<0
        ·have hdz:decide (z<0)=true:=by simpa using hz0
         have HD2:=Lib.hid (show folR wd T k (O1,m1) ((lf:Int),right)=((List.range np).drop (s+1)).foldl (folS wd T k ((lf:Int),right)) (O2,m2) by rw[HDR.out,HFS.out,if_pos hz0])
         clear hz0
         go_wp2_with fail
         go_roundg (gas3 - 1)
         case measure=>have:=HGK3.out;omega
         case rel=>exact⟨s+1,O2,m2,by omega,by omega,by go_num,rfl,HD2.out,HS.out,HRX.out,HBL.out⟩
        ·have hdz:decide (z<0)=false:=by simpa using hz0
         obtain⟨a,rfl⟩:∃ a:Nat,z=(a:Int):=⟨z.toNat,by omega⟩
         have han:a<n:=by omega
         have HFS2:=Lib.hid (show folS wd T k ((lf:Int),right) (O2,m2) s=(List.range (L+1)).foldl (folP wd T k a (lf:Int) (right.drop (s+1))) (O2,m2) by rw[HFS.out,if_neg hz0,Int.toNat_natCast])
         clear HFS hz0
         go_wp2_with fail
         go_loopg [14,9] (L+1) (fun lf4 v14 v9 wt=>∃ (p:Nat) (O3:Nat→Nat→Bool) (m3:Bool),p≤L+1∧L+1 - p≤lf4∧v14=.int .i64 p∧v9=.bool m3∧Hid (folS wd T k ((lf:Int),right) (O2,m2) s=((List.range (L+1)).drop p).foldl (folP wd T k a (lf:Int) (right.drop (s+1))) (O3,m3))∧Hid (Sq wt (w.heap.size+1) n L (.slice (some ⟨b,0,none⟩) n c6) fs O3)∧Hid (RBox wt wB.heap.size lf (some ⟨b4,o4,none⟩) np c5)∧Hid (Below (w.heap.size+1) wS wt))
         case atStart=>exact⟨0,O2,m2,by omega,by omega,rfl,rfl,HFS2.out,HS.out,HRX.out,HBL.out⟩
         case round =>
          clear HS HRX HBL r0 r1 hc4
          obtain⟨p,O3,m3,hp,hlf4,rfl,rfl,HPR,HS,HRX,HBL⟩:=hrel
          obtain⟨r0,r1⟩:=HCR.out wr HRX.out
          obtain⟨t0,t1,t2,t3,t4,t5⟩:=HT2.out wr HBL.out
          by_cases hpL:p<L+1
          ·have hdp:decide ((p:Int)≤(L:Int))=true:=by rw[decide_eq_true_eq];omega
           have HDP:=Lib.hid (show folS wd T k ((lf:Int),right) (O2,m2) s=((List.range (L+1)).drop (p+1)).foldl (folP wd T k a (lf:Int) (right.drop (s+1))) (folP wd T k a (lf:Int) (right.drop (s+1)) (O3,m3) p) by rw[HPR.out,range_drop hpL,List.foldl_cons])
           have HFP:=Lib.hid (show folP wd T k a (lf:Int) (right.drop (s+1)) (O3,m3) p=if O3 a p=false∧behindL wd T k (right.drop (s+1)) (O3 lf) p=true then (putO O3 a p,true) else (O3,m3) by
            unfold folP
            simp only[Int.toNat_natCast])
           have hbs:w.heap.size+1≤wr.heap.size:=Nat.le_trans HSS.out HBL.out.size
           obtain⟨bx,x,hbx0,e2,hx,hbx,hB,z1,z2,fz⟩:=HS.out.at_ han (by omega:p≤L)
           injection hbx0 with hbx0
           injection hbx0 with hbx0
           subst hbx0
           obtain⟨by_,y,hby0,-,hy,hby,hBy,y1,-,-⟩:=HS.out.at_ hln (by omega:p≤L)
           injection hby0 with hby0
           injection hby0 with hby0
           subst hby0
           have hcall:=fun w' (hb:Below wr.heap.size wr w')=>HBH.out w' (right.drop (s+1)) (O3 lf) (if c5=s+1 then some ⟨b4,o4,none⟩ else (some ⟨b4,o4,none⟩:Option Addr).map (·.add (s+1))) (some ⟨y,0,none⟩) (right.drop (s+1)).length (c5 - (s+1)) (L+1) p
            (HT.out.fut (HALL.out w' (HBL.out.trans (hb.mono hbs))) (Nat.le_refl _) (HALL.out w' (HBL.out.trans (hb.mono hbs))).size) ((HC1.out w' (HBL.out.trans (hb.mono hbs))).dropI (s+1) (by omega))
            (by
             have h1:BlkB w' y L (O3 lf):=(hb.block y (Array.getElem?_eq_some_iff.1 hBy).1).trans hBy
             exact rd_bools h1 (bl_len L (O3 lf)).symm (by unfold maxLen;omega))
            (fun z hz=>HF3.out z (List.mem_of_mem_drop hz)) (by omega)
           rw[List.length_drop,←HNP.out] at hcall
           have HCALL:=Lib.hid hcall
           obtain⟨bf,hbf⟩:∃ bf,bf=O3 a p:=⟨_,rfl⟩
           rw[←hbf] at z2 HFP
           obtain⟨bb,hbb⟩:∃ bb,bb=behindL wd T k (right.drop (s+1)) (O3 lf) p:=⟨_,rfl⟩
           rw[←hbb] at HFP HCALL
           clear hcall hbf hbb hy hby hBy HPR
           cases bf with
           |true =>
            have HD2:=Lib.hid (show folS wd T k ((lf:Int),right) (O2,m2) s=((List.range (L+1)).drop (p+1)).foldl (folP wd T k a (lf:Int) (right.drop (s+1))) (O3,m3) by rw[HDP.out,HFP.out,if_neg (by simp)])
            go_wp2_with fail
            refine Text.wp_grow [22] [3,6,9,12,18,20] [] (by kernel_rfl) (by kernel_rfl) ?_
            refine Text.wpS_seg 22 _ _ _ _ (by decide) (fun Q' hQ'=>?_)
            simp only[List.take_succ_cons,List.take_zero]
            go_wp2_with fail
            try simp only[List.drop_succ_cons,List.drop_zero]
            refine Text.wpS_one (fun Q' hQ'=>?_)
            go_wp2_with fail
            refine⟨Below.refl _ _,?_⟩
            refine Text.wpS_seg 1 _ _ _ _ (by decide) (fun Q' hQ'=>?_)
            simp only[List.take_succ_cons,List.take_zero]
            go_wp2_with fail
            refine⟨by rfl,?_,?_⟩
            ·exact⟨fun _=>⟨_,_,rfl,z1⟩,fun _=>⟨_,_,rfl,z2⟩,Text.no_want rfl,Text.no_want rfl,Text.no_want rfl,Text.no_want rfl,trivial⟩
            have HS6:=Lib.hid (HS.out.below (Below.refl wr.heap.size wr).drew)
            go_wp2_with fail
            go_roundg (gk - 1)
            case measure=>omega
            case rel=>exact⟨p+1,O3,m3,by omega,by omega,by go_num,rfl,HD2.out,HS6.out,HRX.out,HBL.out.drew⟩
           |false =>
            have HXS:=Lib.hid hx
            have HBXS:=Lib.hid hbx
            clear hx hB hbx
            by_cases hcp:c5=s+1
            ·have hnp1:np - (s+1)=0:=by omega
             have hcz:c5 - (s+1)=0:=by omega
             rw[hnp1,hcz,if_pos hcp] at HCALL
             clear hnp1 hcz
             subst hcp
             go_wp2_with fail
             refine Text.wp_grow [22] [3,6,9,12,18,20] [] (by kernel_rfl) (by kernel_rfl) ?_
             refine Text.wpS_seg 22 _ _ _ _ (by decide) (fun Q' hQ'=>?_)
             simp only[List.take_succ_cons,List.take_zero]
             go_wp2_with fail
             try simp only[List.drop_succ_cons,List.drop_zero]
             refine Text.wpS_one (fun Q' hQ'=>?_)
             go_wp2_with fail
             refine (HCALL.out _ (Below.refl wr.heap.size wr).drew).mono ?_
             rintro e w8 ⟨rfl,hb8⟩
             have hb8':Below wr.heap.size wr w8:=(Below.refl wr.heap.size wr).drew.trans hb8
             have HS8:=Lib.hid (HS.out.below hb8')
             have HRX8:=Lib.hid ((hb8'.block _ (Array.getElem?_eq_some_iff.1 HRX.out).1).trans HRX.out)
             have HBL8:=Lib.hid (HBL.out.trans (hb8'.mono hbs))
             have hBx8:=(HS8.out.blk a x HXS.out).2
             go_wp2_with fail
             refine⟨hb8,?_⟩
             refine Text.wpS_seg 1 _ _ _ _ (by decide) (fun Q' hQ'=>?_)
             simp only[List.take_succ_cons,List.take_zero]
             go_wp2_with fail
             refine⟨by rfl,?_,?_⟩
             ·exact⟨fun _=>⟨_,_,rfl,z1⟩,fun _=>⟨_,_,rfl,z2⟩,fun _=>⟨_,_,rfl,t0⟩,fun _=>⟨_,_,rfl,r1⟩,fun _=>⟨_,_,rfl,r0⟩,fun _=>⟨_,_,rfl,y1⟩,trivial⟩
             have z1':=(hb8'.cell (World.block_lt_of_cell? wr _ z1)).trans z1
             have z2':=(hb8'.cell (World.block_lt_of_cell? wr _ z2)).trans z2
             have fz':w8.frozen? ⟨x,p,none⟩=false:=by simp[World.frozen?,hBx8]
             have hrx9:=(Below.heap_setCell w8 ⟨x,p,none⟩ (.bool true) wB.heap.size (type_ne HRX8.out hBx8 (by decide))).trans HRX8.out
             have HRX9:=Lib.hid hrx9
             clear hb8 hb8' z1 z2 fz y1 r0 r1 t0 t1 t2 t3 t4 t5 hrx9
             cases bb with
             |true =>
              have HD2:=Lib.hid (show folS wd T k ((lf:Int),right) (O2,m2) s=((List.range (L+1)).drop (p+1)).foldl (folP wd T k a (lf:Int) (right.drop (s+1))) (putO O3 a p,true) by rw[HDP.out,HFP.out,if_pos (by simp)])
              have HS9:=Lib.hid (HS8.out.set (p:=p) HXS.out)
              have HBL9:=Lib.hid (Below.setCell (p:=⟨x,p,none⟩) HBL8.out HBXS.out (.bool true))
              clear hBx8
              go_wp2_with fail
              go_roundg (gk - 1)
              case measure=>omega
              case rel=>exact⟨p+1,putO O3 a p,true,by omega,by omega,by go_num,rfl,HD2.out,HS9.out,HRX9.out,HBL9.out⟩
             |false =>
              have HD2:=Lib.hid (show folS wd T k ((lf:Int),right) (O2,m2) s=((List.range (L+1)).drop (p+1)).foldl (folP wd T k a (lf:Int) (right.drop (s+1))) (O3,m3) by rw[HDP.out,HFP.out,if_neg (by simp)])
              clear hBx8
              go_wp2_with fail
              go_roundg (gk - 1)
              case measure=>omega
              case rel=>exact⟨p+1,O3,m3,by omega,by omega,by go_num,rfl,HD2.out,HS8.out,HRX8.out,HBL8.out⟩
            ·rw[if_neg hcp] at HCALL
             go_wp2_with fail
             refine Text.wp_grow [22] [3,6,9,12,18,20] [] (by kernel_rfl) (by kernel_rfl) ?_
             refine Text.wpS_seg 22 _ _ _ _ (by decide) (fun Q' hQ'=>?_)
             simp only[List.take_succ_cons,List.take_zero]
             go_wp2_with fail
             try simp only[List.drop_succ_cons,List.drop_zero]
             refine Text.wpS_one (fun Q' hQ'=>?_)
             go_wp2_with fail
             refine (HCALL.out _ (Below.refl wr.heap.size wr).drew).mono ?_
             rintro e w8 ⟨rfl,hb8⟩
             have hb8':Below wr.heap.size wr w8:=(Below.refl wr.heap.size wr).drew.trans hb8
             have HS8:=Lib.hid (HS.out.below hb8')
             have HRX8:=Lib.hid ((hb8'.block _ (Array.getElem?_eq_some_iff.1 HRX.out).1).trans HRX.out)
             have HBL8:=Lib.hid (HBL.out.trans (hb8'.mono hbs))
             have hBx8:=(HS8.out.blk a x HXS.out).2
             go_wp2_with fail
             refine⟨hb8,?_⟩
             refine Text.wpS_seg 1 _ _ _ _ (by decide) (fun Q' hQ'=>?_)
             simp only[List.take_succ_cons,List.take_zero]
             go_wp2_with fail
             refine⟨by rfl,?_,?_⟩
             ·exact⟨fun _=>⟨_,_,rfl,z1⟩,fun _=>⟨_,_,rfl,z2⟩,fun _=>⟨_,_,rfl,t0⟩,fun _=>⟨_,_,rfl,r1⟩,fun _=>⟨_,_,rfl,r0⟩,fun _=>⟨_,_,rfl,y1⟩,trivial⟩
             have z1':=(hb8'.cell (World.block_lt_of_cell? wr _ z1)).trans z1
             have z2':=(hb8'.cell (World.block_lt_of_cell? wr _ z2)).trans z2
             have fz':w8.frozen? ⟨x,p,none⟩=false:=by simp[World.frozen?,hBx8]
             have hrx9:=(Below.heap_setCell w8 ⟨x,p,none⟩ (.bool true) wB.heap.size (type_ne HRX8.out hBx8 (by decide))).trans HRX8.out
             have HRX9:=Lib.hid hrx9
             clear hb8 hb8' z1 z2 fz y1 r0 r1 t0 t1 t2 t3 t4 t5 hrx9
             cases bb with
             |true =>
              have HD2:=Lib.hid (show folS wd T k ((lf:Int),right) (O2,m2) s=((List.range (L+1)).drop (p+1)).foldl (folP wd T k a (lf:Int) (right.drop (s+1))) (putO O3 a p,true) by rw[HDP.out,HFP.out,if_pos (by simp)])
              have HS9:=Lib.hid (HS8.out.set (p:=p) HXS.out)
              have HBL9:=Lib.hid (Below.setCell (p:=⟨x,p,none⟩) HBL8.out HBXS.out (.bool true))
              clear hBx8
              go_wp2_with fail
              go_roundg (gk - 1)
              case measure=>omega
              case rel=>exact⟨p+1,putO O3 a p,true,by omega,by omega,by go_num,rfl,HD2.out,HS9.out,HRX9.out,HBL9.out⟩
             |false =>
              have HD2:=Lib.hid (show folS wd T k ((lf:Int),right) (O2,m2) s=((List.range (L+1)).drop (p+1)).foldl (folP wd T k a (lf:Int) (right.drop (s+1))) (O3,m3) by rw[HDP.out,HFP.out,if_neg (by simp)])
              clear hBx8
              go_wp2_with fail
              go_roundg (gk - 1)
              case measure=>omega
              case rel=>exact⟨p+1,O3,m3,by omega,by omega,by go_num,rfl,HD2.out,HS8.out,HRX8.out,HBL8.out⟩
          ·have hdp:decide ((p:Int)≤(L:Int))=false:=by rw[decide_eq_false_iff_not];omega
           have HD2:=Lib.hid (show folR wd T k (O1,m1) ((lf:Int),right)=((List.range np).drop (s+1)).foldl (folS wd T k ((lf:Int),right)) (O3,m3) by rw[HDR.out,HPR.out,show (List.range (L+1)).drop p=[] from List.drop_eq_nil_of_le (by simp;omega)];rfl)
           go_wp2_with fail
           go_roundg (gas3 - 1)
           case measure=>have:=HGK3.out;omega
           case rel=>exact⟨s+1,O3,m3,by omega,by omega,by go_num,rfl,HD2.out,HS.out,HRX.out,HBL.out⟩
       ·have HFD3:=Lib.hid (show rs.foldl (folR wd T k) (O,false)=(rs.drop (i+1)).foldl (folR wd T k) (O2,m2) by rw[HFD2.out,HSR.out,show (List.range np).drop s=[] from List.drop_eq_nil_of_le (by simp;omega)];rfl)
        go_wp2_with fail
        go_roundg (gas2 - 1)
        case measure=>have:=HGK2.out;omega
        case rel=>exact⟨i+1,O2,m2,by omega,by omega,by go_num,rfl,HFD3.out,HS.out,HBL.out⟩
     ·have HFIN:=Lib.hid (show passO wd T k rs O=some (O1,m1) by
       unfold passO
       rw[HFD.out,List.drop_eq_nil_of_le (by rw[←HQ.out];omega)]
       rfl)
      have HM1:=Lib.hid (show m1=true→roomF n L O1+1≤gas1 - 1 from fun h=>by
       have h1:=HFIN.out
       rw[h] at h1
       have:=HRM.out O O1 h1
       have:=HRO2.out
       omega)
      have HM2:=Lib.hid (show m1=true→∀ Of,RoundsTo (passO wd T k rs) O1 (some Of)→FolTo wd T k rs n Of from fun h Of hr=>by
       have h1:=HFIN.out
       rw[h] at h1
       exact HRN2.out Of (.more h1 hr))
      have HM3:=Lib.hid (show m1=false→FolTo wd T k rs n O1 from fun h=>by
       have h1:=HFIN.out
       rw[h] at h1
       exact HRN2.out O1 (.done h1))
      go_wp2_with fail
      go_roundg (gas1 - 1)
      case measure=>have:=HGK1.out;have:=HRO2.out;omega
      case rel=>exact⟨O1,m1,rfl,HM1.out,HM2.out,HM3.out,HS.out,HBL.out⟩
end Go.Proofs.YtfpihflepeiagaaGreatDoor
