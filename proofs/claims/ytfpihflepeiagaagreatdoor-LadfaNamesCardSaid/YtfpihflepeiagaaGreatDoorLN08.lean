/- Texts of this proof joined: Wd, Well1, Well2, Well3, Well4. -/
import Derived.Test.YtfpihflepeiagaaGreatDoorLN01
import Derived.Test.YtfpihflepeiagaaGreatDoorLN07
import Derived.Test.YtfpihflepeiagaaGreatDoorLN05
import Derived.Test.YtfpihflepeiagaaGreatDoorLN06
import Derived.Test.YtfpihflepeiagaaGreatDoorLN03
import Derived.Laws.CopyOwn
import Derived.Laws.CopyRow
import Derived.Deep.OwnRows
import Derived.Test.YtfpihflepeiagaaGreatDoorShelf
import Derived.Maps.AppendAt
import Derived.OwnWalk
import Derived.Laws.EntriesVeiled
namespace Go.Proofs.YtfpihflepeiagaaGreatDoor
open Go.RowKit

def eW:Elt Wd:=eMap eStr fun l=>⟨l.toArray⟩
abbrev wv (x:Wd):Value:=.string ⟨x.toArray⟩
theorem eW_open {w:World} {B:Nat} {cs:List Value} {x:Wd} (h:eW.rep w B cs x):cs=[wv x]∧x.length≤maxLen:=by
 obtain⟨h1,h2⟩:=h
 exact⟨h1,by simpa[ByteArray.size] using h2⟩
theorem eW_mk {w:World} {B:Nat} {x:Wd} (h:x.length≤maxLen):eW.rep w B [wv x] x:=⟨rfl,by simpa[ByteArray.size] using h⟩
def Fits (xs:List Wd):Prop:=∀ x∈xs,x.length≤maxLen
def wcells (xs:List Wd):List Value:=xs.map wv
theorem flat_wv:∀ (xs:List Wd),(xs.map fun x=>[wv x]).flatten=wcells xs
 |[]=>rfl
 |x :: l=>by rw[List.map_cons,List.flatten_cons,flat_wv l];rfl
theorem wcells_len (xs:List Wd):(wcells xs).length=xs.length:=by simp[wcells]
theorem wcells_one (xs:List Wd):∀ u∈wcells xs,u.oneCell'=true:=by
 intro u hu
 obtain⟨x,_,rfl⟩:=List.mem_map.1 hu
 rfl
theorem wcells_get {xs:List Wd} {k:Nat} (h:k<xs.length):(wcells xs)[k]? = some (wv xs[k]):=by simp[wcells,h]
section
variable {w w':World} {B:Nat} {v:Value} {xs:List Wd}
theorem SlR.fits (h:SlR eW w B v xs):Fits xs:=by
 obtain⟨A,c,css,e,h1,h2,h3,h4,h5⟩:=h
 intro x hx
 obtain⟨i,hi,rfl⟩:=List.getElem_of_mem hx
 exact (eW_open (h5 i _ _ (List.getElem?_eq_getElem (by omega)) (List.getElem?_eq_getElem hi))).2
theorem slW_of {A:Option Addr} {c:Nat} (hf:Fits xs) (hr:Rd w B A (wcells xs)) (h1:xs.length≤c) (h2:c≤maxLen):SlR eW w B (.slice A xs.length c) xs:=by
 refine⟨A,c,xs.map fun x=>[wv x],rfl,h1,h2,by simp,?_,fun i cs x hc hx=>?_⟩
 ·rw[flat_wv]
  exact hr
 ·rw[List.getElem?_map,hx] at hc
  injection hc with hc
  subst hc
  exact eW_mk (hf x (List.mem_of_getElem? hx))
theorem SlR.rdW {A:Option Addr} {n c:Nat} (h:SlR eW w B (.slice A n c) xs):Rd w B A (wcells xs):=by
 obtain⟨A,c,css,e,h1,h2,h3,h4,h5⟩:=h
 injection e with e1 e2 e3
 subst e1
 have:css.flatten=wcells xs:=by
  have e:css=xs.map fun x=>[wv x]:=by
   apply List.ext_getElem?
   intro i
   rw[List.getElem?_map]
   by_cases hi:i<xs.length
   ·rw[List.getElem?_eq_getElem (by omega),List.getElem?_eq_getElem hi,Option.map_some]
    rw[(eW_open (h5 i _ _ (List.getElem?_eq_getElem (by omega)) (List.getElem?_eq_getElem hi))).1]
   ·rw[List.getElem?_eq_none (by omega),List.getElem?_eq_none (by omega)];rfl
  rw[e,flat_wv]
 rw[←this]
 exact h4
theorem SlR.wd {A:Option Addr} {n c:Nat} (h:SlR eW w B (.slice A n c) xs) {k:Nat} (hk:k<xs.length):∃ b off,A=some ⟨b,off,none⟩∧n≤c∧b<B∧w.cell? ⟨b,off+k,none⟩=some (wv xs[k]):=by
 obtain⟨b,off,cs,e,h1,h2,h3,h4⟩:=h.get hk (by decide)
 obtain⟨rfl,_⟩:=eW_open h3
 have:=h4 0 _ rfl
 simp only[show eW.size=1 from rfl,Nat.mul_one,Nat.add_zero] at this
 exact⟨b,off,e,h1,h2,this⟩
theorem slW_own {base:Nat} {t:TypeId} (hf:Fits xs) (h:w.ownsRow base t 1 v xs.length (wcells xs)):SlR eW w w.heap.size v xs:=by
 obtain⟨A,c,rfl,h1,h2⟩:=own_form h
 exact slW_of hf (Rd.of_own h) h1 h2
end
theorem fits_app {a b:List Wd} (ha:Fits a) (hb:Fits b):Fits (a++b):=fun x hx=>(List.mem_append.1 hx).elim (ha x) (hb x)
theorem wv_app (x y:Wd):(⟨x.toArray⟩:ByteArray)++⟨y.toArray⟩=⟨(x++y).toArray⟩:=by
 apply ByteArray.ext
 simp
theorem wv_size (x:Wd):(⟨x.toArray⟩:ByteArray).size=x.length:=by simp[ByteArray.size]
theorem wv_take (x:Wd) (n:Nat):(⟨x.toArray⟩:ByteArray).extract 0 n=⟨(x.take n).toArray⟩:=by
 apply ByteArray.ext
 simp
theorem wv_eq (x y:Wd):((⟨x.toArray⟩:ByteArray)==⟨y.toArray⟩)=decide (x=y):=by
 rw[bytes_beq]
 rw[decide_eq_decide]
 constructor
 ·intro h;injection h with h;simpa using h.symm
 ·rintro rfl;rfl
theorem cell0 {w:World} {S:Nat} {v:Value} {t:TypeId} (h:w.heap[S]? = some (.cells #[v] t (0,0))):w.cell? ⟨S,0,none⟩=some v:=by rw[cell_of_row w S 0 _ _ _ h];rfl
end Go.Proofs.YtfpihflepeiagaaGreatDoor
namespace Go.Proofs.YtfpihflepeiagaaGreatDoor
open Go.RowKit

theorem made_rep (z:Value) (n:Nat):madeCells #[z] n=(List.replicate n z).toArray:=by
 apply Array.ext
 ·simp[madeCells]
 ·intro i h1 h2
  simp[madeCells,Nat.mod_one]
theorem int_make (n:Nat) (hn:n≤1048576) (w:World):(Instr.makeSlice 39 (.int .i64 (n:Int)) (.int .i64 (n:Int))).run Tryz.prog w=.ok (.slice (some ⟨w.heap.size,0,none⟩) n n) (w.alloc (.cells (List.replicate n (Value.int .i64 0)).toArray 3)):=by
 rw[←made_rep]
 exact run_make_row' 39 3 (.int .i64 0) 8 Tryz.underlying39 (by kernel_rfl) rfl .i64 .i64 n (by omega) (by omega) w
theorem bool_make (n:Nat) (hn:n≤1048576) (w:World):(Instr.makeSlice 60 (.int .i64 (n:Int)) (.int .i64 (n:Int))).run Tryz.prog w=.ok (.slice (some ⟨w.heap.size,0,none⟩) n n) (w.alloc (.cells (List.replicate n (Value.bool false)).toArray 4)):=by
 rw[←made_rep]
 exact run_make_row' 60 4 (.bool false) 1 Tryz.underlying60 (by kernel_rfl) rfl .i64 .i64 n (by omega) (by omega) w
theorem strs_make (n:Nat) (hn:n≤1048576) (w:World):(Instr.makeSlice 81 (.int .i64 (n:Int)) (.int .i64 (n:Int))).run Tryz.prog w=.ok (.slice (some ⟨w.heap.size,0,none⟩) n n) (w.alloc (.cells (List.replicate n (Value.slice none 0 0)).toArray 22)):=by
 rw[←made_rep]
 exact run_make_row' 81 22 (.slice none 0 0) 24 Tryz.underlying81 (by kernel_rfl) rfl .i64 .i64 n (by omega) (by omega) w
def halfRow (x:Int) (n m:Nat):List Value:=List.replicate m (Value.int .i64 x)++List.replicate (n - m) (Value.int .i64 0)
theorem halfRow_len {x:Int} {n m:Nat} (h:m≤n):(halfRow x n m).length=n:=by simp[halfRow];omega
theorem halfRow_get {x:Int} {n m j:Nat} (h:j<m):(halfRow x n m)[j]? = some (Value.int .i64 x):=by
 unfold halfRow
 rw[List.getElem?_append_left (by simpa using h)]
 simp[h]
theorem halfRow_splice {x:Int} {n m q:Nat}:(halfRow x n m).take m++List.replicate q (Value.int .i64 x)++(halfRow x n m).drop (m+q)=halfRow x n (m+q):=by
 unfold halfRow
 have e1:(List.replicate m (Value.int .i64 x)++List.replicate (n - m) (Value.int .i64 0)).take m=List.replicate m (Value.int .i64 x):=List.take_left' (by simp)
 have e2:(List.replicate m (Value.int .i64 x)++List.replicate (n - m) (Value.int .i64 0)).drop (m+q)=List.replicate (n - (m+q)) (Value.int .i64 0):=by
  rw[List.drop_append]
  simp
  omega
 rw[e1,e2,List.replicate_append_replicate]
theorem copy_half {w:World} {g m n q:Nat} {x:Int} (hg:w.heap[g]? = some (.cells (halfRow x n m).toArray 3 (0,0))) (hmn:m≤n) (hq:q=min m (n - m)) (cd cs:Nat) :
  (Builtin.copy_ #[39,39] 3 #[.slice (some ⟨g,m,none⟩) (n - m) cd,.slice (some ⟨g,0,none⟩) m cs]).run Tryz.prog w=.ok (.int .i64 q) (w.setRow g (halfRow x n (m+q)).toArray):=by
 show _=Result.ok (goInt (q:Int)) _
 have:=run_copy_row (P:=Tryz.prog) w 39 39 3 3 g m (n - m) cd ⟨g,0,none⟩ m cs (halfRow x n m).toArray 3 (List.replicate q (Value.int .i64 x)) Tryz.underlying39 (by kernel_rfl) hg (by rw[List.length_replicate,hq]) (fun j v hv=>by
  rw[List.getElem?_replicate] at hv
  split at hv
  ·injection hv with hv
   subst hv
   rw[Addr.add_lit,Nat.zero_add,cell_of_row w g j _ _ _ hg,←Array.getElem?_toList]
   exact halfRow_get (by omega)
  ·cases hv) (by rw[List.length_replicate,List.size_toArray,halfRow_len hmn];omega) (fun v hv=>by obtain⟨_,rfl⟩:=List.mem_replicate.1 hv;rfl)
 rw[List.length_replicate] at this
 rw[←halfRow_splice]
 exact this
def RepTo (w:World) (x:Int) (n:Nat) (e:Ending) (w':World):Prop:=∃ g,e=.returned (.slice (some ⟨g,0,none⟩) n n)∧w'.heap[g]? = some (.cells (List.replicate n (Value.int .i64 x)).toArray 3 (0,0))∧w.heap.size≤g∧Below w.heap.size w w'
set_option maxRecDepth 100000 in
set_option maxHeartbeats 4000000 in
theorem repeat_any (b c:Nat) (x:Int) (n:Nat) (w:World) (hc:w.cell? ⟨b,0,none⟩=some (.int .i64 x)) (h1:1≤n) (h2:n≤1048576) :
  Calls Tryz.prog 167 #[.slice (some ⟨b,0,none⟩) 1 c,.int .i64 n] w (RepTo w x n):=by
 have hb:=World.block_lt_of_cell? w _ hc
 simp only at hb
 have HMUL:=Lib.hid (Tryz.bits_Mul 1 n (by omega) (by omega) w)
 have e1:((1*n/18446744073709551616:Nat):Int)=0:=by omega
 have e2:((1*n%18446744073709551616:Nat):Int)=n:=by omega
 rw[e1,e2] at HMUL
 have hmk:=int_make n h2 w
 have hcp:(Builtin.copy_ #[39,39] 3 #[.slice (some ⟨w.heap.size,0,none⟩) n n,.slice (some ⟨b,0,none⟩) 1 c]).run Tryz.prog (w.alloc (.cells (List.replicate n (Value.int .i64 0)).toArray 3))=.ok (.int .i64 1) (w.alloc (.cells (halfRow x n 1).toArray 3)):=by
  have:=run_copy_row (P:=Tryz.prog) (w.alloc (.cells (List.replicate n (Value.int .i64 0)).toArray 3)) 39 39 3 3 w.heap.size 0 n n ⟨b,0,none⟩ 1 c (List.replicate n (Value.int .i64 0)).toArray 3 [.int .i64 x] Tryz.underlying39 (by kernel_rfl) (Go.heap_alloc_new w _) (by rw[List.length_singleton];exact (Nat.min_eq_left h1).symm) (fun j v hv=>by
   match j,hv with
   |0,hv =>
    injection hv with hv
    subst hv
    rw[Addr.add_lit,Nat.zero_add]
    exact ((Below.refl w.heap.size w).alloc (Nat.le_refl _) _).cell hb |>.trans hc
   |j+1,hv=>simp at hv) (by simp;omega) (fun v hv=>by rw[List.mem_singleton] at hv;subst hv;rfl)
  rw[this,setRow_alloc]
  have:=halfRow_splice (x:=x) (n:=n) (m:=0) (q:=1)
  simp only[halfRow,List.replicate_zero,List.nil_append,Nat.sub_zero,Nat.zero_add] at this
  simp only[halfRow,Nat.zero_add]
  rw[show ([Value.int .i64 x]:List Value).length=1 from rfl,show ([Value.int .i64 x]:List Value)=List.replicate 1 (Value.int .i64 x) from rfl,this]
  rfl
 clear e1 e2
 obtain⟨src,hsrc⟩:∃ src,src=List.replicate n (Value.int .i64 0):=⟨_,rfl⟩
 rw[←hsrc] at hmk hcp
 clear hsrc
 obtain⟨w2,hw2⟩:∃ w2,w2=w.alloc (.cells (halfRow x n 1).toArray 3):=⟨_,rfl⟩
 rw[←hw2] at hcp
 have HG2:=Lib.hid (show w2.heap[w.heap.size]? = some (.cells (halfRow x n 1).toArray 3 (0,0)) by rw[hw2];exact Go.heap_alloc_new w _)
 have HB2:=Lib.hid (show Below w.heap.size w w2 by rw[hw2];exact (Below.refl w.heap.size w).alloc (Nat.le_refl _) _)
 clear hw2
 go_enter Tryz.func167,Tryz.ntmps167
 go_wp2_with fail
 refine HMUL.out.mono ?_
 rintro e w1 ⟨rfl,rfl⟩
 go_wp2_with fail
 go_loopw [8] (fun v8 wr=>∃ m:Nat,1≤m∧m≤n∧v8=.int .i64 m∧Hid (wr.heap[w1.heap.size]? = some (.cells (halfRow x n m).toArray 3 (0,0)))∧Hid (Below w1.heap.size w1 wr)) (fun v8 _=>n - (intOf v8).toNat)
 case atStart=>exact⟨1,by omega,h1,rfl,HG2.out,HB2.out⟩
 case round =>
  clear HG2 HB2
  obtain⟨m,hm1,hm2,rfl,HG,HB⟩:=hrel
  by_cases hlt:m<n
  ·have hcp2:=copy_half (w:=wr.drew) HG.out hm2 rfl (n - m) n
   obtain⟨q,hq⟩:∃ q,q=min m (n - m):=⟨_,rfl⟩
   rw[←hq] at hcp2
   have HQ:=Lib.hid hq
   have hmq:(m:Int)+(q:Int)≤1048576:=by omega
   clear hq hcp
   go_wp2_with fail
   refine Text.wp_text [] (by kernel_rfl) (by kernel_rfl) (fun Q' hQ'=>?_)
   go_wp2
   refine⟨by rfl,?_⟩
   have HG3:=Lib.hid (setRow_heap wr.drew w1.heap.size _ (halfRow x n (m+q)).toArray _ (0,0) HG.out)
   have HB3:=Lib.hid (below_setRow HB.out.drew (Nat.le_refl _) (halfRow x n (m+q)).toArray)
   go_wp2
   exact⟨⟨m+q,by omega,by have:=HQ.out;omega,by go_num,HG3.out,HB3.out⟩,by have:=HQ.out;simp[intOf];omega⟩
  ·have hmn:m=n:=by omega
   subst hmn
   go_wp2_with fail
   go_ret
   refine⟨w1.heap.size,rfl,?_,Nat.le_refl _,HB.out⟩
   have:=HG.out
   unfold halfRow at this
   simpa using this
end Go.Proofs.YtfpihflepeiagaaGreatDoor
namespace Go.Proofs.YtfpihflepeiagaaGreatDoor
open Go.RowKit

def bcellsB (l:List Bool):List Value:=l.map Value.bool
theorem Rd.bool {w:World} {B:Nat} {A:Option Addr} {l:List Bool} (h:Rd w B A (bcellsB l)) {k:Nat} (hk:k<l.length):∃ b off,A=some ⟨b,off,none⟩∧b<B∧w.cell? ⟨b,off+k,none⟩=some (.bool l[k]):=by
 obtain⟨b,off,e,hb,hc⟩:=h.at_ (k:=k) (by simpa[bcellsB] using hk)
 exact⟨b,off,e,hb,by rw[hc];simp[bcellsB]⟩
theorem Rd.int_ {w:World} {B:Nat} {A:Option Addr} {l:List Int} (h:Rd w B A (icells l)) {k:Nat} (hk:k<l.length):∃ b off,A=some ⟨b,off,none⟩∧b<B∧w.cell? ⟨b,off+k,none⟩=some (.int .i64 l[k]):=by
 obtain⟨b,off,e,hb,hc⟩:=h.at_ (k:=k) (by simpa[icells] using hk)
 exact⟨b,off,e,hb,by rw[hc];simp[icells]⟩
set_option maxHeartbeats 1000000 in
theorem containsB_any (A:Option Addr) (c:Nat) (l:List Bool) (w:World) (h:Rd w w.heap.size A (bcellsB l)) (hn:l.length≤1048576) :
  Calls Tryz.prog 120 #[.slice A l.length c,.bool false] w fun e w'=>e=.returned (.bool (!l.all id))∧w'=w:=by
 have hix:Calls Tryz.prog 145 #[.slice A l.length c,.bool false] w fun e w'=>(∃ i:Int,e=.returned (.int .i64 i)∧decide (0≤i)=!l.all id)∧w'=w:=by
  have HR:=Lib.hid h
  obtain⟨n,hl⟩:∃ n,n=l.length:=⟨_,rfl⟩
  rw[←hl]
  have HL:=Lib.hid hl
  rw[←hl] at hn
  clear h hl
  go_enter Tryz.func145,Tryz.ntmps145
  go_wp2_with fail
  go_loopw [8] (fun v8 wr=>∃ i:Nat,i≤n∧v8=.int .i64 i∧wr=w∧Hid ((l.take i).all id=true)) (fun v8 _=>n - (intOf v8).toNat)
  case atStart=>exact⟨0,by omega,rfl,rfl,by simp[Hid]⟩
  case round =>
   obtain⟨i,hi,rfl,rfl,HI⟩:=hrel
   by_cases hlt:i<n
   ·have hlt':i<l.length:=by rw[←HL.out];exact hlt
    obtain⟨b,off,rfl,_,hc⟩:=HR.out.bool hlt'
    have HT:=Lib.hid (List.take_succ_eq_append_getElem hlt')
    have HM:=Lib.hid (List.getElem_mem hlt')
    obtain⟨x,hx⟩:∃ x,x=l[i]:=⟨_,rfl⟩
    rw[←hx] at hc HT HM
    clear hx hlt'
    cases x with
    |true =>
     have HI2:=Lib.hid (show (l.take (i+1)).all id=true by rw[HT.out,List.all_append,HI.out];rfl)
     go_wp2_with fail
     exact⟨⟨i+1,by omega,by go_num,trivial,HI2.out⟩,by simp[intOf];omega⟩
    |false =>
     go_wp2_with fail
     go_ret
     refine⟨⟨i,rfl,?_⟩,rfl⟩
     have:l.all id=false:=by
      rw[←Bool.not_eq_true,List.all_eq_true]
      intro h
      have:=h _ HM.out
      cases this
     rw[this]
     simp
   ·have him:i=n:=by omega
    have HALL:=Lib.hid (show l.all id=true by have:=HI.out;rwa [him,HL.out,List.take_of_length_le (Nat.le_refl _)] at this)
    go_wp2_with fail
    go_ret
    exact⟨⟨-1,rfl,by rw[HALL.out];rfl⟩,rfl⟩
 have HX:=Lib.hid hix
 obtain⟨r,hr⟩:∃ r,r=!l.all id:=⟨_,rfl⟩
 rw[←hr] at HX ⊢
 clear hix h hr
 go_enter Tryz.func120,Tryz.ntmps120
 go_wp2_with fail
 refine HX.out.mono ?_
 rintro e w1 ⟨⟨i,rfl,hi⟩,rfl⟩
 have HI:=Lib.hid hi
 clear hi HX
 go_wp2_with fail
 go_ret
 exact⟨rt1 (vbool HI.out),rfl⟩
structure ShortR (vals:List Int) (P:List Bool):Prop where
 len:vals.length=P.length
 val:∀ (i:Nat) (x:Int),vals[i]? = some x→-1≤x∧x≤1000000∧P[i]? = some (decide (0≤x))
def sumOk (P:List Bool) (r:List Int):Bool:=r.all fun s=>decide (s<0)||P.getD s.toNat false
def SumTo (w:World) (P:List Bool) (r:List Int) (e:Ending) (w':World):Prop:=∃ x:Int,e=.returned (.int .i64 x)∧-1≤x∧x≤1000000∧decide (0≤x)=sumOk P r∧w'=w
set_option maxHeartbeats 2000000 in
theorem sum_any (A B:Option Addr) (c d:Nat) (r vals:List Int) (P:List Bool) (w:World) (h:SlR eInt w w.heap.size (.slice A r.length c) r) (hv:Rd w w.heap.size B (icells vals)) (hP:ShortR vals P) (hr:∀ s∈r,s<(P.length:Int)) (hl:r.length≤64) :
  Calls Tryz.prog 169 #[.slice A r.length c,.slice B vals.length d] w (SumTo w P r):=by
 have HH:=Lib.hid h
 have HV:=Lib.hid hv
 have HP:=Lib.hid hP
 have HR:=Lib.hid hr
 obtain⟨n,hn⟩:∃ n,n=r.length:=⟨_,rfl⟩
 obtain⟨m,hm⟩:∃ m,m=vals.length:=⟨_,rfl⟩
 rw[←hn] at HH hl ⊢
 rw[←hm]
 have HN:=Lib.hid hn
 have HM:=Lib.hid hm
 clear h hv hP hr hn hm
 go_enter Tryz.func169,Tryz.ntmps169
 go_wp2_with fail
 go_loopw [10,5] (fun v10 v5 wr=>∃ (i:Nat) (t:Int),i≤n∧v10=.int .i64 i∧v5=.int .i64 t∧0≤t∧t≤1000000*i∧wr=w∧Hid (sumOk P (r.take i)=true)) (fun v10 _ _=>n - (intOf v10).toNat)
 case atStart=>exact⟨0,0,by omega,rfl,rfl,by omega,by omega,rfl,by simp[Hid,sumOk]⟩
 case round =>
  obtain⟨i,t,hi,rfl,rfl,ht0,ht1,rfl,HI⟩:=hrel
  by_cases hlt:i<n
  ·have hlt':i<r.length:=by rw[←HN.out];exact hlt
   obtain⟨b,off,cs,rfl,_,hbl,hrep,hcell⟩:=HH.out.get (k:=i) hlt' (by decide)
   obtain⟨rfl,hx1,hx2⟩:=hrep
   have hc0:=hcell 0 _ rfl
   simp only[show eInt.size=1 from rfl,Nat.mul_one,Nat.add_zero] at hc0
   have HT:=Lib.hid (List.take_succ_eq_append_getElem hlt')
   have HMM:=Lib.hid (List.getElem_mem hlt')
   obtain⟨s,hse⟩:∃ s,s=r[i]:=⟨_,rfl⟩
   rw[←hse] at hc0 hx1 hx2 HT HMM
   have hsm:=HR.out s HMM.out
   rw[←HP.out.len,←HM.out] at hsm
   have hti:t≤64000000:=by omega
   clear hcell hse hlt'
   by_cases hs:s<0
   ·have hd:decide (s<0)=true:=by simpa using hs
    have HI2:=Lib.hid (show sumOk P (r.take (i+1))=true by rw[HT.out];unfold sumOk;rw[List.all_append];have:=HI.out;unfold sumOk at this;rw[this];simp[hs])
    go_wp2_with fail
    refine (isTermSym_any s wr).mono ?_
    rintro e w1 ⟨rfl,rfl⟩
    rw[hd]
    go_wp2_with fail
    exact⟨⟨i+1,t+1,by omega,by go_num,rfl,by omega,by omega,trivial,HI2.out⟩,by simp[intOf];omega⟩
   ·have hd:decide (s<0)=false:=by simpa using hs
    obtain⟨k,rfl⟩:∃ k:Nat,s=(k:Int):=⟨s.toNat,by omega⟩
    have hk:k<vals.length:=by rw[←HM.out];omega
    obtain⟨b2,o2,rfl,_,hc2⟩:=HV.out.int_ hk
    obtain⟨g1,g2,g3⟩:=HP.out.val k _ (List.getElem?_eq_getElem hk)
    obtain⟨y,hy⟩:∃ y,y=vals[k]:=⟨_,rfl⟩
    rw[←hy] at hc2 g1 g2 g3
    have HG3:=Lib.hid g3
    have hkm:k<m:=by rw[HM.out];exact hk
    clear hy g3 hk
    by_cases hy0:y<0
    ·have HF:=Lib.hid (show sumOk P r=false by
      rw[←Bool.not_eq_true]
      intro h
      unfold sumOk at h
      have:=List.all_eq_true.1 h _ HMM.out
      rw[List.getD_eq_getElem?_getD,Int.toNat_natCast,HG3.out] at this
      simp at this
      omega)
     go_wp2_with fail
     refine (isTermSym_any _ wr).mono ?_
     rintro e w1 ⟨rfl,rfl⟩
     rw[hd]
     go_wp2_with fail
     go_ret
     exact⟨-1,rfl,by omega,by omega,by rw[HF.out];rfl,rfl⟩
    ·have HI2:=Lib.hid (show sumOk P (r.take (i+1))=true by
      rw[HT.out];unfold sumOk;rw[List.all_append];have:=HI.out;unfold sumOk at this;rw[this]
      simp only[List.all_cons,List.all_nil,Bool.and_true,Bool.true_and,Bool.or_eq_true,decide_eq_true_eq]
      right
      rw[List.getD_eq_getElem?_getD,Int.toNat_natCast,HG3.out]
      simp
      omega)
     go_wp2_with fail
     refine (isTermSym_any _ wr).mono ?_
     rintro e w1 ⟨rfl,rfl⟩
     rw[hd]
     go_wp2_with fail
     exact⟨⟨i+1,t+y,by omega,by go_num,rfl,by omega,by omega,trivial,HI2.out⟩,by simp[intOf];omega⟩
  ·have him:i=n:=by omega
   have HF:=Lib.hid (show sumOk P r=true by have:=HI.out;rwa [him,HN.out,List.take_of_length_le (Nat.le_refl _)] at this)
   have hti:t≤64000000:=by omega
   clear him
   go_wp2_with fail
   all_goals
    go_ret
    refine⟨_,rfl,?_,?_,?_,rfl⟩
    ·omega
    ·omega
    ·rw[HF.out,decide_eq_true_eq];omega
end Go.Proofs.YtfpihflepeiagaaGreatDoor
namespace Go.Proofs.YtfpihflepeiagaaGreatDoor
open Go.RowKit

theorem grown_of_below {w w':World} (h:Below w.heap.size w w') (row:Option Nat):w.grownBy w' row:=⟨h.os,h.tape,h.output,h.size,fun k hk _=>h.block k hk⟩
theorem below_of_grown {w w':World} {g N:Nat} (h:w.grownBy w' (some g)) (hN:N≤g) (hw:N≤w.heap.size):Below N w w':=(Below.refl N w).grown h hw fun k hk=>by injection hk with hk;omega
theorem grown_set (w:World) (g k:Nat) (v:Value):w.grownBy (w.setCell ⟨g,k,none⟩ v) (some g):=⟨rfl,rfl,rfl,by simp[World.setCell],fun j _ hne=>Below.heap_setCell _ _ _ _ fun e=>hne (congrArg some e)⟩
abbrev ruleV (l:Int) (A:Option Addr) (n c:Nat):Value:=.agg #[.int .i64 l,.slice A n c]
def StepR {σ:Type} (F:FuncId) (cap:Array Value) (rs:RuleL) (N g:Nat) (f:σ→Int×List Int→σ) (I:σ→World→Prop):Prop :=
 ∀ (s:σ) (w1:World) (r:Int×List Int) (A:Option Addr) (n c:Nat),r∈rs→I s w1→g<w1.heap.size→n=r.2.length→SlR eInt w1 N (.slice A n c) r.2 →
  Calls Tryz.prog F (#[ruleV r.1 A n c]++cap) w1 fun e w2=>e=.returned (.tuple #[])∧I (f s r) w2∧w1.grownBy w2 (some g)
theorem foldl_drop {σ:Type} {f:σ→Int×List Int→σ} {rs:RuleL} {j:Nat} (h:j<rs.length) (s:σ):(rs.drop j).foldl f s=(rs.drop (j+1)).foldl f (f s rs[j]):=by
 rw[List.drop_eq_getElem_cons h,List.foldl_cons]
set_option maxRecDepth 100000 in
set_option maxHeartbeats 4000000 in
theorem rounds_any {σ:Type} (F:FuncId) (cap:Array Value) (hF:∀ (args:Array Value) (w:World),(callFunc F args).run Tryz.prog w=.ok (.enter F args) w) (f:σ→Int×List Int→σ) (I:σ→World→Prop) (v2:Value) (A1 A3:Option Addr) (n c1 c3 N g:Nat) (rs:RuleL) (s0:σ) (w:World)
  (hn:n≤256) (h3:SlR eRule w N (.slice A3 rs.length c3) rs) (hN:N≤g) (hg:g<w.heap.size) (hI:∀ s w1 w2,I s w1→Below w1.heap.size w1 w2→I s w2) (h0:I s0 w) (hstep:StepR F cap rs N g f I) :
  Calls Tryz.prog 147 #[.agg #[.slice A1 n c1,v2,.slice A3 rs.length c3],.func (.func F) #[] cap] w fun e w'=>e=.returned (.tuple #[])∧I (roundsOf f rs (n+1) s0) w'∧w.grownBy w' (some g):=by
 have HF:=Lib.hid hF
 have H3:=Lib.hid h3
 have HI:=Lib.hid hI
 have H0:=Lib.hid h0
 have HS:=Lib.hid hstep
 have hm9:=h3.n_le
 obtain⟨m,hm⟩:∃ m,m=rs.length:=⟨_,rfl⟩
 rw[←hm] at H3 hm9 ⊢
 have HM:=Lib.hid hm
 obtain⟨tot,htot⟩:∃ tot,tot=roundsOf f rs (n+1) s0:=⟨_,rfl⟩
 rw[←htot]
 have HT:=Lib.hid htot
 clear hF h3 hI h0 hstep hm htot
 go_enter Tryz.func147,Tryz.ntmps147
 go_wp2_with fail
 have k0:(w.alloc (.cells #[.slice A1 n c1,v2,.slice A3 m c3] 25)).heap[w.heap.size]? = some (.cells #[.slice A1 n c1,v2,.slice A3 m c3] 25 (0,0)):=Go.heap_alloc_new w _
 have hb1:=(Below.refl w.heap.size w).alloc (Nat.le_refl _) (.cells #[.slice A1 n c1,v2,.slice A3 m c3] 25)
 have HI1:=Lib.hid (HI.out _ _ _ H0.out hb1)
 have HG1:=Lib.hid (grown_of_below hb1 (some g))
 have HSZ:=Lib.hid (World.size_alloc w (.cells #[.slice A1 n c1,v2,.slice A3 m c3] 25))
 have HK0:=Lib.hid k0
 have H31:=Lib.hid (H3.out.below (hb1.mono (by omega:N≤w.heap.size)))
 clear k0 hb1
 generalize w.alloc (.cells #[.slice A1 n c1,v2,.slice A3 m c3] 25)=w1 at *
 go_loopw [10] (fun v10 wr=>∃ (i:Nat) (s:σ),i≤n+1∧v10=.int .i64 i∧Hid (tot=roundsOf f rs (n+1 - i) s)∧Hid (I s wr)∧Hid (w1.grownBy wr (some g))) (fun v10 _=>n+1 - (intOf v10).toNat)
 case atStart=>exact⟨0,s0,by omega,rfl,HT.out,HI1.out,World.grownBy.refl _ _⟩
 case round =>
  clear HI1
  obtain⟨i,s,hi,rfl,HTI,HIS,HGR⟩:=hrel
  have k1:=(HGR.out.block w.heap.size (by rw[HSZ.out];omega) (fun e=>by injection e with e;omega)).trans HK0.out
  have c0:wr.cell? ⟨w.heap.size,0,none⟩=some (.slice A1 n c1):=by rw[cell_of_row _ _ _ _ _ _ k1];rfl
  have c2:wr.cell? ⟨w.heap.size,2,none⟩=some (.slice A3 m c3):=by rw[cell_of_row _ _ _ _ _ _ k1];rfl
  by_cases hlt:i<n+1
  ·have HTI2:=Lib.hid (show tot=roundsOf f rs (n - i) (rs.foldl f s) by rw[HTI.out,show n+1 - i=(n - i)+1 by omega];rfl)
   have hdi:decide ((i:Int)<(n:Int)+1)=true:=by rw[decide_eq_true_eq];omega
   clear HTI k1
   go_wp2_with fail
   go_loopw [15] (fun v15 wt=>∃ (j:Nat) (t:σ),j≤m∧v15=.int .i64 j∧Hid (rs.foldl f s=(rs.drop j).foldl f t)∧Hid (I t wt)∧Hid (w1.grownBy wt (some g))) (fun v15 _=>m - (intOf v15).toNat)
   case atStart=>exact⟨0,s,by omega,rfl,rfl,HIS.out,HGR.out⟩
   case round =>
    clear HIS HGR c0 c2
    obtain⟨j,t,hj,rfl,HFD,HIT,HGT⟩:=hrel
    have hbt:=Lib.hid (below_of_grown HGT.out hN (by rw[HSZ.out];omega))
    by_cases hjm:j<m
    ·have hjl:j<rs.length:=by rw[←HM.out];exact hjm
     obtain⟨b,off,cs,rfl,_,hbl,hrep,hcell⟩:=(H31.out.below hbt.out).get (k:=j) hjl (by decide)
     obtain⟨v,rfl,hsl,hz1,hz2⟩:=eRule_open hrep
     obtain⟨A5,c5,rfl,hl5,hl6⟩:=hsl.form
     have hc0:=hcell 0 _ rfl
     have hc1:=hcell 1 _ rfl
     simp only[show eRule.size=2 from rfl,Nat.add_zero,←Nat.add_assoc] at hc0 hc1
     have HFD2:=Lib.hid (show rs.foldl f s=(rs.drop (j+1)).foldl f (f t rs[j]) by rw[HFD.out,foldl_drop hjl])
     have HMEM:=Lib.hid (List.getElem_mem hjl)
     obtain⟨r,hr⟩:∃ r,r=rs[j]:=⟨_,rfl⟩
     rw[←hr] at hc0 hc1 HFD2 HMEM hsl hz1 hz2 hl5
     obtain⟨q,hq⟩:∃ q,q=r.2.length:=⟨_,rfl⟩
     rw[←hq] at hc1 hsl hl5
     have HQ:=Lib.hid hq
     have HSL:=Lib.hid hsl
     clear hcell hrep hr hq hsl hjl HFD
     go_wp2_with fail
     have HIT2:=Lib.hid (HI.out _ _ _ HIT.out ((Below.refl wr.heap.size wr).alloc (Nat.le_refl _) (.cells #[.int .i64 r.1,.slice A5 q c5] 55)))
     have HG2:=Lib.hid (HGT.out.trans (World.grownBy_alloc wr (.cells #[.int .i64 r.1,.slice A5 q c5] 55) (some g)))
     have HB2:=Lib.hid (((Below.refl wr.heap.size wr).alloc (Nat.le_refl _) (.cells #[.int .i64 r.1,.slice A5 q c5] 55)))
     have HGT1:=Lib.hid (show g<wr.heap.size from Nat.lt_of_lt_of_le (by rw[HSZ.out];omega) HGT.out.size)
     rw[HF.out]
     refine (HS.out t _ r A5 q c5 HMEM.out HIT2.out (by rw[World.size_alloc];have:=HGT1.out;omega) HQ.out (HSL.out.below (HB2.out.mono (by have:=HGT1.out;omega)))).mono ?_
     rintro e w5 ⟨rfl,hi5,hg5⟩
     have HI5:=Lib.hid hi5
     have HG5:=Lib.hid (HG2.out.trans hg5)
     clear hi5 hg5 HIT2 HG2 HIT HGT
     go_wp2_with fail
     go_roundw
     case rel =>
      exact⟨j+1,f t r,by omega,by go_num,HFD2.out,HI5.out,HG5.out⟩
     case measure=>simp[intOf];omega
    ·have hjm':j=m:=by omega
     have HTI3:=Lib.hid (show tot=roundsOf f rs (n+1 - (i+1)) t by
      rw[HTI2.out,HFD.out,hjm',HM.out,List.drop_length,show n+1 - (i+1)=n - i by omega];rfl)
     clear hjm' HFD
     go_wp2_with fail
     exact⟨⟨i+1,t,by omega,by go_num,HTI3.out,HIT.out,HGT.out⟩,by simp[intOf];omega⟩
  ·have HFIN:=Lib.hid (show I tot wr by
    have:=HTI.out
    rw[show n+1 - i=0 by omega] at this
    rw[this]
    exact HIS.out)
   go_wp2_with fail
   go_end0
   exact⟨rfl,HFIN.out,HG1.out.trans HGR.out⟩
end Go.Proofs.YtfpihflepeiagaaGreatDoor
namespace Go.Proofs.YtfpihflepeiagaaGreatDoor
open Go.RowKit

structure ShortSt (g SB n:Nat) (P:List Bool) (w:World):Prop where
 ex:∃ vals,w.heap[g]? = some (.cells (icells vals).toArray 3 (0,0))∧ShortR vals P∧vals.length=n
 box:w.heap[SB]? = some (.cells #[.slice (some ⟨g,0,none⟩) n n] 39 (0,0))
 ne:g≠SB
theorem ShortSt.below {g SB n:Nat} {P:List Bool} {w w':World} (h:ShortSt g SB n P w) (hb:Below w.heap.size w w'):ShortSt g SB n P w':=by
 obtain⟨vals,h1,h2⟩:=h.ex
 have l1:=(Array.getElem?_eq_some_iff.1 h1).1
 have l2:=(Array.getElem?_eq_some_iff.1 h.box).1
 exact⟨⟨vals,(hb.block g l1).trans h1,h2⟩,(hb.block SB l2).trans h.box,h.ne⟩
theorem int_row_get {w:World} {g k:Nat} {vals:List Int} (h:w.heap[g]? = some (.cells (icells vals).toArray 3 (0,0))) (hk:k<vals.length):w.cell? ⟨g,k,none⟩=some (.int .i64 vals[k]):=by
 rw[cell_of_row w g k _ _ _ h]
 simp[icells,hk]
theorem int_row_set {w:World} {g k:Nat} {vals:List Int} (h:w.heap[g]? = some (.cells (icells vals).toArray 3 (0,0))) (x:Int):(w.setCell ⟨g,k,none⟩ (.int .i64 x)).heap[g]? = some (.cells (icells (vals.set k x)).toArray 3 (0,0)):=by
 simp only[World.setCell,Array.getElem?_modify,if_true,h,Option.map_some]
 congr 2
 simp[icells,List.map_set]
theorem ShortR.set {vals:List Int} {P:List Bool} (h:ShortR vals P) {k:Nat} {x:Int} (h0:0≤x) (h1:x≤1000000):ShortR (vals.set k x) (P.set k true):=by
 refine⟨by rw[List.length_set,List.length_set];exact h.len,fun i y hy=>?_⟩
 rw[List.getElem?_set] at hy ⊢
 split at hy
 ·rename_i e
  split at hy
  ·rename_i hl
   injection hy with hy
   subst hy
   rw[if_pos e,if_pos (by rw[←h.len];exact hl)]
   exact⟨by omega,h1,by rw[decide_eq_true h0]⟩
  ·cases hy
 ·rename_i e
  rw[if_neg e]
  exact h.val i y hy
theorem ShortR.same {vals:List Int} {P:List Bool} (h:ShortR vals P) {k:Nat} {y:Int} (hy:vals[k]? = some y) (h0:0≤y):P.set k true=P:=by
 have:=(h.val k y hy).2.2
 rw[decide_eq_true h0] at this
 apply List.ext_getElem?
 intro i
 rw[List.getElem?_set]
 split
 ·rename_i e
  subst e
  rw[this]
  rw[if_pos (List.getElem?_eq_some_iff.1 this).1]
 ·rfl
theorem prodStep_eq (P:List Bool) (r:Int×List Int):prodStep P r=if sumOk P r.2 then P.set r.1.toNat true else P:=rfl
set_option maxRecDepth 100000 in
set_option maxHeartbeats 8000000 in
theorem shortStep_any (g SB n N:Nat) (P:List Bool) (k:Nat) (r:List Int) (A:Option Addr) (q c:Nat) (w:World) (h:ShortSt g SB n P w) (hk:k<n) (hq:q=r.length) (hq2:q≤64) (hr:∀ s∈r,s<(n:Int)) (hs:SlR eInt w N (.slice A q c) r) (hN:N≤w.heap.size) :
  Calls Tryz.prog 168 #[ruleV k A q c,.pointer (some ⟨SB,0,none⟩)] w fun e w'=>e=.returned (.tuple #[])∧ShortSt g SB n (prodStep P ((k:Int),r)) w'∧w.grownBy w' (some g):=by
 obtain⟨vals,h1,h2,h3⟩:=h.ex
 have hk':k<vals.length:=by omega
 have cS:=cell0 h.box
 have cY:=int_row_get h1 hk'
 have lS:=(Array.getElem?_eq_some_iff.1 h.box).1
 have lG:=(Array.getElem?_eq_some_iff.1 h1).1
 have fG:w.frozen? ⟨g,k,none⟩=false:=by simp[World.frozen?,h1]
 have HY:=Lib.hid (show vals[k]? = some vals[k] from List.getElem?_eq_getElem hk')
 obtain⟨y,hy⟩:∃ y,y=vals[k]:=⟨_,rfl⟩
 rw[←hy] at cY HY
 have H1:=Lib.hid h1
 have H2:=Lib.hid h2
 have H3:=Lib.hid h3
 have HS:=Lib.hid hs
 have HH:=Lib.hid h
 have HQ:=Lib.hid hq
 have hbx:=(Below.refl w.heap.size w).alloc (Nat.le_refl _) (.cells #[.int .i64 k,.slice A q c] 55)
 have HSUM:=Lib.hid (sum_any A (some ⟨g,0,none⟩) c n r vals P (w.alloc (.cells #[.int .i64 k,.slice A q c] 55)) (by rw[←hq];exact hs.fut hbx hN (by rw[World.size_alloc];omega)) (by
  have:Rd (w.alloc (.cells #[.int .i64 k,.slice A q c] 55)) (w.alloc (.cells #[.int .i64 k,.slice A q c] 55)).heap.size (some ⟨g,0,none⟩) (icells vals).toArray.toList:=Rd.row ((hbx.block g lG).trans h1) (by rw[World.size_alloc];omega)
  exact this) h2 (fun s hs=>by rw[←h2.len,h3];exact hr s hs) (by omega))
 rw[←hq,h3] at HSUM
 have hby:=(h2.val k y HY.out).1
 clear h1 h2 h3 hs h hq hk' hy hr hbx
 have HB:=Lib.hid ((Below.refl w.heap.size w).alloc (Nat.le_refl _) (.cells #[.int .i64 k,.slice A q c] 55))
 have HZ:=Lib.hid (World.size_alloc w (.cells #[.int .i64 k,.slice A q c] 55))
 go_enter Tryz.func168,Tryz.ntmps168
 go_wp2_with fail
 refine HSUM.out.mono ?_
 rintro e w1 ⟨x,rfl,hx1,hx2,hx3,rfl⟩
 have HX3:=Lib.hid hx3
 clear hx3 HSUM
 by_cases hx0:0≤x
 ·have hsum:=HX3.out
  rw[decide_eq_true hx0] at hsum
  have HP:=Lib.hid (show prodStep P ((k:Int),r)=P.set k true by rw[prodStep_eq,←hsum];simp)
  clear hsum
  have hfin:∀ w2:World,w2=(w.setCell ⟨g,k,none⟩ (.int .i64 x)).alloc (.cells #[.int .i64 k,.slice A q c] 55)→ShortSt g SB n (prodStep P ((k:Int),r)) w2∧w.grownBy w2 (some g):=by
   rintro w2 rfl
   rw[HP.out]
   have hst:ShortSt g SB n (P.set k true) (w.setCell ⟨g,k,none⟩ (.int .i64 x)):=by
    refine⟨⟨vals.set k x,int_row_set H1.out x,H2.out.set hx0 hx2,by rw[List.length_set];exact H3.out⟩,?_,HH.out.ne⟩
    rw[Below.heap_setCell _ _ _ _ (fun e=>HH.out.ne e.symm)]
    exact HH.out.box
   refine⟨hst.below ((Below.refl _ _).alloc (Nat.le_refl _) _),(grown_set w g k _).trans (World.grownBy_alloc _ _ _)⟩
  have HFIN:=Lib.hid hfin
  clear hfin
  by_cases hy0:y<0
  ·go_wp2_with fail
   go_end0
   exact⟨rfl,HFIN.out _ rfl⟩
  ·by_cases hxy:x<y
   ·go_wp2_with fail
    go_end0
    exact⟨rfl,HFIN.out _ rfl⟩
   ·go_wp2_with fail
    go_end0
    refine⟨rfl,?_,World.grownBy_alloc w _ _⟩
    rw[HP.out,H2.out.same HY.out (by omega)]
    exact HH.out.below HB.out
 ·have hsum:=HX3.out
  rw[decide_eq_false hx0] at hsum
  have HP:=Lib.hid (show prodStep P ((k:Int),r)=P by rw[prodStep_eq,←hsum];simp)
  clear hsum
  go_wp2_with fail
  go_end0
  refine⟨rfl,?_,World.grownBy_alloc w _ _⟩
  rw[HP.out]
  exact HH.out.below HB.out
abbrev gramV (A1 A2 A3:Option Addr) (n m q c1 c2 c3:Nat):Value:=.agg #[.slice A1 n c1,.slice A2 m c2,.slice A3 q c3]
structure GramR (w:World) (B:Nat) (A1 A2 A3:Option Addr) (n m q c1 c2 c3:Nat) (g:Gram):Prop where
 names:SlR eStr w B (.slice A1 n c1) g.1
 terms:SlR eStr w B (.slice A2 m c2) g.2.1
 rules:SlR eRule w B (.slice A3 q c3) g.2.2
 small:n≤1048576∧m≤1048576∧q≤1048576
theorem GramR.ln {w:World} {B:Nat} {A1 A2 A3:Option Addr} {n m q c1 c2 c3:Nat} {g:Gram} (h:GramR w B A1 A2 A3 n m q c1 c2 c3 g):n=g.1.length∧m=g.2.1.length∧q=g.2.2.length:=⟨h.names.n_eq,h.terms.n_eq,h.rules.n_eq⟩
theorem GramR.fut {w w':World} {B B' N:Nat} {A1 A2 A3:Option Addr} {n m q c1 c2 c3:Nat} {g:Gram} (h:GramR w B A1 A2 A3 n m q c1 c2 c3 g) (hb:Below N w w') (h1:B≤N) (h2:B≤B'):GramR w' B' A1 A2 A3 n m q c1 c2 c3 g:=⟨h.names.fut hb h1 h2,h.terms.fut hb h1 h2,h.rules.fut hb h1 h2,h.small⟩
theorem GramR.valid {w:World} {A1 A2 A3:Option Addr} {n m q c1 c2 c3:Nat} {g:Gram} (h:GramR w w.heap.size A1 A2 A3 n m q c1 c2 c3 g):Calls Tryz.prog 119 #[gramV A1 A2 A3 n m q c1 c2 c3] w fun e w'=>e=.returned (.bool (gramB g))∧Below w.heap.size w w':=by
 obtain⟨l1,l2,_⟩:=h.ln
 have:=h.small
 exact gramValid_any _ _ _ g.1 g.2.1 g.2.2 w (by omega) h.names h.terms h.rules
theorem fitsB_open {n m:Nat} {r:Int×List Int} (h:fitsB n m r=true):0≤r.1∧r.1<n∧r.2.length≤64∧∀ s∈r.2,s<n∧-(m:Int)≤s:=by
 unfold fitsB at h
 simp only[Bool.and_eq_true,decide_eq_true_eq,Bool.not_eq_true',List.any_eq_false] at h
 obtain⟨⟨⟨h1,h2⟩,h3⟩,h4⟩:=h
 refine⟨h1,h2,h3,fun s hs=>?_⟩
 have:=h4 s hs
 unfold badSym at this
 simp only[Bool.or_eq_true,decide_eq_true_eq,not_or] at this
 omega
structure GoodG (g:Gram):Prop where
 n1:1≤g.1.length
 nm:g.1.length+g.2.1.length≤256
 q:g.2.2.length≤4096
 fit:∀ r∈g.2.2,0≤r.1∧r.1<g.1.length∧r.2.length≤64∧∀ s∈r.2,s<g.1.length∧-(g.2.1.length:Int)≤s
theorem gramB_good {g:Gram} (h:gramB g=true):GoodG g:=by
 simp only[gramB,Bool.and_eq_true,decide_eq_true_eq] at h
 obtain⟨⟨⟨⟨⟨⟨⟨a1,a2⟩,a3⟩,_⟩,_⟩,a6⟩,_⟩,_⟩:=h
 exact⟨by omega,a2,a3,fun r hr=>fitsB_open (List.all_eq_true.1 a6 r hr)⟩
theorem GoodG.well {g:Gram} (h:GoodG g):WellG g.2.2 g.1.length:=fun a r hr=>by
 obtain⟨h1,h2,_,h4⟩:=h.fit (a,r) hr
 exact⟨h1,h2,fun s hs=>(h4 s hs).1⟩
theorem prodStep_len (P:List Bool) (r:Int×List Int):(prodStep P r).length=P.length:=by
 unfold prodStep
 split
 ·rw[List.length_set]
 ·rfl
theorem roundsOf_len {f:List Bool→Int×List Int→List Bool} (hf:∀ P r,(f P r).length=P.length) (rs:RuleL):∀ (n:Nat) (P:List Bool),(roundsOf f rs n P).length=P.length
 |0,P=>rfl
 |n+1,P=>by
  have h:∀ (l:RuleL) (P:List Bool),(l.foldl f P).length=P.length:=by
   intro l
   induction l with
   |nil=>intro P;rfl
   |cons r l ih=>intro P;rw[List.foldl_cons,ih,hf]
  show (roundsOf f rs n (rs.foldl f P)).length=_
  rw[roundsOf_len hf rs n,h]
def ShortTo (w:World) (P:List Bool) (e:Ending) (w':World):Prop :=
 ∃ (g:Nat) (vals:List Int),e=.returned (.slice (some ⟨g,0,none⟩) vals.length vals.length)∧w'.heap[g]? = some (.cells (icells vals).toArray 3 (0,0))∧ShortR vals P∧Below w.heap.size w w'
set_option maxRecDepth 100000 in
set_option maxHeartbeats 8000000 in
theorem shortest_any {A1 A2 A3:Option Addr} {n m q c1 c2 c3:Nat} {g:Gram} (w:World) (h:GramR w w.heap.size A1 A2 A3 n m q c1 c2 c3 g) (hv:gramB g=true) :
  Calls Tryz.prog 146 #[gramV A1 A2 A3 n m q c1 c2 c3] w (ShortTo w (productive g.2.2 n)):=by
 have hbx:=(Below.refl w.heap.size w).alloc (Nat.le_refl _) (.cells #[.slice A1 n c1,.slice A2 m c2,.slice A3 q c3] 25)
 have HV:=Lib.hid ((h.fut (B':=w.heap.size+1) hbx (Nat.le_refl _) (by omega)))
 have HK:=Lib.hid (Go.heap_alloc_new w (.cells #[.slice A1 n c1,.slice A2 m c2,.slice A3 q c3] 25))
 have HZ:=Lib.hid (World.size_alloc w (.cells #[.slice A1 n c1,.slice A2 m c2,.slice A3 q c3] 25))
 have HBX:=Lib.hid hbx
 have HG:=Lib.hid (gramB_good hv)
 have HVV:=Lib.hid hv
 have HL:=Lib.hid h.ln
 have HH:=Lib.hid h
 have hsm:=h.small
 clear h hv hbx
 go_enter Tryz.func146,Tryz.ntmps146
 go_wp2_with fail
 generalize w.alloc (.cells #[.slice A1 n c1,.slice A2 m c2,.slice A3 q c3] 25)=w1 at *
 refine (GramR.valid (w:=w1) (by rw[HZ.out];exact HV.out)).mono ?_
 rintro e w2 ⟨rfl,hb2⟩
 rw[HVV.out]
 have HB2:=Lib.hid hb2
 have k2:=(hb2.block w.heap.size (by rw[HZ.out];omega)).trans HK.out
 have c0:w2.cell? ⟨w.heap.size,0,none⟩=some (.slice A1 n c1):=by rw[cell_of_row _ _ _ _ _ _ k2];rfl
 have HK2:=Lib.hid k2
 have hz2:w.heap.size<w2.heap.size:=by have:=hb2.size;have:=HZ.out;omega
 clear hb2 k2
 go_wp2_with fail
 have hb3:=(Below.refl w2.heap.size w2).alloc (Nat.le_refl _) (.cells #[.int .i64 (-1)] 3)
 have HN1:=Lib.hid (show 1≤n by have:=HG.out.n1;have:=HL.out.1;omega)
 have HN2:=Lib.hid (show n≤256 by have:=HG.out.nm;have:=HL.out.1;omega)
 refine (repeat_any w2.heap.size 1 (-1) n _ (by rw[cell_of_row _ _ _ _ _ _ (Go.heap_alloc_new w2 _)];rfl) HN1.out (by have:=HN2.out;omega)).mono ?_
 rintro e w4 ⟨gr,rfl,hgr,hge,hb4⟩
 have hbb:Below w2.heap.size w2 w4:=hb3.trans (hb4.mono (by rw[World.size_alloc];omega))
 have k4:=(hbb.block w.heap.size hz2).trans HK2.out
 have hz4:w.heap.size<w4.heap.size:=Nat.lt_of_lt_of_le hz2 hbb.size
 have c0:w4.cell? ⟨w.heap.size,0,none⟩=some (.slice A1 n c1):=by rw[cell_of_row _ _ _ _ _ _ k4];rfl
 have c1':w4.cell? ⟨w.heap.size,1,none⟩=some (.slice A2 m c2):=by rw[cell_of_row _ _ _ _ _ _ k4];rfl
 have c2':w4.cell? ⟨w.heap.size,2,none⟩=some (.slice A3 q c3):=by rw[cell_of_row _ _ _ _ _ _ k4];rfl
 have HGR:=Lib.hid hgr
 have HGE:=Lib.hid (show w.heap.size+1≤gr by rw[World.size_alloc] at hge;omega)
 have HB4:=Lib.hid (show Below w.heap.size w w4 from (HBX.out.trans (HB2.out.mono (by rw[HZ.out];omega))).trans (hbb.mono (Nat.le_of_lt hz2)))
 have HW1:=Lib.hid (show Below (w.heap.size+1) w1 w4 from (HB2.out.mono (Nat.le_of_eq HZ.out.symm)).trans (hbb.mono hz2))
 have HLG:=Lib.hid (Array.getElem?_eq_some_iff.1 hgr).1
 clear hgr hge hb4 hb3 hbb k4 hz2
 go_wp2_with fail
 have HB5:=Lib.hid ((Below.refl w4.heap.size w4).alloc (Nat.le_refl _) (.cells #[.slice (some ⟨gr,0,none⟩) n n] 39))
 have HK5:=Lib.hid (Go.heap_alloc_new w4 (.cells #[.slice (some ⟨gr,0,none⟩) n n] 39))
 have HZ5:=Lib.hid (World.size_alloc w4 (.cells #[.slice (some ⟨gr,0,none⟩) n n] 39))
 generalize w4.alloc (.cells #[.slice (some ⟨gr,0,none⟩) n n] 39)=w5 at *
 have HST:=Lib.hid (show ShortSt gr w4.heap.size n (List.replicate n false) w5 from ⟨⟨List.replicate n (-1),by rw[HB5.out.block gr HLG.out,HGR.out];simp[icells],⟨by simp,fun i x hx=>by
  rw[List.getElem?_replicate] at hx
  split at hx
  ·rename_i hi
   injection hx with hx
   subst hx
   exact⟨by omega,by omega,by rw[List.getElem?_replicate,if_pos hi];rfl⟩
  ·cases hx⟩,by simp⟩,HK5.out,by have:=HLG.out;omega⟩)
 have HR5:=Lib.hid (show SlR eRule w5 (w.heap.size+1) (.slice A3 q c3) g.2.2 from (HV.out.rules.below HW1.out).below (HB5.out.mono hz4))
 have hrd:=rounds_any 168 #[.pointer (some ⟨w4.heap.size,0,none⟩)] (fun _ _=>by kernel_rfl) prodStep (ShortSt gr w4.heap.size n) (.slice A2 m c2) A1 A3 n c1 c3 (w.heap.size+1) gr g.2.2 (List.replicate n false) w5 HN2.out (by rw[←HL.out.2.2];exact HR5.out) HGE.out (by rw[HZ5.out];have:=HLG.out;omega) (fun s w1 w2 h hb=>h.below hb) HST.out (fun s wx r A qq cc hr hs hgl hq hsl=>by
  obtain⟨f1,f2,f3,f4⟩:=HG.out.fit r hr
  obtain⟨k,hk⟩:∃ k:Nat,r.1=(k:Int):=⟨r.1.toNat,by omega⟩
  have:=shortStep_any gr w4.heap.size n (w.heap.size+1) s k r.2 A qq cc wx hs (by have:=HL.out.1;omega) hq (by omega) (fun x hx=>by have:=(f4 x hx).1;have:=HL.out.1;omega) hsl (by have:=HGE.out;omega)
  rw[←hk] at this
  exact this)
 rw[←HL.out.2.2] at hrd
 have HRD:=Lib.hid hrd
 clear hrd
 refine HRD.out.mono ?_
 rintro e w6 ⟨rfl,hst,hgw⟩
 obtain⟨vals,h1,h2,h3⟩:=hst.ex
 have c6:=cell0 hst.box
 have HFIN:=Lib.hid (show ShortTo w (productive g.2.2 n) (.returned (.slice (some ⟨gr,0,none⟩) n n)) w6 from ⟨gr,vals,by rw[h3],h1,h2,(HB4.out.trans (HB5.out.mono (Nat.le_of_lt hz4))).trans (below_of_grown hgw (by have:=HGE.out;omega) (by rw[HZ5.out];omega))⟩)
 clear h1 h2 h3 hst hgw HRD
 go_wp2_with fail
 go_ret
 exact HFIN.out
end Go.Proofs.YtfpihflepeiagaaGreatDoor
