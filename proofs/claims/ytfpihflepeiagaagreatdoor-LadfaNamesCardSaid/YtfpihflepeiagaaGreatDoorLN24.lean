import Derived.Test.YtfpihflepeiagaaGreatDoorLN23
import Derived.OrdersHeld
namespace Go.Proofs.YtfpihflepeiagaaGreatDoor.TextU
open Go Go.RowKit Go.Proofs.YtfpihflepeiagaaGreatDoor.Text
def Q0 (K:Act→World→Prop):Exit→Act→World→Prop:=fun e a w=>e=.normal∧K a w
def need (us:List Nat) (listed:Array Bool):Prop:=∃ u∈us,listed.getD u true=false
variable {P:Program} {ops:Array Oper} {K:Act→World→Prop} {S:World→Prop} {us:List Nat}
def wpU (P:Program) (ops:Array Oper) (K:Act→World→Prop) (S:World→Prop) (us:List Nat):Nat→Array Bool→Act→World→Prop
 |0,listed,a,w=>Region.ready .any ops listed=[]∧K a w
 |fuel+1,listed,a,w=>(Region.ready .any ops listed=[]→K a w) ∧
  ∀ j∈Region.ready .any ops listed,wpOp P ops (Q0 K) j (fun a' w'=>(need us (listed.setIfInBounds j true)→S w')∧wpU P ops K S us fuel (listed.setIfInBounds j true) a' w') a w
theorem any_of_U:∀ (fuel:Nat) (listed:Array Bool) (a:Act) (w:World),wpU P ops K S us fuel listed a w→wpAny P .any ops (Q0 K) fuel listed a w
 |0,_,_,_,h=>⟨h.1,rfl,h.2⟩
 |fuel+1,_,_,_,h=>⟨fun h0=>⟨rfl,h.1 h0⟩,fun j hj=>wpOp_mono (fun a' w' hh=>any_of_U fuel _ a' w' hh.2) (h.2 j hj)⟩
theorem first_U {i:Nat} {oi:Oper} {v:Value} (hi:ops[i]? = some oi) (hsel:∀ (j:Nat) (o:Oper) cs b,ops[j]? = some o→o.op≠.select cs b) {T:World→Prop}
  (hnotIn:i∉us) (hT:(∀ w,T w)∨((∀ w,S w→T w)∧∃ u∈us,u≠i∧∀ o,ops[u]? = some o→∃ e∈o.after,Region.binds .any e=true∧e.on=i)) :
  ∀ (fuel:Nat) (listed:Array Bool) (a:Act) (w:World),
   (∀ j oj,ops[j]? = some oj→j≠i→listed.getD j true=false→(∀ e∈oj.after,Region.binds .any e=true→e.on≠i)→oi.apart ops oj=true) →
   i∈Region.ready .any ops listed→(∀ u∈us,(∀ o,ops[u]? = some o→∃ e∈o.after,Region.binds .any e=true∧e.on=i)→listed.getD u true=false)→YieldsIf P ops T oi v a→T w→(need us (listed.setIfInBounds i true)→S w) →
   wpU P ops K S us fuel (listed.setIfInBounds i true) (a.put oi.dst v) w→wpU P ops K S us (fuel+1) listed a w:=by
 intro fuel
 induction fuel with
 |zero =>
  intro listed a w _ hr _ hy hTw hS H
  refine⟨fun h=>(by rw[h] at hr;cases hr),fun j hj=>?_⟩
  by_cases hji:j=i
  ·subst hji
   exact hy.wpOp hi hTw ⟨hS,H⟩
  ·have:=ready_mono hj hji
   rw[H.1] at this
   cases this
 |succ fuel ih =>
  intro listed a w hfree hr hus hy hTw hS H
  refine⟨fun h=>(by rw[h] at hr;cases hr),fun j hj=>?_⟩
  by_cases hji:j=i
  ·subst hji
   exact hy.wpOp hi hTw ⟨hS,H⟩
  have h1:=H.2 j (ready_mono hj hji)
  obtain⟨hjun,oj,hoj,hall⟩:=mem_ready.1 hj
  have hin:=(mem_ready.1 hr).1
  have hnot:∀ e∈oj.after,Region.binds .any e=true→e.on≠i:=fun e he hb heq=>by
   have h5:=hall e he hb
   rw[heq] at h5
   have:listed.getD i true=listed.getD i false:=by
    unfold Array.getD
    split
    ·rfl
    ·rename_i hn
     unfold Array.getD at h5
     rw[dif_neg hn] at h5
     cases h5
   rw[this,h5] at hin
   cases hin
  have hju:∀ u∈us,(∀ o,ops[u]? = some o→∃ e∈o.after,Region.binds .any e=true∧e.on=i)→u≠j:=fun u _ hed hju=>by
   subst hju
   obtain⟨e,he,hb,hon⟩:=hed oj hoj
   exact hnot e he hb hon
  have h2:=wpOp_putIf hoj (hfree j oj hoj hji hjun hnot) (fun cs b=>hsel i oi cs b hi) (fun cs b=>hsel j oj cs b hoj) (fun c a w hh=>by cases hh.1) hy h1
  refine wpOp_mono (fun a' w' h3=>?_) h2
  obtain⟨hy3,hS3,H3⟩:=h3
  rw[←Array.setIfInBounds_comm _ _ hji] at hS3 H3
  have hus':∀ u∈us,(∀ o,ops[u]? = some o→∃ e∈o.after,Region.binds .any e=true∧e.on=i)→(listed.setIfInBounds j true).getD u true=false:=fun u hu hed=>by
   rw[getD_set_ne true (Ne.symm (hju u hu hed))]
   exact hus u hu hed
  have hS':(need us (listed.setIfInBounds j true)→S w')∧T w':=by
   rcases hT with hT | ⟨hST,u,hu,hui,hed⟩
   ·refine⟨fun hn=>?_,hT w'⟩
    by_cases hn2:need us ((listed.setIfInBounds j true).setIfInBounds i true)
    ·exact hS3 hn2
    ·obtain⟨u,hu,hun⟩:=hn
     by_cases hui:i=u
     ·subst hui
      exact absurd hu hnotIn
     ·exact absurd ⟨u,hu,by rw[getD_set_ne true hui];exact hun⟩ hn2
   ·have hn2:need us ((listed.setIfInBounds j true).setIfInBounds i true):=⟨u,hu,by rw[getD_set_ne true (Ne.symm hui)];exact hus' u hu hed⟩
    exact⟨fun _=>hS3 hn2,hST w' (hS3 hn2)⟩
  refine⟨hS'.1,ih (listed.setIfInBounds j true) a' w' ?_ (ready_mono hr (Ne.symm hji)) hus' hy3 hS'.2 hS3 H3⟩
  intro k ok hk hki hun hno
  refine hfree k ok hk hki ?_ hno
  by_cases hjk:j=k
  ·subst hjk;exact hjun
  ·rwa [getD_set_ne true hjk] at hun
theorem wp_ofNoQ {o:Oper} {a:Act} {w:World} {K:Act→World→Prop} {Q:Exit→Act→World→Prop} (h:o.wp P a w K NoQ):o.wp P a w K Q:=by
 unfold Oper.wp at *
 generalize (execOp a.eval o).run P w=r at *
 cases r with
 |ok n w' =>
  cases n <;> simp only[Oper.upon] at h ⊢ <;>
   first
    |exact h
    |exact Calls.mono h (fun e w'' he=>by cases e <;> first | exact he | (obtain⟨_,_,hh⟩:=(he:LetsOut NoQ);exact hh.elim) | exact (he:False).elim)
 |halt x w'=>cases x <;> simp only[Oper.upon] at h ⊢ <;> first | exact h | exact h.elim
theorem node_U {i:Nat} {o:Oper} {a:Act} {w:World} {K':Act→World→Prop} (ho:ops[i]? = some o) (h:∀ Q':Exit→Act→World→Prop,(∀ a' w',K' a' w'→Q' .normal a' w')→wpList P ops Q' [o] a w):wpOp P ops (Q0 K) i K' a w:=by
 have h0:=h (fun e a w=>e=.normal∧K' a w) (fun a w hh=>⟨rfl,hh⟩)
 have hnl:¬ LetsOut (fun e a w=>e=Exit.normal∧K' a w):=fun⟨_,_,hh⟩=>by cases hh.1
 have hno:∀ (e:Exit) (a:Act) (w:World),e≠.normal→¬ (e=Exit.normal∧K' a w):=fun _ _ _ hn hh=>hn hh.1
 unfold wpList at h0
 unfold wpOp
 simp only[ho]
 split at h0
 ·rename_i hw
  rw[if_pos hw]
  have h1:=h0.resolve_right fun hh=>hnl hh.2
  have h2:=Oper.wp_mono (K':=K') (fun a w hh=>by
   simp only[wpList] at hh
   exact hh.2) h1
  exact .inl (wp_ofNoQ (wp_noQ hno hnl h2))
 ·rename_i hw
  rw[if_neg hw]
  simp only[wpList] at h0
  exact h0.2
end Go.Proofs.YtfpihflepeiagaaGreatDoor.TextU
namespace Go.Proofs.YtfpihflepeiagaaGreatDoor
open Go.RowKit
structure OkU (us:List Nat) (S:World→Prop) (listed:Array Bool) (w:World):Prop where
 out:TextU.need us listed→S w
theorem okU {us:List Nat} {S:World→Prop} {listed:Array Bool} {w:World} (h:S w):OkU us S listed w:=⟨fun _=>h⟩
theorem okU_past {us:List Nat} {S:World→Prop} {listed:Array Bool} {w:World} (h:(us.all fun u=>listed.getD u true)=true):OkU us S listed w:=⟨fun⟨u,hu,hn⟩=>by
 have:=List.all_eq_true.1 h u hu
 rw[hn] at this
 cases this⟩
section
variable {P:Program} {ops:Array Oper} {K:Act→World→Prop} {S:World→Prop} {us:List Nat} {fuel:Nat} {listed:Array Bool} {a:Act} {w:World}
theorem wpU_start {id:Nat} {Q:Exit→Act→World→Prop} {l:List Oper} (S:World→Prop) (us:List Nat) (n:Nat) (hm:P.follows .mixedOrders=true) (hn:l.length=n) (h:Stop (TextU.wpU P l.toArray (fun a w=>Q .normal a w) S us n (Array.replicate n false) a w.drew)):(Code.region id l.toArray true).wp P Q a w:=by
 subst hn
 refine Code.wp_mono (Q:=TextU.Q0 fun a w=>Q .normal a w) ?_ (wp_region_any hm ?_)
 ·rintro e a w ⟨rfl,h⟩
  exact h
 ·have:=TextU.any_of_U _ _ _ _ h.out
  simpa using this
theorem wpU_pure {i:Nat} {oi:Oper} {v:Value} (hi:ops[i]? = some oi) (hs:Region.noSelect ops=true) (hf:Region.free .any ops listed i=true) (hr:(Region.ready .any ops listed).contains i=true) (hni:us.contains i=false) (hun:(us.all fun u=>!listed.getD u true)=true)
  (hw:Region.wanted oi (yielded ops a.tmps)=true) (hy:∀ w,(execOp a.eval oi).run P w=.ok (.value v) w) (hS:S w) (h:Stop (TextU.wpU P ops K S us fuel (listed.setIfInBounds i true) (a.put oi.dst v) w)):Stop (TextU.wpU P ops K S us (fuel+1) listed a w) :=
 ⟨TextU.first_U hi (Region.noSelect_spec hs) (by simpa using hni) (T:=fun _=>True) (.inl fun _=>trivial) fuel listed a w (Region.free_spec hi hf) (by simpa using hr) (fun u hu _=>by have:=List.all_eq_true.1 hun u hu;simpa using this) (.inl ⟨hw,fun w _=>hy w⟩) trivial (fun _=>hS) h.out⟩
theorem wpU_load {i:Nat} {oi:Oper} {v:Value} (hi:ops[i]? = some oi) (hs:Region.noSelect ops=true) (hf:Region.free .any ops listed i=true) (hr:(Region.ready .any ops listed).contains i=true) (hni:us.contains i=false) (hun:(us.all fun u=>!listed.getD u true)=true)
  (hed:(us.any fun u=>match ops[u]? with | some o=>o.after.any (fun e=>Region.binds .any e&&e.on==i) | none=>false)=true)
  (hw:Region.wanted oi (yielded ops a.tmps)=true) (hy:∀ w,S w→(execOp a.eval oi).run P w=.ok (.value v) w) (hS:S w) (h:Stop (TextU.wpU P ops K S us fuel (listed.setIfInBounds i true) (a.put oi.dst v) w)):Stop (TextU.wpU P ops K S us (fuel+1) listed a w) :=
 ⟨TextU.first_U hi (Region.noSelect_spec hs) (by simpa using hni) (T:=S) (.inr ⟨fun _ h=>h,by
  obtain⟨u,hu,h1⟩:=List.any_eq_true.1 hed
  refine⟨u,hu,fun e=>?_,fun o ho=>?_⟩
  ·rw[←e] at hni
   simp[hu] at hni
  ·simp only[ho] at h1
   obtain⟨e,he,h2⟩:=Array.any_eq_true'.1 h1
   rw[Bool.and_eq_true,beq_iff_eq] at h2
   exact⟨e,he,h2.1,h2.2⟩⟩) fuel listed a w (Region.free_spec hi hf) (by simpa using hr) (fun u hu _=>by have:=List.all_eq_true.1 hun u hu;simpa using this) (.inl ⟨hw,hy⟩) hS (fun _=>hS) h.out⟩
theorem wpU_one {i:Nat} {o:Oper} (hr:Region.ready .any ops listed=[i]) (ho:ops[i]? = some o)
  (h:∀ Q':Exit→Act→World→Prop,(∀ a' w',OkU us S (listed.setIfInBounds i true) w'∧Stop (TextU.wpU P ops K S us fuel (listed.setIfInBounds i true) a' w')→Q' .normal a' w')→wpList P ops Q' [o] a w):Stop (TextU.wpU P ops K S us (fuel+1) listed a w) :=
 ⟨(fun h0=>by rw[hr] at h0;cases h0),fun j hj=>by
  rw[hr,List.mem_singleton] at hj
  subst hj
  exact TextU.node_U ho fun Q' hQ'=>h Q' fun a w hh=>hQ' a w ⟨hh.1.out,hh.2.out⟩⟩
theorem wpU_two {i j:Nat} {o p:Oper} (hr:Region.ready .any ops listed=[i,j]) (ho:ops[i]? = some o) (hp:ops[j]? = some p)
  (h:∀ Q':Exit→Act→World→Prop,(∀ a' w',OkU us S (listed.setIfInBounds i true) w'∧Stop (TextU.wpU P ops K S us fuel (listed.setIfInBounds i true) a' w')→Q' .normal a' w')→wpList P ops Q' [o] a w)
  (k:∀ Q':Exit→Act→World→Prop,(∀ a' w',OkU us S (listed.setIfInBounds j true) w'∧Stop (TextU.wpU P ops K S us fuel (listed.setIfInBounds j true) a' w')→Q' .normal a' w')→wpList P ops Q' [p] a w):Stop (TextU.wpU P ops K S us (fuel+1) listed a w) :=
 ⟨(fun h0=>by rw[hr] at h0;cases h0),fun l hl=>by
  rw[hr] at hl
  rcases List.mem_cons.1 hl with rfl | hl
  ·exact TextU.node_U ho fun Q' hQ'=>h Q' fun a w hh=>hQ' a w ⟨hh.1.out,hh.2.out⟩
  ·rw[List.mem_singleton] at hl
   subst hl
   exact TextU.node_U hp fun Q' hQ'=>k Q' fun a w hh=>hQ' a w ⟨hh.1.out,hh.2.out⟩⟩
theorem wpU_end (hr:Region.ready .any ops listed=[]) (h:K a w):∀ fuel,Stop (TextU.wpU P ops K S us fuel listed a w)
 |0=>⟨hr,h⟩
 |_+1=>⟨fun _=>h,fun j hj=>by rw[hr] at hj;cases hj⟩
end
end Go.Proofs.YtfpihflepeiagaaGreatDoor
