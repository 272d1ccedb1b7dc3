/- Texts of this proof joined: TakeU, RefBook, Seven2, RecIndex. -/
import Derived.Test.YtplbcbamnjnhlaaGreatDoorMT00
import Derived.Test.YtplbcbamnjnhlaaGreatDoorMT24
import Derived.OrdersHeld
import Derived.Test.YtplbcbamnjnhlaaGreatDoorMT28
import Derived.Test.YtplbcbamnjnhlaaGreatDoorMT14
import Derived.Test.YtplbcbamnjnhlaaGreatDoorMT15
set_option maxRecDepth 100000
set_option maxHeartbeats 40000000
namespace Go.Proofs.YtplbcbamnjnhlaaGreatDoor.TextU
open Go Go.RowKit Go.Proofs.YtplbcbamnjnhlaaGreatDoor.Text
def Q0 (K : Act → World → Prop) : Exit → Act → World → Prop := fun e a w => e = .normal ∧ K a w
def need (us : List Nat) (listed : Array Bool) : Prop := ∃ u ∈ us, listed.getD u true = false
variable {P : Program} {ops : Array Oper} {K : Act → World → Prop} {S : World → Prop} {us : List Nat}
def wpU (P : Program) (ops : Array Oper) (K : Act → World → Prop) (S : World → Prop) (us : List Nat) : Nat → Array Bool → Act → World → Prop
 |0, listed, a, w => Region.ready .any ops listed = [] ∧ K a w
 |fuel + 1, listed, a, w => (Region.ready .any ops listed = [] → K a w) ∧
  ∀ j ∈ Region.ready .any ops listed, wpOp P ops (Q0 K) j (fun a' w' => (need us (listed.setIfInBounds j true) → S w') ∧ wpU P ops K S us fuel (listed.setIfInBounds j true) a' w') a w
theorem any_of_U : ∀ (fuel : Nat) (listed : Array Bool) (a : Act) (w : World), wpU P ops K S us fuel listed a w → wpAny P .any ops (Q0 K) fuel listed a w
 |0, _, _, _, h => ⟨h.1, rfl, h.2⟩
 |fuel + 1, _, _, _, h => ⟨fun h0 => ⟨rfl, h.1 h0⟩, fun j hj => wpOp_mono (fun a' w' hh => any_of_U fuel _ a' w' hh.2) (h.2 j hj)⟩
theorem first_U {i : Nat} {oi : Oper} {v : Value} (hi : ops[i]? = some oi) (hsel : ∀ (j : Nat) (o : Oper) cs b, ops[j]? = some o → o.op ≠ .select cs b) {T : World → Prop}
  (hnotIn : i ∉ us) (hT : (∀ w, T w) ∨ ((∀ w, S w → T w) ∧ ∃ u ∈ us, u ≠ i ∧ ∀ o, ops[u]? = some o → ∃ e ∈ o.after, Region.binds .any e = true ∧ e.on = i)) :
  ∀ (fuel : Nat) (listed : Array Bool) (a : Act) (w : World),
   (∀ j oj, ops[j]? = some oj → j ≠ i → listed.getD j true = false → (∀ e ∈ oj.after, Region.binds .any e = true → e.on ≠ i) → oi.apart ops oj = true) →
   i ∈ Region.ready .any ops listed → (∀ u ∈ us, (∀ o, ops[u]? = some o → ∃ e ∈ o.after, Region.binds .any e = true ∧ e.on = i) → listed.getD u true = false) → YieldsIf P ops T oi v a → T w → (need us (listed.setIfInBounds i true) → S w) →
   wpU P ops K S us fuel (listed.setIfInBounds i true) (a.put oi.dst v) w → wpU P ops K S us (fuel + 1) listed a w := by
 intro fuel
 induction fuel with
 |zero =>
  intro listed a w _ hr _ hy hTw hS H
  refine ⟨fun h => (by rw [h] at hr; cases hr), fun j hj => ?_⟩
  by_cases hji : j = i
  ·subst hji
   exact hy.wpOp hi hTw ⟨hS, H⟩
  ·have := ready_mono hj hji
   rw [H.1] at this
   cases this
 |succ fuel ih =>
  intro listed a w hfree hr hus hy hTw hS H
  refine ⟨fun h => (by rw [h] at hr; cases hr), fun j hj => ?_⟩
  by_cases hji : j = i
  ·subst hji
   exact hy.wpOp hi hTw ⟨hS, H⟩
  have h1 := H.2 j (ready_mono hj hji)
  obtain ⟨hjun, oj, hoj, hall⟩ := mem_ready.1 hj
  have hin := (mem_ready.1 hr).1
  have hnot : ∀ e ∈ oj.after, Region.binds .any e = true → e.on ≠ i := fun e he hb heq => by
   have h5 := hall e he hb
   rw [heq] at h5
   have : listed.getD i true = listed.getD i false := by
    unfold Array.getD
    split
    ·rfl
    ·rename_i hn
     unfold Array.getD at h5
     rw [dif_neg hn] at h5
     cases h5
   rw [this, h5] at hin
   cases hin
  have hju : ∀ u ∈ us, (∀ o, ops[u]? = some o → ∃ e ∈ o.after, Region.binds .any e = true ∧ e.on = i) → u ≠ j := fun u _ hed hju => by
   subst hju
   obtain ⟨e, he, hb, hon⟩ := hed oj hoj
   exact hnot e he hb hon
  have h2 := wpOp_putIf hoj (hfree j oj hoj hji hjun hnot) (fun cs b => hsel i oi cs b hi) (fun cs b => hsel j oj cs b hoj) (fun c a w hh => by cases hh.1) hy h1
  refine wpOp_mono (fun a' w' h3 => ?_) h2
  obtain ⟨hy3, hS3, H3⟩ := h3
  rw [← Array.setIfInBounds_comm _ _ hji] at hS3 H3
  have hus' : ∀ u ∈ us, (∀ o, ops[u]? = some o → ∃ e ∈ o.after, Region.binds .any e = true ∧ e.on = i) → (listed.setIfInBounds j true).getD u true = false := fun u hu hed => by
   rw [getD_set_ne true (Ne.symm (hju u hu hed))]
   exact hus u hu hed
  have hS' : (need us (listed.setIfInBounds j true) → S w') ∧ T w' := by
   rcases hT with hT | ⟨hST, u, hu, hui, hed⟩
   ·refine ⟨fun hn => ?_, hT w'⟩
    by_cases hn2 : need us ((listed.setIfInBounds j true).setIfInBounds i true)
    ·exact hS3 hn2
    ·obtain ⟨u, hu, hun⟩ := hn
     by_cases hui : i = u
     ·subst hui
      exact absurd hu hnotIn
     ·exact absurd ⟨u, hu, by rw [getD_set_ne true hui]; exact hun⟩ hn2
   ·have hn2 : need us ((listed.setIfInBounds j true).setIfInBounds i true) := ⟨u, hu, by rw [getD_set_ne true (Ne.symm hui)]; exact hus' u hu hed⟩
    exact ⟨fun _ => hS3 hn2, hST w' (hS3 hn2)⟩
  refine ⟨hS'.1, ih (listed.setIfInBounds j true) a' w' ?_ (ready_mono hr (Ne.symm hji)) hus' hy3 hS'.2 hS3 H3⟩
  intro k ok hk hki hun hno
  refine hfree k ok hk hki ?_ hno
  by_cases hjk : j = k
  ·subst hjk; exact hjun
  ·rwa [getD_set_ne true hjk] at hun
theorem wp_ofNoQ {o : Oper} {a : Act} {w : World} {K : Act → World → Prop} {Q : Exit → Act → World → Prop} (h : o.wp P a w K NoQ) : o.wp P a w K Q := by
 unfold Oper.wp at *
 generalize (execOp a.eval o).run P w = r at *
 cases r with
 |ok n w' =>
  cases n <;> simp only [Oper.upon] at h ⊢ <;>
   first
    |exact h
    |exact Calls.mono h (fun e w'' he => by cases e <;> first | exact he | (obtain ⟨_, _, hh⟩ := (he : LetsOut NoQ); exact hh.elim) | exact (he : False).elim)
 |halt x w' => cases x <;> simp only [Oper.upon] at h ⊢ <;> first | exact h | exact h.elim
theorem node_U {i : Nat} {o : Oper} {a : Act} {w : World} {K' : Act → World → Prop} (ho : ops[i]? = some o) (h : ∀ Q' : Exit → Act → World → Prop, (∀ a' w', K' a' w' → Q' .normal a' w') → wpList P ops Q' [o] a w) : wpOp P ops (Q0 K) i K' a w := by
 have h0 := h (fun e a w => e = .normal ∧ K' a w) (fun a w hh => ⟨rfl, hh⟩)
 have hnl : ¬ LetsOut (fun e a w => e = Exit.normal ∧ K' a w) := fun ⟨_, _, hh⟩ => by cases hh.1
 have hno : ∀ (e : Exit) (a : Act) (w : World), e ≠ .normal → ¬ (e = Exit.normal ∧ K' a w) := fun _ _ _ hn hh => hn hh.1
 unfold wpList at h0
 unfold wpOp
 simp only [ho]
 split at h0
 ·rename_i hw
  rw [if_pos hw]
  have h1 := h0.resolve_right fun hh => hnl hh.2
  have h2 := Oper.wp_mono (K' := K') (fun a w hh => by
   simp only [wpList] at hh
   exact hh.2) h1
  exact .inl (wp_ofNoQ (wp_noQ hno hnl h2))
 ·rename_i hw
  rw [if_neg hw]
  simp only [wpList] at h0
  exact h0.2
end Go.Proofs.YtplbcbamnjnhlaaGreatDoor.TextU
namespace Go.Proofs.YtplbcbamnjnhlaaGreatDoor
open Go.RowKit
structure OkU (us : List Nat) (S : World → Prop) (listed : Array Bool) (w : World) : Prop where
 o : TextU.need us listed → S w
theorem okU {us : List Nat} {S : World → Prop} {listed : Array Bool} {w : World} (h : S w) : OkU us S listed w := ⟨fun _ => h⟩
theorem iy {us : List Nat} {S : World → Prop} {listed : Array Bool} {w : World} (h : (us.all fun u => listed.getD u true) = true) : OkU us S listed w := ⟨fun ⟨u, hu, hn⟩ => by
 have := List.all_eq_true.1 h u hu
 rw [hn] at this
 cases this⟩
section
variable {P : Program} {ops : Array Oper} {K : Act → World → Prop} {S : World → Prop} {us : List Nat} {fuel : Nat} {listed : Array Bool} {a : Act} {w : World}
theorem qc {id : Nat} {Q : Exit → Act → World → Prop} {l : List Oper} (S : World → Prop) (us : List Nat) (n : Nat) (hm : P.follows .mixedOrders = true) (hn : l.length = n) (h : Stop (TextU.wpU P l.toArray (fun a w => Q .normal a w) S us n (Array.replicate n false) a w.drew)) : (Code.region id l.toArray true).wp P Q a w := by
 subst hn
 refine Code.wp_mono (Q := TextU.Q0 fun a w => Q .normal a w) ?_ (wp_region_any hm ?_)
 ·rintro e a w ⟨rfl, h⟩
  exact h
 ·have := TextU.any_of_U _ _ _ _ h.o
  simpa using this
theorem wpU_pure {i : Nat} {oi : Oper} {v : Value} (hi : ops[i]? = some oi) (hs : Region.noSelect ops = true) (hf : Region.free .any ops listed i = true) (hr : (Region.ready .any ops listed).contains i = true) (hni : us.contains i = false) (hun : (us.all fun u => !listed.getD u true) = true)
  (hw : Region.wanted oi (yielded ops a.tmps) = true) (hy : ∀ w, (execOp a.eval oi).run P w = .ok (.value v) w) (hS : S w) (h : Stop (TextU.wpU P ops K S us fuel (listed.setIfInBounds i true) (a.put oi.dst v) w)) : Stop (TextU.wpU P ops K S us (fuel + 1) listed a w) :=
 ⟨TextU.first_U hi (Region.noSelect_spec hs) (by simpa using hni) (T := fun _ => True) (.inl fun _ => trivial) fuel listed a w (Region.free_spec hi hf) (by simpa using hr) (fun u hu _ => by have := List.all_eq_true.1 hun u hu; simpa using this) (.inl ⟨hw, fun w _ => hy w⟩) trivial (fun _ => hS) h.o⟩
theorem wpU_load {i : Nat} {oi : Oper} {v : Value} (hi : ops[i]? = some oi) (hs : Region.noSelect ops = true) (hf : Region.free .any ops listed i = true) (hr : (Region.ready .any ops listed).contains i = true) (hni : us.contains i = false) (hun : (us.all fun u => !listed.getD u true) = true)
  (hed : (us.any fun u => match ops[u]? with | some o => o.after.any (fun e => Region.binds .any e && e.on == i) | none => false) = true)
  (hw : Region.wanted oi (yielded ops a.tmps) = true) (hy : ∀ w, S w → (execOp a.eval oi).run P w = .ok (.value v) w) (hS : S w) (h : Stop (TextU.wpU P ops K S us fuel (listed.setIfInBounds i true) (a.put oi.dst v) w)) : Stop (TextU.wpU P ops K S us (fuel + 1) listed a w) :=
 ⟨TextU.first_U hi (Region.noSelect_spec hs) (by simpa using hni) (T := S) (.inr ⟨fun _ h => h, by
  obtain ⟨u, hu, h1⟩ := List.any_eq_true.1 hed
  refine ⟨u, hu, fun e => ?_, fun o ho => ?_⟩
  ·rw [← e] at hni
   simp [hu] at hni
  ·simp only [ho] at h1
   obtain ⟨e, he, h2⟩ := Array.any_eq_true'.1 h1
   rw [Bool.and_eq_true, beq_iff_eq] at h2
   exact ⟨e, he, h2.1, h2.2⟩⟩) fuel listed a w (Region.free_spec hi hf) (by simpa using hr) (fun u hu _ => by have := List.all_eq_true.1 hun u hu; simpa using this) (.inl ⟨hw, hy⟩) hS (fun _ => hS) h.o⟩
def okW (ops : Array Oper) (listed : Array Bool) (us : List Nat) (i : Nat) : Bool := Region.noSelect ops && Region.free .any ops listed i && (Region.ready .any ops listed).contains i && !us.contains i
theorem wq1 {i : Nat} {oi : Oper} {v : Value} (hi : ops[i]? = some oi) (hc : (okW ops listed us i && us.all fun u => !listed.getD u true) = true) (hw : Region.wanted oi (yielded ops a.tmps) = true) (hy : ∀ w, (execOp a.eval oi).run P w = .ok (.value v) w) (hS : S w)
    (h : Stop (TextU.wpU P ops K S us fuel (listed.setIfInBounds i true) (a.put oi.dst v) w)) : Stop (TextU.wpU P ops K S us (fuel + 1) listed a w) := by
  unfold okW at hc
  simp only [Bool.and_eq_true, Bool.not_eq_true'] at hc
  exact wpU_pure hi hc.1.1.1.1 hc.1.1.1.2 hc.1.1.2 hc.1.2 hc.2 hw hy hS h
theorem wq3 {i : Nat} {oi : Oper} {v : Value} (hi : ops[i]? = some oi) (hc : ((okW ops listed us i && us.all fun u => !listed.getD u true) && us.any fun u => match ops[u]? with | some o => o.after.any (fun e => Region.binds .any e && e.on == i) | none => false) = true)
    (hw : Region.wanted oi (yielded ops a.tmps) = true) (hy : ∀ w, S w → (execOp a.eval oi).run P w = .ok (.value v) w) (hS : S w) (h : Stop (TextU.wpU P ops K S us fuel (listed.setIfInBounds i true) (a.put oi.dst v) w)) : Stop (TextU.wpU P ops K S us (fuel + 1) listed a w) := by
  obtain ⟨hc, hd⟩ := Bool.and_eq_true_iff.1 hc
  unfold okW at hc
  simp only [Bool.and_eq_true, Bool.not_eq_true'] at hc
  exact wpU_load hi hc.1.1.1.1 hc.1.1.1.2 hc.1.1.2 hc.1.2 hc.2 hd hw hy hS h
theorem ea {i : Nat} {o : Oper} (hr : Region.ready .any ops listed = [i]) (ho : ops[i]? = some o)
  (h : ∀ Q' : Exit → Act → World → Prop, (∀ a' w', OkU us S (listed.setIfInBounds i true) w' ∧ Stop (TextU.wpU P ops K S us fuel (listed.setIfInBounds i true) a' w') → Q' .normal a' w') → wpList P ops Q' [o] a w) : Stop (TextU.wpU P ops K S us (fuel + 1) listed a w) :=
 ⟨(fun h0 => by rw [hr] at h0; cases h0), fun j hj => by
  rw [hr, List.mem_singleton] at hj
  subst hj
  exact TextU.node_U ho fun Q' hQ' => h Q' fun a w hh => hQ' a w ⟨hh.1.o, hh.2.o⟩⟩
theorem qdg {i j : Nat} {o p : Oper} (hr : Region.ready .any ops listed = [i, j]) (ho : ops[i]? = some o) (hp : ops[j]? = some p)
  (h : ∀ Q' : Exit → Act → World → Prop, (∀ a' w', OkU us S (listed.setIfInBounds i true) w' ∧ Stop (TextU.wpU P ops K S us fuel (listed.setIfInBounds i true) a' w') → Q' .normal a' w') → wpList P ops Q' [o] a w)
  (k : ∀ Q' : Exit → Act → World → Prop, (∀ a' w', OkU us S (listed.setIfInBounds j true) w' ∧ Stop (TextU.wpU P ops K S us fuel (listed.setIfInBounds j true) a' w') → Q' .normal a' w') → wpList P ops Q' [p] a w) : Stop (TextU.wpU P ops K S us (fuel + 1) listed a w) :=
 ⟨(fun h0 => by rw [hr] at h0; cases h0), fun l hl => by
  rw [hr] at hl
  rcases List.mem_cons.1 hl with rfl | hl
  ·exact TextU.node_U ho fun Q' hQ' => h Q' fun a w hh => hQ' a w ⟨hh.1.o, hh.2.o⟩
  ·rw [List.mem_singleton] at hl
   subst hl
   exact TextU.node_U hp fun Q' hQ' => k Q' fun a w hh => hQ' a w ⟨hh.1.o, hh.2.o⟩⟩
theorem rn (hr : Region.ready .any ops listed = []) (h : K a w) : ∀ fuel, Stop (TextU.wpU P ops K S us fuel listed a w)
 |0 => ⟨hr, h⟩
 |_ + 1 => ⟨fun _ => h, fun j hj => by rw [hr] at hj; cases hj⟩
end

def aj (b : bj) (L P O : Value) : List Value := [.bool b.head, L, P, O, .int .i64 b.next]
def fm (l : List (K32 × K32)) : List dg := l.map fun p => (0, p)
def RB (w : World) (B : Nat) (v : Value) (b : bj) : Prop := ∃ L P O, v = .agg (aj b L P O).toArray ∧ SlR gh w B L (fm b.live) ∧ SlR eK w B P b.pins ∧ SlR gh w B O b.ints
theorem qrm {β γ : Type} (g : β → γ) (f : γ → Bool) (x : β) : ∀ l : List β, ins f (g x) (l.map g) = (ins (fun y => f (g y)) x l).map g
 |[] => rfl
 |y :: r => by
  rw [List.map_cons]
  unfold ins
  rw [← List.map_cons, List.all_map, qrm g f x r]
  by_cases h : (y :: r).all (fun y => f (g y)) = true
  ·rw [if_pos h, if_pos (by rw [← h]; rfl)]
   rfl
  ·rw [if_neg h, if_neg (by intro hh; exact h (by rw [← hh]; rfl))]
   rfl
theorem qie (l : List (K32 × K32)) (k : K32) : (fm l).filter (fun y => decide (y.2.1 ≠ k)) = fm (outL l k) := by
 unfold fm outL
 rw [List.filter_map]
 rfl
theorem qid (l : List (K32 × K32)) (k m : K32) : ins (fun y => eb k y.2.1) ((0, (k, m)) : dg) ((fm l).filter fun y => decide (y.2.1 ≠ k)) = fm (putL k m l) := by
 rw [qie]
 unfold putL
 exact qrm (fun p : K32 × K32 => ((0, p) : dg)) (fun y => eb k y.2.1) (k, m) (outL l k)
theorem oe (l : List (K32 × K32)) : (fm l).length = l.length := by simp [fm]
noncomputable def book33D : TypeDesc := .struct (Tryz.prog.fieldsOf 30)
theorem gi : Tryz.prog.underlying 30 = some book33D := by kernel_rfl
theorem fg (b : bj) (L P O : Value) : (Tryz.prog.info? 30).map (·.size) = some (aj b L P O).length := by show _ = some 5; kernel_rfl
abbrev nilV : Value := .slice none 0 0
theorem rm (w : World) : (zeroValue 30).run Tryz.prog w = .ok (.agg (aj az nilV nilV nilV).toArray) w := by kernel_rfl
theorem qnt {α : Type} {E : Elt α} {w : World} {B : Nat} {v : Value} {xs : List α} (h : SlR E w B v xs) : v.oneCell' = true := by
 obtain ⟨A, c, rfl, _⟩ := h.form
 rfl
theorem oy {b : bj} {L P O : Value} {w : World} {B : Nat} {l : List dg} {p : List K32} {o : List dg} (hL : SlR gh w B L l) (hP : SlR eK w B P p) (hO : SlR gh w B O o) : ∀ u ∈ aj b L P O, u.oneCell' = true := by
 intro u hu
 simp only [aj, List.mem_cons, List.not_mem_nil, or_false] at hu
 rcases hu with rfl | rfl | rfl | rfl | rfl
 ·rfl
 ·exact qnt hL
 ·exact qnt hP
 ·exact qnt hO
 ·rfl
theorem ow {α : Type} {E : Elt α} {w w' : World} {q : Nat} {cs5 : Array Value} {t : TypeId} {fr : Nat × Nat} (hq5 : w.heap[q]? = some (.cells cs5 t fr)) (h5 : cs5.size = 5) (ho : ∀ k, k ≠ q → w'.heap[k]? = w.heap[k]?) {B : Nat} (hE : 6 ≤ E.size) (hrep : ∀ cs x, E.rep w B cs x → E.rep w' B cs x) {v : Value} {xs : List α} (hs : SlR E w B v xs) : SlR E w' B v xs := by
 obtain ⟨A, c, css, e, h1, h2, h3, h4, h6⟩ := hs
 refine ⟨A, c, css, e, h1, h2, h3, ?_, fun i cs x hc hx => hrep _ _ (h6 i cs x hc hx)⟩
 intro hne
 have hl : 6 ≤ css.flatten.length := by
  cases css with
  |nil => simp at hne
  |cons cs r =>
   have hx : 0 < xs.length := by rw [← h3]; simp
   have := E.len (h6 0 cs xs[0] rfl (List.getElem?_eq_getElem hx))
   rw [List.flatten_cons, List.length_append]
   omega
 obtain ⟨p, off, rfl, hp, hc⟩ := h4 hne
 have hpq : p ≠ q := fun he => by
  have := hc 5 _ (List.getElem?_eq_getElem (by omega))
  rw [he, cell_of_row _ _ _ _ _ _ hq5, Array.getElem?_eq_none (by omega)] at this
  cases this
 exact ⟨p, off, rfl, hp, fun j u hu => (World.cell?_of_block (w := w) (w' := w') (a := ⟨p, off + j, none⟩) (ho p hpq)).trans (hc j u hu)⟩
structure MidR (w wc : World) (b : bj) (L P O : Value) (kind seq : Int) (kx mx : K32) (v : Value) (keys : List KeyD) : Prop where
 row : wc.heap[w.heap.size]? = some (.cells (aj b L P O).toArray 30 (0, 0))
 rec_ : cu wc (w.heap.size + 1) 42 kind seq kx.1.1 kx.1.2 mx.1.1 mx.1.2 v
 o : wc.heap[w.heap.size + 2]? = some (.cells (aj az nilV nilV nilV).toArray 30 (0, 0))
 live : SlR gh wc wc.heap.size L (fm b.live)
 pins : SlR eK wc wc.heap.size P b.pins
 ints : SlR gh wc wc.heap.size O b.ints
 keys_ : SlR eKey wc w.heap.size v keys
 below : Below w.heap.size w wc
section
variable {w wc w' : World} {b b' : bj} {L P O L' P' O' : Value} {kind seq : Int} {kx mx : K32} {v : Value} {keys : List KeyD}
theorem MidR.lt (h : MidR w wc b L P O kind seq kx mx v keys) : w.heap.size + 2 < wc.heap.size := (gl h.o)
theorem MidR.later (h : MidR w wc b L P O kind seq kx mx v keys) (hb : Below wc.heap.size wc w') : MidR w w' b L P O kind seq kx mx v keys :=
 have hl := h.lt
 ⟨(hb.block _ (by omega)).trans h.row, h.rec_.later hb, (hb.block _ (by omega)).trans h.o, h.live.fut hb (nr _) hb.size, h.pins.fut hb (nr _) hb.size, h.ints.fut hb (nr _) hb.size, h.keys_.below (hb.mono (by omega)), h.below.trans (hb.mono (by omega))⟩
theorem MidR.turn (h : MidR w wc b L P O kind seq kx mx v keys) (hL : SlR gh wc wc.heap.size L' (fm b'.live)) (hP : SlR eK wc wc.heap.size P' b'.pins) (hO : SlR gh wc wc.heap.size O' b'.ints) :
  MidR w (wc.setRow w.heap.size (aj b' L' P' O').toArray) b' L' P' O' kind seq kx mx v keys := by
 have ho : ∀ k, k ≠ w.heap.size → (wc.setRow w.heap.size (aj b' L' P' O').toArray).heap[k]? = wc.heap[k]? := fun k hk => setRow_other _ _ _ _ hk
 refine ⟨setRow_heap _ _ _ _ _ _ h.row, ⟨(ho _ (by omega)).trans h.rec_.blk, h.rec_.hk, h.rec_.hm⟩, (ho _ (by omega)).trans h.o, ?_, ?_, ?_, ?_, below_setRow h.below (nr _) _⟩
 ·rw [setRow_size]; exact ow h.row rfl ho (by decide) (fun _ _ h => h) hL
 ·rw [setRow_size]; exact ow h.row rfl ho (by decide) (fun _ _ h => h) hP
 ·rw [setRow_size]; exact ow h.row rfl ho (by decide) (fun _ _ h => h) hO
 ·exact ow h.row rfl ho (by rw [tk]; omega) (fun cs x hx => by
   obtain ⟨rfl, h1, h2, h3⟩ := tm hx
   exact qdq h1 h2 h3) h.keys_
theorem MidR.done (h : MidR w wc b L P O kind seq kx mx v keys) : RB (wc.setRow (w.heap.size + 2) (aj b L P O).toArray) (wc.setRow (w.heap.size + 2) (aj b L P O).toArray).heap.size (.agg (aj b L P O).toArray) b ∧
  Below w.heap.size w (wc.setRow (w.heap.size + 2) (aj b L P O).toArray) ∧ (wc.setRow (w.heap.size + 2) (aj b L P O).toArray).heap[w.heap.size + 2]? = some (.cells (aj b L P O).toArray 30 (0, 0)) := by
 have ho : ∀ k, k ≠ w.heap.size + 2 → (wc.setRow (w.heap.size + 2) (aj b L P O).toArray).heap[k]? = wc.heap[k]? := fun k hk => setRow_other _ _ _ _ hk
 rw [setRow_size]
 exact ⟨⟨L, P, O, rfl, ow h.o rfl ho (by decide) (fun _ _ h => h) h.live, ow h.o rfl ho (by decide) (fun _ _ h => h) h.pins, ow h.o rfl ho (by decide) (fun _ _ h => h) h.ints⟩, below_setRow h.below (by omega) _, setRow_heap _ _ _ _ _ _ h.o⟩
theorem gt {w : World} {q : Nat} {b : bj} {L P O : Value} {t : TypeId} (h : w.heap[q]? = some (.cells (aj b L P O).toArray t (0, 0))) :
  w.cell? ⟨q, 0, none⟩ = some (.bool b.head) ∧ w.cell? ⟨q, 1, none⟩ = some L ∧ w.cell? ⟨q, 2, none⟩ = some P ∧ w.cell? ⟨q, 3, none⟩ = some O ∧ w.cell? ⟨q, 4, none⟩ = some (.int .i64 b.next) := by
 refine ⟨?_, ?_, ?_, ?_, ?_⟩ <;> (rw [cell_of_row _ _ _ _ _ _ h]; rfl)
end
theorem oa {w : World} {q i : Nat} {b b' : bj} {L P O L' P' O' x : Value} {t ty : TypeId} (h : w.heap[q]? = some (.cells (aj b L P O).toArray t (0, 0))) (hi : (Tryz.prog.info? ty).map (·.size) = some 1) (hx : x.cells = #[x]) (h1 : x.oneCell' = true) (hlt : i < 5)
  (he : (aj b L P O).set i x = aj b' L' P' O') : (Instr.storeAt ty (.pointer (some ⟨q, i, none⟩)) x).run Tryz.prog w = .ok () (w.setRow q (aj b' L' P' O').toArray) := by
 have hz : (aj b L P O).toArray.size = 5 := rfl
 rw [jt (vs := [x]) hx hi h (by rw [hz]; exact hlt) (fun u hu => by rw [List.mem_singleton.1 hu]; exact h1), ← he]
 have hs : (aj b L P O).set i x = (aj b L P O).take i ++ [x] ++ (aj b L P O).drop (i + 1) := by
  rw [List.set_eq_take_append_cons_drop, if_pos (show i < (aj b L P O).length from hlt), List.append_assoc]
  rfl
 rw [hs]
 rfl
theorem iq {fn : Func} {p u : Tmp} {x : Value} {Q : Ending → World → Prop} (h : fn.results = #[.cell p 30, .tmp u]) {a : Act} {w : World} {g : Nat} {b : bj} {L P O : Value} {fr : Nat × Nat} {t : TypeId} (hd : a.defers = [])
  (hp : a.tmps.getD p undef = .pointer (some ⟨g, 0, none⟩)) (hu : a.tmps.getD u undef = x) (hg : w.heap[g]? = some (.cells (aj b L P O).toArray t fr)) (hq : Q (.returned (.tuple #[.agg (aj b L P O).toArray, x])) w) : bodyPost Tryz.prog fn Q .ret a w := by
 refine bodyPost_ret (v := .tuple #[.agg (aj b L P O).toArray, x]) ?_ hd hq
 rw [results_cell_tmp h, hp, hu]
 simp [asAddr, Result.andThen, run_loadVar_row w g t 30 (aj b L P O).toArray fr _ hg gi rfl (fg b L P O)]
theorem xr {b : bj} {r : RecD} : mayD b r = (au r && !(b.head == decide (r.kind = 1)) && (if r.kind = 2 then decide (b.next ≤ r.seq) else if r.kind = 3 then (mc b.ints r.seq).isSome else true)) := rfl
theorem find_at {l : List dg} {s : Int} {i : Nat} {x : dg} (h : ∀ (j : Nat) (y : dg), j < i → l[j]? = some y → y.1 ≠ s) (hi : l[i]? = some x) (hx : x.1 = s) : mc l s = some x ∧ jz l s = l.take i ++ l.drop (i + 1) := by
 induction l generalizing i with
 |nil => simp at hi
 |cons y r ih =>
  cases i with
  |zero =>
   injection hi with hi
   subst hi
   unfold mc jz
   constructor
   ·rw [List.find?_cons, decide_eq_true hx]
   ·rw [List.eraseP_cons, decide_eq_true hx]
    rfl
  |succ i =>
   have h0 := h 0 y (by omega) rfl
   have := ih (i := i) (fun j z hj hz => h (j + 1) z (by omega) (by simpa using hz)) (by simpa using hi)
   unfold mc jz at *
   rw [List.find?_cons, decide_eq_false h0, List.eraseP_cons, decide_eq_false h0]
   exact ⟨this.1, congrArg (List.cons y) this.2⟩
theorem qud {l : List dg} {s : Int} (h : ∀ (j : Nat) (y : dg), l[j]? = some y → y.1 ≠ s) : mc l s = none := by
 unfold mc
 rw [List.find?_eq_none]
 intro x hx
 obtain ⟨j, hj⟩ := List.mem_iff_getElem?.1 hx
 simpa using h j x hj

theorem qfo (l : List UInt8) (k : Nat) (h : k < l.length) : pm (l.take (k + 1)) = (pm (l.take k) && decide (128 ≤ l[k].toNat)) := by
 unfold pm
 rw [List.take_succ_eq_append_getElem h, List.all_append]
 simp only [List.all_cons, List.all_nil, Bool.and_true]
theorem qii (l : List UInt8) (k : Nat) (h : k < l.length) (hb : l[k].toNat < 128) : pm l = false := by
 unfold pm
 rw [List.all_eq_false]
 exact ⟨l[k], List.getElem_mem h, by simp; omega⟩
theorem qbd (l : List UInt8) (A : Option Addr) (c B : Nat) (w : World) (hr : Rd w B A (ak l)) (hl : l.length ≤ 1099511627776) :
  Calls Tryz.prog 114 #[.slice A l.length c] w fun e w' => e = .returned (.bool (pm l)) ∧ w = w' := by
 have HR := Lh hr
 clear hr
 go_enter Tryz.func114, Tryz.ntmps114
 go_wp2_with fail
 go_loop [6] (fun v6 => ∃ k : Nat, k ≤ l.length ∧ v6 = .int .i64 k ∧ Hid (pm (l.take k) = true)) (fun v6 => l.length - (intOf v6).toNat)
 case atStart => exact ⟨0, by omega, rfl, rfl⟩
 case round =>
  obtain ⟨k, hk, rfl, hh⟩ := hrel
  by_cases hlt : k < l.length
  ·obtain ⟨ab, ao, rfl, hab, hcell⟩ := HR.o.byte hlt
   by_cases hb : l[k].toNat < 128
   ·have HL := Lh (qii l k hlt hb)
    go_wp2
    go_ret
    exact ⟨rt1 (bu HL.o.symm), rfl⟩
   ·have HL := Lh (show pm (l.take (k + 1)) = true by rw [qfo l k hlt, hh.o]; simp; omega)
    go_wp2
    go_round
    case rel => exact ⟨k + 1, by omega, by go_num, HL.o⟩
    case measure => simp [intOf]; omega
  ·have hkl : k = l.length := by omega
   subst hkl
   rw [List.take_length] at hh
   go_wp2
   go_ret
   exact ⟨rt1 (bu hh.o.symm), rfl⟩

theorem vg (n v : Nat) : dw (n + 1) v = dw n v ++ [UInt8.ofNat (v / 256 ^ n % 256)] := by simp [dw, xw]
theorem un_byte (l : List UInt8) (c : UInt8) (i k : Nat) (h : 8 * i + k = 7 * l.length) :
  v128 (l ++ [c]) / 256 ^ i = v128 l / 256 ^ i + c.toNat % 128 * 2 ^ k ∧ dw i (v128 (l ++ [c])) = dw i (v128 l) := by
 have e : 128 ^ l.length = 2 ^ k * 256 ^ i := by rw [pw, ud, ← Nat.pow_add]; congr 1; omega
 rw [qsf, e, ← Nat.mul_assoc]
 refine ⟨?_, ?_⟩
 ·rw [Nat.add_mul_div_right _ _ (Nat.pow_pos (by omega))]
 ·unfold dw
  rw [up 256 (by omega)]
theorem qiz (l : List UInt8) (i k : Nat) (h : 8 * i + k = 7 * l.length) : v128 l / 256 ^ i < 2 ^ k := by
 have e : 128 ^ l.length = 2 ^ k * 256 ^ i := by rw [pw, ud, ← Nat.pow_add]; congr 1; omega
 have := qql l
 rw [e] at this
 exact Nat.div_lt_of_lt_mul (by rw [Nat.mul_comm]; exact this)
theorem and_127b (c : Nat) (hc : c < 256) : bits .and .u8 (c : Int) 127 = ((c % 128 : Nat) : Int) := by
 rw [show (127 : Int) = ((127 : Nat) : Int) by rfl, u8_and_nat _ _ hc (by omega), show (127 : Nat) = 2 ^ 7 - 1 by decide, Nat.and_two_pow_sub_one_eq_mod]
def qni (w : World) (r : Option (List UInt8)) (e : Ending) (w' : World) : Prop :=
 Below w.heap.size w w' ∧ match r with
 |none => e = .returned (.tuple #[.slice none 0 0, .bool false])
 |some t => ∃ v, e = .returned (.tuple #[v, .bool true]) ∧ w'.ownsRow w.heap.size 5 1 v t.length (ak t)
theorem qnq (l : List UInt8) (A : Option Addr) (c B : Nat) (w : World) (hr : Rd w B A (ak l)) (hB : B ≤ w.heap.size) (hl : l.length ≤ 68719476736) :
  Calls Tryz.prog 86 #[.slice A l.length c] w (qni w (dn l)) := by
 have HR := Lh hr
 clear hr
 obtain ⟨n, hn⟩ : ∃ n, n = l.length * 7 / 8 := ⟨_, rfl⟩
 have HN := Lh hn
 have hnl : n ≤ l.length := by omega
 have hni : ((l.length : Int) * 7) / 8 = (n : Int) := by omega
 by_cases hh : pm l = true
 ·by_cases hle : (8 * n + 6) / 7 = l.length
  ·have hle2 : ((8 * (n : Int) + 6) / 7 != (l.length : Int)) = false := by simp; omega
   have HH := Lh hh
   have HLE := Lh hle
   clear hn hle
   go_enter Tryz.func86, Tryz.ntmps86
   go_wp2_with fail
   refine (qbd l A c B w HR.o (by omega)).mono ?_
   rintro e w1 ⟨rfl, rfl⟩
   rw [HH.o]
   go_wp2_with fail
   go_loopw [5, 6, 7, 28] (fun v5 v6 v7 v28 wr => ∃ j i k r : Nat, j ≤ l.length ∧ v28 = .int .i64 j ∧ k < 8 ∧ 8 * i + k = 7 * j ∧ v7 = .int .i64 k ∧ v6 = .int .u64 r ∧ r < 256 ∧ Hid (r = v128 (l.take j) / 256 ^ i) ∧
    wr.ownsRow w.heap.size 5 1 v5 i (ak (dw i (v128 (l.take j)))) ∧ Below w.heap.size w wr) (fun _ _ _ v28 _ => l.length - (intOf v28).toNat)
   case atStart => exact ⟨0, 0, 0, 0, by omega, rfl, by omega, rfl, rfl, rfl, by omega, (by show _ = _; simp [v128, gg]), World.ownsRow_nil _ _ _ _, br _ _⟩
   case round =>
    obtain ⟨j, i, k, r, hj, rfl, hk8, hik, rfl, rfl, hr256, hre, hown, hbr⟩ := hrel
    have hsz := hbr.size
    by_cases hlt : j < l.length
    ·obtain ⟨ab, ao, rfl, hab, hcell⟩ := (HR.o.below (hbr.mono hB)).byte hlt
     have hb8 := l[j].toNat_lt
     have ha := and_127b l[j].toNat hb8
     have hlj : (l.take j).length = j := by rw [List.length_take]; omega
     have hrk : r < 2 ^ k := by rw [hre.o]; exact qiz _ i k (by rw [hlj]; exact hik)
     have UB := Lh (un_byte (l.take j) l[j] i k (by rw [hlj]; exact hik))
     have HT := Lh (show l.take (j + 1) = l.take j ++ [l[j]] from List.take_succ_eq_append_getElem hlt)
     obtain ⟨d, hd⟩ : ∃ d, d = l[j].toNat % 128 := ⟨_, rfl⟩
     rw [← hd] at ha
     have hd128 : d < 128 := by omega
     have ho := or_shl r d k hrk (by omega) (by omega)
     have HD := Lh hd
     clear hlj hrk hd
     have h1 : r + d * 2 ^ k = v128 (l.take (j + 1)) / 256 ^ i := by rw [HT.o, UB.o.1, ← hre.o, ← HD.o]
     have H1 := Lh h1
     have h4 : r + d * 2 ^ k < 32768 := by
      rw [h1]
      have h2 := qiz (l.take (j + 1)) i (k + 7) (by rw [List.length_take, Nat.min_eq_left (by omega)]; omega)
      have h3 : 2 ^ (k + 7) ≤ 2 ^ 15 := Nat.pow_le_pow_right (by omega) (by omega)
      omega
     clear h1
     have hs : ((r : Int) + (d : Int) * 2 ^ k) = ((r + d * 2 ^ k : Nat) : Int) := by simp
     obtain ⟨x, hx⟩ : ∃ x, x = r + d * 2 ^ k := ⟨_, rfl⟩
     rw [← hx] at hs h4 H1 ho
     have HX := Lh hx
     have HS := Lh hs
     clear hx hs
     by_cases hk1 : 8 ≤ k + 7
     ·go_wp2_with (at_builtin; refine ay im rfl rfl rfl rfl (hown.alloc _) (Rd.row (B := wr.heap.size + 1) (hzn wr _) (by omega)) rfl (by simp [Value.oneCell']) ?h63 ?hby ?hbase ?_)
      case h63 => simp only [maxLen]; omega
      case hby => omega
      case hbase => simp; omega
      intro v1 w3 hown3 hg3 _ _
      have HO := Lh hown3
      have HG3 := Lh hg3
      clear hown3 hg3
      go_wp2
      go_roundw
      case rel =>
       refine ⟨j + 1, i + 1, k - 1, x / 256, by omega, by go_num, by omega, by omega, vint (by omega), by rfl, by omega, ?_, ?_, ax (hbr.alloc hsz _) HG3.o (hown.alloc _) (nr _) (by simp; omega)⟩
       ·show _ = _
        rw [H1.o, Nat.div_div_eq_div_mul, ← Nat.pow_succ]
       ·have h := HO.o
        rw [vg, HT.o, UB.o.2, ← HT.o, ← H1.o, bt]
        have e : ak [UInt8.ofNat (x % 256)] = [.int .u8 ((x : Int) % 256)] := by simp [ak, ic]
        rw [e]
        exact h
      case measure => simp [intOf]; omega
     ·have hk0 : k = 0 := by omega
      subst hk0
      have HO0 := Lh ho
      clear ho
      go_wp2
      go_roundw
      case rel =>
       have e0 : bits .or .u64 (r : Int) (d : Int) = (x : Int) := by
        have h := HO0.o
        rw [Int.pow_zero, Int.mul_one, IntKind.wrap_u64, Int.emod_eq_of_lt (by omega) (by omega)] at h
        exact h
       refine ⟨j + 1, i, 7, x, by omega, by go_num, by omega, by omega, rfl, vint e0, ?_, H1.o, ?_, hbr⟩
       ·rw [H1.o]
        have h2 := qiz (l.take (j + 1)) i 7 (by rw [List.length_take, Nat.min_eq_left (by omega)]; omega)
        omega
       ·rw [HT.o, UB.o.2]; exact hown
      case measure => simp [intOf]; omega
    ·have hjl : j = l.length := by omega
     subst hjl
     have hin : i = n := by have := HN.o; omega
     subst hin
     rw [List.take_length] at hre hown
     by_cases hr0 : r = 0
     ·have HU := Lh (show dn l = some (dw i (v128 l)) by
       have hlt' : v128 l < 256 ^ i := by
        have h1 := hre.o
        rw [hr0] at h1
        rcases Nat.lt_or_ge (v128 l) (256 ^ i) with h | h
        ·exact h
        ·have := Nat.div_pos h (Nat.pow_pos (by omega)); omega
       unfold dn
       simp only [← HN.o]
       rw [if_pos ⟨HH.o, HLE.o, hlt'⟩])
      subst hr0
      go_wp2
      go_ret2
      refine ⟨hbr, ?_⟩
      rw [HU.o]
      exact ⟨_, rfl, by rw [lj]; exact hown⟩
     ·have HU := Lh (show dn l = none by
       unfold dn
       simp only [← HN.o]
       rw [if_neg]
       rintro ⟨_, _, h⟩
       apply hr0
       rw [hre.o]
       exact Nat.div_eq_of_lt h)
      have hr1 : ((r : Int) != 0) = true := by simp; omega
      go_wp2
      go_ret2
      refine ⟨hbr, ?_⟩
      rw [HU.o]
      rfl
  ·have hle2 : ((8 * (n : Int) + 6) / 7 != (l.length : Int)) = true := by simp; omega
   have HU := Lh (show dn l = none by
    unfold dn
    simp only [← HN.o]
    rw [if_neg]
    rintro ⟨_, h, _⟩
    exact hle h)
   have HH := Lh hh
   clear hn hle
   go_enter Tryz.func86, Tryz.ntmps86
   go_wp2_with fail
   refine (qbd l A c B w HR.o (by omega)).mono ?_
   rintro e w1 ⟨rfl, rfl⟩
   rw [HH.o]
   go_wp2
   go_ret2
   refine ⟨br _ _, ?_⟩
   rw [HU.o]
   rfl
 ·have hh2 : pm l = false := by simpa using hh
  have HU := Lh (show dn l = none by
   unfold dn
   simp only
   rw [if_neg]
   rintro ⟨h, _, _⟩
   exact hh h)
  have HH := Lh hh2
  clear hn hh hh2
  go_enter Tryz.func86, Tryz.ntmps86
  go_wp2_with fail
  refine (qbd l A c B w HR.o (by omega)).mono ?_
  rintro e w1 ⟨rfl, rfl⟩
  rw [HH.o]
  go_wp2
  go_ret2
  refine ⟨br _ _, ?_⟩
  rw [HU.o]
  rfl

def IndexTo (l : List UInt8) (x : UInt8) (e : Ending) : Prop := (∃ n : Nat, e = .returned (.int .i64 n) ∧ l[n]? = some x ∧ ∀ j : Nat, j < n → l[j]? ≠ some x) ∨ (e = .returned (.int .i64 (-1)) ∧ ∀ j : Nat, l[j]? ≠ some x)
theorem qty (l : List UInt8) (x : UInt8) (A : Option Addr) (c B : Nat) (w : World) (hr : Rd w B A (ak l)) (hl : l.length ≤ 1099511627776) :
  Calls Tryz.prog 59 #[.slice A l.length c, .int .u8 (x.toNat : Nat)] w fun e w' => IndexTo l x e ∧ w = w' := by
 have HR := Lh hr
 clear hr
 obtain ⟨xn, hx⟩ : ∃ xn, xn = x.toNat := ⟨_, rfl⟩
 rw [← hx]
 have HX := Lh hx
 clear hx
 go_enter Tryz.func59, Tryz.ntmps59
 go_wp2_with fail
 go_loop [8] (fun v8 => ∃ k : Nat, k ≤ l.length ∧ v8 = .int .i64 k ∧ Hid (∀ j : Nat, j < k → l[j]? ≠ some x)) (fun v8 => l.length - (intOf v8).toNat)
 case atStart => exact ⟨0, by omega, rfl, fun j hj => absurd hj (by omega)⟩
 case round =>
  obtain ⟨k, hk, rfl, hh⟩ := hrel
  by_cases hlt : k < l.length
  ·obtain ⟨ab, ao, rfl, hab, hcell⟩ := HR.o.byte hlt
   obtain ⟨d, hd⟩ : ∃ d, d = l[k].toNat := ⟨_, rfl⟩
   rw [← hd] at hcell
   by_cases hb : xn = d
   ·have HL := Lh (show l[k]? = some x by rw [List.getElem?_eq_getElem hlt]; congr 1; apply UInt8.toNat_inj.1; rw [← hd, ← hb, HX.o])
    subst hb
    clear hd
    go_wp2
    go_ret
    exact ⟨Or.inl ⟨k, rfl, HL.o, hh.o⟩, rfl⟩
   ·have HL := Lh (show ∀ j : Nat, j < k + 1 → l[j]? ≠ some x by
     intro j hj he
     by_cases hjk : j = k
     ·subst hjk
      rw [List.getElem?_eq_getElem hlt] at he
      injection he with he
      exact hb (by rw [HX.o, hd, he])
     ·exact hh.o j (by omega) he)
    have hne : ((xn : Int) == (d : Int)) = false := by simp; omega
    clear hd
    go_wp2
    go_round
    case rel => exact ⟨k + 1, by omega, by go_num, HL.o⟩
    case measure => simp [intOf]; omega
  ·have HL := Lh (show ∀ j : Nat, l[j]? ≠ some x by
    intro j he
    by_cases hj : j < k
    ·exact hh.o j hj he
    ·rw [List.getElem?_eq_none (by omega)] at he; cases he)
   go_wp2
   go_ret
   exact ⟨Or.inr ⟨rfl, HL.o⟩, rfl⟩
end Go.Proofs.YtplbcbamnjnhlaaGreatDoor
