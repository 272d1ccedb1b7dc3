/- Texts of this proof joined: TakeU, RefBook, Ref32b. -/
import Derived.Test.YtplbcbamnjnhlaaGreatDoorMB24
import Derived.OrdersHeld
import Derived.Test.YtplbcbamnjnhlaaGreatDoorMB27
import Derived.Test.YtplbcbamnjnhlaaGreatDoorMB14
import Derived.Deep.RegionLaw
namespace Go.Proofs.YtplbcbamnjnhlaaGreatDoor.TextU
open Go Go.RowKit Go.Proofs.YtplbcbamnjnhlaaGreatDoor.Text
def Q0 (K : Act → World → Prop) : Exit → Act → World → Prop := fun e a w => e = .normal ∧ K a w
def need (us : List Nat) (listed : Array Bool) : Prop := ∃ u ∈ us, listed.getD u true = false
variable {P : Program} {ops : Array Oper} {K : Act → World → Prop} {S : World → Prop} {us : List Nat}
def wpU (P : Program) (ops : Array Oper) (K : Act → World → Prop) (S : World → Prop) (us : List Nat) : Nat → Array Bool → Act → World → Prop
  | 0, listed, a, w => Region.ready .any ops listed = [] ∧ K a w
  | fuel + 1, listed, a, w => (Region.ready .any ops listed = [] → K a w) ∧
    ∀ j ∈ Region.ready .any ops listed, wpOp P ops (Q0 K) j (fun a' w' => (need us (listed.setIfInBounds j true) → S w') ∧ wpU P ops K S us fuel (listed.setIfInBounds j true) a' w') a w
theorem any_of_U : ∀ (fuel : Nat) (listed : Array Bool) (a : Act) (w : World), wpU P ops K S us fuel listed a w → wpAny P .any ops (Q0 K) fuel listed a w
  | 0, _, _, _, h => ⟨h.1, rfl, h.2⟩
  | fuel + 1, _, _, _, h => ⟨fun h0 => ⟨rfl, h.1 h0⟩, fun j hj => wpOp_mono (fun a' w' hh => any_of_U fuel _ a' w' hh.2) (h.2 j hj)⟩
theorem first_U {i : Nat} {oi : Oper} {v : Value} (hi : ops[i]? = some oi) (hsel : ∀ (j : Nat) (o : Oper) cs b, ops[j]? = some o → o.op ≠ .select cs b) {T : World → Prop}
    (hnotIn : i ∉ us) (hT : (∀ w, T w) ∨ ((∀ w, S w → T w) ∧ ∃ u ∈ us, u ≠ i ∧ ∀ o, ops[u]? = some o → ∃ e ∈ o.after, Region.binds .any e = true ∧ e.on = i)) :
    ∀ (fuel : Nat) (listed : Array Bool) (a : Act) (w : World),
      (∀ j oj, ops[j]? = some oj → j ≠ i → listed.getD j true = false → (∀ e ∈ oj.after, Region.binds .any e = true → e.on ≠ i) → oi.apart ops oj = true) →
      i ∈ Region.ready .any ops listed → (∀ u ∈ us, (∀ o, ops[u]? = some o → ∃ e ∈ o.after, Region.binds .any e = true ∧ e.on = i) → listed.getD u true = false) → YieldsIf P ops T oi v a → T w → (need us (listed.setIfInBounds i true) → S w) →
      wpU P ops K S us fuel (listed.setIfInBounds i true) (a.put oi.dst v) w → wpU P ops K S us (fuel + 1) listed a w := by
  intro fuel
  induction fuel with
  | zero =>
    intro listed a w _ hr _ hy hTw hS H
    refine ⟨fun h => (by rw [h] at hr; cases hr), fun j hj => ?_⟩
    by_cases hji : j = i
    · subst hji
      exact hy.wpOp hi hTw ⟨hS, H⟩
    · have := ready_mono hj hji
      rw [H.1] at this
      cases this
  | succ fuel ih =>
    intro listed a w hfree hr hus hy hTw hS H
    refine ⟨fun h => (by rw [h] at hr; cases hr), fun j hj => ?_⟩
    by_cases hji : j = i
    · subst hji
      exact hy.wpOp hi hTw ⟨hS, H⟩
    have h1 := H.2 j (ready_mono hj hji)
    obtain ⟨hjun, oj, hoj, hall⟩ := mem_ready.1 hj
    have hin := (mem_ready.1 hr).1
    have hnot : ∀ e ∈ oj.after, Region.binds .any e = true → e.on ≠ i := fun e he hb heq => by
      have h5 := hall e he hb
      rw [heq] at h5
      have : listed.getD i true = listed.getD i false := by
        unfold Array.getD
        split
        · rfl
        · rename_i hn
          unfold Array.getD at h5
          rw [dif_neg hn] at h5
          cases h5
      rw [this, h5] at hin
      cases hin
    have hju : ∀ u ∈ us, (∀ o, ops[u]? = some o → ∃ e ∈ o.after, Region.binds .any e = true ∧ e.on = i) → u ≠ j := fun u _ hed hju => by
      subst hju
      obtain ⟨e, he, hb, hon⟩ := hed oj hoj
      exact hnot e he hb hon
    have h2 := wpOp_putIf hoj (hfree j oj hoj hji hjun hnot) (fun cs b => hsel i oi cs b hi) (fun cs b => hsel j oj cs b hoj) (fun c a w hh => by cases hh.1) hy h1
    refine wpOp_mono (fun a' w' h3 => ?_) h2
    obtain ⟨hy3, hS3, H3⟩ := h3
    rw [← Array.setIfInBounds_comm _ _ hji] at hS3 H3
    have hus' : ∀ u ∈ us, (∀ o, ops[u]? = some o → ∃ e ∈ o.after, Region.binds .any e = true ∧ e.on = i) → (listed.setIfInBounds j true).getD u true = false := fun u hu hed => by
      rw [getD_set_ne true (Ne.symm (hju u hu hed))]
      exact hus u hu hed
    have hS' : (need us (listed.setIfInBounds j true) → S w') ∧ T w' := by
      rcases hT with hT | ⟨hST, u, hu, hui, hed⟩
      · refine ⟨fun hn => ?_, hT w'⟩
        by_cases hn2 : need us ((listed.setIfInBounds j true).setIfInBounds i true)
        · exact hS3 hn2
        · obtain ⟨u, hu, hun⟩ := hn
          by_cases hui : i = u
          · subst hui
            exact absurd hu hnotIn
          · exact absurd ⟨u, hu, by rw [getD_set_ne true hui]; exact hun⟩ hn2
      · have hn2 : need us ((listed.setIfInBounds j true).setIfInBounds i true) := ⟨u, hu, by rw [getD_set_ne true (Ne.symm hui)]; exact hus' u hu hed⟩
        exact ⟨fun _ => hS3 hn2, hST w' (hS3 hn2)⟩
    refine ⟨hS'.1, ih (listed.setIfInBounds j true) a' w' ?_ (ready_mono hr (Ne.symm hji)) hus' hy3 hS'.2 hS3 H3⟩
    intro k ok hk hki hun hno
    refine hfree k ok hk hki ?_ hno
    by_cases hjk : j = k
    · subst hjk; exact hjun
    · rwa [getD_set_ne true hjk] at hun
theorem wp_ofNoQ {o : Oper} {a : Act} {w : World} {K : Act → World → Prop} {Q : Exit → Act → World → Prop} (h : o.wp P a w K NoQ) : o.wp P a w K Q := by
  unfold Oper.wp at *
  generalize (execOp a.eval o).run P w = r at *
  cases r with
  | ok n w' =>
    cases n <;> simp only [Oper.upon] at h ⊢ <;>
      first
        | exact h
        | exact Calls.mono h (fun e w'' he => by cases e <;> first | exact he | (obtain ⟨_, _, hh⟩ := (he : LetsOut NoQ); exact hh.elim) | exact (he : False).elim)
  | halt x w' => cases x <;> simp only [Oper.upon] at h ⊢ <;> first | exact h | exact h.elim
theorem node_U {i : Nat} {o : Oper} {a : Act} {w : World} {K' : Act → World → Prop} (ho : ops[i]? = some o) (h : ∀ Q' : Exit → Act → World → Prop, (∀ a' w', K' a' w' → Q' .normal a' w') → wpList P ops Q' [o] a w) : wpOp P ops (Q0 K) i K' a w := by
  have h0 := h (fun e a w => e = .normal ∧ K' a w) (fun a w hh => ⟨rfl, hh⟩)
  have hnl : ¬ LetsOut (fun e a w => e = Exit.normal ∧ K' a w) := fun ⟨_, _, hh⟩ => by cases hh.1
  have hno : ∀ (e : Exit) (a : Act) (w : World), e ≠ .normal → ¬ (e = Exit.normal ∧ K' a w) := fun _ _ _ hn hh => hn hh.1
  unfold wpList at h0
  unfold wpOp
  simp only [ho]
  split at h0
  · rename_i hw
    rw [if_pos hw]
    have h1 := h0.resolve_right fun hh => hnl hh.2
    have h2 := Oper.wp_mono (K' := K') (fun a w hh => by
      simp only [wpList] at hh
      exact hh.2) h1
    exact .inl (wp_ofNoQ (wp_noQ hno hnl h2))
  · rename_i hw
    rw [if_neg hw]
    simp only [wpList] at h0
    exact h0.2
end Go.Proofs.YtplbcbamnjnhlaaGreatDoor.TextU
namespace Go.Proofs.YtplbcbamnjnhlaaGreatDoor
open Go.RowKit
structure OkU (us : List Nat) (S : World → Prop) (listed : Array Bool) (w : World) : Prop where
  out : TextU.need us listed → S w
theorem okU {us : List Nat} {S : World → Prop} {listed : Array Bool} {w : World} (h : S w) : OkU us S listed w := ⟨fun _ => h⟩
theorem okU_past {us : List Nat} {S : World → Prop} {listed : Array Bool} {w : World} (h : (us.all fun u => listed.getD u true) = true) : OkU us S listed w := ⟨fun ⟨u, hu, hn⟩ => by
  have := List.all_eq_true.1 h u hu
  rw [hn] at this
  cases this⟩
section
variable {P : Program} {ops : Array Oper} {K : Act → World → Prop} {S : World → Prop} {us : List Nat} {fuel : Nat} {listed : Array Bool} {a : Act} {w : World}
theorem wpU_start {id : Nat} {Q : Exit → Act → World → Prop} {l : List Oper} (S : World → Prop) (us : List Nat) (n : Nat) (hm : P.follows .mixedOrders = true) (hn : l.length = n) (h : Stop (TextU.wpU P l.toArray (fun a w => Q .normal a w) S us n (Array.replicate n false) a w.drew)) : (Code.region id l.toArray true).wp P Q a w := by
  subst hn
  refine Code.wp_mono (Q := TextU.Q0 fun a w => Q .normal a w) ?_ (wp_region_any hm ?_)
  · rintro e a w ⟨rfl, h⟩
    exact h
  · have := TextU.any_of_U _ _ _ _ h.out
    simpa using this
theorem wpU_pure {i : Nat} {oi : Oper} {v : Value} (hi : ops[i]? = some oi) (hs : Region.noSelect ops = true) (hf : Region.free .any ops listed i = true) (hr : (Region.ready .any ops listed).contains i = true) (hni : us.contains i = false) (hun : (us.all fun u => !listed.getD u true) = true)
    (hw : Region.wanted oi (yielded ops a.tmps) = true) (hy : ∀ w, (execOp a.eval oi).run P w = .ok (.value v) w) (hS : S w) (h : Stop (TextU.wpU P ops K S us fuel (listed.setIfInBounds i true) (a.put oi.dst v) w)) : Stop (TextU.wpU P ops K S us (fuel + 1) listed a w) :=
  ⟨TextU.first_U hi (Region.noSelect_spec hs) (by simpa using hni) (T := fun _ => True) (.inl fun _ => trivial) fuel listed a w (Region.free_spec hi hf) (by simpa using hr) (fun u hu _ => by have := List.all_eq_true.1 hun u hu; simpa using this) (.inl ⟨hw, fun w _ => hy w⟩) trivial (fun _ => hS) h.out⟩
theorem wpU_load {i : Nat} {oi : Oper} {v : Value} (hi : ops[i]? = some oi) (hs : Region.noSelect ops = true) (hf : Region.free .any ops listed i = true) (hr : (Region.ready .any ops listed).contains i = true) (hni : us.contains i = false) (hun : (us.all fun u => !listed.getD u true) = true)
    (hed : (us.any fun u => match ops[u]? with | some o => o.after.any (fun e => Region.binds .any e && e.on == i) | none => false) = true)
    (hw : Region.wanted oi (yielded ops a.tmps) = true) (hy : ∀ w, S w → (execOp a.eval oi).run P w = .ok (.value v) w) (hS : S w) (h : Stop (TextU.wpU P ops K S us fuel (listed.setIfInBounds i true) (a.put oi.dst v) w)) : Stop (TextU.wpU P ops K S us (fuel + 1) listed a w) :=
  ⟨TextU.first_U hi (Region.noSelect_spec hs) (by simpa using hni) (T := S) (.inr ⟨fun _ h => h, by
    obtain ⟨u, hu, h1⟩ := List.any_eq_true.1 hed
    refine ⟨u, hu, fun e => ?_, fun o ho => ?_⟩
    · rw [← e] at hni
      simp [hu] at hni
    · simp only [ho] at h1
      obtain ⟨e, he, h2⟩ := Array.any_eq_true'.1 h1
      rw [Bool.and_eq_true, beq_iff_eq] at h2
      exact ⟨e, he, h2.1, h2.2⟩⟩) fuel listed a w (Region.free_spec hi hf) (by simpa using hr) (fun u hu _ => by have := List.all_eq_true.1 hun u hu; simpa using this) (.inl ⟨hw, hy⟩) hS (fun _ => hS) h.out⟩
theorem wpU_one {i : Nat} {o : Oper} (hr : Region.ready .any ops listed = [i]) (ho : ops[i]? = some o)
    (h : ∀ Q' : Exit → Act → World → Prop, (∀ a' w', OkU us S (listed.setIfInBounds i true) w' ∧ Stop (TextU.wpU P ops K S us fuel (listed.setIfInBounds i true) a' w') → Q' .normal a' w') → wpList P ops Q' [o] a w) : Stop (TextU.wpU P ops K S us (fuel + 1) listed a w) :=
  ⟨(fun h0 => by rw [hr] at h0; cases h0), fun j hj => by
    rw [hr, List.mem_singleton] at hj
    subst hj
    exact TextU.node_U ho fun Q' hQ' => h Q' fun a w hh => hQ' a w ⟨hh.1.out, hh.2.out⟩⟩
theorem wpU_two {i j : Nat} {o p : Oper} (hr : Region.ready .any ops listed = [i, j]) (ho : ops[i]? = some o) (hp : ops[j]? = some p)
    (h : ∀ Q' : Exit → Act → World → Prop, (∀ a' w', OkU us S (listed.setIfInBounds i true) w' ∧ Stop (TextU.wpU P ops K S us fuel (listed.setIfInBounds i true) a' w') → Q' .normal a' w') → wpList P ops Q' [o] a w)
    (k : ∀ Q' : Exit → Act → World → Prop, (∀ a' w', OkU us S (listed.setIfInBounds j true) w' ∧ Stop (TextU.wpU P ops K S us fuel (listed.setIfInBounds j true) a' w') → Q' .normal a' w') → wpList P ops Q' [p] a w) : Stop (TextU.wpU P ops K S us (fuel + 1) listed a w) :=
  ⟨(fun h0 => by rw [hr] at h0; cases h0), fun l hl => by
    rw [hr] at hl
    rcases List.mem_cons.1 hl with rfl | hl
    · exact TextU.node_U ho fun Q' hQ' => h Q' fun a w hh => hQ' a w ⟨hh.1.out, hh.2.out⟩
    · rw [List.mem_singleton] at hl
      subst hl
      exact TextU.node_U hp fun Q' hQ' => k Q' fun a w hh => hQ' a w ⟨hh.1.out, hh.2.out⟩⟩
theorem wpU_end (hr : Region.ready .any ops listed = []) (h : K a w) : ∀ fuel, Stop (TextU.wpU P ops K S us fuel listed a w)
  | 0 => ⟨hr, h⟩
  | _ + 1 => ⟨fun _ => h, fun j hj => by rw [hr] at hj; cases hj⟩
end
end Go.Proofs.YtplbcbamnjnhlaaGreatDoor
namespace Go.Proofs.YtplbcbamnjnhlaaGreatDoor
open Go.RowKit

def refCells (b : BookD) (L P O : Value) : List Value := [.bool b.head, L, P, O, .int .i64 b.next]
def liveI (l : List (K32 × K32)) : List ItemD := l.map fun p => (0, p)
def RB (w : World) (B : Nat) (v : Value) (b : BookD) : Prop := ∃ L P O, v = .agg (refCells b L P O).toArray ∧ SlR eItem w B L (liveI b.live) ∧ SlR eK w B P b.pins ∧ SlR eItem w B O b.ints
theorem RB.fut {w w' : World} {B B' N : Nat} {v : Value} {b : BookD} (h : RB w B v b) (hb : Below N w w') (h1 : B ≤ N) (h2 : B ≤ B') : RB w' B' v b := by
  obtain ⟨L, P, O, e, a, c, d⟩ := h
  exact ⟨L, P, O, e, a.fut hb h1 h2, c.fut hb h1 h2, d.fut hb h1 h2⟩
theorem ins_map {β γ : Type} (g : β → γ) (f : γ → Bool) (x : β) : ∀ l : List β, ins f (g x) (l.map g) = (ins (fun y => f (g y)) x l).map g
  | [] => rfl
  | y :: r => by
    rw [List.map_cons]
    unfold ins
    rw [← List.map_cons, List.all_map, ins_map g f x r]
    by_cases h : (y :: r).all (fun y => f (g y)) = true
    · rw [if_pos h, if_pos (by rw [← h]; rfl)]
      rfl
    · rw [if_neg h, if_neg (by intro hh; exact h (by rw [← hh]; rfl))]
      rfl
theorem liveI_out (l : List (K32 × K32)) (k : K32) : (liveI l).filter (fun y => decide (y.2.1 ≠ k)) = liveI (outL l k) := by
  unfold liveI outL
  rw [List.filter_map]
  rfl
theorem liveI_put (l : List (K32 × K32)) (k m : K32) : ins (fun y => kless k y.2.1) ((0, (k, m)) : ItemD) ((liveI l).filter fun y => decide (y.2.1 ≠ k)) = liveI (putL k m l) := by
  rw [liveI_out]
  unfold putL
  exact ins_map (fun p : K32 × K32 => ((0, p) : ItemD)) (fun y => kless k y.2.1) (k, m) (outL l k)
theorem liveI_len (l : List (K32 × K32)) : (liveI l).length = l.length := by simp [liveI]
theorem outL_len (l : List (K32 × K32)) (k : K32) : (outL l k).length ≤ l.length := List.length_filter_le _ _
noncomputable def book33D : TypeDesc := .struct (Tryz.prog.fieldsOf 30)
theorem book33_u : Tryz.prog.underlying 30 = some book33D := by kernel_rfl
theorem book33_sz (b : BookD) (L P O : Value) : (Tryz.prog.info? 30).map (·.size) = some (refCells b L P O).length := by show _ = some 5; kernel_rfl
abbrev nilV : Value := .slice none 0 0
theorem zero_book33 (w : World) : (zeroValue 30).run Tryz.prog w = .ok (.agg (refCells book0 nilV nilV nilV).toArray) w := by kernel_rfl
theorem sl_one {α : Type} {E : Elt α} {w : World} {B : Nat} {v : Value} {xs : List α} (h : SlR E w B v xs) : v.oneCell' = true := by
  obtain ⟨A, c, rfl, _⟩ := h.form
  rfl
theorem refCells_one' {b : BookD} {L P O : Value} {w : World} {B : Nat} {l : List ItemD} {p : List K32} {o : List ItemD} (hL : SlR eItem w B L l) (hP : SlR eK w B P p) (hO : SlR eItem w B O o) : ∀ u ∈ refCells b L P O, u.oneCell' = true := by
  intro u hu
  simp only [refCells, List.mem_cons, List.not_mem_nil, or_false] at hu
  rcases hu with rfl | rfl | rfl | rfl | rfl
  · rfl
  · exact sl_one hL
  · exact sl_one hP
  · exact sl_one hO
  · rfl
theorem sl_five {α : Type} {E : Elt α} {w w' : World} {q : Nat} {cs5 : Array Value} {t : TypeId} {fr : Nat × Nat} (hq5 : w.heap[q]? = some (.cells cs5 t fr)) (h5 : cs5.size = 5) (ho : ∀ k, k ≠ q → w'.heap[k]? = w.heap[k]?) {B : Nat} (hE : 6 ≤ E.size) (hrep : ∀ cs x, E.rep w B cs x → E.rep w' B cs x) {v : Value} {xs : List α} (hs : SlR E w B v xs) : SlR E w' B v xs := by
  obtain ⟨A, c, css, e, h1, h2, h3, h4, h6⟩ := hs
  refine ⟨A, c, css, e, h1, h2, h3, ?_, fun i cs x hc hx => hrep _ _ (h6 i cs x hc hx)⟩
  intro hne
  have hl : 6 ≤ css.flatten.length := by
    cases css with
    | nil => simp at hne
    | cons cs r =>
      have hx : 0 < xs.length := by rw [← h3]; simp
      have := E.len (h6 0 cs xs[0] rfl (List.getElem?_eq_getElem hx))
      rw [List.flatten_cons, List.length_append]
      omega
  obtain ⟨p, off, rfl, hp, hc⟩ := h4 hne
  have hpq : p ≠ q := fun he => by
    have := hc 5 _ (List.getElem?_eq_getElem (by omega))
    rw [he, cell_of_row _ _ _ _ _ _ hq5, Array.getElem?_eq_none (by omega)] at this
    cases this
  exact ⟨p, off, rfl, hp, fun j u hu => (World.cell?_of_block (w := w) (w' := w') (a := ⟨p, off + j, none⟩) (ho p hpq)).trans (hc j u hu)⟩
structure MidR (w wc : World) (b : BookD) (L P O : Value) (kind seq : Int) (kx mx : K32) (v : Value) (keys : List KeyD) : Prop where
  row : wc.heap[w.heap.size]? = some (.cells (refCells b L P O).toArray 30 (0, 0))
  rec_ : RecAt wc (w.heap.size + 1) 42 kind seq kx.1.1 kx.1.2 mx.1.1 mx.1.2 v
  out : wc.heap[w.heap.size + 2]? = some (.cells (refCells book0 nilV nilV nilV).toArray 30 (0, 0))
  live : SlR eItem wc wc.heap.size L (liveI b.live)
  pins : SlR eK wc wc.heap.size P b.pins
  ints : SlR eItem wc wc.heap.size O b.ints
  keys_ : SlR eKey wc w.heap.size v keys
  below : Below w.heap.size w wc
section
variable {w wc w' : World} {b b' : BookD} {L P O L' P' O' : Value} {kind seq : Int} {kx mx : K32} {v : Value} {keys : List KeyD}
theorem MidR.lt (h : MidR w wc b L P O kind seq kx mx v keys) : w.heap.size + 2 < wc.heap.size := (Array.getElem?_eq_some_iff.1 h.out).1
theorem MidR.later (h : MidR w wc b L P O kind seq kx mx v keys) (hb : Below wc.heap.size wc w') : MidR w w' b L P O kind seq kx mx v keys :=
  have hl := h.lt
  ⟨(hb.block _ (by omega)).trans h.row, h.rec_.later hb, (hb.block _ (by omega)).trans h.out, h.live.fut hb (Nat.le_refl _) hb.size, h.pins.fut hb (Nat.le_refl _) hb.size, h.ints.fut hb (Nat.le_refl _) hb.size, h.keys_.below (hb.mono (by omega)), h.below.trans (hb.mono (by omega))⟩
theorem MidR.turn (h : MidR w wc b L P O kind seq kx mx v keys) (hL : SlR eItem wc wc.heap.size L' (liveI b'.live)) (hP : SlR eK wc wc.heap.size P' b'.pins) (hO : SlR eItem wc wc.heap.size O' b'.ints) :
    MidR w (wc.setRow w.heap.size (refCells b' L' P' O').toArray) b' L' P' O' kind seq kx mx v keys := by
  have ho : ∀ k, k ≠ w.heap.size → (wc.setRow w.heap.size (refCells b' L' P' O').toArray).heap[k]? = wc.heap[k]? := fun k hk => setRow_other _ _ _ _ hk
  refine ⟨setRow_heap _ _ _ _ _ _ h.row, ⟨(ho _ (by omega)).trans h.rec_.blk, h.rec_.hk, h.rec_.hm⟩, (ho _ (by omega)).trans h.out, ?_, ?_, ?_, ?_, below_setRow h.below (Nat.le_refl _) _⟩
  · rw [setRow_size]; exact sl_five h.row rfl ho (by decide) (fun _ _ h => h) hL
  · rw [setRow_size]; exact sl_five h.row rfl ho (by decide) (fun _ _ h => h) hP
  · rw [setRow_size]; exact sl_five h.row rfl ho (by decide) (fun _ _ h => h) hO
  · exact sl_five h.row rfl ho (by rw [eKey_size]; omega) (fun cs x hx => by
      obtain ⟨rfl, h1, h2, h3⟩ := eKey_rep hx
      exact eKey_of h1 h2 h3) h.keys_
def RefTo (b : BookD) (r : RecD) (w : World) (e : Ending) (w' : World) : Prop := ∃ v, e = .returned (.tuple #[v, .bool (mayD b r)]) ∧ RB w' w'.heap.size v (applyD b r) ∧ Below w.heap.size w w'
theorem MidR.done (h : MidR w wc b L P O kind seq kx mx v keys) : RB (wc.setRow (w.heap.size + 2) (refCells b L P O).toArray) (wc.setRow (w.heap.size + 2) (refCells b L P O).toArray).heap.size (.agg (refCells b L P O).toArray) b ∧
    Below w.heap.size w (wc.setRow (w.heap.size + 2) (refCells b L P O).toArray) ∧ (wc.setRow (w.heap.size + 2) (refCells b L P O).toArray).heap[w.heap.size + 2]? = some (.cells (refCells b L P O).toArray 30 (0, 0)) := by
  have ho : ∀ k, k ≠ w.heap.size + 2 → (wc.setRow (w.heap.size + 2) (refCells b L P O).toArray).heap[k]? = wc.heap[k]? := fun k hk => setRow_other _ _ _ _ hk
  rw [setRow_size]
  exact ⟨⟨L, P, O, rfl, sl_five h.out rfl ho (by decide) (fun _ _ h => h) h.live, sl_five h.out rfl ho (by decide) (fun _ _ h => h) h.pins, sl_five h.out rfl ho (by decide) (fun _ _ h => h) h.ints⟩, below_setRow h.below (by omega) _, setRow_heap _ _ _ _ _ _ h.out⟩
theorem row_cell5 {w : World} {q : Nat} {b : BookD} {L P O : Value} {t : TypeId} (h : w.heap[q]? = some (.cells (refCells b L P O).toArray t (0, 0))) :
    w.cell? ⟨q, 0, none⟩ = some (.bool b.head) ∧ w.cell? ⟨q, 1, none⟩ = some L ∧ w.cell? ⟨q, 2, none⟩ = some P ∧ w.cell? ⟨q, 3, none⟩ = some O ∧ w.cell? ⟨q, 4, none⟩ = some (.int .i64 b.next) := by
  refine ⟨?_, ?_, ?_, ?_, ?_⟩ <;> (rw [cell_of_row _ _ _ _ _ _ h]; rfl)
end
theorem store5 {w : World} {q i : Nat} {b b' : BookD} {L P O L' P' O' x : Value} {t ty : TypeId} (h : w.heap[q]? = some (.cells (refCells b L P O).toArray t (0, 0))) (hi : (Tryz.prog.info? ty).map (·.size) = some 1) (hx : x.cells = #[x]) (h1 : x.oneCell' = true) (hlt : i < 5)
    (he : (refCells b L P O).set i x = refCells b' L' P' O') : (Instr.storeAt ty (.pointer (some ⟨q, i, none⟩)) x).run Tryz.prog w = .ok () (w.setRow q (refCells b' L' P' O').toArray) := by
  have hz : (refCells b L P O).toArray.size = 5 := rfl
  rw [store_agg (vs := [x]) hx hi h (by rw [hz]; exact hlt) (fun u hu => by rw [List.mem_singleton.1 hu]; exact h1), ← he]
  have hs : (refCells b L P O).set i x = (refCells b L P O).take i ++ [x] ++ (refCells b L P O).drop (i + 1) := by
    rw [List.set_eq_take_append_cons_drop, if_pos (show i < (refCells b L P O).length from hlt), List.append_assoc]
    rfl
  rw [hs]
  rfl
theorem ret_ref33 {fn : Func} {p u : Tmp} {x : Value} {Q : Ending → World → Prop} (h : fn.results = #[.cell p 30, .tmp u]) {a : Act} {w : World} {g : Nat} {b : BookD} {L P O : Value} {fr : Nat × Nat} {t : TypeId} (hd : a.defers = [])
    (hp : a.tmps.getD p undef = .pointer (some ⟨g, 0, none⟩)) (hu : a.tmps.getD u undef = x) (hg : w.heap[g]? = some (.cells (refCells b L P O).toArray t fr)) (hq : Q (.returned (.tuple #[.agg (refCells b L P O).toArray, x])) w) : bodyPost Tryz.prog fn Q .ret a w := by
  refine bodyPost_ret (v := .tuple #[.agg (refCells b L P O).toArray, x]) ?_ hd hq
  rw [results_cell_tmp h, hp, hu]
  simp [asAddr, Result.andThen, run_loadVar_row w g t 30 (refCells b L P O).toArray fr _ hg book33_u rfl (book33_sz b L P O)]
theorem refTo_yes {b b' : BookD} {r : RecD} {w w' : World} {v : Value} (hm : mayD b r = true) (hb : b' = writeD b r) (h : RB w' w'.heap.size v b') (hs : Below w.heap.size w w') : RefTo b r w (.returned (.tuple #[v, .bool true])) w' := by
  refine ⟨v, by rw [hm], ?_, hs⟩
  unfold applyD
  rw [if_pos hm, ← hb]
  exact h
theorem refTo_no {b : BookD} {r : RecD} {w w' : World} {v : Value} (hm : mayD b r = false) (h : RB w' w'.heap.size v b) (hs : Below w.heap.size w w') : RefTo b r w (.returned (.tuple #[v, .bool false])) w' := by
  refine ⟨v, by rw [hm], ?_, hs⟩
  unfold applyD
  rw [hm, if_neg (by simp)]
  exact h
theorem may_parts {b : BookD} {r : RecD} : mayD b r = (rightB r && !(b.head == decide (r.kind = 1)) && (if r.kind = 2 then decide (b.next ≤ r.seq) else if r.kind = 3 then (findI b.ints r.seq).isSome else true)) := rfl
theorem find_at {l : List ItemD} {s : Int} {i : Nat} {x : ItemD} (h : ∀ (j : Nat) (y : ItemD), j < i → l[j]? = some y → y.1 ≠ s) (hi : l[i]? = some x) (hx : x.1 = s) : findI l s = some x ∧ dropI l s = l.take i ++ l.drop (i + 1) := by
  induction l generalizing i with
  | nil => simp at hi
  | cons y r ih =>
    cases i with
    | zero =>
      injection hi with hi
      subst hi
      unfold findI dropI
      constructor
      · rw [List.find?_cons, decide_eq_true hx]
      · rw [List.eraseP_cons, decide_eq_true hx]
        rfl
    | succ i =>
      have h0 := h 0 y (by omega) rfl
      have := ih (i := i) (fun j z hj hz => h (j + 1) z (by omega) (by simpa using hz)) (by simpa using hi)
      unfold findI dropI at *
      rw [List.find?_cons, decide_eq_false h0, List.eraseP_cons, decide_eq_false h0]
      exact ⟨this.1, congrArg (List.cons y) this.2⟩
theorem find_none {l : List ItemD} {s : Int} (h : ∀ (j : Nat) (y : ItemD), l[j]? = some y → y.1 ≠ s) : findI l s = none := by
  unfold findI
  rw [List.find?_eq_none]
  intro x hx
  obtain ⟨j, hj⟩ := List.mem_iff_getElem?.1 hx
  simpa using h j x hj
end Go.Proofs.YtplbcbamnjnhlaaGreatDoor
namespace Go.Proofs.YtplbcbamnjnhlaaGreatDoor
open Go.RowKit

theorem step_app32 {P : Program} {ops : Array Oper} {o : Oper} {a : Act} {w : World} {K : Act → World → Prop} {Q : Exit → Act → World → Prop} {E : Prop} {s x : Operand} {t e : TypeId} {size bytes : Nat} {z : Value} (T : AppTy P t e size bytes z)
    (hg : o.guard = none) (ho : o.op = .call { callee := .builtin .append, args := #[s, x], argTypes := #[t, t] })
    {v : Value} {A : Option Addr} {m c : Nat} (hs : a.eval s = v) (hx : a.eval x = .slice A m c)
    {base : Nat} {n : Nat} {xs : List Value} (hown : w.ownsRow base e size v n xs)
    {B : Nat} {news : List Value} (hr : Rd w B A news) (hl : news.length = m * size) (h1 : ∀ u ∈ news, u.oneCell' = true)
    (h63 : n + m ≤ maxLen) (hbytes : (n + m) * bytes ≤ 140737488355328) (hbase : base ≤ w.heap.size)
    (h : ∀ v' w', w'.ownsRow base e size v' (n + m) (xs ++ news) → w.grownBy w' v.ownBlock → (v'.ownBlock = v.ownBlock ∨ v'.ownBlock = some w.heap.size) → (v' = .slice none 0 0 ↔ v = .slice none 0 0 ∧ m = 0) → K (a.put o.dst v') w') :
    if Region.wanted o (yielded ops a.tmps) = true then Oper.wp P o a w K Q else E := by
  rw [if_pos (by simp [Region.wanted, hg])]
  exact wp_app T ho hs hx hown hr hl h1 h63 hbytes hbase h
set_option maxRecDepth 100000 in
set_option maxHeartbeats 1000000 in
theorem key32_any (h : List UInt8) (k : Int) (w : World) (hh : h.length = 32) (hk : kOk k = true) :
    Calls Tryz.prog 102 #[hkv h k] w fun e w' => ∃ v, e = .returned v ∧ w'.ownsRow w.heap.size 5 1 v 33 (bcells (keyB (h, k))) ∧ Below w.heap.size w w' := by
  have hkk : 1 ≤ k ∧ k ≤ 4 := by unfold kOk at hk; simpa using hk
  obtain ⟨x, rfl⟩ : ∃ x : Nat, k = x := ⟨k.toNat, by omega⟩
  have HH := Lib.hid hh
  have HB1 := Lib.hid ((Below.refl _ _).alloc (Nat.le_refl _) (.cells (hkCells h x).toArray 34) : Below w.heap.size w _)
  have HG1 := Lib.hid (Go.heap_alloc_new w (.cells (hkCells h x).toArray 34))
  have HS1 := Lib.hid (show (w.alloc (.cells (hkCells h x).toArray 34)).heap.size = w.heap.size + 1 from Array.size_push _)
  clear hh hk
  go_enter Tryz.func102, Tryz.ntmps102
  go_wp2_with (refine stop_at (some 1) rfl ?_)
  refine Stop.go (wpList_box rfl _ rfl rfl (hkv_cells h x) ?_)
  generalize w.alloc (.cells (hkCells h x).toArray 34) = w1 at *
  go_wp2_with fail
  have HC := Lib.hid (show ∀ w', Below w1.heap.size w1 w' → w'.cell? ⟨w.heap.size, 32, none⟩ = some (.int .i64 x) ∧ Rd w' w'.heap.size (some ⟨w.heap.size, 0, none⟩) (bcells h) from fun w' hb => by
    have hg := (hb.block _ (Array.getElem?_eq_some_iff.1 HG1.out).1).trans HG1.out
    refine ⟨?_, ?_⟩
    · rw [cell_of_row _ _ _ _ _ _ hg, ← Array.getElem?_toList]
      exact hkCells_get h x HH.out
    · have := Rd.row (B := w'.heap.size) hg (Nat.lt_of_lt_of_le (by rw [HS1.out]; omega) hb.size)
      exact rd_hash (k := (x : Int)) (by simpa using this))
  have c32 := (HC.out w1 (Below.refl _ _)).1
  obtain ⟨hk1, hk4⟩ := hkk
  have HE := Lib.hid (show ∀ (w' : World) (g : Nat), w'.heap[g]? = some (.cells #[] 5 (0, 0)) → w1.heap.size ≤ g → w'.ownsRow w1.heap.size 5 1 (.slice (some ⟨g, 0, none⟩) 0 0) 0 [] from fun w' g hg hb =>
    ⟨rfl, .inr ⟨g, 0, #[], rfl, hb, hg, Nat.le_refl _, by simp [maxLen], rfl, rfl⟩⟩)
  have HA := Lib.hid (show ∀ o, Below w1.heap.size w1 (w1.drew.alloc o) from fun o => (Below.refl _ _).drew.alloc (Nat.le_refl _) o)
  have HAA := Lib.hid (show ∀ o o', Below w1.heap.size w1 ((w1.drew.alloc o).alloc o') from fun o o' => ((Below.refl _ _).drew.alloc (Nat.le_refl _) o).alloc (by show _ ≤ (Array.push _ _).size; rw [Array.size_push]; exact Nat.le_succ _) o')
  have HS2 := Lib.hid (show ∀ o, (w1.drew.alloc o).heap.size = w1.heap.size + 1 from fun o => Array.size_push _)
  have HWR := Lib.hid (show bcells (keyB (h, (x : Int))) = ([] ++ bcells h) ++ [.int .u8 (IntKind.u8.wrap (x : Int))] by
    unfold keyB
    rw [bcells_append, IntKind.wrap_u8, Int.emod_eq_of_lt (by omega) (by omega)]
    simp [bcells, bcell, Nat.mod_eq_of_lt (show x < 256 by omega)])
  have HS3 := Lib.hid (show ∀ o o', ((w1.drew.alloc o).alloc o').heap.size = w1.heap.size + 2 from fun o o' => by show (Array.push (Array.push _ _) _).size = _; rw [Array.size_push, Array.size_push]; rfl)
  have HNE := Lib.hid (show w.heap.size < w1.heap.size by rw [HS1.out]; omega)
  have HGB := Lib.hid (show ∀ (W w6 : World) (g : Nat), Below w1.heap.size w1 W → W.grownBy w6 (some g) → w1.heap.size ≤ g → Below w1.heap.size w1 w6 from fun W w6 g hb hg hge => hb.grown hg hb.size (fun k hk => by injection hk with hk; omega))
  have HRB := Lib.hid (show ∀ (W w6 : World) (g q : Nat), W.heap[q]? = some (.cells #[.int .u8 (IntKind.u8.wrap (x : Int))] 5 (0, 0)) → W.grownBy w6 (some g) → q ≠ g → Rd w6 w6.heap.size (some ⟨q, 0, none⟩) [.int .u8 (IntKind.u8.wrap (x : Int))] from fun W w6 g q hq hg hne =>
    Rd.row (cs := #[.int .u8 (IntKind.u8.wrap (x : Int))]) ((hg.block q (Array.getElem?_eq_some_iff.1 hq).1 (by intro he; injection he with he; exact hne he)).trans hq) (Nat.lt_of_lt_of_le (Array.getElem?_eq_some_iff.1 hq).1 hg.size))
  have c32a : (w1.alloc (.cells #[] 5)).cell? ⟨w.heap.size, 32, none⟩ = some (.int .i64 x) := (HC.out _ ((Below.refl _ _).alloc (Nat.le_refl _) _)).1
  go_region_law (first
    | (refine step_app32 (base := w1.heap.size) (xs := []) (news := bcells h) (m := 32) u8_ty rfl rfl rfl rfl (by first | exact HE.out _ _ (Go.heap_alloc_new _ _) (Nat.le_refl _) | exact HE.out _ _ (Go.heap_alloc2_old _ _ _) (Nat.le_refl _) | exact HE.out _ _ (Go.heap_alloc2_new _ _ _) (Nat.le_succ _)) (by first | exact (HC.out _ (HA.out _)).2 | exact (HC.out _ (HAA.out _ _)).2) (by rw [bcells_length, HH.out]) (bcells_one _) (by simp [maxLen]) (by decide) (by first | exact (HA.out _).size | exact (HAA.out _ _).size) ?_; intro v6 w6 hown6 hg6 _ _;
       have hb6 : Below w1.heap.size w1 w6 := (by first | exact HGB.out _ _ _ (HA.out _) hg6 (Nat.le_refl _) | exact HGB.out _ _ _ (HAA.out _ _) hg6 (Nat.le_refl _) | exact HGB.out _ _ _ (HAA.out _ _) hg6 (Nat.le_succ _));
       have c32b := (HC.out w6 hb6).1)
    | (refine step_app32 (base := w1.heap.size) (xs := [] ++ bcells h) (n := 0 + 32) (m := 1) (news := [.int .u8 (IntKind.u8.wrap (x : Int))]) u8_ty rfl rfl rfl rfl (by first | exact hown6 | exact hown6.alloc _) (by first | exact Rd.row (B := w6.heap.size + 1) (Go.heap_alloc_new w6 _) (Nat.lt_succ_self _) | exact HRB.out _ w6 (w1.heap.size + 1) w1.heap.size (by exact Go.heap_alloc2_old _ _ _) hg6 (by omega) | exact HRB.out _ w6 w1.heap.size (w1.heap.size + 1) (by exact Go.heap_alloc2_new _ _ _) hg6 (by omega)) rfl (by simp [Value.oneCell']) (by simp [maxLen]) (by decide) (by first | exact hb6.size | exact Nat.le_trans hb6.size (Nat.le_of_lt (by rw [World.size_alloc]; exact Nat.lt_succ_self _))) ?_; intro v8 w8 hown8 hg8 _ _))
  all_goals
    have hb8 : Below w1.heap.size w1 w8 := by
      first
        | exact grown_below hb6 hg8 hown6 (Nat.le_refl _) hb6.size
        | exact grown_below (hb6.alloc hb6.size _) hg8 (hown6.alloc _) (Nat.le_refl _) (Nat.le_trans hb6.size (Nat.le_of_lt (by rw [World.size_alloc]; exact Nat.lt_succ_self _)))
    have HB8 := Lib.hid hb8
    have HO8 := Lib.hid hown8
    clear hb8 hown8 hg8 hown6 hg6 hb6
    go_wp2_with fail
    go_ret
    refine ⟨v8, rfl, ?_, HB1.out.trans (HB8.out.mono HB1.out.size)⟩
    have h6 := own_more HO8.out (show w.heap.size ≤ w1.heap.size from HB1.out.size)
    rw [HWR.out]
    exact h6
end Go.Proofs.YtplbcbamnjnhlaaGreatDoor
