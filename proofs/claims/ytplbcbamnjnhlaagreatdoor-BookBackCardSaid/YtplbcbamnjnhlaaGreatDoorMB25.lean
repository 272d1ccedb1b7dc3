/- Texts of this proof joined: BookTurn, OwnL, Ref33a. -/
import Derived.Test.YtplbcbamnjnhlaaGreatDoorMB24
import Derived.Test.YtplbcbamnjnhlaaGreatDoorMB04
import Derived.Test.YtplbcbamnjnhlaaGreatDoorMB11
namespace Go.Proofs.YtplbcbamnjnhlaaGreatDoor
open Go.RowKit

theorem BookIn.turn {w w' : World} {g : Nat} {b b' : BookD} {lm lp : List (K32 × Value)} {li : List (Int × Value)} (h : BookIn w g b lm lp li) (hr : w'.heap[g + 3]? = some (.cells (bookCells b' g) 74 (0, 0)))
    (ho : ∀ k, k ≠ g + 3 → w'.heap[k]? = w.heap[k]?) (h1 : b'.live = b.live) (h2 : b'.pins = b.pins) (h3 : b'.ints = b.ints) : BookIn w' g b' lm lp li :=
  ⟨hr, h.live.of_block (ho _ (by omega)), h.pins.of_block (ho _ (by omega)), h.ints.of_block (ho _ (by omega)), by rw [h1]; exact h.lm_, by rw [h2]; exact h.lp_, by rw [h3]; exact h.li_⟩
theorem BookIn.row_lt {w : World} {g : Nat} {b : BookD} {lm lp : List (K32 × Value)} {li : List (Int × Value)} (h : BookIn w g b lm lp li) : g + 3 < w.heap.size := (Array.getElem?_eq_some_iff.1 h.row).1
theorem BookIn.turn_live {w w' : World} {g : Nat} {b : BookD} {lm lp lm' : List (K32 × Value)} {li : List (Int × Value)} {l : List (K32 × K32)} (h : BookIn w g b lm lp li) (hm : MapS kv w' g lm') (hg : w.grownBy w' (some g)) (hp : lm'.Perm (liveP l)) :
    BookIn w' g { b with live := l } lm' lp li :=
  have hl := h.row_lt
  ⟨(hg.block _ hl (by simp)).trans h.row, hm, h.pins.of_block (hg.block _ (by omega) (by simp)), h.ints.of_block (hg.block _ (by omega) (by simp)), hp, h.lp_, h.li_⟩
theorem BookIn.turn_pins {w w' : World} {g : Nat} {b : BookD} {lm lp lp' : List (K32 × Value)} {li : List (Int × Value)} {l : List K32} (h : BookIn w g b lm lp li) (hm : MapS kv w' (g + 1) lp') (hg : w.grownBy w' (some (g + 1))) (hp : lp'.Perm (pinsP l)) :
    BookIn w' g { b with pins := l } lm lp' li :=
  have hl := h.row_lt
  ⟨(hg.block _ hl (by simp)).trans h.row, h.live.of_block (hg.block _ (by omega) (by simp)), hm, h.ints.of_block (hg.block _ (by omega) (by simp)), h.lm_, hp, h.li_⟩
theorem BookIn.turn_ints {w w' : World} {g : Nat} {b : BookD} {lm lp : List (K32 × Value)} {li li' : List (Int × Value)} {l : List (Int × (K32 × K32))} (h : BookIn w g b lm lp li) (hm : MapS (Value.int .i64) w' (g + 2) li') (hg : w.grownBy w' (some (g + 2))) (hp : li'.Perm (intsP l)) :
    BookIn w' g { b with ints := l } lm lp li' :=
  have hl := h.row_lt
  ⟨(hg.block _ hl (by simp)).trans h.row, h.live.of_block (hg.block _ (by omega) (by simp)), h.pins.of_block (hg.block _ (by omega) (by simp)), hm, h.lm_, h.lp_, hp⟩
theorem liveP_out (l : List (K32 × K32)) (k : K32) : (liveP l).filter (fun p => decide (p.1 ≠ k)) = liveP (outL l k) := by
  unfold liveP outL
  rw [List.filter_map]
  rfl
theorem pinsP_out (l : List K32) (k : K32) : (pinsP l).filter (fun p => decide (p.1 ≠ k)) = pinsP (unpinL l k) := by
  unfold pinsP unpinL
  rw [List.filter_map]
  rfl
theorem intsP_out (l : List (Int × (K32 × K32))) (s : Int) : (intsP l).filter (fun p => decide (p.1 ≠ s)) = intsP (l.filter fun p => decide (p.1 ≠ s)) := by
  unfold intsP
  rw [List.filter_map]
  rfl
theorem perm_nodup {α : Type} {l m : List (α × Value)} (h : l.Perm m) (hn : (m.map (·.1)).Nodup) : (l.map (·.1)).Nodup := (h.map _).nodup_iff.2 hn
theorem put_live {lm : List (K32 × Value)} {l : List (K32 × K32)} (hp : lm.Perm (liveP l)) (hn : (l.map (·.1)).Nodup) (k m : K32) : (assocSet lm k (kv m)).Perm (liveP (putL k m l)) := by
  have hnl := perm_nodup hp (by rw [liveP_keys]; exact hn)
  refine (set_perm hnl k (kv m)).trans ?_
  refine (List.Perm.cons _ ((hp.filter _).trans (by rw [liveP_out]))).trans ?_
  have := (ins_perm (fun p : K32 × K32 => kless k p.1) (k, m) (outL l k)).map (fun q : K32 × K32 => (q.1, kv q.2))
  exact this.symm
theorem del_live {lm : List (K32 × Value)} {l : List (K32 × K32)} (hp : lm.Perm (liveP l)) (hn : (l.map (·.1)).Nodup) (k : K32) : (assocDel lm k).Perm (liveP (outL l k)) := by
  rw [del_filter (perm_nodup hp (by rw [liveP_keys]; exact hn)) k]
  exact (hp.filter _).trans (by rw [liveP_out])
theorem put_pins {lp : List (K32 × Value)} {l : List K32} (hp : lp.Perm (pinsP l)) (hn : l.Nodup) (k : K32) : (assocSet lp k (.int .i64 1)).Perm (pinsP (pinL k l)) := by
  have hnl := perm_nodup hp (by rw [pinsP_keys]; exact hn)
  refine (set_perm hnl k _).trans ?_
  refine (List.Perm.cons _ ((hp.filter _).trans (by rw [pinsP_out]))).trans ?_
  have := (ins_perm (fun p : K32 => kless k p) k (unpinL l k)).map (fun q : K32 => (q, Value.int .i64 1))
  exact this.symm
theorem del_pins {lp : List (K32 × Value)} {l : List K32} (hp : lp.Perm (pinsP l)) (hn : l.Nodup) (k : K32) : (assocDel lp k).Perm (pinsP (unpinL l k)) := by
  rw [del_filter (perm_nodup hp (by rw [pinsP_keys]; exact hn)) k]
  exact (hp.filter _).trans (by rw [pinsP_out])
theorem intsP_keys (l : List (Int × (K32 × K32))) : (intsP l).map (·.1) = l.map (·.1) := by simp [intsP, Function.comp_def]
theorem del_ints {li : List (Int × Value)} {l : List (Int × (K32 × K32))} (hp : li.Perm (intsP l)) (hn : (l.map (·.1)).Nodup) (s : Int) : (assocDel li s).Perm (intsP (dropI l s)) := by
  rw [del_filter (perm_nodup hp (by rw [intsP_keys]; exact hn)) s, dropI_filter hn]
  exact (hp.filter _).trans (by rw [intsP_out])
theorem map_cell {α : Type} {κ : α → Value} {w : World} {g : Nat} {l : List (α × Value)} (h : MapS κ w g l) (o : Nat) (x : Option (Addr × TypeId)) (p : Addr) (hp : p.block = g) (_ : x = none) (_ : o = 0) : w.cell? p = none := by
  obtain ⟨es, c, hh, _⟩ := h
  unfold World.cell?
  rw [hp, hh]
theorem beside_cell {g : Nat} {w w' : World} {b b' : BookD} (hb : Beside g w w') (h : BookAt w g b) (h' : BookAt w' g b') {p : Addr} (hp : p.block < w.heap.size) (hne : p.block ≠ g + 3) : w'.cell? p = w.cell? p := by
  obtain ⟨lm, lp, li, hi⟩ := h
  obtain ⟨lm', lp', li', hi'⟩ := h'
  by_cases h0 : p.block = g
  · rw [map_cell hi.live 0 none p h0 rfl rfl, map_cell hi'.live 0 none p h0 rfl rfl]
  by_cases h1 : p.block = g + 1
  · rw [map_cell hi.pins 0 none p h1 rfl rfl, map_cell hi'.pins 0 none p h1 rfl rfl]
  by_cases h2 : p.block = g + 2
  · rw [map_cell hi.ints 0 none p h2 rfl rfl, map_cell hi'.ints 0 none p h2 rfl rfl]
  exact World.cell?_of_block (hb.block _ hp (by omega))
theorem row_not {g : Nat} {w : World} {b : BookD} (h : BookAt w g b) {B : Nat} {A : Option Addr} {xs : List Value} (hr : Rd w B A xs) (hl : 6 ≤ xs.length) : ∃ q off, A = some ⟨q, off, none⟩ ∧ q < B ∧ q ≠ g + 3 ∧ ∀ j u, xs[j]? = some u → w.cell? ⟨q, off + j, none⟩ = some u := by
  obtain ⟨q, off, rfl, hq, hc⟩ := hr (by intro e; rw [e] at hl; simp at hl)
  refine ⟨q, off, rfl, hq, fun he => ?_, hc⟩
  obtain ⟨lm, lp, li, hi⟩ := h
  have := hc 5 _ (List.getElem?_eq_getElem (by omega))
  rw [he, cell_of_row _ _ _ _ _ _ hi.row] at this
  have hn : (bookCells b g)[off + 5]? = none := by
    rw [Array.getElem?_eq_none]
    simp [bookCells]
  rw [hn] at this
  cases this
theorem sl_beside {α : Type} {E : Elt α} {g : Nat} {w w' : World} {b b' : BookD} (hb : Beside g w w') (h : BookAt w g b) (h' : BookAt w' g b') {B : Nat} (hB : B ≤ w.heap.size) (hE : 6 ≤ E.size) (hrep : ∀ cs x, E.rep w B cs x → E.rep w' B cs x) {v : Value} {xs : List α} (hs : SlR E w B v xs) : SlR E w' B v xs := by
  obtain ⟨A, c, css, e, h1, h2, h3, h4, h5⟩ := hs
  refine ⟨A, c, css, e, h1, h2, h3, ?_, fun i cs x hc hx => hrep _ _ (h5 i cs x hc hx)⟩
  intro hne
  have hl : 6 ≤ css.flatten.length := by
    cases css with
    | nil => simp at hne
    | cons cs r =>
      have hx : 0 < xs.length := by rw [← h3]; simp
      have := E.len (h5 0 cs xs[0] rfl (List.getElem?_eq_getElem hx))
      rw [List.flatten_cons, List.length_append]
      omega
  obtain ⟨q, off, rfl, hq, hqn, hc⟩ := row_not h h4 hl
  exact ⟨q, off, rfl, hq, fun j u hu => (beside_cell hb h h' (p := ⟨q, off + j, none⟩) (Nat.lt_of_lt_of_le hq hB) hqn).trans (hc j u hu)⟩
theorem keys_beside {g : Nat} {w w' : World} {b b' : BookD} (hb : Beside g w w') (h : BookAt w g b) (h' : BookAt w' g b') {B : Nat} (hB : B ≤ w.heap.size) {v : Value} {xs : List KeyD} (hs : SlR eKey w B v xs) : SlR eKey w' B v xs :=
  sl_beside hb h h' hB (by rw [eKey_size]; omega) (fun cs x hx => by
    obtain ⟨rfl, h1, h2, h3⟩ := eKey_rep hx
    exact eKey_of h1 h2 h3) hs
theorem recs_beside {g : Nat} {w w' : World} {b b' : BookD} (hb : Beside g w w') (h : BookAt w g b) (h' : BookAt w' g b') {B : Nat} (hB : B ≤ w.heap.size) {v : Value} {xs : List RecD} (hs : SlR eRec w B v xs) : SlR eRec w' B v xs :=
  sl_beside hb h h' hB (by show 6 ≤ 69; omega) (fun cs x hx => by
    obtain ⟨u, h1, h2, h3, h4⟩ := hx
    exact ⟨u, h1, h2, h3, keys_beside hb h h' hB h4⟩) hs
end Go.Proofs.YtplbcbamnjnhlaaGreatDoor
namespace Go.Proofs.YtplbcbamnjnhlaaGreatDoor
open Go.RowKit

def Away (w w' : World) (B : Nat) (r : Option Nat) : Prop := ∀ p : Addr, p.block < B → some p.block ≠ r → w'.cell? p = w.cell? p
theorem Away.refl (w : World) (B : Nat) (r : Option Nat) : Away w w B r := fun _ _ _ => rfl
def OwnL {α : Type} (E : Elt α) (w : World) (base : Nat) (t : TypeId) (v : Value) (xs : List α) : Prop :=
  ∃ css : List (List Value), w.ownsRow base t E.size v xs.length css.flatten ∧ css.length = xs.length ∧ ∀ (i : Nat) (cs : List Value) (x : α), css[i]? = some cs → xs[i]? = some x → ∀ w', Away w w' w.heap.size v.ownBlock → E.rep w' w.heap.size cs x
section
variable {α : Type} {E : Elt α} {w w' w1 : World} {base : Nat} {t : TypeId} {v v1 : Value} {xs : List α}
theorem OwnL.nil (w : World) (base : Nat) (t : TypeId) : OwnL E w base t (.slice none 0 0) [] := ⟨[], World.ownsRow_nil _ _ _ _, rfl, fun i cs x h => by simp at h⟩
theorem OwnL.form (h : OwnL E w base t v xs) : ∃ A c, v = .slice A xs.length c ∧ xs.length ≤ c ∧ c ≤ maxLen := by
  obtain ⟨css, h1, _⟩ := h
  exact own_form h1
theorem OwnL.sl (h : OwnL E w base t v xs) : SlR E w w.heap.size v xs := by
  obtain ⟨css, h1, h2, h3⟩ := h
  obtain ⟨A, c, rfl, ha, hb⟩ := own_form h1
  exact ⟨A, c, css, rfl, ha, hb, h2, Rd.of_own h1, fun i cs x hc hx => h3 i cs x hc hx w (Away.refl _ _ _)⟩
theorem OwnL.later (h : OwnL E w base t v xs) (hb : Below w.heap.size w w1) : OwnL E w1 base t v xs := by
  obtain ⟨css, h1, h2, h3⟩ := h
  refine ⟨css, own_below h1 hb, h2, fun i cs x hc hx w' ha => E.more (h3 i cs x hc hx w' fun p hp hn => ?_) hb.size⟩
  rw [ha p (Nat.lt_of_lt_of_le hp hb.size) hn, hb.cell hp]
theorem OwnL.snoc {css : List (List Value)} {cs : List Value} {x : α} (h2 : css.length = xs.length) (h3 : ∀ (i : Nat) (cs : List Value) (x : α), css[i]? = some cs → xs[i]? = some x → ∀ w', Away w w' w.heap.size v.ownBlock → E.rep w' w.heap.size cs x)
    (hx : ∀ w', Away w w' w.heap.size v.ownBlock → E.rep w' w.heap.size cs x) (ho : w1.ownsRow base t E.size v1 (xs.length + 1) (css.flatten ++ cs)) (hg : w.grownBy w1 v.ownBlock) (hv : v1.ownBlock = v.ownBlock ∨ v1.ownBlock = some w.heap.size) :
    OwnL E w1 base t v1 (xs ++ [x]) := by
  have key : ∀ w', Away w1 w' w1.heap.size v1.ownBlock → Away w w' w.heap.size v.ownBlock := fun w' ha p hp hn => by
    rw [ha p (Nat.lt_of_lt_of_le hp hg.size) ?_]
    · have hb := hg.block p.block hp hn
      exact World.cell?_of_block (w := w) hb
    · rcases hv with e | e
      · rw [e]; exact hn
      · rw [e]
        intro e2
        injection e2 with e2
        omega
  refine ⟨css ++ [cs], ?_, by simp [h2], fun i cs' x' hc hx' w' ha => ?_⟩
  · rw [List.flatten_append, List.length_append]
    simpa using ho
  · by_cases hi : i < xs.length
    · rw [List.getElem?_append_left (by omega)] at hc hx'
      exact E.more (h3 i cs' x' hc hx' w' (key w' ha)) hg.size
    · have hil : i = xs.length := by
        have h4 := (List.getElem?_eq_some_iff.1 hx').1
        rw [List.length_append, List.length_singleton] at h4
        omega
      subst hil
      rw [← h2, List.getElem?_append_right (Nat.le_refl _), Nat.sub_self] at hc
      rw [List.getElem?_append_right (Nat.le_refl _), Nat.sub_self] at hx'
      injection hc with hc
      injection hx' with hx'
      subst hc hx'
      exact E.more (hx w' (key w' ha)) hg.size
end
theorem own_not2 {w : World} {base : Nat} {e e' : TypeId} {size n : Nat} {v : Value} {xs : List Value} {g : Nat} {cs : Array Value} {fr : Nat × Nat} (h : w.ownsRow base e size v n xs) (hg : w.heap[g]? = some (.cells cs e' fr)) (hne : e' ≠ e) : v.ownBlock ≠ some g := by
  rcases h.2 with ⟨rfl, _⟩ | ⟨g', cap, cur, rfl, _, hh, _⟩
  · simp [Value.ownBlock]
  · intro he
    have : g' = g := by simpa [Value.ownBlock] using he
    subst this
    rw [hg] at hh
    injection hh with hh
    injection hh with _ h2
    exact hne h2
end Go.Proofs.YtplbcbamnjnhlaaGreatDoor
namespace Go.Proofs.YtplbcbamnjnhlaaGreatDoor
open Go.RowKit

abbrev ItemD := Int × (K32 × K32)
def itemCells (x : ItemD) : List Value := .int .i64 x.1 :: ivCells x.2
def itemv (x : ItemD) : Value := .agg (itemCells x).toArray
theorem itemCells_len (x : ItemD) : (itemCells x).length = 67 := by unfold itemCells; rw [List.length_cons, ivCells_len]
theorem itemCells_one (x : ItemD) : ∀ u ∈ itemCells x, u.oneCell' = true := by
  intro u hu
  rcases List.mem_cons.1 hu with rfl | h
  · rfl
  · exact ivCells_one _ u h
def eItem : Elt ItemD where
  size := 67
  rep := fun _ _ cs x => cs = itemCells x
  len := fun h => by rw [h, itemCells_len]
  keep := fun h _ => h
  more := fun h _ => h
  one := fun h u hu => by rw [h] at hu; exact itemCells_one _ u hu
def eK : Elt K32 where
  size := 33
  rep := fun _ _ cs x => cs = encK x
  len := fun h => by rw [h, encK_len]
  keep := fun h _ => h
  more := fun h _ => h
  one := fun h u hu => by rw [h] at hu; exact hkCells_one _ _ u hu
def icells (l : List ItemD) : List Value := l.flatMap itemCells
theorem sl_of_own {α : Type} {E : Elt α} {enc : α → List Value} {w : World} {base : Nat} {t : TypeId} {v : Value} {xs : List α} (hE : ∀ x ∈ xs, E.rep w w.heap.size (enc x) x) (ho : w.ownsRow base t E.size v xs.length (xs.flatMap enc)) : SlR E w w.heap.size v xs := by
  obtain ⟨A, c, rfl, h1, h2⟩ := own_form ho
  refine ⟨A, c, xs.map enc, rfl, h1, h2, by simp, ?_, ?_⟩
  · rw [← List.flatMap_def]
    exact Rd.of_own ho
  · intro i cs x hc hx
    rw [List.getElem?_map, hx] at hc
    injection hc with hc
    subst hc
    exact hE x (List.mem_of_getElem? hx)
theorem item_info (x : ItemD) : (Tryz.prog.info? 79).map (fun i => (i.zero, i.size)) = some (some (itemv (0, (zk32, zk32))), (itemCells x).length) := by rw [itemCells_len]; kernel_rfl
theorem item_size (x : ItemD) : (Tryz.prog.info? 79).map (·.size) = some (itemCells x).length := by rw [itemCells_len]; kernel_rfl
theorem itemTy_u : Tryz.prog.underlying 79 = some (.struct (Tryz.prog.fieldsOf 79)) := by kernel_rfl
theorem item_app : AppTy Tryz.prog 27 79 67 88 (itemv (0, (zk32, zk32))) := appTy Tryz.underlying27 (by kernel_rfl) rfl (by omega)
theorem item_key {w : World} {q off : Nat} {x : ItemD} (h : ∀ j u, (itemCells x)[j]? = some u → w.cell? ⟨q, off + j, none⟩ = some u) : ∀ j u, (encK x.2.1)[j]? = some u → w.cell? ⟨q, off + 1 + j, none⟩ = some u := fun j u hu => by
  have := h (1 + j) u (by
    unfold itemCells ivCells
    rw [Nat.add_comm, List.getElem?_cons_succ, List.getElem?_append_left (by rw [hkCells_length, x.2.1.2]; have := (List.getElem?_eq_some_iff.1 hu).1; rw [encK_len] at this; omega)]
    exact hu)
  rwa [← Nat.add_assoc] at this
set_option maxRecDepth 100000 in
set_option maxHeartbeats 4000000 in
theorem less17_any (a b : K32) (w : World) : Calls Tryz.prog 55 #[kv a, kv b] w fun e w' => e = .returned (.bool (kless a b)) ∧ Below w.heap.size w w' := by
  go_enter Tryz.func55, Tryz.ntmps55
  go_wp2_with (refine stop_at (some 2) rfl ?_)
  refine Stop.go (wpList_box rfl 34 rfl rfl (vs := encK a) rfl ?_)
  refine wpList_box rfl 34 rfl rfl (vs := encK b) rfl ?_
  have HG1 := Lib.hid (row_cells (Go.heap_alloc2_old w (.cells (encK a).toArray 34) (.cells (encK b).toArray 34)))
  have HG2 := Lib.hid (row_cells (Go.heap_alloc2_new w (.cells (encK a).toArray 34) (.cells (encK b).toArray 34)))
  have HB := Lib.hid (((Below.refl _ _).alloc (Nat.le_refl _) (.cells (encK a).toArray 34)).alloc (by rw [World.size_alloc]; omega) (.cells (encK b).toArray 34) : Below w.heap.size w _)
  have HSZ := Lib.hid (show ((w.alloc (.cells (encK a).toArray 34)).alloc (.cells (encK b).toArray 34)).heap.size = w.heap.size + 2 by rw [World.size_alloc, World.size_alloc])
  rw [show (w.alloc (.cells (encK a).toArray 34)).heap.size = w.heap.size + 1 from World.size_alloc _ _]
  generalize ((w.alloc (.cells (encK a).toArray 34)).alloc (.cells (encK b).toArray 34)) = w1 at *
  generalize hac : Act.put _ _ _ = a9
  simp [Act.put] at hac
  subst hac
  go_wp2_with fail
  refine wpI_inv [1, 3, 4] [0, 2] [] (fun w' => Below w1.drew.heap.size w1.drew w') (Below.refl _ _) (by kernel_rfl) (by kernel_rfl) ?_
  have HG1d := Lib.hid (show ∀ j u, (encK a)[j]? = some u → w1.drew.cell? ⟨w.heap.size, 0 + j, none⟩ = some u from HG1.out)
  have HG2d := Lib.hid (show ∀ j u, (encK b)[j]? = some u → w1.drew.cell? ⟨w.heap.size + 1, 0 + j, none⟩ = some u from HG2.out)
  have HBd := Lib.hid HB.out.drew
  have HSd := Lib.hid (show w1.drew.heap.size = w.heap.size + 2 from HSZ.out)
  clear HG1 HG2 HB HSZ
  generalize w1.drew = w2 at *
  have HL1 := Lib.hid (show ∀ w', Below w2.heap.size w2 w' → (Instr.loadAt 34 (.pointer (some ⟨w.heap.size, 0, none⟩))).run Tryz.prog w' = .ok (kv a) w' from fun w' hb => load_agg keyTy.ut rfl (key_size _ _ a.2) (fun j u hu => (hb.cell (p := ⟨w.heap.size, 0 + j, none⟩) (by rw [HSd.out]; show w.heap.size < _; omega)).trans (HG1d.out j u hu)))
  have HL2 := Lib.hid (show ∀ w', Below w2.heap.size w2 w' → (Instr.loadAt 34 (.pointer (some ⟨w.heap.size + 1, 0, none⟩))).run Tryz.prog w' = .ok (kv b) w' from fun w' hb => load_agg keyTy.ut rfl (key_size _ _ b.2) (fun j u hu => (hb.cell (p := ⟨w.heap.size + 1, 0 + j, none⟩) (by rw [HSd.out]; show w.heap.size + 1 < _; omega)).trans (HG2d.out j u hu)))
  refine wpI_seg 1 (by decide) (fun Q1 hQ1 => ?_)
  simp only [List.take_succ_cons, List.take_zero]
  refine wpList_val rfl (v := kv a) (exec_load rfl rfl (HL1.out _ (Below.refl _ _))) ?_
  refine hQ1 _ _ ?_
  simp only [List.drop_succ_cons, List.drop_zero]
  generalize hac : Act.put _ _ _ = a9
  simp [Act.put] at hac
  subst hac
  refine wpI_one (fun Q2 hQ2 => ?_)
  go_wp2_with fail
  refine (refText_any a.1.1 a.1.2 w2 a.2).mono ?_
  rintro e w3 ⟨rfl, hb3⟩
  have HB3 := Lib.hid hb3
  clear hb3
  obtain ⟨s1, hs1⟩ : ∃ s1 : ByteArray, s1 = ⟨(keyText a.1.1 a.1.2).toArray⟩ := ⟨_, rfl⟩
  rw [← hs1]
  have HS1 := Lib.hid hs1
  clear hs1
  go_wp2_with fail
  refine ⟨HB3.out, ?_⟩
  refine wpI_seg 1 (by decide) (fun Q1 hQ1 => ?_)
  simp only [List.take_succ_cons, List.take_zero]
  refine wpList_val rfl (v := kv b) (exec_load rfl rfl (HL2.out _ HB3.out)) ?_
  refine hQ1 _ _ ?_
  simp only [List.drop_succ_cons, List.drop_zero]
  generalize hac : Act.put _ _ _ = a9
  simp [Act.put] at hac
  subst hac
  refine wpI_one (fun Q2 hQ2 => ?_)
  go_wp2_with fail
  refine (refText_any b.1.1 b.1.2 w3 b.2).mono ?_
  rintro e w4 ⟨rfl, hb4⟩
  have HB4 := Lib.hid (HB3.out.trans (hb4.mono HB3.out.size))
  clear hb4
  obtain ⟨s2, hs2⟩ : ∃ s2 : ByteArray, s2 = ⟨(keyText b.1.1 b.1.2).toArray⟩ := ⟨_, rfl⟩
  rw [← hs2]
  have HS2 := Lib.hid hs2
  clear hs2
  go_wp2_with fail
  refine ⟨HB4.out, ?_⟩
  have HT : ∀ k : K32, (keyText k.1.1 k.1.2).length ≤ 68719476736 := fun k => by
    cases hk : kOk k.1.2
    · rw [(keyText_ne k.1.1 k.1.2).2 hk]; decide
    · rw [keyText_len k.1.1 k.1.2 k.2 hk]; decide
  have HLS := Lib.hid (less09_any (keyText a.1.1 a.1.2) (keyText b.1.1 b.1.2) w4 (HT a) (HT b))
  rw [← HS1.out, ← HS2.out] at HLS
  clear HT
  have HKL := Lib.hid (show kless a b = Op.bytesLess (keyText a.1.1 a.1.2) (keyText b.1.1 b.1.2) from rfl)
  obtain ⟨z, hz⟩ : ∃ z, z = Op.bytesLess (keyText a.1.1 a.1.2) (keyText b.1.1 b.1.2) := ⟨_, rfl⟩
  rw [← hz] at HLS HKL
  clear hz
  refine wpI_one (fun Q2 hQ2 => ?_)
  go_wp2_with fail
  refine HLS.out.mono ?_
  rintro e w5 ⟨rfl, hb5⟩
  have HB5 := Lib.hid (HB4.out.trans (hb5.mono HB4.out.size))
  clear hb5
  go_wp2_with fail
  refine ⟨HB5.out, ?_⟩
  refine wpI_seg 1 (by decide) (fun Q1 hQ1 => ?_)
  simp only [List.take_succ_cons, List.take_zero]
  go_wp2_with fail
  simp only [List.drop_succ_cons, List.drop_zero]
  refine wpI_end ⟨by rfl, ⟨fun _ => ⟨_, fun w' hb => HL1.out w' hb⟩, fun _ => ⟨_, fun w' hb => HL2.out w' hb⟩, trivial⟩, ?_⟩
  go_wp2_with fail
  go_ret
  exact ⟨rt1 (vbool HKL.out.symm), HBd.out.trans (HB5.out.mono (by rw [HSd.out]; omega))⟩

def withoutTo (l : List ItemD) (w : World) (e : Ending) (w' : World) : Prop := ∃ v, e = .returned v ∧ w'.ownsRow w.heap.size 79 67 v l.length (icells l) ∧ Below w.heap.size w w'
set_option maxRecDepth 100000 in
set_option maxHeartbeats 4000000 in
theorem without_any (l : List ItemD) (k : K32) (A : Option Addr) (n c B : Nat) (w : World) (h : SlR eItem w B (.slice A n c) l) (hB : B ≤ w.heap.size) (hl : l.length ≤ 1000000) :
    Calls Tryz.prog 34 #[.slice A n c, kv k] w (withoutTo (l.filter fun x => decide (x.2.1 ≠ k)) w) := by
  have hn := h.n_eq
  subst hn
  have hcl := h.n_le
  have HS := Lib.hid h
  have HBW := Lib.hid hB
  clear h hB
  go_enter Tryz.func34, Tryz.ntmps34
  go_wp2_with (refine stop_at (some 3) rfl ?_)
  refine Stop.go (wpList_box rfl 34 rfl rfl (vs := encK k) rfl ?_)
  have HG1 := Lib.hid (row_cells (vs := encK k) (Go.heap_alloc_new w (.cells (encK k).toArray 34)))
  have HB1 := Lib.hid ((Below.refl _ _).alloc (Nat.le_refl _) (.cells (encK k).toArray 34) : Below w.heap.size w _)
  have HS1 := Lib.hid (World.size_alloc w (.cells (encK k).toArray 34))
  have HSL1 := Lib.hid (HS.out.below (HB1.out.mono HBW.out))
  generalize w.alloc (.cells (encK k).toArray 34) = w1 at *
  generalize hac : Act.put _ _ _ = a9
  simp [Act.put] at hac
  subst hac
  go_wp2_with fail
  go_loopw [5, 6] (fun v5 v6 wr => ∃ (i : Nat) (l' : List ItemD) (A5 : Option Addr) (c5 : Nat), i ≤ l.length ∧ v6 = .int .i64 i ∧ v5 = .slice A5 l'.length c5 ∧ Hid (l' = (l.take i).filter fun x => decide (x.2.1 ≠ k)) ∧
    Hid (wr.ownsRow w1.heap.size 79 67 (.slice A5 l'.length c5) l'.length (icells l')) ∧ Hid (Below w1.heap.size w1 wr)) (fun _ v6 _ => l.length - (intOf v6).toNat)
  case atStart => exact ⟨0, [], none, 0, Nat.zero_le _, rfl, rfl, rfl, World.ownsRow_nil _ _ _ _, Below.refl _ _⟩
  case round =>
    obtain ⟨i, l', A5, c5, hi, rfl, rfl, HL, HO, HB⟩ := hrel
    by_cases hlt : i < l.length
    · obtain ⟨q, off, cs, rfl, _, hqB, hrep, hcell⟩ := (HSL1.out.below (HB.out.mono (by rw [HS1.out]; have := HBW.out; omega))).get hlt (by decide)
      obtain ⟨x, hx⟩ : ∃ x, x = l[i] := ⟨_, rfl⟩
      rw [← hx] at hrep
      have hrep : cs = itemCells x := hrep
      subst hrep
      have HC := Lib.hid (show ∀ j u, (itemCells x)[j]? = some u → wr.cell? ⟨q, off + i * 67 + j, none⟩ = some u from fun j u hu => by rw [Nat.add_assoc]; exact hcell j u hu)
      have HX := Lib.hid hx
      have HQB := Lib.hid hqB
      have HG2 := Lib.hid (show ∀ j u, (encK k)[j]? = some u → wr.cell? ⟨w.heap.size, 0 + j, none⟩ = some u from fun j u hu => (HB.out.cell (p := ⟨w.heap.size, 0 + j, none⟩) (by rw [HS1.out]; show w.heap.size < _; omega)).trans (HG1.out j u hu))
      have HLE := Lib.hid (show l'.length ≤ i by rw [HL.out]; exact Nat.le_trans (List.length_filter_le _ _) (by rw [List.length_take]; omega))
      clear hcell hx hqB
      go_wp2_with fail
      refine Text.wp_text [6] (by kernel_rfl) (by kernel_rfl) (fun Q' hQ' => ?_)
      have HCd := Lib.hid (show ∀ j u, (itemCells x)[j]? = some u → wr.drew.cell? ⟨q, off + i * 67 + j, none⟩ = some u from HC.out)
      have HGd := Lib.hid (show ∀ j u, (encK k)[j]? = some u → wr.drew.cell? ⟨w.heap.size, 0 + j, none⟩ = some u from HG2.out)
      have HOd := Lib.hid (show wr.drew.ownsRow w1.heap.size 79 67 (.slice A5 l'.length c5) l'.length (icells l') from HO.out.drew)
      have HBd := Lib.hid HB.out.drew
      clear HC HG2 HO HB
      generalize wr.drew = w2 at *
      go_wp2_with (refine stop_at (some 17) rfl ?_)
      refine Stop.go (wpList_load_agg rfl 34 rfl rfl keyTy.ut rfl (cs := encK x.2.1) (key_size _ _ (x.2.1).2) (item_key HCd.out) ?_)
      refine wpList_load_agg rfl 34 rfl rfl keyTy.ut rfl (cs := encK k) (key_size _ _ k.2) HGd.out ?_
      refine wpList_bin rfl .neq 34 rfl rfl rfl (hkv_guard keyTy.gd ..) (hkv_neq keyTy (x.2.1).2 k.2) ?_
      have heq : (!(decide ((x.2.1).1.1 = k.1.1) && decide ((x.2.1).1.2 = k.1.2))) = decide (x.2.1 ≠ k) := by
        by_cases he : x.2.1 = k
        · simp [he]
        · have : ¬ ((x.2.1).1.1 = k.1.1 ∧ (x.2.1).1.2 = k.1.2) := fun h => he (Subtype.ext (Prod.ext h.1 h.2))
          rw [decide_eq_true he]
          rw [← Bool.decide_and, decide_eq_false this]
          rfl
      rw [heq]
      clear heq
      obtain ⟨d, hdd⟩ : ∃ d, d = decide (x.2.1 ≠ k) := ⟨_, rfl⟩
      rw [← hdd]
      have HDD := Lib.hid hdd.symm
      clear hdd
      generalize hac : Act.put _ _ _ = a9
      simp [Act.put] at hac
      subst hac
      go_wp2_with fail
      refine ⟨by rfl, ?_⟩
      cases d
      rotate_left
      · have HD := Lib.hid HDD.out
        go_wp2_with (refine stop_at (some 24) rfl ?_)
        refine Stop.go (wpList_load_agg rfl 79 rfl rfl itemTy_u rfl (cs := itemCells x) (item_size x) HCd.out ?_)
        refine wpList_build_one rfl 27 79 rfl rfl (vs := itemCells x) Tryz.underlying27 (item_info x) rfl (by rw [itemCells_len]; omega) (by rw [itemCells_len]; decide) ?_
        have hb4 : Below w2.heap.size w2 (w2.alloc (.cells (itemCells x).toArray 79)) := (Below.refl _ _).alloc (Nat.le_refl _) _
        have HO4 := Lib.hid (own_below HOd.out hb4)
        have HB4 := Lib.hid (HBd.out.trans (hb4.mono HBd.out.size))
        have HG4 := Lib.hid (Go.heap_alloc_new w2 (.cells (itemCells x).toArray 79))
        have HS4 := Lib.hid (World.size_alloc w2 (.cells (itemCells x).toArray 79))
        clear hb4
        generalize w2.alloc (.cells (itemCells x).toArray 79) = w4 at *
        have hbw4 := HB4.out.size
        have hle := HLE.out
        refine wpList_app item_app rfl rfl rfl rfl HO4.out (Rd.row (B := w4.heap.size) HG4.out (by rw [HS4.out]; omega)) (m := 1) (by rw [show (itemCells x).toArray.toList = itemCells x from rfl, itemCells_len]) (by intro u hu; exact itemCells_one _ u hu) ?h63 ?hby ?hbase ?_
        case h63 => simp only [maxLen]; omega
        case hby => omega
        case hbase => exact hbw4
        intro v5 w5 hown5 hg5 _ _
        obtain ⟨A6, c6, rfl, _, _⟩ := own_form hown5
        have HB5 := Lib.hid (grown_below HB4.out hg5 HO4.out (Nat.le_refl _) hbw4)
        have HO5 := Lib.hid hown5
        clear hown5 hg5 hbw4 hle
        generalize hac : Act.put _ _ _ = a9
        simp [Act.put] at hac
        subst hac
        go_wp2_with fail
        go_roundw
        case rel =>
          refine ⟨i + 1, l' ++ [x], A6, c6, by omega, by go_num, by simp, ?_, ?_, HB5.out⟩
          · rw [List.take_succ_eq_append_getElem hlt, List.filter_append, ← HL.out, ← HX.out, List.filter_cons, if_pos HD.out]
            rfl
          · have hlen : (l' ++ [x]).length = l'.length + 1 := by simp
            have hcs : icells (l' ++ [x]) = icells l' ++ (itemCells x).toArray.toList := by simp [icells]
            rw [hlen, hcs]
            exact HO5.out
        case measure => simp [intOf]; omega
      · have HD := Lib.hid HDD.out
        go_wp2_with fail
        go_roundw
        case rel =>
          refine ⟨i + 1, l', A5, c5, by omega, by go_num, rfl, ?_, HOd.out, HBd.out⟩
          rw [List.take_succ_eq_append_getElem hlt, List.filter_append, ← HL.out, ← HX.out, List.filter_cons, if_neg (by rw [HD.out]; exact Bool.false_ne_true)]
          exact (List.append_nil l').symm
        case measure => simp [intOf]; omega
    · have hil : i = l.length := by omega
      subst hil
      have HP := Lib.hid (show withoutTo (l.filter fun x => decide (x.2.1 ≠ k)) w (.returned (.slice A5 l'.length c5)) wr by
        have := HO.out
        have hL := HL.out
        rw [List.take_length] at hL
        rw [← hL]
        exact ⟨_, rfl, own_more this HB1.out.size, HB1.out.trans (HB.out.mono HB1.out.size)⟩)
      go_wp2_with fail
      go_ret
      exact HP.out

def unpinTo (l : List K32) (w : World) (e : Ending) (w' : World) : Prop := ∃ v, e = .returned v ∧ w'.ownsRow w.heap.size 34 33 v l.length (kcells l) ∧ Below w.heap.size w w'
set_option maxRecDepth 100000 in
set_option maxHeartbeats 4000000 in
theorem unpin_any (l : List K32) (k : K32) (A : Option Addr) (n c B : Nat) (w : World) (h : SlR eK w B (.slice A n c) l) (hB : B ≤ w.heap.size) (hl : l.length ≤ 1000000) :
    Calls Tryz.prog 33 #[.slice A n c, kv k] w (unpinTo (l.filter fun x => decide (x ≠ k)) w) := by
  have hn := h.n_eq
  subst hn
  have hcl := h.n_le
  have HS := Lib.hid h
  have HBW := Lib.hid hB
  clear h hB
  go_enter Tryz.func33, Tryz.ntmps33
  go_wp2_with (refine stop_at (some 3) rfl ?_)
  refine Stop.go (wpList_box rfl 34 rfl rfl (vs := encK k) rfl ?_)
  have HG1 := Lib.hid (row_cells (vs := encK k) (Go.heap_alloc_new w (.cells (encK k).toArray 34)))
  have HB1 := Lib.hid ((Below.refl _ _).alloc (Nat.le_refl _) (.cells (encK k).toArray 34) : Below w.heap.size w _)
  have HS1 := Lib.hid (World.size_alloc w (.cells (encK k).toArray 34))
  have HSL1 := Lib.hid (HS.out.below (HB1.out.mono HBW.out))
  generalize w.alloc (.cells (encK k).toArray 34) = w1 at *
  generalize hac : Act.put _ _ _ = a9
  simp [Act.put] at hac
  subst hac
  go_wp2_with fail
  go_loopw [5, 6] (fun v5 v6 wr => ∃ (i : Nat) (l' : List K32) (A5 : Option Addr) (c5 : Nat), i ≤ l.length ∧ v6 = .int .i64 i ∧ v5 = .slice A5 l'.length c5 ∧ Hid (l' = (l.take i).filter fun x => decide (x ≠ k)) ∧
    Hid (wr.ownsRow w1.heap.size 34 33 (.slice A5 l'.length c5) l'.length (kcells l')) ∧ Hid (Below w1.heap.size w1 wr)) (fun _ v6 _ => l.length - (intOf v6).toNat)
  case atStart => exact ⟨0, [], none, 0, Nat.zero_le _, rfl, rfl, rfl, World.ownsRow_nil _ _ _ _, Below.refl _ _⟩
  case round =>
    obtain ⟨i, l', A5, c5, hi, rfl, rfl, HL, HO, HB⟩ := hrel
    by_cases hlt : i < l.length
    · obtain ⟨q, off, cs, rfl, _, hqB, hrep, hcell⟩ := (HSL1.out.below (HB.out.mono (by rw [HS1.out]; have := HBW.out; omega))).get hlt (by decide)
      obtain ⟨x, hx⟩ : ∃ x, x = l[i] := ⟨_, rfl⟩
      rw [← hx] at hrep
      have hrep : cs = encK x := hrep
      subst hrep
      have HC := Lib.hid (show ∀ j u, (encK x)[j]? = some u → wr.cell? ⟨q, off + i * 33 + j, none⟩ = some u from fun j u hu => by rw [Nat.add_assoc]; exact hcell j u hu)
      have HX := Lib.hid hx
      have HQB := Lib.hid hqB
      have HG2 := Lib.hid (show ∀ j u, (encK k)[j]? = some u → wr.cell? ⟨w.heap.size, 0 + j, none⟩ = some u from fun j u hu => (HB.out.cell (p := ⟨w.heap.size, 0 + j, none⟩) (by rw [HS1.out]; show w.heap.size < _; omega)).trans (HG1.out j u hu))
      have HLE := Lib.hid (show l'.length ≤ i by rw [HL.out]; exact Nat.le_trans (List.length_filter_le _ _) (by rw [List.length_take]; omega))
      clear hcell hx hqB
      go_wp2_with fail
      refine Text.wp_text [5] (by kernel_rfl) (by kernel_rfl) (fun Q' hQ' => ?_)
      have HCd := Lib.hid (show ∀ j u, (encK x)[j]? = some u → wr.drew.cell? ⟨q, off + i * 33 + j, none⟩ = some u from HC.out)
      have HGd := Lib.hid (show ∀ j u, (encK k)[j]? = some u → wr.drew.cell? ⟨w.heap.size, 0 + j, none⟩ = some u from HG2.out)
      have HOd := Lib.hid (show wr.drew.ownsRow w1.heap.size 34 33 (.slice A5 l'.length c5) l'.length (kcells l') from HO.out.drew)
      have HBd := Lib.hid HB.out.drew
      clear HC HG2 HO HB
      generalize wr.drew = w2 at *
      go_wp2_with (refine stop_at (some 16) rfl ?_)
      refine Stop.go (wpList_load_agg rfl 34 rfl rfl keyTy.ut rfl (cs := encK x) (key_size _ _ (x).2) HCd.out ?_)
      refine wpList_load_agg rfl 34 rfl rfl keyTy.ut rfl (cs := encK k) (key_size _ _ k.2) HGd.out ?_
      refine wpList_bin rfl .neq 34 rfl rfl rfl (hkv_guard keyTy.gd ..) (hkv_neq keyTy (x).2 k.2) ?_
      have heq : (!(decide ((x).1.1 = k.1.1) && decide ((x).1.2 = k.1.2))) = decide (x ≠ k) := by
        by_cases he : x = k
        · simp [he]
        · have : ¬ ((x).1.1 = k.1.1 ∧ (x).1.2 = k.1.2) := fun h => he (Subtype.ext (Prod.ext h.1 h.2))
          rw [decide_eq_true he]
          rw [← Bool.decide_and, decide_eq_false this]
          rfl
      rw [heq]
      clear heq
      obtain ⟨d, hdd⟩ : ∃ d, d = decide (x ≠ k) := ⟨_, rfl⟩
      rw [← hdd]
      have HDD := Lib.hid hdd.symm
      clear hdd
      generalize hac : Act.put _ _ _ = a9
      simp [Act.put] at hac
      subst hac
      go_wp2_with fail
      refine ⟨by rfl, ?_⟩
      cases d
      rotate_left
      · have HD := Lib.hid HDD.out
        go_wp2_with (refine stop_at (some 23) rfl ?_)
        refine Stop.go (wpList_load_agg rfl 34 rfl rfl keyTy.ut rfl (cs := encK x) (key_size _ _ x.2) HCd.out ?_)
        refine wpList_build_one rfl 28 34 rfl rfl (vs := encK x) Tryz.underlying28 (key_infoB _ _ x.2) rfl (by rw [encK_len]; omega) (by rw [encK_len]; decide) ?_
        have hb4 : Below w2.heap.size w2 (w2.alloc (.cells (encK x).toArray 34)) := (Below.refl _ _).alloc (Nat.le_refl _) _
        have HO4 := Lib.hid (own_below HOd.out hb4)
        have HB4 := Lib.hid (HBd.out.trans (hb4.mono HBd.out.size))
        have HG4 := Lib.hid (Go.heap_alloc_new w2 (.cells (encK x).toArray 34))
        have HS4 := Lib.hid (World.size_alloc w2 (.cells (encK x).toArray 34))
        clear hb4
        generalize w2.alloc (.cells (encK x).toArray 34) = w4 at *
        have hbw4 := HB4.out.size
        have hle := HLE.out
        refine wpList_app key_app rfl rfl rfl rfl HO4.out (Rd.row (B := w4.heap.size) HG4.out (by rw [HS4.out]; omega)) (m := 1) (by rw [show (encK x).toArray.toList = encK x from rfl, encK_len]) (by intro u hu; exact hkCells_one _ _ u hu) ?h63 ?hby ?hbase ?_
        case h63 => simp only [maxLen]; omega
        case hby => omega
        case hbase => exact hbw4
        intro v5 w5 hown5 hg5 _ _
        obtain ⟨A6, c6, rfl, _, _⟩ := own_form hown5
        have HB5 := Lib.hid (grown_below HB4.out hg5 HO4.out (Nat.le_refl _) hbw4)
        have HO5 := Lib.hid hown5
        clear hown5 hg5 hbw4 hle
        generalize hac : Act.put _ _ _ = a9
        simp [Act.put] at hac
        subst hac
        go_wp2_with fail
        go_roundw
        case rel =>
          refine ⟨i + 1, l' ++ [x], A6, c6, by omega, by go_num, by simp, ?_, ?_, HB5.out⟩
          · rw [List.take_succ_eq_append_getElem hlt, List.filter_append, ← HL.out, ← HX.out, List.filter_cons, if_pos HD.out]
            rfl
          · have hlen : (l' ++ [x]).length = l'.length + 1 := by simp
            have hcs : kcells (l' ++ [x]) = kcells l' ++ (encK x).toArray.toList := by simp [kcells]
            rw [hlen, hcs]
            exact HO5.out
        case measure => simp [intOf]; omega
      · have HD := Lib.hid HDD.out
        go_wp2_with fail
        go_roundw
        case rel =>
          refine ⟨i + 1, l', A5, c5, by omega, by go_num, rfl, ?_, HOd.out, HBd.out⟩
          rw [List.take_succ_eq_append_getElem hlt, List.filter_append, ← HL.out, ← HX.out, List.filter_cons, if_neg (by rw [HD.out]; exact Bool.false_ne_true)]
          exact (List.append_nil l').symm
        case measure => simp [intOf]; omega
    · have hil : i = l.length := by omega
      subst hil
      have HP := Lib.hid (show unpinTo (l.filter fun x => decide (x ≠ k)) w (.returned (.slice A5 l'.length c5)) wr by
        have := HO.out
        have hL := HL.out
        rw [List.take_length] at hL
        rw [← hL]
        exact ⟨_, rfl, own_more this HB1.out.size, HB1.out.trans (HB.out.mono HB1.out.size)⟩)
      go_wp2_with fail
      go_ret
      exact HP.out
end Go.Proofs.YtplbcbamnjnhlaaGreatDoor
