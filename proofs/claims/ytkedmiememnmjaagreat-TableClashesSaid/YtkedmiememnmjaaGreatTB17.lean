/- Texts of this proof joined: FirstW3, SetsM, First2, First3. -/
import Derived.Test.YtkedmiememnmjaaGreatTB16
import Derived.Test.YtkedmiememnmjaaGreatTB08
import Derived.Test.YtkedmiememnmjaaGreatTB09
import Derived.Deep.LoopGhost
namespace Go.Proofs.YtkedmiememnmjaaGreat

def ShortW (l : List Wd) : Prop := ∀ x ∈ l, x.length ≤ 4
def SetsB (s : Sets) : Prop := ∀ (i : Nat) (x : List Wd), s[i]? = some x → ShortW x ∧ x.length ≤ 4096
def tot : Sets → Nat
  | [] => 0
  | x :: s => x.length + tot s
theorem tot_set : ∀ (s : Sets) (a : Nat) (u : List Wd), a < s.length → tot (s.set a u) + (s.getD a []).length = tot s + u.length
  | [], a, u, h => by simp at h
  | x :: s, 0, u, _ => by simp [tot]; omega
  | x :: s, a + 1, u, h => by
    have := tot_set s a u (by simpa using h)
    simp only [List.set_cons_succ, tot, List.getD_cons_succ]
    omega
theorem tot_le : ∀ (s : Sets), SetsB s → tot s ≤ 4096 * s.length
  | [], _ => by simp [tot]
  | x :: s, h => by
    have ih := tot_le s (fun i y hy => h (i + 1) y (by simpa using hy))
    have := (h 0 x (by simp)).2
    simp only [tot, List.length_cons]
    omega
theorem catW_b {k : Nat} (hk : k ≤ 4) {a b o : List Wd} (h : catW k a b = some o) : ShortW o ∧ o.length ≤ 4096 := by
  refine ⟨fun z hz => ?_, ?_⟩
  · obtain ⟨x, _, y, _, rfl⟩ := (mem_catW h).1 hz
    rw [List.length_take]
    simp
    omega
  · unfold catW at h
    split at h
    · injection h with h; subst h; assumption
    · cases h
theorem ofFrom_b {k : Nat} (hk : k ≤ 4) {sets : Sets} : ∀ (syms : List Int) (acc out : List Wd), ShortW acc ∧ acc.length ≤ 4096 → ofFrom sets k acc syms = some out → ShortW out ∧ out.length ≤ 4096
  | [], acc, out, ha, h => by injection h with h; subst h; exact ha
  | s :: l, acc, out, _, h => by
    simp only [ofFrom] at h
    cases h1 : oneW sets s with
    | none => rw [h1] at h; cases h
    | some x =>
      rw [h1, Option.bind_some] at h
      cases h2 : catW (k : Int) acc x with
      | none => rw [h2] at h; cases h
      | some o =>
        rw [h2, Option.bind_some] at h
        exact ofFrom_b hk l o out (catW_b hk h2) h
theorem ofW_b {k : Nat} (hk : k ≤ 4) {sets : Sets} {syms : List Int} {out : List Wd} (h : ofW sets k syms = some out) : ShortW out ∧ out.length ≤ 4096 :=
  ofFrom_b hk syms [[]] out ⟨fun x hx => by rw [List.mem_singleton] at hx; subst hx; simp, by simp⟩ h
theorem SetsB.getD {s : Sets} (h : SetsB s) (a : Nat) : ShortW (s.getD a []) ∧ (s.getD a []).length ≤ 4096 := by
  rw [List.getD_eq_getElem?_getD]
  cases e : s[a]? with
  | none => exact ⟨fun x hx => (by cases hx), by simp⟩
  | some x => exact h a x e
theorem SetsB.set {s : Sets} (h : SetsB s) (a : Nat) {u : List Wd} (hu : ShortW u ∧ u.length ≤ 4096) : SetsB (s.set a u) := by
  intro b y hy
  rw [List.getElem?_set] at hy
  split at hy
  · split at hy
    · injection hy with hy; subst hy; exact hu
    · cases hy
  · exact h b y hy
theorem SetsB.replicate (n : Nat) : SetsB (List.replicate n []) := by
  intro b y hy
  rw [List.getElem?_replicate] at hy
  split at hy
  · injection hy with hy; subst hy; exact ⟨fun x hx => (by cases hx), by simp⟩
  · cases hy
theorem short_union {a b : List Wd} (ha : ShortW a) (hb : ShortW b) : ShortW (unionW a b) := fun x hx => (mem_unionW.1 hx).elim (ha x) (hb x)
theorem growW_b {k : Nat} (hk : k ≤ 4) {s s' : Sets} {g : Bool} {r : Int × List Int} (hs : SetsB s) (ha : AllAsc s) (hr : r.1.toNat < s.length) (e : growW k s r = some (s', g)) :
    SetsB s' ∧ AllAsc s' ∧ s'.length = s.length ∧ tot s ≤ tot s' ∧ (g = true → tot s < tot s') := by
  unfold growW at e
  cases h1 : ofW s k r.2 with
  | none => rw [h1] at e; cases e
  | some x =>
    rw [h1, Option.bind_some] at e
    split at e
    · rename_i hle
      injection e with e
      injection e with e e2
      subst e e2
      have h3 := tot_set s r.1.toNat (unionW (s.getD r.1.toNat []) x) hr
      have h4 := (union_len (b := x) (ha.getD r.1.toNat)).1
      change (s.getD r.1.toNat []).length ≤ (unionW (s.getD r.1.toNat []) x).length at h4
      refine ⟨hs.set _ ⟨short_union (hs.getD _).1 (ofW_b hk h1).1, hle⟩, ha.set _ (unionW_asc _ _), by simp, by omega, fun h => ?_⟩
      have := of_decide_eq_true h
      omega
    · cases e
end Go.Proofs.YtkedmiememnmjaaGreat
namespace Go.Proofs.YtkedmiememnmjaaGreat
open Go.RowKit

def Hi (lo e0 : Nat) (w : World) (v : Value) (x : List Wd) : Prop := ∀ w' : World, (∀ p : Addr, (lo ≤ p.block ∨ p.block = e0) → p.block < w.heap.size → w'.cell? p = w.cell? p) → SlR eW w' w.heap.size v x
theorem Hi.nil (lo e0 : Nat) (w : World) : Hi lo e0 w (.slice none 0 0) [] := fun _ _ => SlR.nil_
theorem Hi.sl {lo e0 : Nat} {w : World} {v : Value} {x : List Wd} (h : Hi lo e0 w v x) : SlR eW w w.heap.size v x := h w fun _ _ _ => rfl
theorem Hi.keep {lo e0 : Nat} {w w1 : World} {v : Value} {x : List Wd} (h : Hi lo e0 w v x) (hs : w.heap.size ≤ w1.heap.size) (hk : ∀ p : Addr, (lo ≤ p.block ∨ p.block = e0) → p.block < w.heap.size → w1.cell? p = w.cell? p) : Hi lo e0 w1 v x := fun w' hw =>
  (h w' fun p h1 h2 => (hw p h1 (Nat.lt_of_lt_of_le h2 hs)).trans (hk p h1 h2)).more hs
theorem Hi.own {lo e0 base : Nat} {t : TypeId} {w : World} {v : Value} {x : List Wd} (hf : Fits x) (h : w.ownsRow base t 1 v x.length (wcells x)) (hb : lo ≤ base ∨ (base ≤ e0 ∧ ∀ b, v.ownBlock = some b → b = e0)) : Hi lo e0 w v x := fun w' hw => by
  obtain ⟨A, c, rfl, h1, h2⟩ := own_form h
  refine slW_of hf (fun hne => ?_) h1 h2
  obtain ⟨b, off, e, hlt, hc⟩ := Rd.of_own h hne
  subst e
  have hge : base ≤ b := by
    rcases h.2 with ⟨hn, _⟩ | ⟨g, cap, cur, hv, hg, _⟩
    · injection hn with e1; cases e1
    · injection hv with e1 _ _; injection e1 with e1; injection e1 with e1 _; omega
  refine ⟨b, off, rfl, hlt, fun j u hu => (hw _ (by
    show lo ≤ b ∨ b = e0
    rcases hb with hb | ⟨_, hb⟩
    · omega
    · rcases h.2 with ⟨hn, _⟩ | ⟨g, cap, cur, hv, hg, _⟩
      · injection hn with e1; cases e1
      · injection hv with e1 _ _
        injection e1 with e1
        injection e1 with e1 e2
        subst e1 e2
        exact .inr (hb _ rfl)) hlt).trans (hc j u hu)⟩
def RowHi (t : TypeId) (g lo e0 : Nat) (w : World) (sets : Sets) : Prop :=
  ∃ vs : List Value, w.heap[g]? = some (.cells vs.toArray t (0, 0)) ∧ vs.length = sets.length ∧ ∀ (i : Nat) (v : Value) (x : List Wd), vs[i]? = some v → sets[i]? = some x → Hi lo e0 w v x
theorem RowHi.lt {t : TypeId} {g lo e0 : Nat} {w : World} {sets : Sets} (h : RowHi t g lo e0 w sets) : g < w.heap.size := by
  obtain ⟨vs, h1, _⟩ := h
  exact (Array.getElem?_eq_some_iff.1 h1).1
theorem RowHi.keep {t : TypeId} {g lo e0 : Nat} {w w1 : World} {sets : Sets} (h : RowHi t g lo e0 w sets) (hs : w.heap.size ≤ w1.heap.size) (hg : w1.heap[g]? = w.heap[g]?) (hk : ∀ b, (lo ≤ b ∨ b = e0) → b < w.heap.size → w1.heap[b]? = w.heap[b]?) : RowHi t g lo e0 w1 sets := by
  obtain ⟨vs, h1, h2, h3⟩ := h
  exact ⟨vs, hg.trans h1, h2, fun i v x hv hx => (h3 i v x hv hx).keep hs fun p hp hl => World.cell?_of_block (hk p.block hp hl)⟩
theorem RowHi.below {t : TypeId} {g lo e0 : Nat} {w w1 : World} {sets : Sets} (h : RowHi t g lo e0 w sets) (hb : Below w.heap.size w w1) : RowHi t g lo e0 w1 sets := h.keep hb.size (hb.block g h.lt) fun b _ hl => hb.block b hl
theorem RowHi.other {t : TypeId} {g lo e0 : Nat} {w : World} {sets : Sets} (h : RowHi t g lo e0 w sets) {p : Addr} (v : Value) (h1 : g ≠ p.block) (h2 : p.block < lo) (h3 : p.block ≠ e0) : RowHi t g lo e0 (w.setCell p v) sets :=
  h.keep (by simp [World.setCell]) (Below.heap_setCell _ _ _ _ h1) fun b hb _ => Below.heap_setCell _ _ _ _ (by rcases hb with hb | hb <;> omega)
theorem RowHi.set {t : TypeId} {g lo e0 : Nat} {w : World} {sets : Sets} (h : RowHi t g lo e0 w sets) (hlo : g < lo) (hge : g ≠ e0) {k : Nat} {v : Value} {x : List Wd} (hv : Hi lo e0 w v x) : RowHi t g lo e0 (w.setCell ⟨g, k, none⟩ v) (sets.set k x) := by
  obtain ⟨vs, h1, h2, h3⟩ := h
  have hkeep : ∀ p : Addr, (lo ≤ p.block ∨ p.block = e0) → p.block < w.heap.size → (w.setCell ⟨g, k, none⟩ v).cell? p = w.cell? p := fun p hp _ => World.cell?_of_block (Below.heap_setCell _ _ _ _ (by show p.block ≠ g; rcases hp with hp | hp <;> omega))
  refine ⟨vs.set k v, ?_, by rw [List.length_set, List.length_set, h2], fun i u y hu hy => ?_⟩
  · simp only [World.setCell, Array.getElem?_modify, if_true, h1, Option.map_some]
    congr 2
    simp
  · rw [List.getElem?_set] at hu hy
    by_cases e : k = i
    · rw [if_pos e] at hu hy
      split at hu
      · split at hy
        · injection hu with hu
          injection hy with hy
          subst hu hy
          exact hv.keep (by simp [World.setCell]) hkeep
        · cases hy
      · cases hu
    · rw [if_neg e] at hu hy
      exact (h3 i u y hu hy).keep (by simp [World.setCell]) hkeep
theorem RowHi.get {t : TypeId} {g lo e0 : Nat} {w : World} {sets : Sets} (h : RowHi t g lo e0 w sets) {k : Nat} (hk : k < sets.length) : ∃ A c, w.cell? ⟨g, k, none⟩ = some (.slice A sets[k].length c) ∧ sets[k].length ≤ c ∧ c ≤ maxLen ∧ Hi lo e0 w (.slice A sets[k].length c) sets[k] ∧ w.frozen? ⟨g, k, none⟩ = false := by
  obtain ⟨vs, h1, h2, h3⟩ := h
  have hkv : k < vs.length := by omega
  have hh := h3 k _ _ (List.getElem?_eq_getElem hkv) (List.getElem?_eq_getElem hk)
  obtain ⟨A, c, e, h4, h5⟩ := hh.sl.form
  refine ⟨A, c, ?_, h4, h5, by rw [← e]; exact hh, by simp [World.frozen?, h1]⟩
  rw [cell_of_row w g k _ _ _ h1, ← e]
  simp [hkv]
theorem RowHi.sl {t : TypeId} {g lo e0 : Nat} {w : World} {sets : Sets} (h : RowHi t g lo e0 w sets) (hl : sets.length ≤ maxLen) : SlR (eSl eW) w w.heap.size (.slice (some ⟨g, 0, none⟩) sets.length sets.length) sets := by
  have hlt := h.lt
  obtain ⟨vs, h1, h2, h3⟩ := h
  have hfl : (vs.map fun v => [v]).flatten = vs := by
    clear h1 h2 h3
    induction vs with
    | nil => rfl
    | cons v l ih => rw [List.map_cons, List.flatten_cons, ih]; rfl
  refine ⟨some ⟨g, 0, none⟩, sets.length, vs.map fun v => [v], rfl, Nat.le_refl _, hl, by simp [h2], ?_, fun i cs x hc hx => ?_⟩
  · rw [hfl]
    exact Rd.row h1 hlt
  · rw [List.getElem?_map] at hc
    cases e : vs[i]? with
    | none => rw [e] at hc; cases hc
    | some v =>
      rw [e] at hc
      injection hc with hc
      subst hc
      exact ⟨v, rfl, (h3 i v x e hx).sl⟩
theorem RowHi.start {t : TypeId} {g lo e0 : Nat} {w : World} {n : Nat} (h : w.heap[g]? = some (.cells (List.replicate n (Value.slice none 0 0)).toArray t (0, 0))) : RowHi t g lo e0 w (List.replicate n []) :=
  ⟨_, h, by simp, fun i v x hv hx => by
    rw [List.getElem?_replicate] at hv hx
    split at hv
    · rename_i hi
      rw [if_pos hi] at hx
      injection hv with hv
      injection hx with hx
      subst hv hx
      exact Hi.nil lo e0 w
    · cases hv⟩
theorem slS_two {w : World} {g : Nat} {v1 v2 : Value} {t : TypeId} {a b : List Wd} (h : w.heap[g]? = some (.cells #[v1, v2] t (0, 0))) (h1 : SlR eW w w.heap.size v1 a) (h2 : SlR eW w w.heap.size v2 b) : SlR (eSl eW) w w.heap.size (.slice (some ⟨g, 0, none⟩) 2 2) [a, b] := by
  refine ⟨some ⟨g, 0, none⟩, 2, [[v1], [v2]], rfl, by simp, by unfold maxLen; omega, rfl, ?_, fun i cs x hc hx => ?_⟩
  · exact Rd.row h (Array.getElem?_eq_some_iff.1 h).1
  · match i, hc, hx with
    | 0, hc, hx => injection hc with hc; injection hx with hx; subst hc hx; exact ⟨v1, rfl, h1⟩
    | 1, hc, hx => injection hc with hc; injection hx with hx; subst hc hx; exact ⟨v2, rfl, h2⟩
    | i + 2, hc, hx => simp at hc
end Go.Proofs.YtkedmiememnmjaaGreat
namespace Go.Proofs.YtkedmiememnmjaaGreat
open Go.RowKit Go.Sort

structure FirstSt (w : World) (g S K G lo C n k : Nat) (sets : Sets) (gr : Bool) : Prop where
  row : RowHi 22 g lo lo w sets
  len : sets.length = n
  small : SetsB sets
  asc : AllAsc sets
  bS : w.heap[S]? = some (.cells #[.slice (some ⟨g, 0, none⟩) n n] 42 (0, 0))
  bK : w.heap[K]? = some (.cells #[.int .i64 k] 3 (0, 0))
  bG : w.heap[G]? = some (.cells #[.bool gr] 4 (0, 0))
  le : C ≤ g ∧ C ≤ S ∧ C ≤ G ∧ K < C ∧ g < lo ∧ S < lo ∧ G < lo ∧ lo ≤ w.heap.size ∧ g ≠ S ∧ g ≠ G ∧ S ≠ G
theorem FirstSt.below {w w' : World} {g S K G lo C n k : Nat} {sets : Sets} {gr : Bool} (h : FirstSt w g S K G lo C n k sets gr) (hb : Below w.heap.size w w') : FirstSt w' g S K G lo C n k sets gr := by
  obtain ⟨l1, l2, l3, l4, l5, l6, l7, l8, l9⟩ := h.le
  exact ⟨h.row.below hb, h.len, h.small, h.asc, (hb.block S (by omega)).trans h.bS, (hb.block K (by omega)).trans h.bK, (hb.block G (by omega)).trans h.bG, l1, l2, l3, l4, l5, l6, l7, Nat.le_trans l8 hb.size, l9⟩
theorem box_set {w : World} {G : Nat} {v u : Value} {t : TypeId} (h : w.heap[G]? = some (.cells #[v] t (0, 0))) : (w.setCell ⟨G, 0, none⟩ u).heap[G]? = some (.cells #[u] t (0, 0)) := by
  simp only [World.setCell, Array.getElem?_modify, if_true, h, Option.map_some]
  rfl
theorem FirstSt.setG {w : World} {g S K G lo C n k : Nat} {sets : Sets} {gr : Bool} (h : FirstSt w g S K G lo C n k sets gr) (b : Bool) : FirstSt (w.setCell ⟨G, 0, none⟩ (.bool b)) g S K G lo C n k sets b := by
  obtain ⟨l1, l2, l3, l4, l5, l6, l7, l8, l9, l10, l11⟩ := h.le
  exact ⟨h.row.other _ l10 l7 (by show G ≠ lo; omega), h.len, h.small, h.asc, by rw [Below.heap_setCell _ _ _ _ (show S ≠ G from l11)]; exact h.bS, by rw [Below.heap_setCell _ _ _ _ (show K ≠ G by omega)]; exact h.bK, box_set h.bG, l1, l2, l3, l4, l5, l6, l7, by simpa [World.setCell] using l8, l9, l10, l11⟩
def GrowFTo (w : World) (g S K G lo C n k : Nat) (gr : Bool) (o : Option (Sets × Bool)) (e : Ending) (w' : World) : Prop :=
  Below C w w' ∧ match o with
  | none => e = .returned (.bool false)
  | some (s', g') => e = .returned (.bool true) ∧ FirstSt w' g S K G lo C n k s' (gr || g')
theorem fits_short {x : List Wd} (h : ShortW x) : Fits x := fun y hy => by have := h y hy; unfold maxLen; omega
set_option maxRecDepth 100000 in
set_option maxHeartbeats 8000000 in
theorem growF_any (w : World) (g S K G lo C n k N : Nat) (sets : Sets) (gr : Bool) (a : Nat) (r : List Int) (A : Option Addr) (q c : Nat) (h : FirstSt w g S K G lo C n k sets gr) (hk1 : 1 ≤ k) (hk2 : k ≤ 4) (ha : a < n) (hn : n ≤ 256) (hq : q = r.length) (hr : SlR eInt w N (.slice A q c) r) (hN : N ≤ w.heap.size) :
    Calls Tryz.prog 63 #[ruleV a A q c, .pointer (some ⟨S, 0, none⟩), .pointer (some ⟨K, 0, none⟩), .pointer (some ⟨G, 0, none⟩)] w (GrowFTo w g S K G lo C n k gr (growW k sets ((a : Int), r))) := by
  have hbx := (Below.refl w.heap.size w).alloc (Nat.le_refl _) (.cells #[.int .i64 a, .slice A q c] 48)
  have HH := Lib.hid h
  have H1 := Lib.hid (h.below hbx)
  have HZ := Lib.hid (World.size_alloc w (.cells #[.int .i64 a, .slice A q c] 48))
  have HK := Lib.hid (Go.heap_alloc_new w (.cells #[.int .i64 a, .slice A q c] 48))
  have HBX := Lib.hid hbx
  have HQ := Lib.hid hq
  have hOF := firstOf_any (some ⟨g, 0, none⟩) A n c k sets r (w.alloc (.cells #[.int .i64 a, .slice A q c] 48)) hk1 hk2 (by have := (h.below hbx).row.sl (by rw [h.len]; unfold maxLen; omega); rw [h.len] at this ⊢; exact this) (by rw [← hq]; exact hr.fut hbx hN (by rw [World.size_alloc]; omega)) (fun i x hx => by have := h.small i x hx; exact ⟨this.1, by omega⟩)
  rw [h.len, ← hq] at hOF
  have HOF := Lib.hid hOF
  clear h hbx hq hr hOF
  have cS := cell0 HH.out.bS
  have cK := cell0 HH.out.bK
  have lS := (Array.getElem?_eq_some_iff.1 HH.out.bS).1
  have lK := (Array.getElem?_eq_some_iff.1 HH.out.bK).1
  go_enter Tryz.func63, Tryz.ntmps63
  go_wp2_with fail
  clear cS cK lS lK
  generalize w.alloc (.cells #[.int .i64 a, .slice A q c] 48) = w1 at *
  refine HOF.out.mono ?_
  rintro e w2 ⟨hb2, he⟩
  have HB2 := Lib.hid (HBX.out.trans (hb2.mono (by rw [HZ.out]; omega)))
  have HST2 := Lib.hid (H1.out.below hb2)
  have HK2 := Lib.hid ((hb2.block w.heap.size (by rw [HZ.out]; omega)).trans HK.out)
  have hCw : C ≤ w.heap.size := by have := HH.out.le; omega
  cases ho : ofW sets k r with
  | none =>
    rw [ho] at he
    subst he
    have HG := Lib.hid (show growW k sets ((a : Int), r) = none by unfold growW; simp only [ho]; rfl)
    clear ho hb2
    go_wp2_with fail
    go_ret
    refine ⟨HB2.out.mono hCw, ?_⟩
    rw [HG.out]
    rfl
  | some x =>
    rw [ho] at he
    obtain ⟨Ax, cx, rfl, hsx⟩ := he
    have HX := Lib.hid (ofW_b hk2 ho)
    obtain ⟨qx, hqx⟩ : ∃ qx, qx = x.length := ⟨_, rfl⟩
    rw [← hqx] at hsx ⊢
    have HSX := Lib.hid hsx
    have HQX := Lib.hid hqx
    have has : a < sets.length := by rw [HST2.out.len]; exact ha
    obtain ⟨Ao, co, hco, ho1, ho2, hhi, hfz⟩ := HST2.out.row.get has
    have HOLD := Lib.hid (show sets.getD a [] = sets[a] by rw [List.getD_eq_getElem?_getD, List.getElem?_eq_getElem has]; rfl)
    obtain ⟨old, hold⟩ : ∃ old, old = sets[a] := ⟨_, rfl⟩
    rw [← hold] at hco ho1 hhi HOLD
    obtain ⟨qo, hqo⟩ : ∃ qo, qo = old.length := ⟨_, rfl⟩
    rw [← hqo] at hco ho1 hhi
    have HHI := Lib.hid hhi
    have HQO := Lib.hid hqo
    have HGW := Lib.hid (show growW k sets ((a : Int), r) = if (unionW old x).length ≤ 4096 then some (sets.set a (unionW old x), decide (old.length < (unionW old x).length)) else none by
      unfold growW
      simp only [ho, Option.bind_some, Int.toNat_natCast, HOLD.out])
    have HOB := Lib.hid (show ShortW old ∧ old.length ≤ 4096 by rw [← HOLD.out]; exact HST2.out.small.getD a)
    have cS := cell0 HST2.out.bS
    have c0 : w2.cell? ⟨w.heap.size, 0, none⟩ = some (.int .i64 a) := by rw [cell_of_row _ _ _ _ _ _ HK2.out]; rfl
    have lS := (Array.getElem?_eq_some_iff.1 HST2.out.bS).1
    have lG := (Array.getElem?_eq_some_iff.1 HST2.out.bG).1
    have lg := HST2.out.row.lt
    have lb := (Array.getElem?_eq_some_iff.1 HK2.out).1
    clear ho hsx hqx hold has hqo hhi
    go_wp2_with fail
    have hb3 := (Below.refl w2.heap.size w2).alloc (Nat.le_refl _) (.cells #[.slice Ao qo co, .slice Ax qx cx] 22)
    have hst3 := HST2.out.below hb3
    have hk3 := Go.heap_alloc_new w2 (.cells #[.slice Ao qo co, .slice Ax qx cx] 22)
    have HU := Lib.hid (union_any (some ⟨w2.heap.size, 0, none⟩) 2 old x (w2.alloc (.cells #[.slice Ao qo co, .slice Ax qx cx] 22)) (slS_two hk3 (HHI.out.sl.fut hb3 (Nat.le_refl _) hb3.size) (HSX.out.fut hb3 (Nat.le_refl _) hb3.size)) (by have := HOB.out.2; have := HX.out.2; omega))
    have HB3 := Lib.hid hb3
    have HST3 := Lib.hid hst3
    clear hb3 hst3 hk3 cS c0 hco hfz lS lG lg lb
    generalize w2.alloc (.cells #[.slice Ao qo co, .slice Ax qx cx] 22) = w3 at *
    refine HU.out.mono ?_
    rintro e w4 ⟨v4, rfl, hown, hb4⟩
    have HST4 := Lib.hid (HST3.out.below hb4)
    have HB24 := Lib.hid (HB3.out.trans (hb4.mono HB3.out.size))
    have HK4 := Lib.hid ((HB24.out.block w.heap.size (Array.getElem?_eq_some_iff.1 HK2.out).1).trans HK2.out)
    have HB4 := Lib.hid (HB2.out.trans (HB24.out.mono HB2.out.size))
    have HUB := Lib.hid (show ShortW (unionW old x) from short_union HOB.out.1 HX.out.1)
    have hown' : w4.ownsRow w3.heap.size 9 1 v4 (unionW old x).length (wcells (unionW old x)) := hown
    have HHU := Lib.hid (Hi.own (lo := lo) (e0 := lo) (fits_short HUB.out) hown' (.inl (by have := HST3.out.le; omega)))
    obtain ⟨A4, c4, rfl, h41, h42⟩ := own_form hown'
    have HULE := Lib.hid (show (unionW old x).length ≤ 8192 by
      have := setOf_le (old ++ x)
      rw [List.length_append] at this
      have h1 := HOB.out.2
      have h2 := HX.out.2
      unfold unionW
      omega)
    obtain ⟨u, hu⟩ : ∃ u, u = unionW old x := ⟨_, rfl⟩
    rw [← hu] at HGW HUB HHU h41 HULE
    rw [← hu]
    have HUU := Lib.hid hu
    clear hown hown' hb4 HU hu
    obtain ⟨qu, hqu⟩ : ∃ qu, qu = u.length := ⟨_, rfl⟩
    rw [← hqu] at HGW HHU h41 HULE ⊢
    have HQU := Lib.hid hqu
    rw [← HQO.out] at HGW
    clear hqu
    have hqu8 := HULE.out
    -- the row, the boxes in w4
    have has : a < sets.length := by rw [HST4.out.len]; exact ha
    obtain ⟨Ao', co', hco', ho1', ho2', hhi', hfz'⟩ := HST4.out.row.get has
    have holdl : sets[a].length = qo := by
      have := HOLD.out
      rw [List.getD_eq_getElem?_getD, List.getElem?_eq_getElem has] at this
      rw [HQO.out, ← this]
      rfl
    rw [holdl] at hco' ho1'
    have cS := cell0 HST4.out.bS
    have cG := cell0 HST4.out.bG
    have fG : w4.frozen? ⟨G, 0, none⟩ = false := by simp [World.frozen?, HST4.out.bG]
    have c0 : w4.cell? ⟨w.heap.size, 0, none⟩ = some (.int .i64 a) := by rw [cell_of_row _ _ _ _ _ _ HK4.out]; rfl
    obtain ⟨l1, l2, l3, l4, l5, l6, l7, l8, l9, l10, l11⟩ := HST4.out.le
    have hgb : G ≠ w.heap.size := by have := HH.out.le; omega
    have hgb2 : g ≠ w.heap.size := by have := HH.out.le; omega
    clear hhi' holdl has
    -- behind both stores
    have HFIN : Hid (∀ (b : Bool) (w5 : World), w5 = (w4.setCell ⟨G, 0, none⟩ (.bool b)).setCell ⟨g, a, none⟩ (.slice A4 qu c4) → qu ≤ 4096 → b = (gr || decide (qo < qu)) → GrowFTo w g S K G lo C n k gr (growW k sets ((a : Int), r)) (.returned (.bool true)) w5) := by
      rintro b w5 rfl hle rfl
      have hG : (w4.setCell ⟨G, 0, none⟩ (.bool (gr || decide (qo < qu)))).heap[G]? = some (.cells #[.bool (gr || decide (qo < qu))] 4 (0, 0)) := by
        simp only [World.setCell, Array.getElem?_modify, if_true, HST4.out.bG, Option.map_some]
        rfl
      refine ⟨((HB4.out.mono hCw).setCell l3 _).setCell l1 _, ?_⟩
      rw [HGW.out, if_pos hle]
      refine ⟨rfl, ⟨(HST4.out.row.other _ l10 l7 (by show G ≠ lo; omega)).set l5 (by omega) (HHU.out.keep (by simp [World.setCell]) fun p hp _ => World.cell?_of_block (Below.heap_setCell _ _ _ _ (by show p.block ≠ G; rcases hp with hp | hp <;> omega))), by rw [List.length_set]; exact HST4.out.len, HST4.out.small.set _ ⟨HUB.out, by rw [← HQU.out]; exact hle⟩, HST4.out.asc.set _ (by rw [HUU.out]; exact unionW_asc _ _), ?_, ?_, ?_, l1, l2, l3, l4, l5, l6, l7, by simpa [World.setCell] using l8, l9, l10, l11⟩⟩
      · rw [Below.heap_setCell _ _ _ _ (fun e => l9 e.symm), Below.heap_setCell _ _ _ _ (show S ≠ G from l11)]; exact HST4.out.bS
      · rw [Below.heap_setCell _ _ _ _ (show K ≠ g by omega), Below.heap_setCell _ _ _ _ (show K ≠ G by omega)]; exact HST4.out.bK
      · rw [Below.heap_setCell _ _ _ _ (fun e => l10 e.symm)]; exact hG
    have HFIN2 : Hid (∀ (b : Bool) (w5 : World), w5 = (w4.setCell ⟨G, 0, none⟩ (.bool b)).setCell ⟨g, a, none⟩ (.slice A4 qu c4) → ¬ qu ≤ 4096 → GrowFTo w g S K G lo C n k gr (growW k sets ((a : Int), r)) (.returned (.bool false)) w5) := by
      rintro b w5 rfl hle
      refine ⟨((HB4.out.mono hCw).setCell l3 _).setCell l1 _, ?_⟩
      rw [HGW.out, if_neg hle]
    have hans : n ≤ 256 := hn
    cases gr with
    | true =>
      by_cases hle : qu ≤ 4096
      · have hld : decide ((qu : Int) ≤ 4096) = true := by rw [decide_eq_true_eq]; omega
        go_wp2_with fail
        go_ret
        exact HFIN.out true _ rfl hle rfl
      · have hld : decide ((qu : Int) ≤ 4096) = false := by rw [decide_eq_false_iff_not]; omega
        go_wp2_with fail
        go_ret
        exact HFIN2.out true _ rfl hle
    | false =>
      by_cases hlt : qo < qu
      · have hltd : decide (qo < qu) = true := decide_eq_true hlt
        by_cases hle : qu ≤ 4096
        · have hld : decide ((qu : Int) ≤ 4096) = true := by rw [decide_eq_true_eq]; omega
          go_wp2_with fail
          go_ret
          exact HFIN.out true _ rfl hle (by rw [hltd]; rfl)
        · have hld : decide ((qu : Int) ≤ 4096) = false := by rw [decide_eq_false_iff_not]; omega
          go_wp2_with fail
          go_ret
          exact HFIN2.out true _ rfl hle
      · have hltd : decide (qo < qu) = false := decide_eq_false hlt
        have hle : qu ≤ 4096 := by have := HOB.out.2; have := HQO.out; omega
        have hld : decide ((qu : Int) ≤ 4096) = true := by rw [decide_eq_true_eq]; omega
        go_wp2_with fail
        go_ret
        exact HFIN.out false _ rfl hle (by rw [hltd]; rfl)
end Go.Proofs.YtkedmiememnmjaaGreat
namespace Go.Proofs.YtkedmiememnmjaaGreat
open Go.RowKit Go.Sort

def BadK (k : Int) (g : Gram) : Prop := k < 1 ∨ 4 < k ∨ checkN g ≠ 0
def SetsOut (w' : World) (o : Option Sets) (e : Ending) : Prop :=
  match o with
  | none => e = .returned (.tuple #[.slice none 0 0, .int .i64 21])
  | some s => ∃ A c, e = .returned (.tuple #[.slice A s.length c, .int .i64 0]) ∧ SlR (eSl eW) w' w'.heap.size (.slice A s.length c) s ∧ SetsB s
def FirstRes (k : Int) (g : Gram) (w : World) (e : Ending) (w' : World) : Prop :=
  Below w.heap.size w w' ∧ (BadK k g → e = .returned (.tuple #[.slice none 0 0, .int .i64 1])) ∧ (¬ BadK k g → ∃ o, FirstTo k g.2.2 g.1.length o ∧ SetsOut w' o e)
theorem check0_good {g : Gram} (h : checkN g = 0) : gramB g = true ∧ GoodG g ∧ wellE g.1.length g.2.1.length g.2.2 = 0 := by
  unfold checkN at h
  cases hv : gramB g with
  | false => rw [hv] at h; cases h
  | true => rw [hv] at h; exact ⟨rfl, gramB_good hv, h⟩
set_option maxRecDepth 100000 in
set_option maxHeartbeats 16000000 in
theorem firstSets_any {A1 A2 A3 : Option Addr} {n m q c1 c2 c3 : Nat} {g : Gram} (k : Int) (w : World) (h : GramR w w.heap.size A1 A2 A3 n m q c1 c2 c3 g) :
    Calls Tryz.prog 35 #[gramV A1 A2 A3 n m q c1 c2 c3, .int .i64 k] w (FirstRes k g w) := by
  have hb1 := (Below.refl w.heap.size w).alloc (Nat.le_refl _) (.cells #[.slice A1 n c1, .slice A2 m c2, .slice A3 q c3] 25)
  have z1 := World.size_alloc w (.cells #[.slice A1 n c1, .slice A2 m c2, .slice A3 q c3] 25)
  have k1 := Go.heap_alloc_new w (.cells #[.slice A1 n c1, .slice A2 m c2, .slice A3 q c3] 25)
  have hb2 := (Below.refl _ (w.alloc (.cells #[.slice A1 n c1, .slice A2 m c2, .slice A3 q c3] 25))).alloc (Nat.le_refl _) (.cells #[.int .i64 k] 3)
  have z2 := World.size_alloc (w.alloc (.cells #[.slice A1 n c1, .slice A2 m c2, .slice A3 q c3] 25)) (.cells #[.int .i64 k] 3)
  have k2 := heap_two w (.cells #[.slice A1 n c1, .slice A2 m c2, .slice A3 q c3] 25) (.cells #[.int .i64 k] 3)
  have HB := Lib.hid (hb1.trans (hb2.mono (by rw [z1]; omega)))
  have HZ := Lib.hid (z2.trans (by rw [z1]))
  have HKG := Lib.hid ((hb2.block w.heap.size (by rw [z1]; omega)).trans k1)
  have HKK := Lib.hid k2
  have HV := Lib.hid (h.fut HB.out (Nat.le_refl _) (Nat.le_refl _))
  have HL := Lib.hid h.ln
  have hsm := h.small
  have c1' : ((w.alloc (.cells #[.slice A1 n c1, .slice A2 m c2, .slice A3 q c3] 25)).alloc (.cells #[.int .i64 k] 3)).cell? ⟨w.heap.size + 1, 0, none⟩ = some (.int .i64 k) := by rw [cell_of_row _ _ _ _ _ _ HKK.out]; rfl
  have g0 : ((w.alloc (.cells #[.slice A1 n c1, .slice A2 m c2, .slice A3 q c3] 25)).alloc (.cells #[.int .i64 k] 3)).cell? ⟨w.heap.size, 0, none⟩ = some (.slice A1 n c1) := by rw [cell_of_row _ _ _ _ _ _ HKG.out]; rfl
  have g1 : ((w.alloc (.cells #[.slice A1 n c1, .slice A2 m c2, .slice A3 q c3] 25)).alloc (.cells #[.int .i64 k] 3)).cell? ⟨w.heap.size, 1, none⟩ = some (.slice A2 m c2) := by rw [cell_of_row _ _ _ _ _ _ HKG.out]; rfl
  have g2 : ((w.alloc (.cells #[.slice A1 n c1, .slice A2 m c2, .slice A3 q c3] 25)).alloc (.cells #[.int .i64 k] 3)).cell? ⟨w.heap.size, 2, none⟩ = some (.slice A3 q c3) := by rw [cell_of_row _ _ _ _ _ _ HKG.out]; rfl
  clear h hb1 z1 k1 hb2 z2 k2
  by_cases hk1 : k < 1
  · have HBAD := Lib.hid (show BadK k g from .inl hk1)
    go_enter Tryz.func35, Tryz.ntmps35
    go_wp2_with fail
    go_step3
    go_wp2_with fail
    try rw [Exit.noGoto_ret]
    go_ret2
    exact ⟨HB.out, fun _ => rfl, fun h => absurd HBAD.out h⟩
  by_cases hk4 : 4 < k
  · have HBAD := Lib.hid (show BadK k g from .inr (.inl hk4))
    go_enter Tryz.func35, Tryz.ntmps35
    go_wp2_with fail
    go_step3
    go_wp2_with fail
    try rw [Exit.noGoto_ret]
    go_ret2
    exact ⟨HB.out, fun _ => rfl, fun h => absurd HBAD.out h⟩
  obtain ⟨kk, hkk⟩ : ∃ kk : Nat, k = (kk : Int) := ⟨k.toNat, by omega⟩
  subst hkk
  have hkd1 : decide ((kk : Int) < 1) = false := by rw [decide_eq_false_iff_not]; omega
  have hkd4 : decide (4 < (kk : Int)) = false := by rw [decide_eq_false_iff_not]; omega
  go_enter Tryz.func35, Tryz.ntmps35
  go_wp2_with fail
  go_step3
  go_wp2_with fail
  generalize (w.alloc (.cells #[.slice A1 n c1, .slice A2 m c2, .slice A3 q c3] 25)).alloc (.cells #[.int .i64 kk] 3) = w1 at *
  refine (check_any w1 (HV.out.fut (N := w1.heap.size) (B' := w1.heap.size) (Below.refl _ _) (by rw [HZ.out]; omega) (by rw [HZ.out]; omega))).mono ?_
  rintro e w2 ⟨rfl, hb2⟩
  have HB2 := Lib.hid (HB.out.trans (hb2.mono (by rw [HZ.out]; omega)))
  have HB12 := Lib.hid (show Below (w.heap.size + 2) w1 w2 from hb2.mono (Nat.le_of_eq HZ.out.symm))
  by_cases hc0 : checkN g = 0
  rotate_left
  · have HBAD := Lib.hid (show BadK kk g from .inr (.inr hc0))
    have hcb : (checkN g == 0) = false := by rw [beq_eq_false_iff_ne]; exact hc0
    clear hc0
    go_wp2_with fail
    try rw [Exit.noGoto_ret]
    go_ret2
    exact ⟨HB2.out, fun _ => rfl, fun h => absurd HBAD.out h⟩
  · have HOKK := Lib.hid (show ¬ BadK kk g from fun h => by rcases h with h | h | h; omega; omega; exact h hc0)
    have HGG := Lib.hid (check0_good hc0)
    rw [hc0]
    have HKG2 := Lib.hid ((HB12.out.block w.heap.size (by omega)).trans HKG.out)
    have HKK2 := Lib.hid ((HB12.out.block (w.heap.size + 1) (by omega)).trans HKK.out)
    have HZ2 := Lib.hid (show w.heap.size + 2 ≤ w2.heap.size by have := hb2.size; rw [HZ.out] at this; exact this)
    have HN := Lib.hid (show 1 ≤ n ∧ n ≤ 256 by have h1 := HGG.out.2.1.n1; have h2 := HGG.out.2.1.nm; have := HL.out.1; omega)
    have g0 : w2.cell? ⟨w.heap.size, 0, none⟩ = some (.slice A1 n c1) := by rw [cell_of_row _ _ _ _ _ _ HKG2.out]; rfl
    have hmk := strs_make n (by have := HN.out; omega) w2
    have HG3 := Lib.hid (Go.heap_alloc_new w2 (.cells (List.replicate n (Value.slice none 0 0)).toArray 22))
    have HZ3 := Lib.hid (World.size_alloc w2 (.cells (List.replicate n (Value.slice none 0 0)).toArray 22))
    have HB3 := Lib.hid ((Below.refl w2.heap.size w2).alloc (Nat.le_refl _) (.cells (List.replicate n (Value.slice none 0 0)).toArray 22))
    obtain ⟨w3, hw3⟩ : ∃ w3, w3 = w2.alloc (.cells (List.replicate n (Value.slice none 0 0)).toArray 22) := ⟨_, rfl⟩
    rw [← hw3] at hmk HG3 HZ3 HB3
    obtain ⟨gr, hgr⟩ : ∃ gr, gr = w2.heap.size := ⟨_, rfl⟩
    rw [← hgr] at hmk HG3 HZ3
    have HGR := Lib.hid hgr
    clear hc0 hb2 hw3 hgr
    go_wp2_with fail
    go_step3
    go_wp2_with fail
    have hz31 : (w3.alloc (.cells #[.slice (some ⟨gr, 0, none⟩) n n] 42)).heap.size = w3.heap.size + 1 := World.size_alloc _ _
    have hb4 : Below w3.heap.size w3 ((w3.alloc (.cells #[.slice (some ⟨gr, 0, none⟩) n n] 42)).alloc (.cells #[.bool false] 4)) := ((Below.refl _ _).alloc (Nat.le_refl _) _).alloc (by rw [hz31]; omega) _
    have hZ4 : ((w3.alloc (.cells #[.slice (some ⟨gr, 0, none⟩) n n] 42)).alloc (.cells #[.bool false] 4)).heap.size = w3.heap.size + 2 := by rw [World.size_alloc, hz31]
    have hS4 : ((w3.alloc (.cells #[.slice (some ⟨gr, 0, none⟩) n n] 42)).alloc (.cells #[.bool false] 4)).heap[w3.heap.size]? = some (.cells #[.slice (some ⟨gr, 0, none⟩) n n] 42 (0, 0)) := by
      rw [Below.heap_alloc _ _ _ (by rw [hz31]; omega)]
      exact Go.heap_alloc_new w3 _
    have hG4 := heap_two w3 (.cells #[.slice (some ⟨gr, 0, none⟩) n n] 42) (.cells #[.bool false] 4)
    have HST := Lib.hid (show FirstSt ((w3.alloc (.cells #[.slice (some ⟨gr, 0, none⟩) n n] 42)).alloc (.cells #[.bool false] 4)) gr w3.heap.size (w.heap.size + 1) (w3.heap.size + 1) (w3.heap.size + 2) (w.heap.size + 2) n kk (List.replicate n []) false from by
      have hgr2 := HGR.out
      have hz2 := HZ2.out
      have hz3 := HZ3.out
      refine ⟨RowHi.start ((hb4.block gr (by rw [hz3]; omega)).trans HG3.out), by simp, SetsB.replicate n, AllAsc.replicate n, hS4, (hb4.block _ (by rw [hz3]; omega)).trans ((HB3.out.block _ (by omega)).trans HKK2.out), hG4, by omega, by omega, by omega, by omega, by omega, by omega, by omega, by rw [hZ4]; omega, by omega, by omega, by omega⟩)
    have HBW := Lib.hid (show Below (w.heap.size + 2) w1 ((w3.alloc (.cells #[.slice (some ⟨gr, 0, none⟩) n n] 42)).alloc (.cells #[.bool false] 4)) from (HB12.out.trans (HB3.out.mono HZ2.out)).trans (hb4.mono (by have := HZ3.out; have := HGR.out; have := HZ2.out; omega)))
    have HS3 := Lib.hid (show w.heap.size + 2 ≤ w3.heap.size by have := HZ3.out; have := HGR.out; have := HZ2.out; omega)
    clear hz31 hb4 hZ4 hS4 hG4 hmk
    obtain ⟨s3, hs3⟩ : ∃ s3, s3 = w3.heap.size := ⟨_, rfl⟩
    rw [← hs3] at HST HS3 ⊢
    generalize (w3.alloc (.cells #[.slice (some ⟨gr, 0, none⟩) n n] 42)).alloc (.cells #[.bool false] 4) = w4 at *
    clear hs3
    go_loopg [] (4096 * n) (fun gas wr => ∃ (sets : Sets) (b : Bool), Hid (FirstSt wr gr s3 (w.heap.size + 1) (s3 + 1) (s3 + 2) (w.heap.size + 2) n kk sets b) ∧ Hid (∀ o, RoundsTo (firstRound kk g.2.2) sets o → FirstTo kk g.2.2 n o) ∧ Hid (4096 * n ≤ gas + tot sets) ∧ Hid (Below (w.heap.size + 2) w1 wr))
    case atStart => exact ⟨List.replicate n [], false, HST.out, fun o h => h, Nat.le_add_right _ _, HBW.out⟩
    case round =>
      clear HST HBW g0
      obtain ⟨sets, b, HST, HRO, HGAS, HBW⟩ := hrel
      obtain ⟨gas, hgas⟩ : ∃ gas, gas = gk := ⟨_, rfl⟩
      rw [← hgas] at HGAS
      have HGK := Lib.hid hgas
      clear hgas
      have cG := cell0 HST.out.bG
      have fG : wr.frozen? ⟨s3 + 1, 0, none⟩ = false := by simp [World.frozen?, HST.out.bG]
      have kg := (HBW.out.block w.heap.size (by omega)).trans HKG.out
      have g0 : wr.cell? ⟨w.heap.size, 0, none⟩ = some (.slice A1 n c1) := by rw [cell_of_row _ _ _ _ _ _ kg]; rfl
      have g2' : wr.cell? ⟨w.heap.size, 2, none⟩ = some (.slice A3 q c3) := by rw [cell_of_row _ _ _ _ _ _ kg]; rfl
      have hne : w.heap.size ≠ s3 + 1 := by have := HS3.out; omega
      have HST0 := Lib.hid (HST.out.setG false)
      have HB0 := Lib.hid (show Below (w.heap.size + 2) w1 (wr.setCell ⟨s3 + 1, 0, none⟩ (.bool false)) from Below.setCell (p := ⟨s3 + 1, 0, none⟩) HBW.out (by show w.heap.size + 2 ≤ s3 + 1; have := HS3.out; omega) _)
      clear kg
      go_wp2_with fail
      go_loopg [30] q (fun left v30 wt => ∃ (j : Nat) (sets' : Sets) (b' : Bool), j ≤ q ∧ q - j ≤ left ∧ v30 = .int .i64 j ∧ Hid (FirstSt wt gr s3 (w.heap.size + 1) (s3 + 1) (s3 + 2) (w.heap.size + 2) n kk sets' b') ∧ Hid (firstRound kk g.2.2 sets = roundW kk (g.2.2.drop j) (sets', b')) ∧ Hid (tot sets ≤ tot sets' ∧ (b' = true → tot sets < tot sets')) ∧ Hid (Below (w.heap.size + 2) w1 wt))
      case atStart => exact ⟨0, sets, false, by omega, by omega, rfl, HST0.out, rfl, ⟨Nat.le_refl _, fun h => by cases h⟩, HB0.out⟩
      case round =>
        clear HST0 HB0 cG fG g0 g2' HST HBW
        obtain ⟨j, sets', b', hj, hleft, rfl, HST, HRW, HTOT, HBW⟩ := hrel
        by_cases hjq : j < q
        · have hjl : j < g.2.2.length := by rw [← HL.out.2.2]; exact hjq
          have HRULES := Lib.hid (HV.out.rules.below (HBW.out.mono (by omega)))
          obtain ⟨bb, off, cs, rfl, _, hbl, hrep, hcell⟩ := HRULES.out.get (k := j) hjl (by decide)
          obtain ⟨v, rfl, hsl, hz1', hz2'⟩ := eRule_open hrep
          obtain ⟨A5, c5, rfl, hl5, hl6⟩ := hsl.form
          have hc0 := hcell 0 _ rfl
          have hc1 := hcell 1 _ rfl
          simp only [show eRule.size = 2 from rfl, Nat.add_zero, ← Nat.add_assoc] at hc0 hc1
          have HRW2 := Lib.hid (show firstRound kk g.2.2 sets = (growW kk sets' g.2.2[j]).bind fun t => roundW kk (g.2.2.drop (j + 1)) (t.1, b' || t.2) by rw [HRW.out, List.drop_eq_getElem_cons hjl]; rfl)
          have hfit := HGG.out.2.1.fit _ (List.getElem_mem hjl)
          obtain ⟨r, hr⟩ : ∃ r, r = g.2.2[j] := ⟨_, rfl⟩
          rw [← hr] at hc0 hc1 HRW2 hsl hz1' hz2' hl5 hfit
          obtain ⟨r1, r2⟩ := r
          obtain ⟨a, rfl⟩ : ∃ a : Nat, r1 = (a : Int) := ⟨r1.toNat, by have := hfit.1; simp only at this; omega⟩
          simp only at hc0 hc1 hsl hl5 hfit hz2'
          obtain ⟨ql, hql⟩ : ∃ ql, ql = r2.length := ⟨_, rfl⟩
          rw [← hql] at hc1 hsl hl5
          have HQL := Lib.hid hql
          have HSL := Lib.hid hsl
          have HFIT := Lib.hid hfit
          have han : a < n := by have := hfit.2.1; have := HL.out.1; omega
          clear hcell hrep hr hql hsl hjl HRW hfit hz1'
          go_wp2_with fail
          have hbx := (Below.refl wr.heap.size wr).alloc (Nat.le_refl _) (.cells #[.int .i64 a, .slice A5 ql c5] 48)
          have HST1 := Lib.hid (HST.out.below hbx)
          have HBX := Lib.hid hbx
          have HWS := Lib.hid (show w.heap.size + 2 ≤ wr.heap.size by have := HST.out.le; omega)
          refine (growF_any _ gr s3 (w.heap.size + 1) (s3 + 1) (s3 + 2) (w.heap.size + 2) n kk w.heap.size sets' b' a r2 A5 ql c5 HST1.out (by omega) (by omega) han HN.out.2 HQL.out (HSL.out.below (HBX.out.mono (by have := HWS.out; omega))) (by rw [World.size_alloc]; have := HWS.out; omega)).mono ?_
          rintro e w6 ⟨hb6, he⟩
          have HB6 := Lib.hid (HBW.out.trans ((HBX.out.mono HWS.out).trans hb6))
          clear hbx hb6
          cases ho : growW (kk : Int) sets' ((a : Int), r2) with
          | none =>
            rw [ho] at he
            subst he
            have HFAIL := Lib.hid (HRO.out none (.fail (by rw [HRW2.out, ho]; rfl)))
            clear ho
            go_wp2_with fail
            try rw [Exit.noGoto_ret]
            go_ret2
            exact ⟨HB.out.trans (HB6.out.mono (by omega)), fun h => absurd h HOKK.out, fun _ => ⟨none, by rw [← HL.out.1]; exact HFAIL.out, rfl⟩⟩
          | some t =>
            obtain ⟨s', g'⟩ := t
            rw [ho] at he
            obtain ⟨rfl, hst⟩ := he
            have HST6 := Lib.hid hst
            have HRW6 := Lib.hid (show firstRound kk g.2.2 sets = roundW kk (g.2.2.drop (j + 1)) (s', b' || g') by rw [HRW2.out, ho]; rfl)
            have HTOT6 := Lib.hid (show tot sets ≤ tot s' ∧ ((b' || g') = true → tot sets < tot s') by
              obtain ⟨_, _, _, t4, t5⟩ := growW_b (by omega) HST.out.small HST.out.asc (by simp only [Int.toNat_natCast]; rw [HST.out.len]; exact han) ho
              have h1 := HTOT.out
              refine ⟨by omega, fun h => ?_⟩
              rw [Bool.or_eq_true] at h
              rcases h with h | h
              · have := h1.2 h; omega
              · have := t5 h; omega)
            clear ho hst
            go_wp2_with fail
            go_roundg (gk - 1)
            case measure => omega
            case rel => exact ⟨j + 1, s', b' || g', by omega, by omega, by go_num, HST6.out, HRW6.out, HTOT6.out, HB6.out⟩
        · have HRWE := Lib.hid (show firstRound kk g.2.2 sets = some (sets', b') by
            rw [HRW.out, show j = g.2.2.length by rw [← HL.out.2.2]; omega, List.drop_length]; rfl)
          have cG := cell0 HST.out.bG
          have cS := cell0 HST.out.bS
          clear HRW
          cases b' with
          | false =>
            have HFT := Lib.hid (HRO.out (some sets') (.done HRWE.out))
            have HSL := Lib.hid (HST.out.row.sl (by rw [HST.out.len]; have := HN.out; unfold maxLen; omega))
            go_wp2_with fail
            try rw [Exit.noGoto_ret]
            go_ret2
            refine ⟨HB.out.trans (HBW.out.mono (by omega)), fun h => absurd h HOKK.out, fun _ => ⟨some sets', by rw [← HL.out.1]; exact HFT.out, some ⟨gr, 0, none⟩, sets'.length, ?_, HSL.out, HST.out.small⟩⟩
            rw [HST.out.len]
            rfl
          | true =>
            have HMORE := Lib.hid (fun (o : Option Sets) (h : RoundsTo (firstRound kk g.2.2) sets' o) => HRO.out o (.more HRWE.out h))
            have htl := tot_le sets' HST.out.small
            rw [HST.out.len] at htl
            have HTL := Lib.hid htl
            clear htl
            go_wp2_with fail
            go_roundg (gas - 1)
            case measure => have h1 := HGK.out; have h2 := HTOT.out.2 trivial; have h3 := HTL.out; have h4 := HGAS.out; omega
            case rel => exact ⟨sets', true, HST.out, HMORE.out, (show 4096 * n ≤ gas - 1 + tot sets' by have h2 := HTOT.out.2 trivial; have h4 := HGAS.out; omega), HBW.out⟩
end Go.Proofs.YtkedmiememnmjaaGreat
