/- Texts of this proof joined: SetsM, Well5. -/
import Derived.Test.YtfpihflepeiagaaGreatDoorLO07
import Derived.Test.YtfpihflepeiagaaGreatDoorLO12
import Derived.Test.YtfpihflepeiagaaGreatDoorLO08
namespace Go.Proofs.YtfpihflepeiagaaGreatDoor
open Go.RowKit

def Hi (lo e0 : Nat) (w : World) (v : Value) (x : List Wd) : Prop := ∀ w' : World, (∀ p : Addr, (lo ≤ p.block ∨ p.block = e0) → p.block < w.heap.size → w'.cell? p = w.cell? p) → SlR eW w' w.heap.size v x
theorem Hi.nil (lo e0 : Nat) (w : World) : Hi lo e0 w (.slice none 0 0) [] := fun _ _ => SlR.nil_
theorem Hi.sl {lo e0 : Nat} {w : World} {v : Value} {x : List Wd} (h : Hi lo e0 w v x) : SlR eW w w.heap.size v x := h w fun _ _ _ => rfl
theorem Hi.keep {lo e0 : Nat} {w w1 : World} {v : Value} {x : List Wd} (h : Hi lo e0 w v x) (hs : w.heap.size ≤ w1.heap.size) (hk : ∀ p : Addr, (lo ≤ p.block ∨ p.block = e0) → p.block < w.heap.size → w1.cell? p = w.cell? p) : Hi lo e0 w1 v x := fun w' hw =>
  (h w' fun p h1 h2 => (hw p h1 (Nat.lt_of_lt_of_le h2 hs)).trans (hk p h1 h2)).more hs
theorem Hi.own {lo e0 base : Nat} {t : TypeId} {w : World} {v : Value} {x : List Wd} (hf : Fits x) (h : w.ownsRow base t 1 v x.length (wcells x)) (hb : lo ≤ base ∨ (base ≤ e0 ∧ ∀ b, v.ownBlock = some b → b = e0)) : Hi lo e0 w v x := fun w' hw => by
  obtain ⟨A, c, rfl, h1, h2⟩ := own_form h
  refine slW_of hf (fun hne => ?_) h1 h2
  obtain ⟨b, off, e, hlt, hc⟩ := Rd.of_own h hne
  subst e
  have hge : base ≤ b := by
    rcases h.2 with ⟨hn, _⟩ | ⟨g, cap, cur, hv, hg, _⟩
    · injection hn with e1; cases e1
    · injection hv with e1 _ _; injection e1 with e1; injection e1 with e1 _; omega
  refine ⟨b, off, rfl, hlt, fun j u hu => (hw _ (by
    show lo ≤ b ∨ b = e0
    rcases hb with hb | ⟨_, hb⟩
    · omega
    · rcases h.2 with ⟨hn, _⟩ | ⟨g, cap, cur, hv, hg, _⟩
      · injection hn with e1; cases e1
      · injection hv with e1 _ _
        injection e1 with e1
        injection e1 with e1 e2
        subst e1 e2
        exact .inr (hb _ rfl)) hlt).trans (hc j u hu)⟩
def RowHi (t : TypeId) (g lo e0 : Nat) (w : World) (sets : Sets) : Prop :=
  ∃ vs : List Value, w.heap[g]? = some (.cells vs.toArray t (0, 0)) ∧ vs.length = sets.length ∧ ∀ (i : Nat) (v : Value) (x : List Wd), vs[i]? = some v → sets[i]? = some x → Hi lo e0 w v x
theorem RowHi.lt {t : TypeId} {g lo e0 : Nat} {w : World} {sets : Sets} (h : RowHi t g lo e0 w sets) : g < w.heap.size := by
  obtain ⟨vs, h1, _⟩ := h
  exact (Array.getElem?_eq_some_iff.1 h1).1
theorem RowHi.keep {t : TypeId} {g lo e0 : Nat} {w w1 : World} {sets : Sets} (h : RowHi t g lo e0 w sets) (hs : w.heap.size ≤ w1.heap.size) (hg : w1.heap[g]? = w.heap[g]?) (hk : ∀ b, (lo ≤ b ∨ b = e0) → b < w.heap.size → w1.heap[b]? = w.heap[b]?) : RowHi t g lo e0 w1 sets := by
  obtain ⟨vs, h1, h2, h3⟩ := h
  exact ⟨vs, hg.trans h1, h2, fun i v x hv hx => (h3 i v x hv hx).keep hs fun p hp hl => World.cell?_of_block (hk p.block hp hl)⟩
theorem RowHi.below {t : TypeId} {g lo e0 : Nat} {w w1 : World} {sets : Sets} (h : RowHi t g lo e0 w sets) (hb : Below w.heap.size w w1) : RowHi t g lo e0 w1 sets := h.keep hb.size (hb.block g h.lt) fun b _ hl => hb.block b hl
theorem RowHi.other {t : TypeId} {g lo e0 : Nat} {w : World} {sets : Sets} (h : RowHi t g lo e0 w sets) {p : Addr} (v : Value) (h1 : g ≠ p.block) (h2 : p.block < lo) (h3 : p.block ≠ e0) : RowHi t g lo e0 (w.setCell p v) sets :=
  h.keep (by simp [World.setCell]) (Below.heap_setCell _ _ _ _ h1) fun b hb _ => Below.heap_setCell _ _ _ _ (by rcases hb with hb | hb <;> omega)
theorem RowHi.set {t : TypeId} {g lo e0 : Nat} {w : World} {sets : Sets} (h : RowHi t g lo e0 w sets) (hlo : g < lo) (hge : g ≠ e0) {k : Nat} {v : Value} {x : List Wd} (hv : Hi lo e0 w v x) : RowHi t g lo e0 (w.setCell ⟨g, k, none⟩ v) (sets.set k x) := by
  obtain ⟨vs, h1, h2, h3⟩ := h
  have hkeep : ∀ p : Addr, (lo ≤ p.block ∨ p.block = e0) → p.block < w.heap.size → (w.setCell ⟨g, k, none⟩ v).cell? p = w.cell? p := fun p hp _ => World.cell?_of_block (Below.heap_setCell _ _ _ _ (by show p.block ≠ g; rcases hp with hp | hp <;> omega))
  refine ⟨vs.set k v, ?_, by rw [List.length_set, List.length_set, h2], fun i u y hu hy => ?_⟩
  · simp only [World.setCell, Array.getElem?_modify, if_true, h1, Option.map_some]
    congr 2
    simp
  · rw [List.getElem?_set] at hu hy
    by_cases e : k = i
    · rw [if_pos e] at hu hy
      split at hu
      · split at hy
        · injection hu with hu
          injection hy with hy
          subst hu hy
          exact hv.keep (by simp [World.setCell]) hkeep
        · cases hy
      · cases hu
    · rw [if_neg e] at hu hy
      exact (h3 i u y hu hy).keep (by simp [World.setCell]) hkeep
theorem RowHi.get {t : TypeId} {g lo e0 : Nat} {w : World} {sets : Sets} (h : RowHi t g lo e0 w sets) {k : Nat} (hk : k < sets.length) : ∃ A c, w.cell? ⟨g, k, none⟩ = some (.slice A sets[k].length c) ∧ sets[k].length ≤ c ∧ c ≤ maxLen ∧ Hi lo e0 w (.slice A sets[k].length c) sets[k] ∧ w.frozen? ⟨g, k, none⟩ = false := by
  obtain ⟨vs, h1, h2, h3⟩ := h
  have hkv : k < vs.length := by omega
  have hh := h3 k _ _ (List.getElem?_eq_getElem hkv) (List.getElem?_eq_getElem hk)
  obtain ⟨A, c, e, h4, h5⟩ := hh.sl.form
  refine ⟨A, c, ?_, h4, h5, by rw [← e]; exact hh, by simp [World.frozen?, h1]⟩
  rw [cell_of_row w g k _ _ _ h1, ← e]
  simp [hkv]
theorem RowHi.sl {t : TypeId} {g lo e0 : Nat} {w : World} {sets : Sets} (h : RowHi t g lo e0 w sets) (hl : sets.length ≤ maxLen) : SlR (eSl eW) w w.heap.size (.slice (some ⟨g, 0, none⟩) sets.length sets.length) sets := by
  have hlt := h.lt
  obtain ⟨vs, h1, h2, h3⟩ := h
  have hfl : (vs.map fun v => [v]).flatten = vs := by
    clear h1 h2 h3
    induction vs with
    | nil => rfl
    | cons v l ih => rw [List.map_cons, List.flatten_cons, ih]; rfl
  refine ⟨some ⟨g, 0, none⟩, sets.length, vs.map fun v => [v], rfl, Nat.le_refl _, hl, by simp [h2], ?_, fun i cs x hc hx => ?_⟩
  · rw [hfl]
    exact Rd.row h1 hlt
  · rw [List.getElem?_map] at hc
    cases e : vs[i]? with
    | none => rw [e] at hc; cases hc
    | some v =>
      rw [e] at hc
      injection hc with hc
      subst hc
      exact ⟨v, rfl, (h3 i v x e hx).sl⟩
theorem RowHi.start {t : TypeId} {g lo e0 : Nat} {w : World} {n : Nat} (h : w.heap[g]? = some (.cells (List.replicate n (Value.slice none 0 0)).toArray t (0, 0))) : RowHi t g lo e0 w (List.replicate n []) :=
  ⟨_, h, by simp, fun i v x hv hx => by
    rw [List.getElem?_replicate] at hv hx
    split at hv
    · rename_i hi
      rw [if_pos hi] at hx
      injection hv with hv
      injection hx with hx
      subst hv hx
      exact Hi.nil lo e0 w
    · cases hv⟩
theorem slS_two {w : World} {g : Nat} {v1 v2 : Value} {t : TypeId} {a b : List Wd} (h : w.heap[g]? = some (.cells #[v1, v2] t (0, 0))) (h1 : SlR eW w w.heap.size v1 a) (h2 : SlR eW w w.heap.size v2 b) : SlR (eSl eW) w w.heap.size (.slice (some ⟨g, 0, none⟩) 2 2) [a, b] := by
  refine ⟨some ⟨g, 0, none⟩, 2, [[v1], [v2]], rfl, by simp, by unfold maxLen; omega, rfl, ?_, fun i cs x hc hx => ?_⟩
  · exact Rd.row h (Array.getElem?_eq_some_iff.1 h).1
  · match i, hc, hx with
    | 0, hc, hx => injection hc with hc; injection hx with hx; subst hc hx; exact ⟨v1, rfl, h1⟩
    | 1, hc, hx => injection hc with hc; injection hx with hx; subst hc hx; exact ⟨v2, rfl, h2⟩
    | i + 2, hc, hx => simp at hc
end Go.Proofs.YtfpihflepeiagaaGreatDoor
namespace Go.Proofs.YtfpihflepeiagaaGreatDoor
open Go.RowKit

theorem bool_appW : AppTy Tryz.prog 60 4 1 1 (.bool false) := appTy Tryz.underlying60 (by kernel_rfl) rfl (by omega)
def BoolsTo (w : World) (P : List Bool) (e : Ending) (w' : World) : Prop := ∃ A c, e = .returned (.slice A P.length c) ∧ Rd w' w'.heap.size A (bcellsB P) ∧ Below w.heap.size w w'
theorem bcellsB_snoc (P : List Bool) {k : Nat} (h : k < P.length) : bcellsB (P.take (k + 1)) = bcellsB (P.take k) ++ [.bool P[k]] := by
  unfold bcellsB
  rw [List.take_succ_eq_append_getElem h, List.map_append]
  rfl
set_option maxRecDepth 100000 in
set_option maxHeartbeats 8000000 in
theorem productive_any {A1 A2 A3 : Option Addr} {n m q c1 c2 c3 : Nat} {g : Gram} (w : World) (h : GramR w w.heap.size A1 A2 A3 n m q c1 c2 c3 g) (hv : gramB g = true) :
    Calls Tryz.prog 121 #[gramV A1 A2 A3 n m q c1 c2 c3] w (BoolsTo w (productive g.2.2 n)) := by
  have hbx := (Below.refl w.heap.size w).alloc (Nat.le_refl _) (.cells #[.slice A1 n c1, .slice A2 m c2, .slice A3 q c3] 25)
  have HZ := Lib.hid (World.size_alloc w (.cells #[.slice A1 n c1, .slice A2 m c2, .slice A3 q c3] 25))
  have HS := Lib.hid (shortest_any (w.alloc (.cells #[.slice A1 n c1, .slice A2 m c2, .slice A3 q c3] 25)) (h.fut hbx (Nat.le_refl _) (by rw [World.size_alloc]; omega)) hv)
  have HBX := Lib.hid hbx
  have HN2 := Lib.hid (show n ≤ 256 by have := (gramB_good hv).nm; have := h.ln.1; omega)
  have HPL := Lib.hid (show (productive g.2.2 n).length = n by unfold productive; rw [roundsOf_len prodStep_len, List.length_replicate])
  clear h hv hbx
  obtain ⟨P, hP⟩ : ∃ P, P = productive g.2.2 n := ⟨_, rfl⟩
  rw [← hP] at HS HPL ⊢
  clear hP
  go_enter Tryz.func121, Tryz.ntmps121
  go_wp2_with fail
  generalize w.alloc (.cells #[.slice A1 n c1, .slice A2 m c2, .slice A3 q c3] 25) = w1 at *
  refine HS.out.mono ?_
  rintro e w2 ⟨gr, vals, rfl, hg, hr, hb2⟩
  have HG := Lib.hid hg
  have HR := Lib.hid hr
  have HB2 := Lib.hid (HBX.out.trans (hb2.mono (by rw [HZ.out]; omega)))
  have HLN := Lib.hid (show vals.length = n by rw [hr.len, HPL.out])
  have HLG := Lib.hid (Array.getElem?_eq_some_iff.1 hg).1
  clear hg hr hb2
  rw [HLN.out]
  go_wp2_with fail
  go_loopw [9, 3] (fun v9 v3 wr => ∃ i : Nat, i ≤ n ∧ v9 = .int .i64 i ∧ Hid (wr.ownsRow w2.heap.size 4 1 v3 i (bcellsB (P.take i))) ∧ Hid (Below w2.heap.size w2 wr)) (fun v9 _ _ => n - (intOf v9).toNat)
  case atStart => exact ⟨0, by omega, rfl, World.ownsRow_nil _ _ _ _, Below.refl _ _⟩
  case round =>
    obtain ⟨i, hi, rfl, HO, HB⟩ := hrel
    have hn256 := HN2.out
    by_cases hlt : i < n
    · have hlt' : i < vals.length := by rw [HLN.out]; exact hlt
      have hcell := int_row_get ((HB.out.block gr HLG.out).trans HG.out) hlt'
      obtain ⟨y1, y2, y3⟩ := HR.out.val i _ (List.getElem?_eq_getElem hlt')
      have hltP : i < P.length := by rw [HPL.out]; exact hlt
      rw [List.getElem?_eq_getElem hltP] at y3
      have HSN := Lib.hid (bcellsB_snoc P hltP)
      obtain ⟨x, hx⟩ : ∃ x, x = vals[i] := ⟨_, rfl⟩
      rw [← hx] at hcell y1 y2 y3
      injection y3 with y3
      rw [y3] at HSN
      clear hx y3 hlt' hltP
      obtain ⟨A5, c5, rfl, hl5, hl6⟩ := own_form HO.out
      go_wp2_with (at_builtin; refine wpList_app (m := 1) (n := i) bool_appW rfl rfl rfl rfl (HO.out.alloc _) (Rd.row (B := wr.heap.size + 1) (Go.heap_alloc_new wr _) (by omega)) rfl (fun u hu => by simp at hu; subst hu; rfl) (by have := HN2.out; unfold maxLen; omega) (by have := HN2.out; omega) (by rw [World.size_alloc]; have := HB.out.size; omega) ?_)
      intro v' w' ho hg _ _
      have HO2 : Hid (w'.ownsRow _ 4 1 v' (i + 1) (bcellsB (P.take (i + 1)))) := Lib.hid (by rw [HSN.out]; exact ho)
      have HB3 := Lib.hid (grown_below (HB.out.alloc HB.out.size _) hg (HO.out.alloc _) (Nat.le_refl _) (by rw [World.size_alloc]; have := HB.out.size; omega))
      obtain ⟨A6, c6, rfl, hl7, hl8⟩ := own_form ho
      clear ho hg
      go_wp2_with fail
      go_roundw
      case rel => exact ⟨i + 1, by omega, by go_num, HO2.out, HB3.out⟩
      case measure => simp [intOf]; omega
    · have him : i = n := by omega
      have HO9 : Hid (wr.ownsRow w2.heap.size 4 1 u3 n (bcellsB P)) := Lib.hid (by
        have := HO.out
        rw [him, List.take_of_length_le (by rw [HPL.out]; omega)] at this
        exact this)
      clear HO him
      obtain ⟨A5, c5, rfl, hl5, hl6⟩ := own_form HO9.out
      go_wp2_with fail
      go_ret
      exact ⟨A5, c5, by rw [HPL.out]; rfl, Rd.of_own HO9.out, HB2.out.trans (HB.out.mono HB2.out.size)⟩
structure ReachSt (g SB n : Nat) (R : List Bool) (w : World) : Prop where
  row : w.heap[g]? = some (.cells (bcellsB R).toArray 4 (0, 0))
  len : R.length = n
  box : w.heap[SB]? = some (.cells #[.slice (some ⟨g, 0, none⟩) n n] 60 (0, 0))
  ne : g ≠ SB
theorem ReachSt.below {g SB n : Nat} {R : List Bool} {w w' : World} (h : ReachSt g SB n R w) (hb : Below w.heap.size w w') : ReachSt g SB n R w' :=
  ⟨(hb.block g (Array.getElem?_eq_some_iff.1 h.row).1).trans h.row, h.len, (hb.block SB (Array.getElem?_eq_some_iff.1 h.box).1).trans h.box, h.ne⟩
theorem bool_row_get {w : World} {g k : Nat} {l : List Bool} (h : w.heap[g]? = some (.cells (bcellsB l).toArray 4 (0, 0))) (hk : k < l.length) : w.cell? ⟨g, k, none⟩ = some (.bool l[k]) := by
  rw [cell_of_row w g k _ _ _ h]
  simp [bcellsB, hk]
theorem bool_row_set {w : World} {g k : Nat} {l : List Bool} (h : w.heap[g]? = some (.cells (bcellsB l).toArray 4 (0, 0))) (x : Bool) : (w.setCell ⟨g, k, none⟩ (.bool x)).heap[g]? = some (.cells (bcellsB (l.set k x)).toArray 4 (0, 0)) := by
  simp only [World.setCell, Array.getElem?_modify, if_true, h, Option.map_some]
  congr 2
  simp [bcellsB, List.map_set]
theorem reachSym_len (R : List Bool) (l s : Int) : (reachSym R l s).length = R.length := by
  unfold reachSym
  split
  · rw [List.length_set]
  · rfl
set_option maxRecDepth 100000 in
set_option maxHeartbeats 8000000 in
theorem reachStep_any (g SB n N : Nat) (R : List Bool) (k : Nat) (r : List Int) (A : Option Addr) (q c : Nat) (w : World) (h : ReachSt g SB n R w) (hk : k < n) (hq : q = r.length) (hr : ∀ s ∈ r, s < (n : Int)) (hs : SlR eInt w N (.slice A q c) r) (hN : N ≤ g) (hN2 : N ≤ w.heap.size) :
    Calls Tryz.prog 148 #[ruleV k A q c, .pointer (some ⟨SB, 0, none⟩)] w fun e w' => e = .returned (.tuple #[]) ∧ ReachSt g SB n (reachStep R ((k : Int), r)) w' ∧ w.grownBy w' (some g) := by
  have HH := Lib.hid h
  have HS := Lib.hid hs
  have HR := Lib.hid hr
  have HQ := Lib.hid hq
  have hq9 := hs.n_le
  have HB := Lib.hid ((Below.refl w.heap.size w).alloc (Nat.le_refl _) (.cells #[.int .i64 k, .slice A q c] 55))
  have HK := Lib.hid (Go.heap_alloc_new w (.cells #[.int .i64 k, .slice A q c] 55))
  have HZ := Lib.hid (World.size_alloc w (.cells #[.int .i64 k, .slice A q c] 55))
  have HGN := Lib.hid (World.grownBy_alloc w (.cells #[.int .i64 k, .slice A q c] 55) (some g))
  have HLG := Lib.hid (Array.getElem?_eq_some_iff.1 h.row).1
  obtain ⟨fin, hfin⟩ : ∃ fin, fin = reachStep R ((k : Int), r) := ⟨_, rfl⟩
  rw [← hfin]
  have HF := Lib.hid hfin
  clear h hs hr hq hfin
  go_enter Tryz.func148, Tryz.ntmps148
  go_wp2_with fail
  have HST := Lib.hid (HH.out.below HB.out)
  have c1 : (w.alloc (.cells #[.int .i64 k, .slice A q c] 55)).cell? ⟨w.heap.size, 1, none⟩ = some (.slice A q c) := by rw [cell_of_row _ _ _ _ _ _ HK.out]; rfl
  generalize w.alloc (.cells #[.int .i64 k, .slice A q c] 55) = w1 at *
  go_loopw [8] (fun v8 wr => ∃ (j : Nat) (S : List Bool), j ≤ q ∧ v8 = .int .i64 j ∧ Hid (fin = (r.drop j).foldl (fun R s => reachSym R k s) S) ∧ Hid (ReachSt g SB n S wr) ∧ Hid (w1.grownBy wr (some g))) (fun v8 _ => q - (intOf v8).toNat)
  case atStart => exact ⟨0, R, by omega, rfl, HF.out, HST.out, World.grownBy.refl _ _⟩
  case round =>
    clear HST c1
    obtain ⟨j, S, hj, rfl, HFD, HST, HGR⟩ := hrel
    have HBN := Lib.hid (show Below N w wr from (HB.out.mono hN2).trans (below_of_grown HGR.out hN (by rw [HZ.out]; omega)))
    have k1 := (HGR.out.block w.heap.size (by rw [HZ.out]; omega) (fun e => by injection e with e; have := HLG.out; omega)).trans HK.out
    have c0 : wr.cell? ⟨w.heap.size, 0, none⟩ = some (.int .i64 k) := by rw [cell_of_row _ _ _ _ _ _ k1]; rfl
    by_cases hlt : j < q
    · have hlt' : j < r.length := by rw [← HQ.out]; exact hlt
      obtain ⟨b, off, cs, rfl, _, hbl, hrep, hcell⟩ := (HS.out.below HBN.out).get (k := j) hlt' (by decide)
      obtain ⟨rfl, hx1, hx2⟩ := hrep
      have hc0 := hcell 0 _ rfl
      simp only [show eInt.size = 1 from rfl, Nat.mul_one, Nat.add_zero] at hc0
      have HFD2 := Lib.hid (show fin = (r.drop (j + 1)).foldl (fun R s => reachSym R k s) (reachSym S k r[j]) by rw [HFD.out, List.drop_eq_getElem_cons hlt', List.foldl_cons])
      have hsm := HR.out _ (List.getElem_mem hlt')
      obtain ⟨s, hse⟩ : ∃ s, s = r[j] := ⟨_, rfl⟩
      rw [← hse] at hc0 hx1 hx2 HFD2 hsm
      have cS := cell0 HST.out.box
      have hkS : k < S.length := by rw [HST.out.len]; exact hk
      have cK := bool_row_get HST.out.row hkS
      have HKB := Lib.hid (show S.getD k false = S[k] by rw [List.getD_eq_getElem?_getD, List.getElem?_eq_getElem hkS]; rfl)
      obtain ⟨bk, hbk⟩ : ∃ bk, bk = S[k] := ⟨_, rfl⟩
      rw [← hbk] at cK HKB
      clear hcell hse hlt' hbk hkS HFD
      cases bk with
      | false =>
        have HSY := Lib.hid (show reachSym S k s = S by unfold reachSym; rw [Int.toNat_natCast, HKB.out]; simp)
        go_wp2_with fail
        go_roundw
        case rel => exact ⟨j + 1, S, by omega, by go_num, by have := HFD2.out; rw [HSY.out] at this; exact this, HST.out, HGR.out⟩
        case measure => simp [intOf]; omega
      | true =>
        by_cases hs0 : s < 0
        · have hd : decide (s < 0) = true := by simpa using hs0
          have HSY := Lib.hid (show reachSym S k s = S by unfold reachSym; rw [Int.toNat_natCast, HKB.out]; simp; omega)
          go_wp2_with fail
          refine (isTermSym_any s _).mono ?_
          rintro e w5 ⟨rfl, rfl⟩
          rw [hd]
          go_wp2_with fail
          go_roundw
          case rel => exact ⟨j + 1, S, by omega, by go_num, by have := HFD2.out; rw [HSY.out] at this; exact this, HST.out, HGR.out⟩
          case measure => simp [intOf]; omega
        · have hd : decide (s < 0) = false := by simpa using hs0
          obtain ⟨t, rfl⟩ : ∃ t : Nat, s = (t : Int) := ⟨s.toNat, by omega⟩
          have HSY := Lib.hid (show reachSym S k (t : Int) = S.set t true by unfold reachSym; rw [Int.toNat_natCast, HKB.out]; simp)
          have htS : t < S.length := by rw [HST.out.len]; omega
          have cT := bool_row_get HST.out.row htS
          have fT : wr.frozen? ⟨g, t, none⟩ = false := by simp [World.frozen?, HST.out.row]
          obtain ⟨bt, hbt⟩ : ∃ bt, bt = S[t] := ⟨_, rfl⟩
          rw [← hbt] at cT
          clear hbt htS
          have HST2 := Lib.hid (show ReachSt g SB n (S.set t true) (wr.setCell ⟨g, t, none⟩ (.bool true)) from ⟨bool_row_set HST.out.row true, by rw [List.length_set]; exact HST.out.len, by rw [Below.heap_setCell _ _ _ _ (fun e => HST.out.ne e.symm)]; exact HST.out.box, HST.out.ne⟩)
          go_wp2_with fail
          refine (isTermSym_any _ _).mono ?_
          rintro e w5 ⟨rfl, rfl⟩
          rw [hd]
          go_wp2_with fail
          go_roundw
          case rel => exact ⟨j + 1, S.set t true, by omega, by go_num, by have := HFD2.out; rw [HSY.out] at this; exact this, HST2.out, HGR.out.trans (grown_set _ g t _)⟩
          case measure => simp [intOf]; omega
    · have HFIN := Lib.hid (show fin = S by rw [HFD.out, show j = r.length by rw [← HQ.out]; omega, List.drop_length]; rfl)
      go_wp2_with fail
      go_end0
      exact ⟨rfl, by rw [HFIN.out]; exact HST.out, HGN.out.trans HGR.out⟩
def reachStart (n : Nat) : List Bool := (List.replicate n false).set 0 true
set_option maxRecDepth 100000 in
set_option maxHeartbeats 8000000 in
theorem reached_any {A1 A2 A3 : Option Addr} {n m q c1 c2 c3 : Nat} {g : Gram} (w : World) (h : GramR w w.heap.size A1 A2 A3 n m q c1 c2 c3 g) (hv : gramB g = true) :
    Calls Tryz.prog 122 #[gramV A1 A2 A3 n m q c1 c2 c3] w (BoolsTo w (reached g.2.2 n)) := by
  have hbx := (Below.refl w.heap.size w).alloc (Nat.le_refl _) (.cells #[.slice A1 n c1, .slice A2 m c2, .slice A3 q c3] 25)
  have HV := Lib.hid ((h.fut (B' := w.heap.size + 1) hbx (Nat.le_refl _) (by omega)))
  have HK := Lib.hid (Go.heap_alloc_new w (.cells #[.slice A1 n c1, .slice A2 m c2, .slice A3 q c3] 25))
  have HZ := Lib.hid (World.size_alloc w (.cells #[.slice A1 n c1, .slice A2 m c2, .slice A3 q c3] 25))
  have HBX := Lib.hid hbx
  have HG := Lib.hid (gramB_good hv)
  have HVV := Lib.hid hv
  have HL := Lib.hid h.ln
  have hsm := h.small
  have HN1 := Lib.hid (show 1 ≤ n by have := HG.out.n1; have := HL.out.1; omega)
  have HN2 := Lib.hid (show n ≤ 256 by have := HG.out.nm; have := HL.out.1; omega)
  clear h hv hbx
  go_enter Tryz.func122, Tryz.ntmps122
  go_wp2_with fail
  generalize w.alloc (.cells #[.slice A1 n c1, .slice A2 m c2, .slice A3 q c3] 25) = w1 at *
  refine (GramR.valid (w := w1) (by rw [HZ.out]; exact HV.out)).mono ?_
  rintro e w2 ⟨rfl, hb2⟩
  rw [HVV.out]
  have HB2 := Lib.hid hb2
  have hz2 : w.heap.size < w2.heap.size := by have := hb2.size; have := HZ.out; omega
  have k2 := (hb2.block w.heap.size (by rw [HZ.out]; omega)).trans HK.out
  have c0 : w2.cell? ⟨w.heap.size, 0, none⟩ = some (.slice A1 n c1) := by rw [cell_of_row _ _ _ _ _ _ k2]; rfl
  have hmk := bool_make n (by have := HN2.out; omega) w2
  have hb3 := (Below.refl w2.heap.size w2).alloc (Nat.le_refl _) (.cells (bcellsB (List.replicate n false)).toArray 4)
  rw [show List.replicate n (Value.bool false) = bcellsB (List.replicate n false) by simp [bcellsB]] at hmk
  have HK3 := Lib.hid (Go.heap_alloc_new w2 (.cells (bcellsB (List.replicate n false)).toArray 4))
  have HZ3 := Lib.hid (World.size_alloc w2 (.cells (bcellsB (List.replicate n false)).toArray 4))
  have HKG := Lib.hid ((hb3.block w.heap.size hz2).trans k2)
  have HB3 := Lib.hid hb3
  obtain ⟨w3, hw3⟩ : ∃ w3, w3 = w2.alloc (.cells (bcellsB (List.replicate n false)).toArray 4) := ⟨_, rfl⟩
  rw [← hw3] at hmk HK3 HZ3 HB3 HKG
  have hz3 : w2.heap.size < w3.heap.size := by rw [HZ3.out]; omega
  have hz3' : w.heap.size < w3.heap.size := by omega
  have c9 : w3.cell? ⟨w2.heap.size, 0, none⟩ = some (.bool false) := by
    rw [bool_row_get HK3.out (by rw [List.length_replicate]; exact HN1.out)]
    simp
  have f9 : w3.frozen? ⟨w2.heap.size, 0, none⟩ = false := by simp [World.frozen?, HK3.out]
  have d0 : w3.cell? ⟨w.heap.size, 0, none⟩ = some (.slice A1 n c1) := by rw [cell_of_row _ _ _ _ _ _ HKG.out]; rfl
  have d1 : w3.cell? ⟨w.heap.size, 1, none⟩ = some (.slice A2 m c2) := by rw [cell_of_row _ _ _ _ _ _ HKG.out]; rfl
  have d2 : w3.cell? ⟨w.heap.size, 2, none⟩ = some (.slice A3 q c3) := by rw [cell_of_row _ _ _ _ _ _ HKG.out]; rfl
  have hne : w.heap.size ≠ w2.heap.size := by omega
  have hn0 : 0 < n := HN1.out
  have HW3 := Lib.hid (show Below (w.heap.size + 1) w1 w3 from (HB2.out.mono (Nat.le_of_eq HZ.out.symm)).trans (HB3.out.mono hz2))
  clear hw3 hb2 k2 hb3
  go_wp2_with fail
  have HB4 := Lib.hid ((Below.refl (w3.setCell ⟨w2.heap.size, 0, none⟩ (.bool true)).heap.size (w3.setCell ⟨w2.heap.size, 0, none⟩ (.bool true))).alloc (Nat.le_refl _) (.cells #[.slice (some ⟨w2.heap.size, 0, none⟩) n n] 60))
  have HK4 := Lib.hid (Go.heap_alloc_new (w3.setCell ⟨w2.heap.size, 0, none⟩ (.bool true)) (.cells #[.slice (some ⟨w2.heap.size, 0, none⟩) n n] 60))
  have HZ4 := Lib.hid (World.size_alloc (w3.setCell ⟨w2.heap.size, 0, none⟩ (.bool true)) (.cells #[.slice (some ⟨w2.heap.size, 0, none⟩) n n] 60))
  have hsz : (w3.setCell ⟨w2.heap.size, 0, none⟩ (.bool true)).heap.size = w3.heap.size := by simp [World.setCell]
  have HR4 := Lib.hid (bool_row_set HK3.out (k := 0) true)
  have HBS := Lib.hid (show Below w2.heap.size w3 (w3.setCell ⟨w2.heap.size, 0, none⟩ (.bool true)) from Below.setCell (p := ⟨w2.heap.size, 0, none⟩) (Below.refl _ _) (Nat.le_refl _) _)
  rw [hsz] at HB4 HK4 HZ4
  generalize (w3.setCell ⟨w2.heap.size, 0, none⟩ (.bool true)) = ws at *
  generalize ws.alloc (.cells #[.slice (some ⟨w2.heap.size, 0, none⟩) n n] 60) = w5 at *
  have HST := Lib.hid (show ReachSt w2.heap.size w3.heap.size n (reachStart n) w5 from ⟨(HB4.out.block w2.heap.size hz3).trans HR4.out, by simp [reachStart], HK4.out, by omega⟩)
  have HBA := Lib.hid (show Below (w.heap.size + 1) w1 w5 from (HW3.out.trans (HBS.out.mono hz2)).trans (HB4.out.mono hz3'))
  have hrd := rounds_any 148 #[.pointer (some ⟨w3.heap.size, 0, none⟩)] (fun _ _ => by kernel_rfl) reachStep (ReachSt w2.heap.size w3.heap.size n) (.slice A2 m c2) A1 A3 n c1 c3 (w.heap.size + 1) w2.heap.size g.2.2 (reachStart n) w5 HN2.out (by rw [← HL.out.2.2]; exact HV.out.rules.below HBA.out) hz2 (by rw [HZ4.out]; omega) (fun s w1 w2 h hb => h.below hb) HST.out (fun s wx r A qq cc hr hs hgl hq hsl => by
    obtain ⟨f1, f2, f3, f4⟩ := HG.out.fit r hr
    obtain ⟨k, hk⟩ : ∃ k : Nat, r.1 = (k : Int) := ⟨r.1.toNat, by omega⟩
    have := reachStep_any w2.heap.size w3.heap.size n (w.heap.size + 1) s k r.2 A qq cc wx hs (by have := HL.out.1; omega) hq (fun x hx => by have := (f4 x hx).1; have := HL.out.1; omega) hsl hz2 (by omega)
    rw [← hk] at this
    exact this)
  rw [← HL.out.2.2] at hrd
  have HRD := Lib.hid hrd
  clear hrd
  refine HRD.out.mono ?_
  rintro e w6 ⟨rfl, hst, hgw⟩
  have c6 := cell0 hst.box
  have HFIN := Lib.hid (show BoolsTo w (reached g.2.2 n) (.returned (.slice (some ⟨w2.heap.size, 0, none⟩) n n)) w6 from by
    have hlen : (reached g.2.2 n).length = n := hst.len
    have hrow : Rd w6 w6.heap.size (some ⟨w2.heap.size, 0, none⟩) (bcellsB (reached g.2.2 n)).toArray.toList := Rd.row hst.row (Array.getElem?_eq_some_iff.1 hst.row).1
    exact ⟨some ⟨w2.heap.size, 0, none⟩, n, by rw [hlen], hrow, (HBX.out.trans (HBA.out.mono (by omega))).trans (below_of_grown hgw (Nat.le_of_lt hz2) (by rw [HZ4.out]; omega))⟩)
  clear hst hgw HRD
  go_wp2_with fail
  go_ret
  exact HFIN.out
end Go.Proofs.YtfpihflepeiagaaGreatDoor
