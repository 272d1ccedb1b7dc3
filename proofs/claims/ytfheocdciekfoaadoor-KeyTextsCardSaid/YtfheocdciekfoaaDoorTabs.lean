/- What the library's listed variables hold, kept under whatever a call adds; strconv.Itoa and strconv.Atoi by the shelf's contracts. -/
import Derived.Test.YtfheocdciekfoaaDoorShelf
import Derived.Shelf.Strconv.ErrVarAll
import Derived.Test.YtfheocdciekfoaaDoorAtoiDec
import Derived.Test.YtfheocdciekfoaaDoorWords
namespace Go.Proofs.YtfheocdciekfoaaDoor
open Go.RowKit

theorem var_below {P : Program} {w w' : World} {n : String} {cs : Array Value} (h : w.var? P n = some cs) (hb : Below w.heap.size w w') : w'.var? P n = some cs := by
  unfold World.var? at h ⊢
  cases hg : P.globalNamed n with
  | none => simp [hg] at h
  | some g =>
    simp only [hg, Option.bind_some] at h ⊢
    have hlt : g < w.heap.size := by
      rcases Nat.lt_or_ge g w.heap.size with h' | h'
      · exact h'
      · simp [Array.getElem?_eq_none h'] at h
    rw [hb.block g hlt]
    exact h
structure Tabs (w : World) : Prop where
  tab : Lib.TabIs Tryd.prog w "internal/strconv.uint64pow10" .u64 Lib.pow10Tab
  syn : ∃ tp p, w.var? Tryd.prog "strconv.ErrSyntax" = some #[.iface tp p]
  rng : ∃ tp p, w.var? Tryd.prog "strconv.ErrRange" = some #[.iface tp p]
theorem Tabs.below {w w' : World} (h : Tabs w) (hb : Below w.heap.size w w') : Tabs w' :=
  ⟨var_below h.tab hb, let ⟨tp, p, q⟩ := h.syn; ⟨tp, p, var_below q hb⟩, let ⟨tp, p, q⟩ := h.rng; ⟨tp, p, var_below q hb⟩⟩
theorem Tabs.drew {w : World} (h : Tabs w) : Tabs w.drew := h.below (Below.refl _ _).drew
theorem Tabs.alloc {w : World} (h : Tabs w) (o : Obj) : Tabs (w.alloc o) := h.below ((Below.refl _ _).alloc (Nat.le_refl _) _)
theorem below_grow (w : World) (k : Nat) (os : Array Obj) : Below w.heap.size w (Sort.grow (w.drewN k) os) :=
  ⟨rfl, rfl, rfl, by simp [Sort.grow, World.drewN], fun i hi => by
    show (w.heap ++ os)[i]? = _
    rw [Array.getElem?_append_left hi]⟩
theorem itoa_any (n : Int) (w : World) (h0 : 0 ≤ n) (h1 : n ≤ 1000000000) (ht : Tabs w) :
    Calls Tryd.prog 60 #[.int .i64 n] w fun e w' => e = .returned (.string ⟨(Lib.itoa n).toArray⟩) ∧ Below w.heap.size w w' := by
  refine (Tryd.strconv_Itoa n (by omega) (by omega) w ht.tab).mono ?_
  rintro e w' ⟨rfl, k, os, rfl⟩
  exact ⟨rfl, below_grow w k os⟩
theorem atoi_any (l : List UInt8) (w : World) (hl : l.length ≤ 1099511627776) (ht : Tabs w) :
    Calls Tryd.prog 64 #[.string ⟨l.toArray⟩] w fun e w' => ∃ ev, e = .returned (.tuple #[.int .i64 (atoiV l), ev]) ∧ Below w.heap.size w w' := by
  obtain ⟨s, hs⟩ : ∃ s : ByteArray, s = ⟨l.toArray⟩ := ⟨_, rfl⟩
  have hd : s.data.toList = l := by rw [hs]
  have hz : s.size = l.length := by rw [hs]; rfl
  rw [← hs]
  rcases h : Lib.atoiAll l with v | _ | _
  · have hv : atoiV l = v := by unfold atoiV; rw [h]
    refine (Tryd.strconv_Atoi_ok s (by omega) v (by rw [hd]; exact h) w).mono ?_
    rintro e w' ⟨rfl, hw⟩
    refine ⟨_, by rw [hv], ?_⟩
    rcases hw with rfl | ⟨t, rfl⟩
    · exact Below.refl _ _
    · exact Lib.bytesWorld_below _ _ _
  · have hv : atoiV l = 0 := by unfold atoiV; rw [h]
    obtain ⟨tp, p, q⟩ := ht.syn
    have hc : Calls Tryd.prog 64 #[.string s] w _ := Any.strconv_Atoi_syntax_var Tryd.laysC172 s (by omega) (by rw [hd]; exact h) tp p w q
    refine hc.mono ?_
    rintro e w' ⟨N, rfl, _, _, hb⟩
    exact ⟨_, by rw [hv], hb⟩
  · have hv : atoiV l = Lib.atoiSat l := by unfold atoiV; rw [h]
    obtain ⟨tp, p, q⟩ := ht.rng
    have hc : Calls Tryd.prog 64 #[.string s] w _ := Any.strconv_Atoi_range_var Tryd.laysC172 s (by omega) (by rw [hd]; exact h) tp p w q
    refine hc.mono ?_
    rintro e w' ⟨N, rfl, _, _, hb⟩
    exact ⟨_, by rw [hv, hd], hb⟩
end Go.Proofs.YtfheocdciekfoaaDoor
