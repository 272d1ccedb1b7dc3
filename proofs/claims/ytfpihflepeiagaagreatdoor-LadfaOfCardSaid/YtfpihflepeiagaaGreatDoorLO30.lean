/- Texts of this proof joined: Mach26, Same26, Ladfa2, Awk26, Rf24a, Rf24b, Rf15a. -/
import Derived.Test.YtfpihflepeiagaaGreatDoorLO29
import Derived.Deep.LoopGhost
import Derived.Test.YtfpihflepeiagaaGreatDoorLO19
import Derived.Test.YtfpihflepeiagaaGreatDoorLO26
import Derived.Test.YtfpihflepeiagaaGreatDoorLO14
namespace Go.Proofs.YtfpihflepeiagaaGreatDoor

theorem fronts_all (rows : List Row) : ∃ F, Fronts rows F ∧ F.length ≤ (begWs rows).length + 1 := by
  have hd : ∀ a b, Decidable (slLt a b) := fun a b => Classical.propDecidable _
  refine ⟨(frontsOf (begWs rows)).mergeSort (fun a b => @decide (¬ slLt b a) (@instDecidableNot _ (hd b a))), ?_, ?_⟩
  · refine fronts_sorted (List.mergeSort_perm _ _) ?_
    refine (List.pairwise_mergeSort (le := fun a b => @decide (¬ slLt b a) (@instDecidableNot _ (hd b a))) ?_ ?_ _).imp ?_
    · intro a b c h1 h2
      simp only [decide_eq_true_eq] at h1 h2 ⊢
      intro h3
      rcases slLt_tri a b with h | h | h
      · exact h2 (slLt_trans h3 h)
      · subst h; exact h2 h3
      · exact h1 h
    · intro a b
      simp only [Bool.or_eq_true, decide_eq_true_eq]
      by_cases h : slLt b a
      · exact .inr (slLt_asymm h)
      · exact .inl h
    · intro a b h
      simpa only [decide_eq_true_eq] using h
  · rw [(List.mergeSort_perm _ _).length_eq]
    exact (frontsOf_ok (begWs rows)).2.2
theorem begWs_len (rows : List Row) (n : Nat) (h : ∀ r ∈ rows, r.2.1.length ≤ n) : (begWs rows).length ≤ rows.length * (n + 1) := by
  unfold begWs begs
  rw [List.length_map]
  induction rows with
  | nil => simp
  | cons r l ih =>
    have := ih fun x hx => h x (List.mem_cons_of_mem _ hx)
    have h1 := h r (List.mem_cons_self ..)
    rw [List.flatMap_cons, List.length_append, List.length_cons, Nat.succ_mul]
    have : (begOf r).length = r.2.1.length + 1 := by simp [begOf]
    omega
theorem tree_fronts (rows : List Row) : Fronts rows (theFronts rows) := by
  obtain ⟨F, hF, _⟩ := fronts_all rows
  rw [theFronts_eq hF]
  exact hF
theorem tree_len (rows : List Row) (n : Nat) (h : ∀ r ∈ rows, r.2.1.length ≤ n) : (treeM rows).length ≤ rows.length * (n + 1) + 1 := by
  obtain ⟨F, hF, hl⟩ := fronts_all rows
  unfold treeM
  rw [trie_len, theFronts_eq hF]
  have := begWs_len rows n h
  omega
theorem mini_len {m : Mch} (h : validM m 9223372036854775807 = true) : (miniM m).length ≤ m.length := by
  have hg := valid_good h
  have hp := List.length_pos_iff.2 hg.some
  unfold miniM
  rw [if_pos h]
  by_cases h0 : useB m 0 = true
  · rw [if_pos h0]
    have hb := bfs_ok hg (useB_is m) (alikeB_is m) ((useB_iff m 0).1 h0) m.length
    have h2 : (bfsM m m.length).2.length = min m.length (bfsM m m.length).1.length := hb.len
    omega
  · rw [if_neg h0]
    exact hp
section
variable {rows : List Row} (hr : ∀ r ∈ rows, 0 ≤ r.2.2)
include hr
theorem tree_valid : validM (treeM rows) 9223372036854775807 = true := trie_valid (tree_fronts rows) hr
theorem mach_least : LeastM (treeM rows) (machM rows) := mini_least (tree_valid hr)
theorem mach_tell (l : Wd) : tellM (machM rows) 0 (byI l) = outOf rows l := by
  rw [(mach_least hr).tell, show treeM rows = trieM rows (theFronts rows) from rfl, trie_tell (tree_fronts rows) hr]
theorem mach_term {n : Nat} (hb : ∀ r ∈ rows, ∀ c ∈ r.2.1, c.toNat < n) : ∀ k < (machM rows).length, ∀ e ∈ edM (machM rows) k, e.1 < (n : Int) :=
  least_term (mach_least hr) (trie_term (tree_fronts rows) hb)
theorem mach_len (n : Nat) (h : ∀ r ∈ rows, r.2.1.length ≤ n) : (machM rows).length ≤ rows.length * (n + 1) + 1 :=
  Nat.le_trans (mini_len (tree_valid hr)) (tree_len rows n h)
end
theorem runS_I (m : Mach) : ∀ (l : Wd) (k : Nat), runS m k l = runI m k (byI l)
  | [], _ => rfl
  | b :: r, k => by
    show (match stepM m k (b.toNat : Int) with | some j => runS m j r | none => none) = (match stepI m k (b.toNat : Int) with | some j => runI m j (byI r) | none => none)
    rw [show stepM m k (b.toNat : Int) = stepI m k (b.toNat : Int) from rfl]
    cases stepI m k (b.toNat : Int) with
    | none => rfl
    | some j => exact runS_I m r j
theorem run_tell {m : Mach} (hm : m ≠ []) (l : Wd) : runM m l = tellM m 0 (byI l) := by
  unfold runM tellM
  rw [if_neg hm, runS_I]
  rfl
def saysL (rows : List Row) (n : Nat) (left : Int) (l : Wd) : Int := if 0 ≤ left ∧ left < n then outOf (ofRows left rows) l else -1
theorem machs_len (rows : List Row) (n : Nat) : (machsM rows n).length = n := by simp [machsM]
theorem machs_get (rows : List Row) {n k : Nat} (hk : k < n) : (machsM rows n)[k]? = some (machM (ofRows (k : Int) rows)) := by
  unfold machsM
  rw [List.getElem?_map, List.getElem?_range hk]
  rfl
theorem ofRows_low {rows : List Row} (hr : ∀ r ∈ rows, 0 ≤ r.2.2) (left : Int) : ∀ r ∈ ofRows left rows, 0 ≤ r.2.2 := fun r h => hr r (List.mem_filter.1 h).1
theorem machs_predict {rows : List Row} (hr : ∀ r ∈ rows, 0 ≤ r.2.2) (n : Nat) (left : Int) (l : Wd) : predictR (machsM rows n) left l = saysL rows n left l := by
  unfold predictR saysL
  rw [machs_len]
  by_cases h : 0 ≤ left ∧ left < n
  · rw [if_pos h, if_pos h]
    obtain ⟨k, rfl⟩ : ∃ k : Nat, left = k := ⟨left.toNat, by omega⟩
    rw [Int.toNat_natCast, List.getD_eq_getElem?_getD, machs_get rows (by omega : k < n)]
    show runM (machM _) l = _
    rw [run_tell (mach_least (ofRows_low hr k)).good.some, mach_tell (ofRows_low hr k)]
  · rw [if_neg h, if_neg h]
def wantOf (rows : List Row) (left : Int) (l : Wd) : Int := match rows.find? fun r => decide (r.1 = left) && decide (r.2.1 = l) with | some r => r.2.2 | none => -1
theorem outOf_want {rows : List Row} (hr : ∀ r ∈ rows, 0 ≤ r.2.2) (left : Int) (l : Wd) : outOf (ofRows left rows) l = wantOf rows left l := by
  have h : (ofRows left rows).find? (fun r => decide (r.2.1 = l)) = rows.find? fun r => decide (r.1 = left) && decide (r.2.1 = l) := by
    unfold ofRows
    rw [List.find?_filter]
    congr 1
    funext x
    by_cases h1 : x.1 = left <;> by_cases h2 : x.2.1 = l <;> simp [h1, h2]
  rw [outOf_low (ofRows_low hr left), h]
  rfl
theorem awM_rows {r : List Row} (h : r = [(0, [], 0), (0, [0], 1)]) : (machM r).length = 2 ∧ outM (machM r) 0 = 0 ∧ outM (machM r) 1 = 1 := by
  have hr : ∀ x ∈ r, 0 ≤ x.2.2 := by
    subst h
    intro x hx
    simp only [List.mem_cons, List.not_mem_nil, or_false] at hx
    rcases hx with rfl | rfl <;> decide
  have hb : ∀ x ∈ r, ∀ c ∈ x.2.1, c.toNat < 1 := by
    subst h
    intro x hx c hc
    simp only [List.mem_cons, List.not_mem_nil, or_false] at hx
    rcases hx with rfl | rfl
    · simp at hc
    · simp only [List.mem_cons, List.not_mem_nil, or_false] at hc
      subst hc
      decide
  have hL := mach_least hr
  have hT := mach_term hr hb
  have htell := mach_tell hr
  have o0 : outOf r [] = 0 := by subst h; decide
  have o1 : outOf r [0] = 1 := by subst h; decide
  have o2 : ∀ l : Wd, outOf r (0 :: 0 :: l) = -1 := by subst h; intro l; rw [outOf_low hr]; simp
  have hg := hL.good
  have hp := List.length_pos_iff.2 hg.some
  generalize machM r = M at *
  have t0 : outM M 0 = 0 := by rw [← tellM_nil, ← o0]; exact htell []
  have t1 : tellM M 0 [0] = 1 := by rw [← o1]; exact htell [0]
  -- all edges are of terminal 0
  have h0 : ∀ k < M.length, ∀ e ∈ edM M k, e.1 = 0 := fun k hk e he => by
    have h1 := (hg.to k hk e he).1
    have h2 := hT k hk e he
    omega
  -- from the first state one goes to state j
  obtain ⟨j, hj⟩ : ∃ j, stepI M 0 0 = some j := by
    rw [tellM_cons] at t1
    cases h : stepI M 0 0 with
    | none => rw [h] at t1; cases t1
    | some j => exact ⟨j, rfl⟩
  have hjl := step_lt hj
  have tj : outM M j = 1 := by
    have := t1
    rw [tellM_cons, hj] at this
    exact this
  have hj0 : j ≠ 0 := fun e => by rw [e, t0] at tj; cases tj
  -- from there nothing is told behind one more
  have tjj : ∀ i, stepI M j 0 = some i → ∀ l : List Int, (∀ b ∈ l, b = 0) → tellM M i l = -1 := fun i hi l hl => by
    obtain ⟨w, rfl⟩ : ∃ w : Wd, l = byI w := ⟨List.replicate l.length 0, by
      unfold byI
      rw [List.map_replicate]
      exact List.eq_replicate_iff.2 ⟨rfl, hl⟩⟩
    have h1 := htell (0 :: 0 :: w)
    rw [o2] at h1
    have h2 : byI (0 :: 0 :: w) = (0 : Int) :: (0 : Int) :: byI w := rfl
    rw [h2, tellM_cons, hj] at h1
    simp only at h1
    rw [tellM_cons, hi] at h1
    exact h1
  -- what is told is told of words of zeros alone
  have hz : ∀ (l : List Int) (k : Nat), k < M.length → tellM M k l ≠ -1 → ∀ b ∈ l, b = 0 := by
    intro l
    induction l with
    | nil => intro k _ _ b hb; cases hb
    | cons c l ih =>
      intro k hk ht b hb
      rw [tellM_cons] at ht
      cases hs : stepI M k c with
      | none => rw [hs] at ht; exact absurd rfl ht
      | some i =>
        rw [hs] at ht
        have he := (step_edge hg hk c i).1 hs
        rcases List.mem_cons.1 hb with rfl | hb
        · exact h0 k hk _ he
        · exact ih i (step_lt hs) ht b hb
  have hj1 : j = 1 := by
    have h1l : 1 < M.length := by omega
    obtain ⟨p, hp1, t, ht⟩ := hL.new 1 (by omega) h1l
    have hp0 : p = 0 := by omega
    subst hp0
    have h3 := h0 0 hp _ ht
    simp only at h3
    subst h3
    have h4 := (step_edge hg hp 0 1).2 ht
    rw [hj] at h4
    injection h4
  subst hj1
  refine ⟨?_, t0, tj⟩
  rcases Nat.lt_or_ge 2 M.length with h2l | h2l
  · exfalso
    obtain ⟨p, hp1, t, ht⟩ := hL.new 2 (by omega) h2l
    have h3 := h0 p (by omega) _ ht
    simp only at h3
    subst h3
    have h4 := (step_edge hg (by omega) 0 2).2 ht
    have hp2 : p = 1 := by
      rcases Nat.lt_or_ge p 1 with h5 | h5
      · have : p = 0 := by omega
        subst this
        rw [hj] at h4
        injection h4 with h4
        cases h4
      · omega
    subst hp2
    obtain ⟨l, hl⟩ := hL.tells 2 (by omega) h2l
    exact hl (tjj 2 h4 l (hz l 2 h2l hl))
  · omega
end Go.Proofs.YtfpihflepeiagaaGreatDoor
namespace Go.Proofs.YtfpihflepeiagaaGreatDoor
open Go.RowKit

end Go.Proofs.YtfpihflepeiagaaGreatDoor
namespace Go.Proofs.YtfpihflepeiagaaGreatDoor
open Go.RowKit

theorem mach_app : AppTy Tryz.prog 28 45 1 24 (.slice none 0 0) := appTy (by kernel_rfl) (by kernel_rfl) rfl (by omega)
def MachsTo (ms : List Mch) (w : World) (e : Ending) (w' : World) : Prop := ∃ v, e = .returned v ∧ SlR (eSl eState) w' w'.heap.size v ms ∧ Below w.heap.size w w'
set_option maxRecDepth 100000 in
set_option maxHeartbeats 4000000 in
theorem each_any (F : FuncId) (cap : Array Value) (n : Nat) (f : Nat → Mch) (w : World) (hn : n ≤ 1099511627776) (hF : ∀ (args : Array Value) (w : World), (callFunc F args).run Tryz.prog w = .ok (.enter F args) w)
    (hc : ∀ left < n, ∀ W, Below w.heap.size w W → Calls Tryz.prog F (#[.int .i64 (left : Nat)] ++ cap) W (MachTo (f left) W)) :
    Calls Tryz.prog 28 #[.int .i64 n, .func (.func F) #[] cap] w (MachsTo ((List.range n).map f) w) := by
  have HC := Lib.hid hc
  clear hc
  go_enter Tryz.func28, Tryz.ntmps28
  go_wp2_with fail
  go_loopw [8, 5] (fun v8 v5 wr => ∃ (k : Nat) (vs : List Value), k ≤ n ∧ v8 = .int .i64 k ∧ vs.length = k ∧ Hid (EachI wr w.heap.size v5 vs ((List.range k).map f)) ∧ Hid (Below w.heap.size w wr)) (fun v8 _ _ => n - (intOf v8).toNat)
  case atStart => exact ⟨0, [], by omega, rfl, rfl, EachI.nil _ _, Below.refl _ _⟩
  case round =>
    obtain ⟨k, vs, hk, rfl, hvk, HE, HB⟩ := hrel
    obtain ⟨A5, c5, rfl, hl5, hl6⟩ := own_form HE.out.row
    unfold maxLen at hl6
    have HVK := Lib.hid hvk
    clear hvk
    by_cases hlt : k < n
    · go_wp2_with fail
      refine (HC.out k hlt wr HB.out).mono ?_
      rintro e w1 ⟨vm, rfl, hm, hb1⟩
      obtain ⟨Am, cm, rfl, hm1, hm2⟩ := (hm w1 fun _ _ _ => rfl).form
      have HM := Lib.hid hm
      have HB1 := Lib.hid hb1
      have hvl : vs.length ≤ n := by rw [HVK.out]; omega
      have hbz := HB1.out.size
      have hbz2 := HB.out.size
      have HE1 := Lib.hid (HE.out.below hb1)
      clear hm hb1
      go_wp2_with (refine stop_at (some 16) rfl ?_)
      refine Stop.go (wpList_app (m := 1) (n := vs.length) mach_app rfl rfl rfl rfl (HE1.out.row.alloc _) (Rd.row (B := w1.heap.size + 1) (Go.heap_alloc_new w1 _) (by omega)) rfl (by simp [Value.oneCell']) ?h63 ?hby ?hbase ?_)
      case h63 => simp only [maxLen]; omega
      case hby => omega
      case hbase => rw [World.size_alloc]; omega
      intro v2 w2 hown2 hg2 hob2 _
      have HE2 := Lib.hid (HE.out.snoc HB1.out HM.out (.cells #[.slice Am (f k).length cm] 45) hown2 hg2 hob2)
      have HB2 := Lib.hid (grown_below ((HB.out.trans (HB1.out.mono HB.out.size)).alloc (by omega) (.cells #[.slice Am (f k).length cm] 45)) hg2 (HE1.out.row.alloc _) (Nat.le_refl _) (by rw [World.size_alloc]; omega))
      clear hown2 hg2 hob2
      go_wp2_with fail
      go_roundw
      case rel =>
        refine ⟨k + 1, vs ++ [.slice Am (f k).length cm], by omega, by go_num, by rw [List.length_append, HVK.out]; rfl, ?_, HB2.out⟩
        show EachI _ _ _ _ _
        rw [List.range_succ, List.map_append]
        exact HE2.out
      case measure => simp [intOf]; omega
    · have hkn : k = n := by omega
      subst hkn
      go_wp2_with fail
      go_ret
      exact ⟨_, rfl, HE.out.sl, HB.out⟩
set_option maxRecDepth 100000 in
set_option maxHeartbeats 4000000 in
theorem of26_any {A1 A2 A3 Ar : Option Addr} {n m q c1 c2 c3 nr cr : Nat} (rows : List Row) (w : World) (hv : SlR eRow w w.heap.size (.slice Ar nr cr) rows) (hf : RowsFit rows) (hn : n ≤ 1099511627776) (ht : TabP w) :
    Calls Tryz.prog 13 #[gramV A1 A2 A3 n m q c1 c2 c3, .slice Ar nr cr] w (MachsTo (machsM rows n) w) := by
  have HV := Lib.hid hv
  have HF := Lib.hid hf
  have HT := Lib.hid ht
  have hb3 := Go.heap_alloc_new (w.alloc (.cells #[.slice A1 n c1, .slice A2 m c2, .slice A3 q c3] 25)) (.cells #[.slice Ar nr cr] 41)
  rw [World.size_alloc] at hb3
  have HB3 := Lib.hid hb3
  have HBW := Lib.hid (show Below w.heap.size w ((w.alloc (.cells #[.slice A1 n c1, .slice A2 m c2, .slice A3 q c3] 25)).alloc (.cells #[.slice Ar nr cr] 41)) from ((Below.refl _ _).alloc (Nat.le_refl _) _).alloc (by rw [World.size_alloc]; omega) _)
  clear hv hf ht hb3
  unfold gramV
  go_enter Tryz.func13, Tryz.ntmps13
  go_wp2_with fail
  generalize (w.alloc (.cells #[.slice A1 n c1, .slice A2 m c2, .slice A3 q c3] 25)).alloc (.cells #[.slice Ar nr cr] 41) = wq at *
  have hcl : w.heap.size + 1 < wq.heap.size := (Array.getElem?_eq_some_iff.1 HB3.out).1
  refine (each_any 29 #[.pointer (some ⟨w.heap.size + 1, 0, none⟩)] n (fun left => machM (ofRows ((left : Nat) : Int) rows)) wq hn (fun _ _ => by kernel_rfl) (fun left _ W hb => ?_)).mono ?_
  · have hW := HBW.out.trans (hb.mono HBW.out.size)
    exact of1_any (.slice Ar nr cr) rows (w.heap.size + 1) left W (HV.out.fut hW (Nat.le_refl _) hW.size) HF.out (cell0 (t := 41) ((hb.block _ hcl).trans HB3.out)) (HT.out.below hW)
  rintro e w1 ⟨v, rfl, hs, hb1⟩
  have HS := Lib.hid hs
  have HB1 := Lib.hid (HBW.out.trans (hb1.mono HBW.out.size))
  clear hs hb1
  go_wp2_with fail
  go_ret
  exact ⟨_, rfl, HS.out, HB1.out⟩
def MachOut (n : Nat) (g : Gram) (w' : World) (o : Option Sets) (e : Ending) : Prop :=
  match o with
  | none => e = .returned (.tuple #[.slice none 0 0, .slice none 0 0, .int .i64 21])
  | some s => (clashW g.2.2 n s ≠ [] ∧ ∃ A c, e = .returned (.tuple #[.slice none 0 0, .slice A (clashW g.2.2 n s).length c, .int .i64 20])) ∨
    (clashW g.2.2 n s = [] ∧ ∃ v rows, e = .returned (.tuple #[v, .slice none 0 0, .int .i64 0]) ∧ rows.Perm (rowsFrom 0 g.2.2 s) ∧ rows.Pairwise (fun a b => ¬ rowLt b a) ∧ SlR (eSl eState) w' w'.heap.size v (machsM rows n))
def MachRes (k : Int) (g : Gram) (n : Nat) (w : World) (e : Ending) (w' : World) : Prop :=
  Below w.heap.size w w' ∧ (BadK k g → e = .returned (.tuple #[.slice none 0 0, .slice none 0 0, .int .i64 1])) ∧ (¬ BadK k g → ∃ o, AheadO k g o ∧ MachOut n g w' o e)
set_option maxRecDepth 100000 in
set_option maxHeartbeats 8000000 in
theorem make26_any {A1 A2 A3 : Option Addr} {n m q c1 c2 c3 : Nat} {g : Gram} (k : Int) (w : World) (h : GramR w w.heap.size A1 A2 A3 n m q c1 c2 c3 g) (hn : n ≤ 1099511627776) (ht : TabP w)
    (hrf : ¬ BadK k g → ∀ s rows, AheadO k g (some s) → rows.Perm (rowsFrom 0 g.2.2 s) → RowsFit rows ∧ FitR rows) :
    Calls Tryz.prog 8 #[gramV A1 A2 A3 n m q c1 c2 c3, .int .i64 k] w (MachRes k g n w) := by
  have hbx := (Below.refl w.heap.size w).alloc (Nat.le_refl _) (.cells #[.slice A1 n c1, .slice A2 m c2, .slice A3 q c3] 25)
  have HK := Lib.hid (Go.heap_alloc_new w (.cells #[.slice A1 n c1, .slice A2 m c2, .slice A3 q c3] 25))
  have HM := Lib.hid (make_any k (w.alloc (.cells #[.slice A1 n c1, .slice A2 m c2, .slice A3 q c3] 25)) (h.fut hbx (Nat.le_refl _) (by rw [World.size_alloc]; omega)))
  have HBX := Lib.hid hbx
  have HT := Lib.hid ht
  have HRF := Lib.hid hrf
  clear hbx h ht hrf
  unfold gramV at *
  go_enter Tryz.func8, Tryz.ntmps8
  go_wp2_with fail
  generalize w.alloc (.cells #[.slice A1 n c1, .slice A2 m c2, .slice A3 q c3] 25) = wq at *
  refine HM.out.mono ?_
  rintro e w1 ⟨hb1, hbad, hgood⟩
  have HB1 := Lib.hid (HBX.out.trans (hb1.mono HBX.out.size))
  have hk1 := (hb1.block w.heap.size (Array.getElem?_eq_some_iff.1 HK.out).1).trans HK.out
  have HK1 := Lib.hid hk1
  clear hb1 hk1 HM
  by_cases hb : BadK k g
  · have HBD := Lib.hid hb
    rw [hbad hb]
    clear hbad hgood hb
    go_wp2_with fail
    refine bodyPost_ret (results_tmp3 rfl _ _ _) rfl ?_
    exact ⟨HB1.out, fun _ => rfl, fun h => absurd HBD.out h⟩
  · obtain ⟨o, ha, ho⟩ := hgood hb
    have HBD := Lib.hid hb
    have HA := Lib.hid ha
    clear hbad hgood hb ha
    cases o with
    | none =>
      have he : e = _ := ho
      rw [he]
      clear he ho
      go_wp2_with fail
      refine bodyPost_ret (results_tmp3 rfl _ _ _) rfl ?_
      exact ⟨HB1.out, fun h => absurd h HBD.out, fun _ => ⟨none, HA.out, rfl⟩⟩
    | some s =>
      rcases ho with ⟨hc, v, he, hown⟩ | ⟨hc, v, rows, he, hp, hs, hown⟩
      · obtain ⟨A5, c5, rfl, -, -⟩ := own_form hown
        have HC := Lib.hid hc
        rw [he]
        clear he hown hc
        go_wp2_with fail
        refine bodyPost_ret (results_tmp3 rfl _ _ _) rfl ?_
        exact ⟨HB1.out, fun h => absurd h HBD.out, fun _ => ⟨some s, HA.out, .inl ⟨HC.out, _, _, rfl⟩⟩⟩
      · obtain ⟨A5, c5, rfl, hl5, hl6⟩ := own_form hown
        obtain ⟨hrf, hfit⟩ := HRF.out HBD.out s rows HA.out hp
        have HS := Lib.hid (slR_own hfit hown)
        have HRR := Lib.hid hrf
        have HC := Lib.hid hc
        have HP := Lib.hid hp
        have HSS := Lib.hid hs
        rw [he]
        clear he hown hc hrf hfit hp hs
        have g0 : w1.cell? ⟨w.heap.size, 0, none⟩ = some (.slice A1 n c1) := by rw [cell_of_row _ _ _ _ _ _ HK1.out]; rfl
        have g1 : w1.cell? ⟨w.heap.size, 1, none⟩ = some (.slice A2 m c2) := by rw [cell_of_row _ _ _ _ _ _ HK1.out]; rfl
        have g2 : w1.cell? ⟨w.heap.size, 2, none⟩ = some (.slice A3 q c3) := by rw [cell_of_row _ _ _ _ _ _ HK1.out]; rfl
        go_wp2_with fail
        refine (of26_any (A1 := A1) (A2 := A2) (A3 := A3) (m := m) (q := q) (c1 := c1) (c2 := c2) (c3 := c3) rows w1 HS.out HRR.out hn (HT.out.below HB1.out)).mono ?_
        rintro e2 w2 ⟨v2, rfl, hs2, hb2⟩
        have HS2 := Lib.hid hs2
        have HB2 := Lib.hid (HB1.out.trans (hb2.mono HB1.out.size))
        clear hs2 hb2
        go_wp2_with fail
        refine bodyPost_ret (results_tmp3 rfl _ _ _) rfl ?_
        exact ⟨HB2.out, fun h => absurd h HBD.out, fun _ => ⟨some s, HA.out, .inr ⟨HC.out, _, rows, rfl, HP.out, HSS.out, HS2.out⟩⟩⟩
set_option maxHeartbeats 1600000 in
theorem states26_any (v : Value) (ms : List Mch) (w : World) (hv : SlR (eSl eState) w w.heap.size v ms) (hs : (ms.map List.length).sum ≤ 4611686018427387904) :
    Calls Tryz.prog 18 #[v] w fun e w' => e = .returned (.int .i64 ((ms.map List.length).sum : Nat)) ∧ w' = w := by
  obtain ⟨A, c, rfl, hc1, hc2⟩ := hv.form
  unfold maxLen at hc2
  have HV := Lib.hid hv
  have HSM := Lib.hid hs
  clear hv hs
  obtain ⟨n, hn⟩ : ∃ n, n = ms.length := ⟨_, rfl⟩
  have HN := Lib.hid hn
  rw [← hn] at hc1 HV ⊢
  clear hn
  go_enter Tryz.func18, Tryz.ntmps18
  go_wp2_with fail
  go_loopw [8, 3] (fun v8 v3 wr => ∃ k : Nat, k ≤ n ∧ v8 = .int .i64 k ∧ v3 = .int .i64 (((ms.take k).map List.length).sum : Nat) ∧ wr = w) (fun v8 _ _ => n - (intOf v8).toNat)
  case atStart => exact ⟨0, by omega, rfl, rfl, rfl⟩
  case round =>
    obtain ⟨k, hk, rfl, rfl, rfl⟩ := hrel
    by_cases hlt : k < n
    · have hkl : k < ms.length := by rw [← HN.out]; exact hlt
      obtain ⟨b1, o1, cs, rfl, -, hb1, hrep, hcell⟩ := HV.out.get hkl (by decide)
      obtain ⟨u, rfl, hu⟩ := hrep
      obtain ⟨A4, e4, rfl, he1, he2⟩ := hu.form
      have d0 := hcell 0 _ rfl
      clear hcell hu
      simp only [show (eSl eState).size = 1 from rfl, Nat.add_zero, Nat.mul_one] at d0
      have HSN := Lib.hid (show ((ms.take (k + 1)).map List.length).sum = ((ms.take k).map List.length).sum + ms[k].length by
        rw [List.take_succ_eq_append_getElem hkl, List.map_append, List.sum_append]
        simp)
      have hle : ((ms.take k).map List.length).sum + ms[k].length ≤ 4611686018427387904 := by
        rw [← HSN.out]
        refine Nat.le_trans ?_ HSM.out
        conv => rhs; rw [← List.take_append_drop (k + 1) ms, List.map_append, List.sum_append]
        omega
      generalize ((ms.take k).map List.length).sum = S at *
      generalize ms[k].length = L at *
      go_wp2_with fail
      go_roundw
      case rel => exact ⟨k + 1, by omega, by go_num, by rw [HSN.out]; go_num, trivial⟩
      case measure => simp [intOf]; omega
    · have hkn : k = n := by omega
      have HFN := Lib.hid (show ((ms.take k).map List.length).sum = (ms.map List.length).sum by rw [hkn, HN.out, List.take_length])
      subst hkn
      go_wp2_with fail
      go_ret
      exact ⟨rt1 (congrArg (fun z : Nat => Value.int .i64 (z : Int)) HFN.out), rfl⟩
end Go.Proofs.YtfpihflepeiagaaGreatDoor
namespace Go.Proofs.YtfpihflepeiagaaGreatDoor
open Go.RowKit

theorem aw_machs : machsM awRows 1 = [machM awRows] := by
  unfold machsM
  rw [show List.range 1 = [0] from rfl, List.map_singleton, show ofRows ((0 : Nat) : Int) awRows = awRows from by kernel_rfl]
theorem aw_low : ∀ r ∈ awRows, 0 ≤ r.2.2 := by
  intro r hr
  simp only [awRows, List.mem_cons, List.not_mem_nil, or_false] at hr
  rcases hr with rfl | rfl <;> decide
theorem aw_rowsFit : RowsFit awRows := by
  refine ⟨by decide, fun r hr => ?_⟩
  simp only [awRows, List.mem_cons, List.not_mem_nil, or_false] at hr
  rcases hr with rfl | rfl <;> decide
theorem aw_sum : ((machsM awRows 1).map List.length).sum = 2 := by
  rw [aw_machs, List.map_singleton, List.sum_singleton]
  exact (awM_rows (r := awRows) rfl).1
theorem aw_pred1 : predictR (machsM awRows 1) 0 [0] = 1 := by rw [machs_predict aw_low]; decide
theorem aw_pred2 : predictR (machsM awRows 1) 0 [0, 0] = -1 := by rw [machs_predict aw_low]; decide
theorem aw_fits : ¬ BadK 1 gA → ∀ s rows, AheadO 1 gA (some s) → rows.Perm (rowsFrom 0 gA.2.2 s) → RowsFit rows ∧ FitR rows := by
  intro _ s rows ha hp
  have := ha.det aw_ahead
  injection this with this
  subst this
  rw [show gA.2.2 = gAr from rfl, gA_rows] at hp
  exact ⟨⟨by rw [hp.length_eq]; decide, fun r hr => aw_rowsFit.w r (hp.mem_iff.1 hr)⟩, fun r hr => aw_fit r (hp.mem_iff.1 hr)⟩
set_option maxRecDepth 100000 in
set_option maxHeartbeats 4000000 in
theorem awake26_any (w : World) (ht : TabP w) : Calls Tryz.prog 7 #[] w fun e w' => e = .returned (.bool true) ∧ Below w.heap.size w w' := by
  obtain ⟨W, hW⟩ : ∃ W, W = (awObjs w.heap.size).foldl World.alloc w := ⟨_, rfl⟩
  obtain ⟨hs, hbW, hg⟩ := aw_data w W hW
  have hq4 : W.heap[w.heap.size + 4]? = some (.cells #[.slice (some ⟨w.heap.size, 0, none⟩) 1 1, .slice (some ⟨w.heap.size + 1, 0, none⟩) 1 1, .slice (some ⟨w.heap.size + 3, 0, none⟩) 2 2] 25 (0, 0)) := by rw [hW]; exact heap_many _ w 4 _ rfl
  have r0 := cell_of_row W _ 0 _ _ _ hq4
  have r1 := cell_of_row W _ 1 _ _ _ hq4
  have r2 := cell_of_row W _ 2 _ _ _ hq4
  simp only [List.getElem?_toArray, List.getElem?_cons_succ, List.getElem?_cons_zero] at r0 r1 r2
  have HG := Lib.hid hg
  have HS := Lib.hid hs
  have HBW := Lib.hid hbW
  have HW := Lib.hid hW
  have HT := Lib.hid (ht.below hbW)
  clear hg hq4 hs hbW hW ht
  go_enter Tryz.func7, Tryz.ntmps7
  go_wp2_with fail
  change Calls _ _ _ ((awObjs w.heap.size).foldl World.alloc w) _
  rw [← HW.out]
  refine (make26_any 1 W HG.out (by decide) HT.out aw_fits).mono ?_
  rintro e w1 ⟨hb1, _, hgood⟩
  obtain ⟨o, ho, hout⟩ := hgood aw_bad
  have hoe := ho.det aw_ahead
  subst hoe
  rcases hout with ⟨hne, _⟩ | ⟨_, v, rows, rfl, hp, hsd, hown⟩
  · exact absurd gA_clash hne
  · have hre := aw_rows (show rows.Perm awRows by have := hp; rwa [show gA.2.2 = gAr from rfl, gA_rows] at this) hsd
    subst hre
    clear hp hsd ho hgood
    obtain ⟨A5, c5, rfl, hc5, hc5'⟩ := hown.form
    unfold maxLen at hc5'
    rw [machs_len] at hc5 hown ⊢
    have HR := Lib.hid hown
    have HB1 := Lib.hid hb1
    clear hown hb1 r0 r1 r2
    have HP1 := Lib.hid (fun (w' : World) (hb : Below w1.heap.size w1 w') => (show Calls Tryz.prog 12 #[.slice A5 1 c5, .int .i64 0, .string ⟨#[0]⟩] w' fun e w2 => e = .returned (.tuple #[.int .i64 1, .bool true]) ∧ Below w'.heap.size w' w2 from (predict_any _ _ 0 ⟨#[0]⟩ w' (HR.out.next hb hb.size) (by decide)).mono fun e w2 ⟨h1, h2⟩ => ⟨by rw [h1, show predictR (machsM awRows 1) 0 (⟨#[0]⟩ : ByteArray).data.toList = 1 from aw_pred1]; rfl, h2⟩))
    have HP2 := Lib.hid (fun (w' : World) (hb : Below w1.heap.size w1 w') => (show Calls Tryz.prog 12 #[.slice A5 1 c5, .int .i64 0, .string ⟨#[0, 0]⟩] w' fun e w2 => e = .returned (.tuple #[.int .i64 0, .bool false]) ∧ Below w'.heap.size w' w2 from (predict_any _ _ 0 ⟨#[0, 0]⟩ w' (HR.out.next hb hb.size) (by decide)).mono fun e w2 ⟨h1, h2⟩ => ⟨by rw [h1, show predictR (machsM awRows 1) 0 (⟨#[0, 0]⟩ : ByteArray).data.toList = -1 from aw_pred2]; rfl, h2⟩))
    go_wp2_with fail
    refine (HP1.out w1 (Below.refl _ _)).mono ?_
    rintro e w2 ⟨rfl, hb2⟩
    have HB2 := Lib.hid hb2
    clear hb2
    go_wp2_with fail
    refine (HP2.out w2 HB2.out).mono ?_
    rintro e w3 ⟨rfl, hb3⟩
    have HB3 := Lib.hid (HB2.out.trans (hb3.mono HB2.out.size))
    clear hb3
    have hR3 := HR.out.next HB3.out HB3.out.size
    have HST := Lib.hid (show Calls Tryz.prog 18 #[.slice A5 1 c5] w3 fun e w' => e = .returned (.int .i64 2) ∧ w' = w3 from (states26_any _ _ w3 hR3 (by rw [aw_sum]; decide)).mono fun e w2 ⟨h1, h2⟩ => ⟨by rw [h1, aw_sum]; rfl, h2⟩)
    rw [aw_machs] at hR3
    obtain ⟨b1, o1, cs, rfl, -, hb1, ⟨u, rfl, hu⟩, hcell⟩ := hR3.get (k := 0) (by decide) (by decide)
    obtain ⟨A4, e4, rfl, he1, he2⟩ := hu.form
    have d0 := hcell 0 _ rfl
    clear hcell hR3
    simp only [show (eSl eState).size = 1 from rfl, Nat.zero_mul, Nat.add_zero] at d0
    obtain ⟨hm1, hm2, hm3⟩ := awM_rows (r := awRows) rfl
    change w3.cell? _ = some (.slice A4 (machM awRows).length e4) at d0
    change SlR eState w3 _ (.slice A4 (machM awRows).length e4) (machM awRows) at hu
    change (machM awRows).length ≤ e4 at he1
    rw [hm1] at d0 hu he1
    obtain ⟨b2, o2, cs, rfl, -, hb2, hrep, hcell⟩ := hu.get (k := 0) (by omega) (by decide)
    obtain ⟨u0, rfl, -, -, -⟩ := eState_open hrep
    have f0 := hcell 0 _ rfl
    clear hcell hrep
    obtain ⟨b3, o3, cs, e3, -, hb3, hrep, hcell⟩ := hu.get (k := 1) (by omega) (by decide)
    obtain ⟨u1, rfl, -, -, -⟩ := eState_open hrep
    have f1 := hcell 0 _ rfl
    clear hcell hrep hu
    injection e3 with e3
    injection e3 with e31 e32 _
    subst e31 e32
    rw [outM_get (by omega)] at hm2 hm3
    rw [hm2] at f0
    rw [hm3] at f1
    simp only [show eState.size = 2 from rfl, Nat.zero_mul, Nat.one_mul, Nat.add_zero] at f0 f1
    clear hm1 hm2 hm3
    go_wp2_with fail
    refine HST.out.mono ?_
    rintro e w4 ⟨rfl, rfl⟩
    go_wp2_with fail
    go_ret
    exact ⟨rfl, HBW.out.trans ((HB1.out.trans (HB3.out.mono HB1.out.size)).mono (by have := HS.out; omega))⟩
end Go.Proofs.YtfpihflepeiagaaGreatDoor
namespace Go.Proofs.YtfpihflepeiagaaGreatDoor
open Go.RowKit

set_option maxHeartbeats 1600000 in
theorem out24_any (A : Option Addr) (c s : Nat) (m : Mach) (w : World) (hv : SlR eState w w.heap.size (.slice A m.length c) m) :
    Calls Tryz.prog 57 #[.slice A m.length c, .int .i64 s] w fun e w' => e = .returned (.int .i64 (outX m s)) ∧ w' = w := by
  have hc1 := hv.n_le
  have HV := Lib.hid hv
  clear hv
  obtain ⟨n, hn⟩ : ∃ n, n = m.length := ⟨_, rfl⟩
  have HN := Lib.hid hn
  rw [← hn] at hc1 HV ⊢
  clear hn
  by_cases hs : s < n
  · have hsm : s < m.length := by rw [← HN.out]; exact hs
    obtain ⟨b1, o1, cs, rfl, -, hb1, hrep, hcell⟩ := HV.out.get hsm (by decide)
    obtain ⟨u, rfl, hu, hz1, hz2⟩ := eState_open hrep
    have d0 := hcell 0 _ rfl
    clear hcell hrep hu
    simp only [show eState.size = 2 from rfl, Nat.add_zero] at d0
    have HO := Lib.hid (show outX m s = m[s].1 by unfold outX; rw [if_pos hsm, outM_get hsm])
    generalize m[s].1 = so at *
    have hd1 : decide ((s : Int) < 0) = false := by simp
    have hd2 : decide ((n : Int) ≤ (s : Int)) = false := by simp; omega
    clear hsm
    go_enter Tryz.func57, Tryz.ntmps57
    go_wp2_with fail
    all_goals first
      | (exfalso; omega)
      | (go_ret; exact ⟨rt1 (vint HO.out.symm), rfl⟩)
  · have HO := Lib.hid (show outX m s = -1 by unfold outX; rw [if_neg (by rw [← HN.out]; exact hs)])
    have hd2 : decide ((n : Int) ≤ (s : Int)) = true := by simp; omega
    go_enter Tryz.func57, Tryz.ntmps57
    go_wp2_with fail
    all_goals first
      | (exfalso; omega)
      | (go_ret; exact ⟨rt1 (vint HO.out.symm), rfl⟩)
def goR (m : Mch) (s t : Nat) : Int := if s < m.length then (match stepI m s t with | some j => ((j : Nat) : Int) | none => -1) else -1
theorem goR_none {m : Mch} {s t : Nat} (hs : s < m.length) (h : ∀ e ∈ edM m s, e.1 ≠ (t : Int)) : goR m s t = -1 := by
  unfold goR
  rw [if_pos hs]
  have : stepI m s t = none := by
    unfold stepI
    rw [List.find?_eq_none.2 fun e he => by simpa using h e he]
  rw [this]
theorem goR_some {m : Mch} (hg : GoodM m) {s t k : Nat} (hs : s < m.length) (hk : k < (edM m s).length) (h : (edM m s)[k].1 = (t : Int)) : goR m s t = (edM m s)[k].2 := by
  unfold goR
  rw [if_pos hs]
  have hto := hg.to s hs _ (List.getElem_mem hk)
  have : stepI m s t = some (edM m s)[k].2.toNat := (step_edge hg hs (t : Int) _).2 (by
    rw [show (((edM m s)[k].2.toNat : Nat) : Int) = (edM m s)[k].2 by omega, ← h]
    exact List.getElem_mem hk)
  rw [this]
  simp only
  omega
set_option maxRecDepth 100000 in
set_option maxHeartbeats 4000000 in
theorem go24_any (A : Option Addr) (c s t : Nat) (m : Mach) (w : World) (hv : SlR eState w w.heap.size (.slice A m.length c) m) (hg : GoodM m) :
    Calls Tryz.prog 58 #[.slice A m.length c, .int .i64 s, .int .i64 t] w fun e w' => e = .returned (.int .i64 (goR m s t)) ∧ w' = w := by
  have hc1 := hv.n_le
  have HV := Lib.hid hv
  have HG := Lib.hid hg
  clear hv hg
  obtain ⟨n, hn⟩ : ∃ n, n = m.length := ⟨_, rfl⟩
  have HN := Lib.hid hn
  rw [← hn] at hc1 HV ⊢
  clear hn
  by_cases hs : s < n
  · have hsm : s < m.length := by rw [← HN.out]; exact hs
    obtain ⟨b1, o1, cs, rfl, -, hb1, hrep, hcell⟩ := HV.out.get hsm (by decide)
    obtain ⟨u, rfl, hu, hz1, hz2⟩ := eState_open hrep
    obtain ⟨A4, e4, rfl, he1, he2⟩ := hu.form
    unfold maxLen at he2
    have d1 := hcell 1 _ rfl
    clear hcell hrep
    simp only [show eState.size = 2 from rfl, ← Nat.add_assoc] at d1
    have HED := Lib.hid (edM_get hsm)
    have HTO := Lib.hid (HG.out.to s hsm)
    have HU := Lib.hid hu
    obtain ⟨se, hse⟩ : ∃ se, se = m[s].2 := ⟨_, rfl⟩
    rw [← hse] at d1 HED HU he1
    clear hse hu hz1 hz2
    obtain ⟨q, hq⟩ : ∃ q, q = se.length := ⟨_, rfl⟩
    have HQ := Lib.hid hq
    rw [← hq] at d1 he1 HU
    clear hq
    have HSM := Lib.hid hsm
    clear hsm
    have hd2 : decide ((n : Int) ≤ (s : Int)) = false := by simp; omega
    go_enter Tryz.func58, Tryz.ntmps58
    go_wp2_with fail
    go_loopw [7] (fun v7 wr => ∃ k : Nat, k ≤ q ∧ v7 = .int .i64 k ∧ wr = w ∧ Hid (∀ e ∈ se.take k, e.1 ≠ (t : Int))) (fun v7 _ => q - (intOf v7).toNat)
    case atStart => exact ⟨0, by omega, rfl, rfl, fun e he => by simp at he⟩
    case round =>
      obtain ⟨k, hk, rfl, rfl, HNO⟩ := hrel
      by_cases hlt : k < q
      · have hkl : k < se.length := by rw [← HQ.out]; exact hlt
        obtain ⟨b2, o2, cs, rfl, -, hb2, hrep, hcell⟩ := HU.out.get hkl (by decide)
        obtain ⟨rfl, hy1, hy2, hy3, hy4⟩ := eEdge_open hrep
        have f0 := hcell 0 _ rfl
        have f1 := hcell 1 _ rfl
        clear hcell hrep
        simp only [show eEdge.size = 2 from rfl, Nat.add_zero, ← Nat.add_assoc] at f0 f1
        have hto := HTO.out se[k] (by rw [HED.out]; exact List.getElem_mem hkl)
        have hkm : k < (edM m s).length := by rw [HED.out]; exact hkl
        have hem : (edM m s)[k] = se[k] := by simp only [HED.out]
        have HSO := Lib.hid (fun h => goR_some HG.out HSM.out hkm (t := t) h)
        rw [hem] at HSO
        have HTK := Lib.hid (List.take_succ_eq_append_getElem hkl)
        rw [← HN.out] at hto
        obtain ⟨e, he⟩ : ∃ e, e = se[k] := ⟨_, rfl⟩
        rw [← he] at f0 f1 hy1 hy2 hy3 hy4 hto HSO HTK
        clear he hkm hem
        obtain ⟨et, en⟩ := e
        simp only at f0 f1 hy1 hy2 hy3 hy4 hto HSO
        obtain ⟨ht0, ht1, ht2⟩ := hto
        by_cases het : et = (t : Int)
        · have HR := Lib.hid (HSO.out het)
          subst het
          have hd3 : decide (0 ≤ en) = true := by simpa using ht1
          have hd4 : decide (en < (n : Int)) = true := by simpa using ht2
          go_wp2_with fail
          all_goals first
            | (exfalso; omega)
            | (go_ret; exact ⟨rt1 (vint HR.out.symm), rfl⟩)
        · have hd3 : (et == (t : Int)) = false := by simpa using het
          have HNE := Lib.hid het
          clear het
          go_wp2_with fail
          go_roundw
          case rel =>
            refine ⟨k + 1, by omega, by go_num, trivial, ?_⟩
            intro e he
            rw [HTK.out, List.mem_append, List.mem_singleton] at he
            rcases he with he | rfl
            · exact HNO.out e he
            · exact HNE.out
          case measure => simp [intOf]; omega
      · have hkq : k = q := by omega
        have HR := Lib.hid (goR_none (m := m) (t := t) HSM.out fun e he => HNO.out e (by
          rw [HED.out] at he
          rw [hkq, HQ.out, List.take_length]
          exact he))
        subst hkq
        go_wp2_with fail
        go_ret
        exact ⟨rt1 (vint HR.out.symm), rfl⟩
  · have HO := Lib.hid (show goR m s t = -1 by unfold goR; rw [if_neg (by rw [← HN.out]; exact hs)])
    have hd2 : decide ((n : Int) ≤ (s : Int)) = true := by simp; omega
    go_enter Tryz.func58, Tryz.ntmps58
    go_wp2_with fail
    all_goals first
      | (exfalso; omega)
      | (go_ret; exact ⟨rt1 (vint HO.out.symm), rfl⟩)
end Go.Proofs.YtfpihflepeiagaaGreatDoor
namespace Go.Proofs.YtfpihflepeiagaaGreatDoor
open Go.RowKit

def ReachTo (w : World) (n : Nat) (e : Ending) (w' : World) : Prop := ∃ x M, e = .returned (.slice (some ⟨x, 0, none⟩) n n) ∧ BoolsAt w' x M ∧ M.length = n ∧ (∀ k < n, atB M k = true) ∧ w.heap.size ≤ x ∧ Below w.heap.size w w'
def MetBy (m : Mch) (M : List Bool) (i : Nat) : Prop := ∀ k < m.length, (k = 0 ∨ ∃ p < i, ∃ t, (t, (k : Int)) ∈ edM m p) → atB M k = true
set_option maxRecDepth 100000 in
set_option maxHeartbeats 4000000 in
theorem reached24_any (A : Option Addr) (c : Nat) (m : Mach) (w : World) (hv : SlR eState w w.heap.size (.slice A m.length c) m) (hg : GoodM m) (hl : m.length ≤ 2199023255552) (hnew : ∀ k, 0 < k → k < m.length → ∃ p < k, ∃ t, (t, (k : Int)) ∈ edM m p) :
    Calls Tryz.prog 33 #[.slice A m.length c] w (ReachTo w m.length) := by
  have hc1 := hv.n_le
  have HV := Lib.hid hv
  have HG := Lib.hid hg
  have HNW := Lib.hid hnew
  clear hv hg hnew
  obtain ⟨n, hn⟩ : ∃ n, n = m.length := ⟨_, rfl⟩
  have HN := Lib.hid hn
  rw [← hn] at hc1 HV hl HNW ⊢
  clear hn
  have hpos : 0 < n := by rw [HN.out]; exact List.length_pos_iff.2 HG.out.some
  have hmk := bool_makeL n hl w
  have hz : ((n : Int) == 0) = false := by simp; omega
  have hx0 := Go.heap_alloc_new w (.cells ((List.replicate n false).map Value.bool).toArray 4)
  have HX0 := Lib.hid (show BoolsAt (w.alloc (.cells ((List.replicate n false).map Value.bool).toArray 4)) w.heap.size (List.replicate n false) from hx0)
  have HB0 := Lib.hid (show Below w.heap.size w (w.alloc (.cells ((List.replicate n false).map Value.bool).toArray 4)) from (Below.refl _ _).alloc (Nat.le_refl _) _)
  clear hx0
  obtain ⟨c0, cf⟩ := HX0.out.at_ (k := 0) (by simpa using hpos)
  go_enter Tryz.func33, Tryz.ntmps33
  generalize hw1 : w.alloc (.cells ((List.replicate n false).map Value.bool).toArray 4) = w1 at *
  go_wp2_with fail
  have HX1 := Lib.hid (HX0.out.set 0 true)
  have HB1 := Lib.hid (HB0.out.setCell (p := ⟨w.heap.size, 0, none⟩) (Nat.le_refl _) (.bool true))
  have HM1 := Lib.hid (show atB ((List.replicate n false).set 0 true) 0 = true by simp [atB, hpos])
  have HL1 := Lib.hid (show ((List.replicate n false).set 0 true).length = n by simp)
  generalize (List.replicate n false).set 0 true = M1 at *
  generalize w1.setCell ⟨w.heap.size, 0, none⟩ (.bool true) = w2 at *
  obtain ⟨x, hx⟩ : ∃ x, x = w.heap.size := ⟨_, rfl⟩
  have HXX := Lib.hid (show w.heap.size ≤ x by omega)
  rw [← hx] at HX1 ⊢
  clear hx c0 cf HX0 HB0 hw1 hmk
  go_loopw [4] (fun v4 wr => ∃ (r : Nat) (M : List Bool), r ≤ n ∧ v4 = .int .i64 r ∧ Hid (BoolsAt wr x M) ∧ M.length = n ∧ Hid (atB M 0 = true) ∧ Hid (0 < r → ∀ k < n, atB M k = true) ∧ Hid (Below w.heap.size w wr)) (fun v4 _ => n - (intOf v4).toNat)
  case atStart => exact ⟨0, M1, by omega, rfl, HX1.out, HL1.out, HM1.out, fun h => by omega, HB1.out⟩
  case round =>
    clear HX1 HB1 HM1 HL1
    obtain ⟨r, M, hr, rfl, HX, hML, HM0, HALL, HB⟩ := hrel
    have HML := Lib.hid hML
    clear hML
    by_cases hlt : r < n
    · go_wp2_with fail
      go_loopw [5] (fun v5 wt => ∃ (i : Nat) (M : List Bool), i ≤ n ∧ v5 = .int .i64 i ∧ Hid (BoolsAt wt x M) ∧ Hid (M.length = n) ∧ Hid (MetBy m M i) ∧ Hid (Below w.heap.size w wt)) (fun v5 _ => n - (intOf v5).toNat)
      case atStart => exact ⟨0, M, by omega, rfl, HX.out, HML.out, fun k hk h => by
        rcases h with rfl | ⟨p, hp, _⟩
        · exact HM0.out
        · omega, HB.out⟩
      case round =>
        clear HX HML HM0 HALL HB
        obtain ⟨i, M2, hi, rfl, HX, HML, HMB, HB⟩ := hrel
        by_cases hin : i < n
        · have him : i < m.length := by rw [← HN.out]; exact hin
          have HSET := Lib.hid (show ∀ M3 : List Bool, MetBy m M3 i → atB M3 i = true from fun M3 h3 => h3 i him (by
            rcases Nat.eq_zero_or_pos i with h | h
            · exact .inl h
            · obtain ⟨p, hp, t, ht⟩ := HNW.out i h hin
              exact .inr ⟨p, hp, t, ht⟩))
          have HED := Lib.hid (edM_get him)
          have HTO := Lib.hid (HG.out.to i him)
          go_wp2_with fail
          go_loopw [6] (fun v6 wu => ∃ (k : Nat) (M : List Bool), k ≤ m[i].2.length ∧ v6 = .int .i64 k ∧ Hid (BoolsAt wu x M) ∧ Hid (M.length = n) ∧ Hid (MetBy m M i) ∧ Hid (∀ e ∈ (edM m i).take k, atB M e.2.toNat = true) ∧ Hid (Below w.heap.size w wu)) (fun v6 _ => m[i].2.length - (intOf v6).toNat)
          case atStart => exact ⟨0, M2, by omega, rfl, HX.out, HML.out, HMB.out, fun e he => by simp at he, HB.out⟩
          case round =>
            clear HX HML HMB HB
            obtain ⟨k, M3, hk, rfl, HX, HML, HMB, HES, HB⟩ := hrel
            obtain ⟨b1, o1, cs, rfl, -, hb1, hrep, hcell⟩ := (HV.out.below HB.out).get him (by decide)
            obtain ⟨u, rfl, hu, hz1, hz2⟩ := eState_open hrep
            obtain ⟨A4, e4, rfl, he1, he2⟩ := hu.form
            unfold maxLen at he2
            have d1 := hcell 1 _ rfl
            clear hcell hrep
            simp only [show eState.size = 2 from rfl, ← Nat.add_assoc] at d1
            have gi := (HX.out.at_ (k := i) (by rw [HML.out]; exact hin)).1
            rw [HSET.out M3 HMB.out] at gi
            have HU := Lib.hid hu
            clear hu hz1 hz2
            by_cases hlk : k < m[i].2.length
            · obtain ⟨b2, o2, cs, rfl, -, hb2, hrep, hcell⟩ := HU.out.get hlk (by decide)
              obtain ⟨rfl, hy1, hy2, hy3, hy4⟩ := eEdge_open hrep
              have f1 := hcell 1 _ rfl
              clear hcell hrep
              simp only [show eEdge.size = 2 from rfl, ← Nat.add_assoc] at f1
              have hto := HTO.out m[i].2[k] (by rw [HED.out]; exact List.getElem_mem hlk)
              have HTK := Lib.hid (show (edM m i).take (k + 1) = (edM m i).take k ++ [m[i].2[k]] by rw [HED.out]; exact List.take_succ_eq_append_getElem hlk)
              rw [← HN.out] at hto
              obtain ⟨e, he⟩ : ∃ e, e = m[i].2[k] := ⟨_, rfl⟩
              rw [← he] at f1 hy3 hy4 hto HTK
              clear he hy1 hy2
              obtain ⟨et, en0⟩ := e
              simp only at f1 hy3 hy4 hto
              obtain ⟨en, rfl⟩ : ∃ en : Nat, en0 = (en : Int) := ⟨en0.toNat, by omega⟩
              have hen : en < n := by omega
              obtain ⟨gn, gf⟩ := HX.out.at_ (k := en) (by rw [HML.out]; exact hen)
              have HX2 := Lib.hid (HX.out.set en true)
              have HB2 := Lib.hid (HB.out.setCell (p := ⟨x, en, none⟩) HXX.out (.bool true))
              have hd4 : decide ((en : Int) < (n : Int)) = true := by simpa using hen
              have hL : m[i].2.length ≤ 9223372036854775807 := by omega
              generalize m[i].2.length = q at *
              go_wp2_with fail
              all_goals first
                | (exfalso; omega)
                | (go_roundw
                   case rel =>
                     refine ⟨k + 1, M3.set en true, by omega, by go_num, HX2.out, by show _ = _; rw [List.length_set]; exact HML.out, fun j hj h => atB_set_mono (HMB.out j hj h), ?_, HB2.out⟩
                     intro e he
                     rw [HTK.out, List.mem_append, List.mem_singleton] at he
                     rcases he with he | rfl
                     · exact atB_set_mono (HES.out e he)
                     · show atB (M3.set en true) en = true
                       have hen2 : en < M3.length := by rw [HML.out]; exact hen
                       simp [atB, hen2]
                   case measure => simp [intOf]; omega)
            · have hkq : k = m[i].2.length := by omega
              have HMN := Lib.hid (show MetBy m M3 (i + 1) from fun j hj h => by
                by_cases h2 : j = 0 ∨ ∃ p < i, ∃ t, (t, (j : Int)) ∈ edM m p
                · exact HMB.out j hj h2
                · rcases h with h | ⟨p, hp, t, ht⟩
                  · exact absurd (.inl h) h2
                  · have hpi : p = i := by
                      rcases Nat.lt_or_ge p i with h3 | h3
                      · exact absurd (.inr ⟨p, h3, t, ht⟩) h2
                      · omega
                    subst hpi
                    have := HES.out (t, (j : Int)) (by rw [hkq, HED.out, List.take_length, ← HED.out]; exact ht)
                    simpa using this)
              generalize m[i].2.length = q at *
              subst hkq
              clear HES HMB
              go_wp2_with fail
              go_roundw
              case rel => exact ⟨i + 1, M3, by omega, by go_num, HX.out, HML.out, HMN.out, HB.out⟩
              case measure => simp [intOf]; omega
        · have hie : i = n := by omega
          subst hie
          have HA2 := Lib.hid (show ∀ k < i, atB M2 k = true from fun k hk => HMB.out k (by rw [← HN.out]; exact hk) (by
            rcases Nat.eq_zero_or_pos k with h | h
            · exact .inl h
            · obtain ⟨p, hp, t, ht⟩ := HNW.out k h hk
              exact .inr ⟨p, by omega, t, ht⟩))
          clear HMB
          go_wp2_with fail
          go_roundw
          case rel => exact ⟨r + 1, M2, by omega, by go_num, HX.out, HML.out, HA2.out 0 hpos, fun _ => HA2.out, HB.out⟩
          case measure => simp [intOf]; omega
    · have hrn : r = n := by omega
      subst hrn
      go_wp2_with fail
      go_ret
      exact ⟨x, M, rfl, HX.out, HML.out, HALL.out hpos, HXX.out, HB.out⟩
end Go.Proofs.YtfpihflepeiagaaGreatDoor
namespace Go.Proofs.YtfpihflepeiagaaGreatDoor
open Go.RowKit

end Go.Proofs.YtfpihflepeiagaaGreatDoor
