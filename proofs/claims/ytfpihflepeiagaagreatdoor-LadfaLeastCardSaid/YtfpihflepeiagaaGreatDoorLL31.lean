/- Texts of this proof joined: Mach26, Ladfa2, NamesM, Same26. -/
import Derived.Test.YtfpihflepeiagaaGreatDoorLL30
import Derived.Test.YtfpihflepeiagaaGreatDoorLL21
import Derived.Deep.LoopGhost
namespace Go.Proofs.YtfpihflepeiagaaGreatDoor

theorem fronts_all (rows : List Row) : ∃ F, Fronts rows F ∧ F.length ≤ (begWs rows).length + 1 := by
  have hd : ∀ a b, Decidable (slLt a b) := fun a b => Classical.propDecidable _
  refine ⟨(frontsOf (begWs rows)).mergeSort (fun a b => @decide (¬ slLt b a) (@instDecidableNot _ (hd b a))), ?_, ?_⟩
  · refine fronts_sorted (List.mergeSort_perm _ _) ?_
    refine (List.pairwise_mergeSort (le := fun a b => @decide (¬ slLt b a) (@instDecidableNot _ (hd b a))) ?_ ?_ _).imp ?_
    · intro a b c h1 h2
      simp only [decide_eq_true_eq] at h1 h2 ⊢
      intro h3
      rcases slLt_tri a b with h | h | h
      · exact h2 (slLt_trans h3 h)
      · subst h; exact h2 h3
      · exact h1 h
    · intro a b
      simp only [Bool.or_eq_true, decide_eq_true_eq]
      by_cases h : slLt b a
      · exact .inr (slLt_asymm h)
      · exact .inl h
    · intro a b h
      simpa only [decide_eq_true_eq] using h
  · rw [(List.mergeSort_perm _ _).length_eq]
    exact (frontsOf_ok (begWs rows)).2.2
theorem begWs_len (rows : List Row) (n : Nat) (h : ∀ r ∈ rows, r.2.1.length ≤ n) : (begWs rows).length ≤ rows.length * (n + 1) := by
  unfold begWs begs
  rw [List.length_map]
  induction rows with
  | nil => simp
  | cons r l ih =>
    have := ih fun x hx => h x (List.mem_cons_of_mem _ hx)
    have h1 := h r (List.mem_cons_self ..)
    rw [List.flatMap_cons, List.length_append, List.length_cons, Nat.succ_mul]
    have : (begOf r).length = r.2.1.length + 1 := by simp [begOf]
    omega
theorem tree_fronts (rows : List Row) : Fronts rows (theFronts rows) := by
  obtain ⟨F, hF, _⟩ := fronts_all rows
  rw [theFronts_eq hF]
  exact hF
theorem tree_len (rows : List Row) (n : Nat) (h : ∀ r ∈ rows, r.2.1.length ≤ n) : (treeM rows).length ≤ rows.length * (n + 1) + 1 := by
  obtain ⟨F, hF, hl⟩ := fronts_all rows
  unfold treeM
  rw [trie_len, theFronts_eq hF]
  have := begWs_len rows n h
  omega
theorem mini_len {m : Mch} (h : validM m 9223372036854775807 = true) : (miniM m).length ≤ m.length := by
  have hg := valid_good h
  have hp := List.length_pos_iff.2 hg.some
  unfold miniM
  rw [if_pos h]
  by_cases h0 : useB m 0 = true
  · rw [if_pos h0]
    have hb := bfs_ok hg (useB_is m) (alikeB_is m) ((useB_iff m 0).1 h0) m.length
    have h2 : (bfsM m m.length).2.length = min m.length (bfsM m m.length).1.length := hb.len
    omega
  · rw [if_neg h0]
    exact hp
section
variable {rows : List Row} (hr : ∀ r ∈ rows, 0 ≤ r.2.2)
include hr
theorem tree_valid : validM (treeM rows) 9223372036854775807 = true := trie_valid (tree_fronts rows) hr
theorem mach_least : LeastM (treeM rows) (machM rows) := mini_least (tree_valid hr)
theorem mach_tell (l : Wd) : tellM (machM rows) 0 (byI l) = outOf rows l := by
  rw [(mach_least hr).tell, show treeM rows = trieM rows (theFronts rows) from rfl, trie_tell (tree_fronts rows) hr]
theorem mach_term {n : Nat} (hb : ∀ r ∈ rows, ∀ c ∈ r.2.1, c.toNat < n) : ∀ k < (machM rows).length, ∀ e ∈ edM (machM rows) k, e.1 < (n : Int) :=
  least_term (mach_least hr) (trie_term (tree_fronts rows) hb)
theorem mach_len (n : Nat) (h : ∀ r ∈ rows, r.2.1.length ≤ n) : (machM rows).length ≤ rows.length * (n + 1) + 1 :=
  Nat.le_trans (mini_len (tree_valid hr)) (tree_len rows n h)
end
theorem runS_I (m : Mach) : ∀ (l : Wd) (k : Nat), runS m k l = runI m k (byI l)
  | [], _ => rfl
  | b :: r, k => by
    show (match stepM m k (b.toNat : Int) with | some j => runS m j r | none => none) = (match stepI m k (b.toNat : Int) with | some j => runI m j (byI r) | none => none)
    rw [show stepM m k (b.toNat : Int) = stepI m k (b.toNat : Int) from rfl]
    cases stepI m k (b.toNat : Int) with
    | none => rfl
    | some j => exact runS_I m r j
theorem run_tell {m : Mach} (hm : m ≠ []) (l : Wd) : runM m l = tellM m 0 (byI l) := by
  unfold runM tellM
  rw [if_neg hm, runS_I]
  rfl
def saysL (rows : List Row) (n : Nat) (left : Int) (l : Wd) : Int := if 0 ≤ left ∧ left < n then outOf (ofRows left rows) l else -1
theorem machs_len (rows : List Row) (n : Nat) : (machsM rows n).length = n := by simp [machsM]
theorem machs_get (rows : List Row) {n k : Nat} (hk : k < n) : (machsM rows n)[k]? = some (machM (ofRows (k : Int) rows)) := by
  unfold machsM
  rw [List.getElem?_map, List.getElem?_range hk]
  rfl
theorem ofRows_low {rows : List Row} (hr : ∀ r ∈ rows, 0 ≤ r.2.2) (left : Int) : ∀ r ∈ ofRows left rows, 0 ≤ r.2.2 := fun r h => hr r (List.mem_filter.1 h).1
theorem machs_predict {rows : List Row} (hr : ∀ r ∈ rows, 0 ≤ r.2.2) (n : Nat) (left : Int) (l : Wd) : predictR (machsM rows n) left l = saysL rows n left l := by
  unfold predictR saysL
  rw [machs_len]
  by_cases h : 0 ≤ left ∧ left < n
  · rw [if_pos h, if_pos h]
    obtain ⟨k, rfl⟩ : ∃ k : Nat, left = k := ⟨left.toNat, by omega⟩
    rw [Int.toNat_natCast, List.getD_eq_getElem?_getD, machs_get rows (by omega : k < n)]
    show runM (machM _) l = _
    rw [run_tell (mach_least (ofRows_low hr k)).good.some, mach_tell (ofRows_low hr k)]
  · rw [if_neg h, if_neg h]
theorem awM_rows {r : List Row} (h : r = [(0, [], 0), (0, [0], 1)]) : (machM r).length = 2 ∧ outM (machM r) 0 = 0 ∧ outM (machM r) 1 = 1 := by
  have hr : ∀ x ∈ r, 0 ≤ x.2.2 := by
    subst h
    intro x hx
    simp only [List.mem_cons, List.not_mem_nil, or_false] at hx
    rcases hx with rfl | rfl <;> decide
  have hb : ∀ x ∈ r, ∀ c ∈ x.2.1, c.toNat < 1 := by
    subst h
    intro x hx c hc
    simp only [List.mem_cons, List.not_mem_nil, or_false] at hx
    rcases hx with rfl | rfl
    · simp at hc
    · simp only [List.mem_cons, List.not_mem_nil, or_false] at hc
      subst hc
      decide
  have hL := mach_least hr
  have hT := mach_term hr hb
  have htell := mach_tell hr
  have o0 : outOf r [] = 0 := by subst h; decide
  have o1 : outOf r [0] = 1 := by subst h; decide
  have o2 : ∀ l : Wd, outOf r (0 :: 0 :: l) = -1 := by subst h; intro l; rw [outOf_low hr]; simp
  have hg := hL.good
  have hp := List.length_pos_iff.2 hg.some
  generalize machM r = M at *
  have t0 : outM M 0 = 0 := by rw [← tellM_nil, ← o0]; exact htell []
  have t1 : tellM M 0 [0] = 1 := by rw [← o1]; exact htell [0]
  -- all edges are of terminal 0
  have h0 : ∀ k < M.length, ∀ e ∈ edM M k, e.1 = 0 := fun k hk e he => by
    have h1 := (hg.tos k hk e he).1
    have h2 := hT k hk e he
    omega
  -- from the first state one goes to state j
  obtain ⟨j, hj⟩ : ∃ j, stepI M 0 0 = some j := by
    rw [tellM_cons] at t1
    cases h : stepI M 0 0 with
    | none => rw [h] at t1; cases t1
    | some j => exact ⟨j, rfl⟩
  have hjl := step_lt hj
  have tj : outM M j = 1 := by
    have := t1
    rw [tellM_cons, hj] at this
    exact this
  have hj0 : j ≠ 0 := fun e => by rw [e, t0] at tj; cases tj
  -- from there nothing is told behind one more
  have tjj : ∀ i, stepI M j 0 = some i → ∀ l : List Int, (∀ b ∈ l, b = 0) → tellM M i l = -1 := fun i hi l hl => by
    obtain ⟨w, rfl⟩ : ∃ w : Wd, l = byI w := ⟨List.replicate l.length 0, by
      unfold byI
      rw [List.map_replicate]
      exact List.eq_replicate_iff.2 ⟨rfl, hl⟩⟩
    have h1 := htell (0 :: 0 :: w)
    rw [o2] at h1
    have h2 : byI (0 :: 0 :: w) = (0 : Int) :: (0 : Int) :: byI w := rfl
    rw [h2, tellM_cons, hj] at h1
    simp only at h1
    rw [tellM_cons, hi] at h1
    exact h1
  -- what is told is told of words of zeros alone
  have hz : ∀ (l : List Int) (k : Nat), k < M.length → tellM M k l ≠ -1 → ∀ b ∈ l, b = 0 := by
    intro l
    induction l with
    | nil => intro k _ _ b hb; cases hb
    | cons c l ih =>
      intro k hk ht b hb
      rw [tellM_cons] at ht
      cases hs : stepI M k c with
      | none => rw [hs] at ht; exact absurd rfl ht
      | some i =>
        rw [hs] at ht
        have he := (step_edge hg hk c i).1 hs
        rcases List.mem_cons.1 hb with rfl | hb
        · exact h0 k hk _ he
        · exact ih i (step_lt hs) ht b hb
  have hj1 : j = 1 := by
    have h1l : 1 < M.length := by omega
    obtain ⟨p, hp1, t, ht⟩ := hL.new 1 (by omega) h1l
    have hp0 : p = 0 := by omega
    subst hp0
    have h3 := h0 0 hp _ ht
    simp only at h3
    subst h3
    have h4 := (step_edge hg hp 0 1).2 ht
    rw [hj] at h4
    injection h4
  subst hj1
  refine ⟨?_, t0, tj⟩
  rcases Nat.lt_or_ge 2 M.length with h2l | h2l
  · exfalso
    obtain ⟨p, hp1, t, ht⟩ := hL.new 2 (by omega) h2l
    have h3 := h0 p (by omega) _ ht
    simp only at h3
    subst h3
    have h4 := (step_edge hg (by omega) 0 2).2 ht
    have hp2 : p = 1 := by
      rcases Nat.lt_or_ge p 1 with h5 | h5
      · have : p = 0 := by omega
        subst this
        rw [hj] at h4
        injection h4 with h4
        cases h4
      · omega
    subst hp2
    obtain ⟨l, hl⟩ := hL.tells 2 (by omega) h2l
    exact hl (tjj 2 h4 l (hz l 2 h2l hl))
  · omega
end Go.Proofs.YtfpihflepeiagaaGreatDoor
namespace Go.Proofs.YtfpihflepeiagaaGreatDoor
open Go.RowKit

theorem mach_app : AppTy Tryz.prog 28 45 1 24 (.slice none 0 0) := appTy (by kernel_rfl) (by kernel_rfl) rfl (by omega)
def MachsTo (ms : List Mch) (w : World) (e : Ending) (w' : World) : Prop := ∃ v, e = .returned v ∧ SlR (eSl eState) w' w'.heap.size v ms ∧ Below w.heap.size w w'
set_option maxRecDepth 100000 in
set_option maxHeartbeats 4000000 in
theorem each_any (F : FuncId) (cap : Array Value) (n : Nat) (f : Nat → Mch) (w : World) (hn : n ≤ 1099511627776) (hF : ∀ (args : Array Value) (w : World), (callFunc F args).run Tryz.prog w = .ok (.enter F args) w)
    (hc : ∀ left < n, ∀ W, Below w.heap.size w W → Calls Tryz.prog F (#[.int .i64 (left : Nat)] ++ cap) W (MachTo (f left) W)) :
    Calls Tryz.prog 28 #[.int .i64 n, .func (.func F) #[] cap] w (MachsTo ((List.range n).map f) w) := by
  have HC := Lib.hid hc
  clear hc
  go_enter Tryz.func28, Tryz.ntmps28
  go_wp2_with fail
  go_loopw [8, 5] (fun v8 v5 wr => ∃ (k : Nat) (vs : List Value), k ≤ n ∧ v8 = .int .i64 k ∧ vs.length = k ∧ Hid (EachI wr w.heap.size v5 vs ((List.range k).map f)) ∧ Hid (Below w.heap.size w wr)) (fun v8 _ _ => n - (intOf v8).toNat)
  case atStart => exact ⟨0, [], by omega, rfl, rfl, EachI.nil _ _, Below.refl _ _⟩
  case round =>
    obtain ⟨k, vs, hk, rfl, hvk, HE, HB⟩ := hrel
    obtain ⟨A5, c5, rfl, hl5, hl6⟩ := own_form HE.out.row
    unfold maxLen at hl6
    have HVK := Lib.hid hvk
    clear hvk
    by_cases hlt : k < n
    · go_wp2_with fail
      refine (HC.out k hlt wr HB.out).mono ?_
      rintro e w1 ⟨vm, rfl, hm, hb1⟩
      obtain ⟨Am, cm, rfl, hm1, hm2⟩ := (hm w1 fun _ _ _ => rfl).form
      have HM := Lib.hid hm
      have HB1 := Lib.hid hb1
      have hvl : vs.length ≤ n := by rw [HVK.out]; omega
      have hbz := HB1.out.size
      have hbz2 := HB.out.size
      have HE1 := Lib.hid (HE.out.below hb1)
      clear hm hb1
      go_wp2_with (refine stop_at (some 16) rfl ?_)
      refine Stop.go (wpList_app (m := 1) (n := vs.length) mach_app rfl rfl rfl rfl (HE1.out.row.alloc _) (Rd.row (B := w1.heap.size + 1) (Go.heap_alloc_new w1 _) (by omega)) rfl (by simp [Value.oneCell']) ?h63 ?hby ?hbase ?_)
      case h63 => simp only [maxLen]; omega
      case hby => omega
      case hbase => rw [World.size_alloc]; omega
      intro v2 w2 hown2 hg2 hob2 _
      have HE2 := Lib.hid (HE.out.snoc HB1.out HM.out (.cells #[.slice Am (f k).length cm] 45) hown2 hg2 hob2)
      have HB2 := Lib.hid (grown_below ((HB.out.trans (HB1.out.mono HB.out.size)).alloc (by omega) (.cells #[.slice Am (f k).length cm] 45)) hg2 (HE1.out.row.alloc _) (Nat.le_refl _) (by rw [World.size_alloc]; omega))
      clear hown2 hg2 hob2
      go_wp2_with fail
      go_roundw
      case rel =>
        refine ⟨k + 1, vs ++ [.slice Am (f k).length cm], by omega, by go_num, by rw [List.length_append, HVK.out]; rfl, ?_, HB2.out⟩
        show EachI _ _ _ _ _
        rw [List.range_succ, List.map_append]
        exact HE2.out
      case measure => simp [intOf]; omega
    · have hkn : k = n := by omega
      subst hkn
      go_wp2_with fail
      go_ret
      exact ⟨_, rfl, HE.out.sl, HB.out⟩
set_option maxRecDepth 100000 in
set_option maxHeartbeats 4000000 in
theorem of26_any {A1 A2 A3 Ar : Option Addr} {n m q c1 c2 c3 nr cr : Nat} (rows : List Row) (w : World) (hv : SlR eRow w w.heap.size (.slice Ar nr cr) rows) (hf : RowsFit rows) (hn : n ≤ 1099511627776) (ht : TabP w) :
    Calls Tryz.prog 13 #[gramV A1 A2 A3 n m q c1 c2 c3, .slice Ar nr cr] w (MachsTo (machsM rows n) w) := by
  have HV := Lib.hid hv
  have HF := Lib.hid hf
  have HT := Lib.hid ht
  have hb3 := Go.heap_alloc_new (w.alloc (.cells #[.slice A1 n c1, .slice A2 m c2, .slice A3 q c3] 25)) (.cells #[.slice Ar nr cr] 41)
  rw [World.size_alloc] at hb3
  have HB3 := Lib.hid hb3
  have HBW := Lib.hid (show Below w.heap.size w ((w.alloc (.cells #[.slice A1 n c1, .slice A2 m c2, .slice A3 q c3] 25)).alloc (.cells #[.slice Ar nr cr] 41)) from ((Below.refl _ _).alloc (Nat.le_refl _) _).alloc (by rw [World.size_alloc]; omega) _)
  clear hv hf ht hb3
  unfold gramV
  go_enter Tryz.func13, Tryz.ntmps13
  go_wp2_with fail
  generalize (w.alloc (.cells #[.slice A1 n c1, .slice A2 m c2, .slice A3 q c3] 25)).alloc (.cells #[.slice Ar nr cr] 41) = wq at *
  have hcl : w.heap.size + 1 < wq.heap.size := (Array.getElem?_eq_some_iff.1 HB3.out).1
  refine (each_any 29 #[.pointer (some ⟨w.heap.size + 1, 0, none⟩)] n (fun left => machM (ofRows ((left : Nat) : Int) rows)) wq hn (fun _ _ => by kernel_rfl) (fun left _ W hb => ?_)).mono ?_
  · have hW := HBW.out.trans (hb.mono HBW.out.size)
    exact of1_any (.slice Ar nr cr) rows (w.heap.size + 1) left W (HV.out.fut hW (Nat.le_refl _) hW.size) HF.out (cell0 (t := 41) ((hb.block _ hcl).trans HB3.out)) (HT.out.below hW)
  rintro e w1 ⟨v, rfl, hs, hb1⟩
  have HS := Lib.hid hs
  have HB1 := Lib.hid (HBW.out.trans (hb1.mono HBW.out.size))
  clear hs hb1
  go_wp2_with fail
  go_ret
  exact ⟨_, rfl, HS.out, HB1.out⟩
def MachOut (n : Nat) (g : Gram) (w' : World) (o : Option Sets) (e : Ending) : Prop :=
  match o with
  | none => e = .returned (.tuple #[.slice none 0 0, .slice none 0 0, .int .i64 21])
  | some s => (clashW g.2.2 n s ≠ [] ∧ ∃ A c, e = .returned (.tuple #[.slice none 0 0, .slice A (clashW g.2.2 n s).length c, .int .i64 20])) ∨
    (clashW g.2.2 n s = [] ∧ ∃ v rows, e = .returned (.tuple #[v, .slice none 0 0, .int .i64 0]) ∧ rows.Perm (rowsFrom 0 g.2.2 s) ∧ rows.Pairwise (fun a b => ¬ rowLt b a) ∧ SlR (eSl eState) w' w'.heap.size v (machsM rows n))
def MachRes (k : Int) (g : Gram) (n : Nat) (w : World) (e : Ending) (w' : World) : Prop :=
  Below w.heap.size w w' ∧ (BadK k g → e = .returned (.tuple #[.slice none 0 0, .slice none 0 0, .int .i64 1])) ∧ (¬ BadK k g → ∃ o, AheadO k g o ∧ MachOut n g w' o e)
set_option maxRecDepth 100000 in
set_option maxHeartbeats 8000000 in
theorem make26_any {A1 A2 A3 : Option Addr} {n m q c1 c2 c3 : Nat} {g : Gram} (k : Int) (w : World) (h : GramR w w.heap.size A1 A2 A3 n m q c1 c2 c3 g) (hn : n ≤ 1099511627776) (ht : TabP w)
    (hrf : ¬ BadK k g → ∀ s rows, AheadO k g (some s) → rows.Perm (rowsFrom 0 g.2.2 s) → RowsFit rows ∧ FitR rows) :
    Calls Tryz.prog 8 #[gramV A1 A2 A3 n m q c1 c2 c3, .int .i64 k] w (MachRes k g n w) := by
  have hbx := (Below.refl w.heap.size w).alloc (Nat.le_refl _) (.cells #[.slice A1 n c1, .slice A2 m c2, .slice A3 q c3] 25)
  have HK := Lib.hid (Go.heap_alloc_new w (.cells #[.slice A1 n c1, .slice A2 m c2, .slice A3 q c3] 25))
  have HM := Lib.hid (make_any k (w.alloc (.cells #[.slice A1 n c1, .slice A2 m c2, .slice A3 q c3] 25)) (h.fut hbx (Nat.le_refl _) (by rw [World.size_alloc]; omega)))
  have HBX := Lib.hid hbx
  have HT := Lib.hid ht
  have HRF := Lib.hid hrf
  clear hbx h ht hrf
  unfold gramV at *
  go_enter Tryz.func8, Tryz.ntmps8
  go_wp2_with fail
  generalize w.alloc (.cells #[.slice A1 n c1, .slice A2 m c2, .slice A3 q c3] 25) = wq at *
  refine HM.out.mono ?_
  rintro e w1 ⟨hb1, hbad, hgood⟩
  have HB1 := Lib.hid (HBX.out.trans (hb1.mono HBX.out.size))
  have hk1 := (hb1.block w.heap.size (Array.getElem?_eq_some_iff.1 HK.out).1).trans HK.out
  have HK1 := Lib.hid hk1
  clear hb1 hk1 HM
  by_cases hb : BadK k g
  · have HBD := Lib.hid hb
    rw [hbad hb]
    clear hbad hgood hb
    go_wp2_with fail
    refine bodyPost_ret (results_tmp3 rfl _ _ _) rfl ?_
    exact ⟨HB1.out, fun _ => rfl, fun h => absurd HBD.out h⟩
  · obtain ⟨o, ha, ho⟩ := hgood hb
    have HBD := Lib.hid hb
    have HA := Lib.hid ha
    clear hbad hgood hb ha
    cases o with
    | none =>
      have he : e = _ := ho
      rw [he]
      clear he ho
      go_wp2_with fail
      refine bodyPost_ret (results_tmp3 rfl _ _ _) rfl ?_
      exact ⟨HB1.out, fun h => absurd h HBD.out, fun _ => ⟨none, HA.out, rfl⟩⟩
    | some s =>
      rcases ho with ⟨hc, v, he, hown⟩ | ⟨hc, v, rows, he, hp, hs, hown⟩
      · obtain ⟨A5, c5, rfl, -, -⟩ := own_form hown
        have HC := Lib.hid hc
        rw [he]
        clear he hown hc
        go_wp2_with fail
        refine bodyPost_ret (results_tmp3 rfl _ _ _) rfl ?_
        exact ⟨HB1.out, fun h => absurd h HBD.out, fun _ => ⟨some s, HA.out, .inl ⟨HC.out, _, _, rfl⟩⟩⟩
      · obtain ⟨A5, c5, rfl, hl5, hl6⟩ := own_form hown
        obtain ⟨hrf, hfit⟩ := HRF.out HBD.out s rows HA.out hp
        have HS := Lib.hid (slR_own hfit hown)
        have HRR := Lib.hid hrf
        have HC := Lib.hid hc
        have HP := Lib.hid hp
        have HSS := Lib.hid hs
        rw [he]
        clear he hown hc hrf hfit hp hs
        have g0 : w1.cell? ⟨w.heap.size, 0, none⟩ = some (.slice A1 n c1) := by rw [cell_of_row _ _ _ _ _ _ HK1.out]; rfl
        have g1 : w1.cell? ⟨w.heap.size, 1, none⟩ = some (.slice A2 m c2) := by rw [cell_of_row _ _ _ _ _ _ HK1.out]; rfl
        have g2 : w1.cell? ⟨w.heap.size, 2, none⟩ = some (.slice A3 q c3) := by rw [cell_of_row _ _ _ _ _ _ HK1.out]; rfl
        go_wp2_with fail
        refine (of26_any (A1 := A1) (A2 := A2) (A3 := A3) (m := m) (q := q) (c1 := c1) (c2 := c2) (c3 := c3) rows w1 HS.out HRR.out hn (HT.out.below HB1.out)).mono ?_
        rintro e2 w2 ⟨v2, rfl, hs2, hb2⟩
        have HS2 := Lib.hid hs2
        have HB2 := Lib.hid (HB1.out.trans (hb2.mono HB1.out.size))
        clear hs2 hb2
        go_wp2_with fail
        refine bodyPost_ret (results_tmp3 rfl _ _ _) rfl ?_
        exact ⟨HB2.out, fun h => absurd h HBD.out, fun _ => ⟨some s, HA.out, .inr ⟨HC.out, _, rows, rfl, HP.out, HSS.out, HS2.out⟩⟩⟩
set_option maxHeartbeats 1600000 in
theorem states26_any (v : Value) (ms : List Mch) (w : World) (hv : SlR (eSl eState) w w.heap.size v ms) (hs : (ms.map List.length).sum ≤ 4611686018427387904) :
    Calls Tryz.prog 18 #[v] w fun e w' => e = .returned (.int .i64 ((ms.map List.length).sum : Nat)) ∧ w' = w := by
  obtain ⟨A, c, rfl, hc1, hc2⟩ := hv.form
  unfold maxLen at hc2
  have HV := Lib.hid hv
  have HSM := Lib.hid hs
  clear hv hs
  obtain ⟨n, hn⟩ : ∃ n, n = ms.length := ⟨_, rfl⟩
  have HN := Lib.hid hn
  rw [← hn] at hc1 HV ⊢
  clear hn
  go_enter Tryz.func18, Tryz.ntmps18
  go_wp2_with fail
  go_loopw [8, 3] (fun v8 v3 wr => ∃ k : Nat, k ≤ n ∧ v8 = .int .i64 k ∧ v3 = .int .i64 (((ms.take k).map List.length).sum : Nat) ∧ wr = w) (fun v8 _ _ => n - (intOf v8).toNat)
  case atStart => exact ⟨0, by omega, rfl, rfl, rfl⟩
  case round =>
    obtain ⟨k, hk, rfl, rfl, rfl⟩ := hrel
    by_cases hlt : k < n
    · have hkl : k < ms.length := by rw [← HN.out]; exact hlt
      obtain ⟨b1, o1, cs, rfl, -, hb1, hrep, hcell⟩ := HV.out.get hkl (by decide)
      obtain ⟨u, rfl, hu⟩ := hrep
      obtain ⟨A4, e4, rfl, he1, he2⟩ := hu.form
      have d0 := hcell 0 _ rfl
      clear hcell hu
      simp only [show (eSl eState).size = 1 from rfl, Nat.add_zero, Nat.mul_one] at d0
      have HSN := Lib.hid (show ((ms.take (k + 1)).map List.length).sum = ((ms.take k).map List.length).sum + ms[k].length by
        rw [List.take_succ_eq_append_getElem hkl, List.map_append, List.sum_append]
        simp)
      have hle : ((ms.take k).map List.length).sum + ms[k].length ≤ 4611686018427387904 := by
        rw [← HSN.out]
        refine Nat.le_trans ?_ HSM.out
        conv => rhs; rw [← List.take_append_drop (k + 1) ms, List.map_append, List.sum_append]
        omega
      generalize ((ms.take k).map List.length).sum = S at *
      generalize ms[k].length = L at *
      go_wp2_with fail
      go_roundw
      case rel => exact ⟨k + 1, by omega, by go_num, by rw [HSN.out]; go_num, trivial⟩
      case measure => simp [intOf]; omega
    · have hkn : k = n := by omega
      have HFN := Lib.hid (show ((ms.take k).map List.length).sum = (ms.map List.length).sum by rw [hkn, HN.out, List.take_length])
      subst hkn
      go_wp2_with fail
      go_ret
      exact ⟨rt1 (congrArg (fun z : Nat => Value.int .i64 (z : Int)) HFN.out), rfl⟩
end Go.Proofs.YtfpihflepeiagaaGreatDoor
namespace Go.Proofs.YtfpihflepeiagaaGreatDoor

section
variable {g : Gram} {k : Nat} {s : Sets} (h : LawG g k) (hM : MadeG g.2.2 g.1.length k s)
include h hM
theorem made_fit {rows : List Row} (hs : SetsB s) (hq : g.2.2.length ≤ 40) (hp : rows.Perm (rowsFrom 0 g.2.2 s)) : RowsFit rows := by
  refine ⟨?_, fun r hr => by have := (row_good h hM hp r hr).2.2.2.1; omega⟩
  rw [hp.length_eq, ← rowsTo_all hM.len]
  have := rowsTo_len (rs := g.2.2) hs g.2.2.length
  omega
theorem rows_low {rows : List Row} (hp : rows.Perm (rowsFrom 0 g.2.2 s)) : ∀ r ∈ rows, 0 ≤ r.2.2 := fun r hr => (row_good h hM hp r hr).2.2.2.2.1
theorem rows_term {rows : List Row} (hp : rows.Perm (rowsFrom 0 g.2.2 s)) : ∀ r ∈ rows, ∀ c ∈ r.2.1, c.toNat < g.2.1.length := fun x hx => by
  obtain ⟨i, hi, hw, hm⟩ := (row_iff (by have := h.few; omega) h.wellT hM (fun w _ => ahD_ok g.2.2 k w)).1 (hp.mem_iff.1 hx)
  exact ((mem_wordsW (by have := h.few; omega) k x.2.1).1 hw).2
theorem made_lt {rows : List Row} (hc : clashW g.2.2 g.1.length s = []) (hp : rows.Perm (rowsFrom 0 g.2.2 s)) (hs : rows.Pairwise fun a b => ¬ rowLt b a) : rows.Pairwise rowLt :=
  rows_sorted hp (keys_of_clash h.well hM hc) hs
end
theorem made_same {g : Gram} {k : Nat} {s s' : Sets} {rows rows' : List Row} (h : LawG g k) (hM : MadeG g.2.2 g.1.length k s) (hM' : MadeG g.2.2 g.1.length k s') (hp : rows.Perm (rowsFrom 0 g.2.2 s)) (hp' : rows'.Perm (rowsFrom 0 g.2.2 s'))
    (hl : rows.Pairwise rowLt) (hl' : rows'.Pairwise rowLt) : rows = rows' := by
  have hmem : ∀ x, x ∈ rows ↔ x ∈ rows' := fun x => by
    rw [hp.mem_iff, hp'.mem_iff, row_iff (by have := h.few; omega) h.wellT hM (fun w _ => ahD_ok g.2.2 k w), row_iff (by have := h.few; omega) h.wellT hM' (fun w _ => ahD_ok g.2.2 k w)]
  have hnd : ∀ {l : List Row}, l.Pairwise rowLt → l.Nodup := fun hl => hl.imp fun {a b} hab e => by subst e; exact rowLt_asymm hab hab
  have hperm : rows.Perm rows' := (List.perm_ext_iff_of_nodup (hnd hl) (hnd hl')).2 hmem
  exact hperm.eq_of_pairwise (fun a b _ _ h1 h2 => (rowLt_asymm h1 h2).elim) hl hl'
end Go.Proofs.YtfpihflepeiagaaGreatDoor
namespace Go.Proofs.YtfpihflepeiagaaGreatDoor
open Go.RowKit

set_option maxHeartbeats 1600000 in
theorem equal_edge (A B : Option Addr) (ca cb : Nat) (xs ys : List (Int × Int)) (w : World) (ha : SlR eEdge w w.heap.size (.slice A xs.length ca) xs) (hb : SlR eEdge w w.heap.size (.slice B ys.length cb) ys) :
    Calls Tryz.prog 69 #[.slice A xs.length ca, .slice B ys.length cb] w fun e w' => e = .returned (.bool (decide (xs = ys))) ∧ Below w.heap.size w w' := by
  have HA := Lib.hid ha
  have HB := Lib.hid hb
  have h1 := ha.n_le
  have h2 := hb.n_le
  by_cases hl : xs.length = ys.length
  · rw [← hl] at HB h2 ⊢
    obtain ⟨n, hn⟩ : ∃ n, n = xs.length := ⟨_, rfl⟩
    rw [← hn] at HA HB h1 h2 ⊢
    have HN := Lib.hid hn
    have HN2 := Lib.hid (hn.trans hl)
    clear ha hb hl hn
    go_enter Tryz.func69, Tryz.ntmps69
    go_wp2_with fail
    go_loopg [13] n (fun left v13 wr => ∃ i : Nat, i ≤ n ∧ n - i ≤ left ∧ v13 = .int .i64 i ∧ Hid (xs.take i = ys.take i) ∧ Hid (Below w.heap.size w wr))
    case atStart => exact ⟨0, by omega, by omega, rfl, by simp [Hid], Below.refl _ _⟩
    case round =>
      obtain ⟨i, hi, hleft, rfl, HE, HBR⟩ := hrel
      by_cases hib : i < n
      · have hix : i < xs.length := by rw [← HN.out]; exact hib
        have hiy : i < ys.length := by rw [← HN2.out]; exact hib
        obtain ⟨b1, o1, cs1, rfl, -, hb1, hrep1, hcell1⟩ := (HA.out.below HBR.out).get hix (by decide)
        obtain ⟨b2, o2, cs2, rfl, -, hb2, hrep2, hcell2⟩ := (HB.out.below HBR.out).get hiy (by decide)
        obtain ⟨rfl, hz1, hz2, hz3, hz4⟩ := eEdge_open hrep1
        obtain ⟨rfl, hy1, hy2, hy3, hy4⟩ := eEdge_open hrep2
        have a0 := hcell1 0 _ rfl
        have a1 := hcell1 1 _ rfl
        have c0 := hcell2 0 _ rfl
        have c1 := hcell2 1 _ rfl
        clear hcell1 hcell2 hrep1 hrep2
        simp only [show eEdge.size = 2 from rfl, Nat.add_zero, ← Nat.add_assoc] at a0 a1 c0 c1
        have HT := Lib.hid (List.take_succ_eq_append_getElem hix)
        have HT2 := Lib.hid (List.take_succ_eq_append_getElem hiy)
        have HXE := Lib.hid (List.getElem?_eq_getElem hix)
        have HYE := Lib.hid (List.getElem?_eq_getElem hiy)
        obtain ⟨x, hx⟩ : ∃ x, x = xs[i] := ⟨_, rfl⟩
        obtain ⟨y, hy⟩ : ∃ y, y = ys[i] := ⟨_, rfl⟩
        rw [← hx] at a0 a1 HT HXE hz1 hz2 hz3 hz4
        rw [← hy] at c0 c1 HT2 HYE hy1 hy2 hy3 hy4
        clear hx hy hix hiy
        obtain ⟨xa, xi⟩ := x
        obtain ⟨ya, yi⟩ := y
        simp only at a0 a1 c0 c1
        go_wp2_with fail
        refine Text.wp_text [8] (by kernel_rfl) (by kernel_rfl) (fun Q' hQ' => ?_)
        go_wp2_with fail
        all_goals refine ⟨by rfl, ?_⟩
        case isTrue.isTrue =>
          rename_i g1 g2
          subst g1 g2
          go_wp2_with fail
          go_roundg (gk - 1)
          case measure => omega
          case rel => exact ⟨i + 1, by omega, by omega, by go_num, by show _ = _; rw [HT.out, HT2.out, HE.out], HBR.out.drew⟩
        all_goals
          have HNE := Lib.hid (show ¬ xs = ys by
            intro e
            have e2 := HXE.out.symm.trans ((congrArg (fun l : List (Int × Int) => l[i]?) e).trans HYE.out)
            injection e2 with e2
            injection e2 with e2 e3
            contradiction)
          go_wp2_with fail
          go_ret
          exact ⟨rt1 (vbool (by rw [decide_eq_false HNE.out])), HBR.out.drew⟩
      · have hin : i = n := by omega
        have HEQ := Lib.hid (show xs = ys by
          have h := HE.out
          rwa [hin, List.take_of_length_le (by rw [← HN.out]; exact Nat.le_refl _), List.take_of_length_le (by rw [← HN2.out]; exact Nat.le_refl _)] at h)
        go_wp2_with fail
        go_ret
        exact ⟨rt1 (vbool (by rw [decide_eq_true HEQ.out])), HBR.out⟩
  · have HNE := Lib.hid (show ¬ xs = ys from fun e => hl (by rw [e]))
    have hlb : ((xs.length : Int) == (ys.length : Int)) = false := by
      rw [beq_eq_false_iff_ne]
      omega
    have hl' : ¬ ((xs.length : Int) = (ys.length : Int)) := by omega
    generalize xs.length = n1 at *
    generalize ys.length = n2 at *
    clear ha hb
    go_enter Tryz.func69, Tryz.ntmps69
    go_wp2_with fail
    all_goals first
      | (exfalso; omega)
      | (go_ret; exact ⟨rt1 (vbool (by rw [decide_eq_false HNE.out])), Below.refl _ _⟩)
set_option maxHeartbeats 1600000 in
theorem same1_any (o1 o2 : Int) (v1 v2 : Value) (l1 l2 : List (Int × Int)) (w : World) (h1 : SlR eEdge w w.heap.size v1 l1) (h2 : SlR eEdge w w.heap.size v2 l2) :
    Calls Tryz.prog 68 #[.agg #[.int .i64 o1, v1], .agg #[.int .i64 o2, v2]] w fun e w' => e = .returned (.bool (decide (o1 = o2) && decide (l1 = l2))) ∧ Below w.heap.size w w' := by
  obtain ⟨A1, c1, rfl, -, -⟩ := h1.form
  obtain ⟨A2, c2, rfl, -, -⟩ := h2.form
  have HBW := Lib.hid (show Below w.heap.size w ((w.alloc (.cells #[.int .i64 o1, .slice A1 l1.length c1] 58)).alloc (.cells #[.int .i64 o2, .slice A2 l2.length c2] 58)) from ((Below.refl _ _).alloc (Nat.le_refl _) _).alloc (by rw [World.size_alloc]; omega) _)
  have HE := Lib.hid (equal_edge A1 A2 c1 c2 l1 l2 _ (h1.fut HBW.out (Nat.le_refl _) HBW.out.size) (h2.fut HBW.out (Nat.le_refl _) HBW.out.size))
  clear h1 h2
  generalize l1.length = n1 at *
  generalize l2.length = n2 at *
  by_cases ho : o1 = o2
  · subst ho
    go_enter Tryz.func68, Tryz.ntmps68
    go_wp2_with fail
    refine HE.out.mono ?_
    rintro e w1 ⟨rfl, hb1⟩
    have HB1 := Lib.hid (HBW.out.trans (hb1.mono HBW.out.size))
    clear hb1
    obtain ⟨d, hd⟩ : ∃ d, d = decide (l1 = l2) := ⟨_, rfl⟩
    rw [← hd]
    have HD := Lib.hid hd
    clear hd
    cases d
    all_goals
      go_wp2_with fail
      go_ret
      exact ⟨rt1 (vbool (by rw [← HD.out]; simp)), HB1.out⟩
  · have hd : (o1 == o2) = false := by simpa using ho
    have HD := Lib.hid ho
    clear ho
    go_enter Tryz.func68, Tryz.ntmps68
    go_wp2_with fail
    go_ret
    exact ⟨rt1 (vbool (by rw [decide_eq_false HD.out]; rfl)), HBW.out⟩
set_option maxRecDepth 100000 in
set_option maxHeartbeats 4000000 in
theorem eqfState_any (v1 v2 : Value) (m1 m2 : Mach) (w : World) (h1 : SlR eState w w.heap.size v1 m1) (h2 : SlR eState w w.heap.size v2 m2) :
    Calls Tryz.prog 67 #[v1, v2, .func (.func 68) #[] #[]] w fun e w' => e = .returned (.bool (decide (m1 = m2))) ∧ Below w.heap.size w w' := by
  obtain ⟨A1, c1, rfl, ha1, ha2⟩ := h1.form
  obtain ⟨A2, c2, rfl, hb1, hb2⟩ := h2.form
  unfold maxLen at ha2 hb2
  have H1 := Lib.hid h1
  have H2 := Lib.hid h2
  clear h1 h2
  by_cases hl : m1.length = m2.length
  · rw [← hl] at H2 hb1 ⊢
    obtain ⟨n, hn⟩ : ∃ n, n = m1.length := ⟨_, rfl⟩
    rw [← hn] at H1 H2 ha1 hb1 ⊢
    have HN := Lib.hid hn
    have HN2 := Lib.hid (hn.trans hl)
    clear hl hn
    go_enter Tryz.func67, Tryz.ntmps67
    go_wp2_with fail
    go_loopw [17] (fun v17 wr => ∃ i : Nat, i ≤ n ∧ v17 = .int .i64 i ∧ Hid (m1.take i = m2.take i) ∧ Hid (Below w.heap.size w wr)) (fun v17 _ => n - (intOf v17).toNat)
    case atStart => exact ⟨0, by omega, rfl, by simp [Hid], Below.refl _ _⟩
    case round =>
      obtain ⟨i, hi, rfl, HE, HBR⟩ := hrel
      by_cases hib : i < n
      · have hix : i < m1.length := by rw [← HN.out]; exact hib
        have hiy : i < m2.length := by rw [← HN2.out]; exact hib
        obtain ⟨b1, o1, cs1, rfl, -, hb1', hrep1, hcell1⟩ := (H1.out.below HBR.out).get hix (by decide)
        obtain ⟨b2, o2, cs2, rfl, -, hb2', hrep2, hcell2⟩ := (H2.out.below HBR.out).get hiy (by decide)
        obtain ⟨u1, rfl, hu1, hz1, hz2⟩ := eState_open hrep1
        obtain ⟨u2, rfl, hu2, hy1, hy2⟩ := eState_open hrep2
        obtain ⟨B1, k1, rfl, -, -⟩ := hu1.form
        obtain ⟨B2, k2, rfl, -, -⟩ := hu2.form
        have a0 := hcell1 0 _ rfl
        have a1 := hcell1 1 _ rfl
        have d0 := hcell2 0 _ rfl
        have d1 := hcell2 1 _ rfl
        clear hcell1 hcell2 hrep1 hrep2
        simp only [show eState.size = 2 from rfl, Nat.add_zero, ← Nat.add_assoc] at a0 a1 d0 d1
        have HU1 := Lib.hid hu1
        have HU2 := Lib.hid hu2
        have HT := Lib.hid (List.take_succ_eq_append_getElem hix)
        have HT2 := Lib.hid (List.take_succ_eq_append_getElem hiy)
        have HXE := Lib.hid (List.getElem?_eq_getElem hix)
        have HYE := Lib.hid (List.getElem?_eq_getElem hiy)
        obtain ⟨x, hx⟩ : ∃ x, x = m1[i] := ⟨_, rfl⟩
        obtain ⟨y, hy⟩ : ∃ y, y = m2[i] := ⟨_, rfl⟩
        rw [← hx] at a0 a1 HT HXE HU1
        rw [← hy] at d0 d1 HT2 HYE HU2
        clear hx hy hix hiy hu1 hu2 hz1 hz2 hy1 hy2
        obtain ⟨xa, xl⟩ := x
        obtain ⟨ya, yl⟩ := y
        simp only at a0 a1 d0 d1 HU1 HU2
        have HS := Lib.hid (fun W (hW : Below w.heap.size wr W) (hs : w.heap.size ≤ W.heap.size) => same1_any xa ya (.slice B1 xl.length k1) (.slice B2 yl.length k2) xl yl W (HU1.out.fut hW (Nat.le_refl _) hs) (HU2.out.fut hW (Nat.le_refl _) hs))
        generalize xl.length = n1 at *
        generalize yl.length = n2 at *
        have HBX := Lib.hid (show Below w.heap.size wr ((wr.alloc (.cells #[.int .i64 xa, .slice B1 n1 k1] 58)).alloc (.cells #[.int .i64 ya, .slice B2 n2 k2] 58)) from ((Below.refl _ _).alloc HBR.out.size _).alloc (by rw [World.size_alloc]; have := HBR.out.size; omega) _)
        have hbr := HBR.out.size
        have d0' : (wr.alloc (.cells #[.int .i64 xa, .slice B1 n1 k1] 58)).cell? ⟨b2, o2 + i * 2, none⟩ = some (.int .i64 ya) := (World.cell?_of_block (w := wr) (Below.heap_alloc wr _ b2 (by omega))).trans d0
        have d1' : (wr.alloc (.cells #[.int .i64 xa, .slice B1 n1 k1] 58)).cell? ⟨b2, o2 + i * 2 + 1, none⟩ = some (.slice B2 n2 k2) := (World.cell?_of_block (w := wr) (Below.heap_alloc wr _ b2 (by omega))).trans d1
        go_wp2_with fail
        refine (HS.out _ HBX.out (Nat.le_trans HBR.out.size (by simp only [World.size_alloc]; omega))).mono ?_
        rintro e w1 ⟨rfl, hb1⟩
        have HB1 := Lib.hid (HBR.out.trans (HBX.out.trans (hb1.mono (by simp only [World.size_alloc]; have := HBR.out.size; omega))))
        clear hb1
        obtain ⟨d, hd⟩ : ∃ d, d = (decide (xa = ya) && decide (xl = yl)) := ⟨_, rfl⟩
        rw [← hd]
        have HD := Lib.hid hd
        clear hd
        cases d
        · have HNE := Lib.hid (show ¬ m1 = m2 by
            intro e
            have e2 := HXE.out.symm.trans ((congrArg (fun l : Mach => l[i]?) e).trans HYE.out)
            injection e2 with e2
            injection e2 with e2 e3
            have := HD.out
            rw [decide_eq_true e2, decide_eq_true e3] at this
            cases this)
          go_wp2_with fail
          go_ret
          exact ⟨rt1 (vbool (by rw [decide_eq_false HNE.out])), HB1.out⟩
        · have HQ := Lib.hid (show xa = ya ∧ xl = yl by
            have h := HD.out.symm
            rw [Bool.and_eq_true, decide_eq_true_iff, decide_eq_true_iff] at h
            exact h)
          go_wp2_with fail
          go_roundw
          case rel => exact ⟨i + 1, by omega, by go_num, by show _ = _; rw [HT.out, HT2.out, HE.out, HQ.out.1, HQ.out.2], HB1.out⟩
          case measure => simp [intOf]; omega
      · have hin : i = n := by omega
        have HEQ := Lib.hid (show m1 = m2 by
          have h := HE.out
          rwa [hin, List.take_of_length_le (by rw [← HN.out]; exact Nat.le_refl _), List.take_of_length_le (by rw [← HN2.out]; exact Nat.le_refl _)] at h)
        go_wp2_with fail
        go_ret
        exact ⟨rt1 (vbool (by rw [decide_eq_true HEQ.out])), HBR.out⟩
  · have HNE := Lib.hid (show ¬ m1 = m2 from fun e => hl (by rw [e]))
    have hl' : ((m1.length : Int) != (m2.length : Int)) = true := by simpa using (show ¬ (m1.length : Int) = m2.length by omega)
    clear hl
    go_enter Tryz.func67, Tryz.ntmps67
    go_wp2_with fail
    go_ret
    exact ⟨rt1 (vbool (by rw [decide_eq_false HNE.out])), Below.refl _ _⟩
theorem miniSame_any (v1 v2 : Value) (m1 m2 : Mach) (w : World) (h1 : SlR eState w w.heap.size v1 m1) (h2 : SlR eState w w.heap.size v2 m2) :
    Calls Tryz.prog 40 #[v1, v2] w fun e w' => e = .returned (.bool (decide (m1 = m2))) ∧ Below w.heap.size w w' := by
  have HE := Lib.hid (eqfState_any v1 v2 m1 m2 w h1 h2)
  obtain ⟨A1, c1, rfl, -, -⟩ := h1.form
  obtain ⟨A2, c2, rfl, -, -⟩ := h2.form
  clear h1 h2
  go_enter Tryz.func40, Tryz.ntmps40
  go_wp2_with fail
  refine HE.out.mono ?_
  rintro e w1 ⟨rfl, hb1⟩
  go_wp2_with fail
  go_ret
  exact ⟨rfl, hb1⟩
set_option maxRecDepth 100000 in
set_option maxHeartbeats 4000000 in
theorem eqfMach_any (v1 v2 : Value) (m1 m2 : List Mch) (w : World) (h1 : SlR (eSl eState) w w.heap.size v1 m1) (h2 : SlR (eSl eState) w w.heap.size v2 m2) :
    Calls Tryz.prog 39 #[v1, v2, .func (.func 40) #[] #[]] w fun e w' => e = .returned (.bool (decide (m1 = m2))) ∧ Below w.heap.size w w' := by
  obtain ⟨A1, c1, rfl, ha1, ha2⟩ := h1.form
  obtain ⟨A2, c2, rfl, hb1, hb2⟩ := h2.form
  unfold maxLen at ha2 hb2
  have H1 := Lib.hid h1
  have H2 := Lib.hid h2
  clear h1 h2
  by_cases hl : m1.length = m2.length
  · rw [← hl] at H2 hb1 ⊢
    obtain ⟨n, hn⟩ : ∃ n, n = m1.length := ⟨_, rfl⟩
    rw [← hn] at H1 H2 ha1 hb1 ⊢
    have HN := Lib.hid hn
    have HN2 := Lib.hid (hn.trans hl)
    clear hl hn
    go_enter Tryz.func39, Tryz.ntmps39
    go_wp2_with fail
    go_loopw [17] (fun v17 wr => ∃ i : Nat, i ≤ n ∧ v17 = .int .i64 i ∧ Hid (m1.take i = m2.take i) ∧ Hid (Below w.heap.size w wr)) (fun v17 _ => n - (intOf v17).toNat)
    case atStart => exact ⟨0, by omega, rfl, by simp [Hid], Below.refl _ _⟩
    case round =>
      obtain ⟨i, hi, rfl, HE, HBR⟩ := hrel
      by_cases hib : i < n
      · have hix : i < m1.length := by rw [← HN.out]; exact hib
        have hiy : i < m2.length := by rw [← HN2.out]; exact hib
        obtain ⟨b1, o1, cs1, rfl, -, hb1', hrep1, hcell1⟩ := (H1.out.below HBR.out).get hix (by decide)
        obtain ⟨b2, o2, cs2, rfl, -, hb2', hrep2, hcell2⟩ := (H2.out.below HBR.out).get hiy (by decide)
        obtain ⟨u1, rfl, hu1⟩ := hrep1
        obtain ⟨u2, rfl, hu2⟩ := hrep2
        have a0 := hcell1 0 _ rfl
        have d0 := hcell2 0 _ rfl
        clear hcell1 hcell2
        simp only [show (eSl eState).size = 1 from rfl, Nat.add_zero, Nat.mul_one] at a0 d0
        have hs := HBR.out.size
        have HS := Lib.hid (miniSame_any u1 u2 m1[i] m2[i] wr (hu1.more hs) (hu2.more hs))
        obtain ⟨B1, k1, rfl, -, -⟩ := hu1.form
        obtain ⟨B2, k2, rfl, -, -⟩ := hu2.form
        have HT := Lib.hid (List.take_succ_eq_append_getElem hix)
        have HT2 := Lib.hid (List.take_succ_eq_append_getElem hiy)
        have HXE := Lib.hid (List.getElem?_eq_getElem hix)
        have HYE := Lib.hid (List.getElem?_eq_getElem hiy)
        obtain ⟨x, hx⟩ : ∃ x, x = m1[i] := ⟨_, rfl⟩
        obtain ⟨y, hy⟩ : ∃ y, y = m2[i] := ⟨_, rfl⟩
        rw [← hx] at a0 HT HXE HS
        rw [← hy] at d0 HT2 HYE HS
        clear hx hy hix hiy hu1 hu2
        generalize x.length = n1 at *
        generalize y.length = n2 at *
        go_wp2_with fail
        refine HS.out.mono ?_
        rintro e w1 ⟨rfl, hb1⟩
        have HB1 := Lib.hid (HBR.out.trans (hb1.mono hs))
        clear hb1
        obtain ⟨d, hd⟩ : ∃ d, d = decide (x = y) := ⟨_, rfl⟩
        rw [← hd]
        have HD := Lib.hid hd
        clear hd
        cases d
        · have HNE := Lib.hid (show ¬ m1 = m2 by
            intro e
            have e2 := HXE.out.symm.trans ((congrArg (fun l : List Mch => l[i]?) e).trans HYE.out)
            injection e2 with e2
            have := HD.out
            rw [decide_eq_true e2] at this
            cases this)
          go_wp2_with fail
          go_ret
          exact ⟨rt1 (vbool (by rw [decide_eq_false HNE.out])), HB1.out⟩
        · have HQ := Lib.hid (show x = y from of_decide_eq_true HD.out.symm)
          go_wp2_with fail
          go_roundw
          case rel => exact ⟨i + 1, by omega, by go_num, by show _ = _; rw [HT.out, HT2.out, HE.out, HQ.out], HB1.out⟩
          case measure => simp [intOf]; omega
      · have hin : i = n := by omega
        have HEQ := Lib.hid (show m1 = m2 by
          have h := HE.out
          rwa [hin, List.take_of_length_le (by rw [← HN.out]; exact Nat.le_refl _), List.take_of_length_le (by rw [← HN2.out]; exact Nat.le_refl _)] at h)
        go_wp2_with fail
        go_ret
        exact ⟨rt1 (vbool (by rw [decide_eq_true HEQ.out])), HBR.out⟩
  · have HNE := Lib.hid (show ¬ m1 = m2 from fun e => hl (by rw [e]))
    have hl' : ((m1.length : Int) != (m2.length : Int)) = true := by simpa using (show ¬ (m1.length : Int) = m2.length by omega)
    clear hl
    go_enter Tryz.func39, Tryz.ntmps39
    go_wp2_with fail
    go_ret
    exact ⟨rt1 (vbool (by rw [decide_eq_false HNE.out])), Below.refl _ _⟩
theorem ladfaSame_any (v1 v2 : Value) (m1 m2 : List Mch) (w : World) (h1 : SlR (eSl eState) w w.heap.size v1 m1) (h2 : SlR (eSl eState) w w.heap.size v2 m2) :
    Calls Tryz.prog 19 #[v1, v2] w fun e w' => e = .returned (.bool (decide (m1 = m2))) ∧ Below w.heap.size w w' := by
  have HE := Lib.hid (eqfMach_any v1 v2 m1 m2 w h1 h2)
  obtain ⟨A1, c1, rfl, -, -⟩ := h1.form
  obtain ⟨A2, c2, rfl, -, -⟩ := h2.form
  clear h1 h2
  go_enter Tryz.func19, Tryz.ntmps19
  go_wp2_with fail
  refine HE.out.mono ?_
  rintro e w1 ⟨rfl, hb1⟩
  go_wp2_with fail
  go_ret
  exact ⟨rfl, hb1⟩
end Go.Proofs.YtfpihflepeiagaaGreatDoor
