/- Texts of this proof joined: Ref32a, Ref32b, RefLoad. -/
import Derived.Test.YtplbcbamnjnhlaaDoorMP14
import Derived.Test.YtplbcbamnjnhlaaDoorMP07
import Derived.Test.YtplbcbamnjnhlaaDoorMP15
import Derived.Test.YtplbcbamnjnhlaaDoorMP18
import Derived.Deep.RegionLaw
import Derived.Test.YtplbcbamnjnhlaaDoorMP23
/- Contracts of the reference's value, num (32). -/
namespace Go.Proofs.YtplbcbamnjnhlaaDoor
open Go.RowKit

theorem beVal_step (l : List UInt8) (a k : Nat) (h : a + k < l.length) : beVal ((l.drop a).take (k + 1)) = beVal ((l.drop a).take k) * 256 + l[a + k].toNat := by
  have hd : k < (l.drop a).length := by rw [List.length_drop]; omega
  rw [List.take_succ_eq_append_getElem hd, beVal_snoc, List.getElem_drop]
theorem beVal_bd (l : List UInt8) (a k : Nat) (h : a + k ≤ l.length) : beVal ((l.drop a).take k) < 256 ^ k := by
  have := beVal_lt ((l.drop a).take k)
  rwa [List.length_take, List.length_drop, Nat.min_eq_left (by omega)] at this
set_option maxRecDepth 100000 in
theorem value32_any (l : List UInt8) (A : Option Addr) (c B a n : Nat) (w : World) (hr : Rd w B A (bcells l)) (hn : n ≤ 6) (hl : a + n ≤ l.length) (hl2 : l.length ≤ 1099511627776) :
    Calls Tryd.prog 17 #[.slice A l.length c, .int .i64 a, .int .i64 n] w fun e w' => e = .returned (.int .i64 (beVal ((l.drop a).take n) : Nat)) ∧ w = w' := by
  have HR := Lib.hid hr
  clear hr
  go_enter Tryd.func17, Tryd.ntmps17
  go_wp2_with fail
  go_loop [7, 8] (fun v7 v8 => ∃ b v : Nat, a ≤ b ∧ b ≤ a + n ∧ v8 = .int .i64 b ∧ v7 = .int .i64 v ∧ Hid (v = beVal ((l.drop a).take (b - a)))) (fun _ v8 => a + n - (intOf v8).toNat)
  case atStart => exact ⟨a, 0, by omega, by omega, rfl, rfl, (by show _ = _; simp [beVal])⟩
  case round =>
    obtain ⟨b, v, hab1, hk, rfl, rfl, hh⟩ := hrel
    by_cases hlt : b < a + n
    · have hin : b < l.length := by omega
      obtain ⟨ab, ao, rfl, hab, hcell⟩ := HR.out.byte hin
      have hv := beVal_bd l a (b - a) (by omega)
      have hp : 256 ^ (b - a) ≤ 256 ^ 5 := Nat.pow_le_pow_right (by omega) (by omega)
      have hv5 : v < 1099511627776 := by rw [hh.out]; exact Nat.lt_of_lt_of_le hv hp
      have HL := Lib.hid (show beVal ((l.drop a).take (b + 1 - a)) = v * 256 + l[b].toNat by
        have := beVal_step l a (b - a) (by omega)
        rw [hh.out, show b + 1 - a = b - a + 1 by omega, this]
        simp only [show a + (b - a) = b by omega])
      obtain ⟨d, hd⟩ : ∃ d, d = l[b].toNat := ⟨_, rfl⟩
      rw [← hd] at hcell HL
      have hd8 : d < 256 := by rw [hd]; exact UInt8.toNat_lt _
      clear hd hv hp
      go_wp2
      go_round
      case rel => exact ⟨b + 1, v * 256 + d, by omega, by omega, by go_num, vint (by simp), HL.out.symm⟩
      case measure => simp [intOf]; omega
    · obtain rfl : b = a + n := by omega
      have HF := Lib.hid (show v = beVal ((l.drop a).take n) by rw [hh.out]; congr 2; omega)
      go_wp2
      go_ret
      exact ⟨rt1 (vint (by rw [HF.out])), rfl⟩
/-- the lower part of a number's bytes, ahead of which zeros stand -/
theorem be_row (n x k : Nat) (h : k < n) : List.replicate k (0 : UInt8) ++ [UInt8.ofNat (x / 256 ^ (n - (k + 1)) % 256)] ++ (beBytes n x).drop (k + 1) = List.replicate k (0 : UInt8) ++ (beBytes n x).drop k := by
  have hl : k < (beBytes n x).length := by rw [beBytes_length]; exact h
  rw [List.drop_eq_getElem_cons hl]
  have : (beBytes n x)[k] = UInt8.ofNat (x / 256 ^ (n - (k + 1)) % 256) := by
    simp only [beBytes, List.getElem_reverse, bytesOfNat, List.getElem_map, digs_get, List.length_map, digs_length]
    rw [show n - 1 - k = n - (k + 1) by omega]
  rw [this]
  simp
set_option maxRecDepth 100000 in
theorem num32_any (n x : Nat) (w : World) (hn : n ≤ 8) (hx : x < 9223372036854775808) :
    Calls Tryd.prog 38 #[.int .i64 n, .int .i64 x] w fun e w' => e = .returned (.slice (some ⟨w.heap.size, 0, none⟩) n n) ∧ w'.heap[w.heap.size]? = some (.cells (bcells (beBytes n x)).toArray 5 (0, 0)) ∧ Below w.heap.size w w' := by
  have hmk := u8_make n (by omega)
  go_enter Tryd.func38, Tryd.ntmps38
  go_wp2_with fail
  have HG := Lib.hid (Go.heap_alloc_new w (.cells (madeCells #[.int .u8 0] n) 5))
  have HB := Lib.hid ((Below.refl _ _).alloc (Nat.le_refl _) (.cells (madeCells #[.int .u8 0] n) 5) : Below w.heap.size w _)
  go_loopw [1, 6] (fun v1 v6 wr => ∃ k : Nat, k ≤ n ∧ v6 = .int .i64 ((k : Int) - 1) ∧ v1 = .int .i64 (x / 256 ^ (n - k) : Nat) ∧ Hid (wr.heap[w.heap.size]? = some (.cells (bcells (List.replicate k 0 ++ (beBytes n x).drop k)).toArray 5 (0, 0))) ∧ Hid (Below w.heap.size w wr)) (fun _ v6 _ => (intOf v6 + 1).toNat)
  case atStart =>
    refine ⟨n, by omega, rfl, by simp, ?_, HB.out⟩
    have e1 : (beBytes n x).drop n = [] := List.drop_eq_nil_of_le (by rw [beBytes_length]; omega)
    have e2 : (bcells (List.replicate n 0 ++ (beBytes n x).drop n)).toArray = madeCells #[.int .u8 0] n := by
      apply Array.ext'
      rw [toList_madeCells_one, e1]
      simp [bcells, bcell]
    show _ = _
    rw [e2]
    exact HG.out
  case round =>
    obtain ⟨k, hk, rfl, rfl, hh, hb⟩ := hrel
    cases k with
    | zero =>
      go_wp2_with fail
      go_ret
      refine ⟨rfl, ?_, hb.out⟩
      have := hh.out
      simpa using this
    | succ k =>
      obtain ⟨q, hq⟩ : ∃ q, q = x / 256 ^ (n - (k + 1)) := ⟨_, rfl⟩
      have HQ := Lib.hid (show q / 256 = x / 256 ^ (n - k) by rw [hq, Nat.div_div_eq_div_mul, ← Nat.pow_succ]; congr 2; omega)
      have hqx : q < 9223372036854775808 := by rw [hq]; exact Nat.lt_of_le_of_lt (Nat.div_le_self _ _) hx
      have HQ0 := Lib.hid hq
      rw [← hq]
      clear hq
      have hks : (((k + 1 : Nat) : Int) - 1) = (k : Int) := by omega
      rw [hks]
      have hst : (Instr.storeAt 5 (.pointer (some ⟨w.heap.size, k, none⟩)) (.int .u8 ((q : Int) % 256))).run Tryd.prog wr = .ok () (wr.setRow w.heap.size (bcells (List.replicate k 0 ++ (beBytes n x).drop k)).toArray) := by
        rw [store_agg (vs := [.int .u8 ((q : Int) % 256)]) rfl (by kernel_rfl) hh.out (by simp [bcells_length, beBytes_length]) (fun u hu => by rw [List.mem_singleton.1 hu]; rfl)]
        refine congrArg (fun r => Result.ok () (wr.setRow w.heap.size r)) ?_
        have e0 : (bcells (List.replicate (k + 1) 0 ++ (beBytes n x).drop (k + 1))) = bcells (List.replicate k 0) ++ ([bcell 0] ++ bcells ((beBytes n x).drop (k + 1))) := by
          rw [List.replicate_succ']
          simp [bcells]
        have hl : (bcells (List.replicate k (0 : UInt8))).length = k := by simp [bcells_length]
        have e1 := be_row n x k (by omega)
        rw [← HQ0.out] at e1
        have e2 : Value.int .u8 ((q : Int) % 256) = bcell (UInt8.ofNat (q % 256)) := by
          unfold bcell
          rw [UInt8.toNat_ofNat', Nat.mod_eq_of_lt (show q % 256 < 2 ^ 8 by omega)]
          rfl
        rw [← e1, e2]
        apply Array.ext'
        simp only [e0]
        rw [List.take_append_of_le_length (by omega), List.take_of_length_le (by omega), List.drop_append, List.drop_eq_nil_of_le (by simp only [List.length_cons, List.length_nil]; omega), hl]
        simp [bcells]
      have HST := Lib.hid hst
      clear hst
      go_wp2_with (refine stop_at (some 18) rfl ?_)
      refine Stop.go (wpList_seg 3 _ _ _ (fun Q' hQ' => ?_))
      simp only [List.take_succ_cons, List.take_zero]
      go_wp2_with fail
      simp only [List.drop_succ_cons, List.drop_zero]
      refine Stop.go (wpList_store_agg rfl 5 rfl rfl rfl HST.out ?_)
      have HG2 := Lib.hid (setRow_heap wr w.heap.size _ (bcells (List.replicate k 0 ++ (beBytes n x).drop k)).toArray _ _ hh.out)
      have HB2 := Lib.hid (below_setRow hb.out (Nat.le_refl _) (bcells (List.replicate k 0 ++ (beBytes n x).drop k)).toArray : Below w.heap.size w (wr.setRow w.heap.size _))
      generalize wr.setRow w.heap.size _ = w9 at HG2 HB2 ⊢
      go_wp2_with fail
      refine ⟨⟨k, by omega, rfl, vint ?_, HG2, HB2⟩, ?_⟩
      · rw [← HQ.out]; rfl
      · simp [intOf]
end Go.Proofs.YtplbcbamnjnhlaaDoor
/- Contract of the reference's key (32). -/
namespace Go.Proofs.YtplbcbamnjnhlaaDoor
open Go.RowKit

theorem step_app32 {P : Program} {ops : Array Oper} {o : Oper} {a : Act} {w : World} {K : Act → World → Prop} {Q : Exit → Act → World → Prop} {E : Prop} {s x : Operand} {t e : TypeId} {size bytes : Nat} {z : Value} (T : AppTy P t e size bytes z)
    (hg : o.guard = none) (ho : o.op = .call { callee := .builtin .append, args := #[s, x], argTypes := #[t, t] })
    {v : Value} {A : Option Addr} {m c : Nat} (hs : a.eval s = v) (hx : a.eval x = .slice A m c)
    {base : Nat} {n : Nat} {xs : List Value} (hown : w.ownsRow base e size v n xs)
    {B : Nat} {news : List Value} (hr : Rd w B A news) (hl : news.length = m * size) (h1 : ∀ u ∈ news, u.oneCell' = true)
    (h63 : n + m ≤ maxLen) (hbytes : (n + m) * bytes ≤ 140737488355328) (hbase : base ≤ w.heap.size)
    (h : ∀ v' w', w'.ownsRow base e size v' (n + m) (xs ++ news) → w.grownBy w' v.ownBlock → (v'.ownBlock = v.ownBlock ∨ v'.ownBlock = some w.heap.size) → (v' = .slice none 0 0 ↔ v = .slice none 0 0 ∧ m = 0) → K (a.put o.dst v') w') :
    if Region.wanted o (yielded ops a.tmps) = true then Oper.wp P o a w K Q else E := by
  rw [if_pos (by simp [Region.wanted, hg])]
  exact wp_app T ho hs hx hown hr hl h1 h63 hbytes hbase h
set_option maxRecDepth 100000 in
set_option maxHeartbeats 1000000 in
theorem key32_any (h : List UInt8) (k : Int) (w : World) (hh : h.length = 32) (hk : kOk k = true) :
    Calls Tryd.prog 39 #[hkv h k] w fun e w' => ∃ v, e = .returned v ∧ w'.ownsRow w.heap.size 5 1 v 33 (bcells (keyB (h, k))) ∧ Below w.heap.size w w' := by
  have hkk : 1 ≤ k ∧ k ≤ 4 := by unfold kOk at hk; simpa using hk
  obtain ⟨x, rfl⟩ : ∃ x : Nat, k = x := ⟨k.toNat, by omega⟩
  have HH := Lib.hid hh
  have HB1 := Lib.hid ((Below.refl _ _).alloc (Nat.le_refl _) (.cells (hkCells h x).toArray 26) : Below w.heap.size w _)
  have HG1 := Lib.hid (Go.heap_alloc_new w (.cells (hkCells h x).toArray 26))
  have HS1 := Lib.hid (show (w.alloc (.cells (hkCells h x).toArray 26)).heap.size = w.heap.size + 1 from Array.size_push _)
  clear hh hk
  go_enter Tryd.func39, Tryd.ntmps39
  go_wp2_with (refine stop_at (some 1) rfl ?_)
  refine Stop.go (wpList_box rfl _ rfl rfl (hkv_cells h x) ?_)
  generalize w.alloc (.cells (hkCells h x).toArray 26) = w1 at *
  go_wp2_with fail
  have HC := Lib.hid (show ∀ w', Below w1.heap.size w1 w' → w'.cell? ⟨w.heap.size, 32, none⟩ = some (.int .i64 x) ∧ Rd w' w'.heap.size (some ⟨w.heap.size, 0, none⟩) (bcells h) from fun w' hb => by
    have hg := (hb.block _ (Array.getElem?_eq_some_iff.1 HG1.out).1).trans HG1.out
    refine ⟨?_, ?_⟩
    · rw [cell_of_row _ _ _ _ _ _ hg, ← Array.getElem?_toList]
      exact hkCells_get h x HH.out
    · have := Rd.row (B := w'.heap.size) hg (Nat.lt_of_lt_of_le (by rw [HS1.out]; omega) hb.size)
      exact rd_hash (k := (x : Int)) (by simpa using this))
  have c32 := (HC.out w1 (Below.refl _ _)).1
  obtain ⟨hk1, hk4⟩ := hkk
  have HE := Lib.hid (show ∀ (w' : World) (g : Nat), w'.heap[g]? = some (.cells #[] 5 (0, 0)) → w1.heap.size ≤ g → w'.ownsRow w1.heap.size 5 1 (.slice (some ⟨g, 0, none⟩) 0 0) 0 [] from fun w' g hg hb =>
    ⟨rfl, .inr ⟨g, 0, #[], rfl, hb, hg, Nat.le_refl _, by simp [maxLen], rfl, rfl⟩⟩)
  have HA := Lib.hid (show ∀ o, Below w1.heap.size w1 (w1.drew.alloc o) from fun o => (Below.refl _ _).drew.alloc (Nat.le_refl _) o)
  have HAA := Lib.hid (show ∀ o o', Below w1.heap.size w1 ((w1.drew.alloc o).alloc o') from fun o o' => ((Below.refl _ _).drew.alloc (Nat.le_refl _) o).alloc (by show _ ≤ (Array.push _ _).size; rw [Array.size_push]; exact Nat.le_succ _) o')
  have HS2 := Lib.hid (show ∀ o, (w1.drew.alloc o).heap.size = w1.heap.size + 1 from fun o => Array.size_push _)
  have HWR := Lib.hid (show bcells (keyB (h, (x : Int))) = ([] ++ bcells h) ++ [.int .u8 (IntKind.u8.wrap (x : Int))] by
    unfold keyB
    rw [bcells_append, IntKind.wrap_u8, Int.emod_eq_of_lt (by omega) (by omega)]
    simp [bcells, bcell, Nat.mod_eq_of_lt (show x < 256 by omega)])
  have HS3 := Lib.hid (show ∀ o o', ((w1.drew.alloc o).alloc o').heap.size = w1.heap.size + 2 from fun o o' => by show (Array.push (Array.push _ _) _).size = _; rw [Array.size_push, Array.size_push]; rfl)
  have HNE := Lib.hid (show w.heap.size < w1.heap.size by rw [HS1.out]; omega)
  have HGB := Lib.hid (show ∀ (W w6 : World) (g : Nat), Below w1.heap.size w1 W → W.grownBy w6 (some g) → w1.heap.size ≤ g → Below w1.heap.size w1 w6 from fun W w6 g hb hg hge => hb.grown hg hb.size (fun k hk => by injection hk with hk; omega))
  have HRB := Lib.hid (show ∀ (W w6 : World) (g q : Nat), W.heap[q]? = some (.cells #[.int .u8 (IntKind.u8.wrap (x : Int))] 5 (0, 0)) → W.grownBy w6 (some g) → q ≠ g → Rd w6 w6.heap.size (some ⟨q, 0, none⟩) [.int .u8 (IntKind.u8.wrap (x : Int))] from fun W w6 g q hq hg hne =>
    Rd.row (cs := #[.int .u8 (IntKind.u8.wrap (x : Int))]) ((hg.block q (Array.getElem?_eq_some_iff.1 hq).1 (by intro he; injection he with he; exact hne he)).trans hq) (Nat.lt_of_lt_of_le (Array.getElem?_eq_some_iff.1 hq).1 hg.size))
  have c32a : (w1.alloc (.cells #[] 5)).cell? ⟨w.heap.size, 32, none⟩ = some (.int .i64 x) := (HC.out _ ((Below.refl _ _).alloc (Nat.le_refl _) _)).1
  go_region_law (first
    | (refine step_app32 (base := w1.heap.size) (xs := []) (news := bcells h) (m := 32) u8_ty rfl rfl rfl rfl (by first | exact HE.out _ _ (Go.heap_alloc_new _ _) (Nat.le_refl _) | exact HE.out _ _ (Go.heap_alloc2_old _ _ _) (Nat.le_refl _) | exact HE.out _ _ (Go.heap_alloc2_new _ _ _) (Nat.le_succ _)) (by first | exact (HC.out _ (HA.out _)).2 | exact (HC.out _ (HAA.out _ _)).2) (by rw [bcells_length, HH.out]) (bcells_one _) (by simp [maxLen]) (by decide) (by first | exact (HA.out _).size | exact (HAA.out _ _).size) ?_; intro v6 w6 hown6 hg6 _ _;
       have hb6 : Below w1.heap.size w1 w6 := (by first | exact HGB.out _ _ _ (HA.out _) hg6 (Nat.le_refl _) | exact HGB.out _ _ _ (HAA.out _ _) hg6 (Nat.le_refl _) | exact HGB.out _ _ _ (HAA.out _ _) hg6 (Nat.le_succ _));
       have c32b := (HC.out w6 hb6).1)
    | (refine step_app32 (base := w1.heap.size) (xs := [] ++ bcells h) (n := 0 + 32) (m := 1) (news := [.int .u8 (IntKind.u8.wrap (x : Int))]) u8_ty rfl rfl rfl rfl (by first | exact hown6 | exact hown6.alloc _) (by first | exact Rd.row (B := w6.heap.size + 1) (Go.heap_alloc_new w6 _) (Nat.lt_succ_self _) | exact HRB.out _ w6 (w1.heap.size + 1) w1.heap.size (by exact Go.heap_alloc2_old _ _ _) hg6 (by omega) | exact HRB.out _ w6 w1.heap.size (w1.heap.size + 1) (by exact Go.heap_alloc2_new _ _ _) hg6 (by omega)) rfl (by simp [Value.oneCell']) (by simp [maxLen]) (by decide) (by first | exact hb6.size | exact Nat.le_trans hb6.size (Nat.le_of_lt (by rw [World.size_alloc]; exact Nat.lt_succ_self _))) ?_; intro v8 w8 hown8 hg8 _ _))
  all_goals
    have hb8 : Below w1.heap.size w1 w8 := by
      first
        | exact grown_below hb6 hg8 hown6 (Nat.le_refl _) hb6.size
        | exact grown_below (hb6.alloc hb6.size _) hg8 (hown6.alloc _) (Nat.le_refl _) (Nat.le_trans hb6.size (Nat.le_of_lt (by rw [World.size_alloc]; exact Nat.lt_succ_self _)))
    have HB8 := Lib.hid hb8
    have HO8 := Lib.hid hown8
    clear hb8 hown8 hg8 hown6 hg6 hb6
    go_wp2_with fail
    go_ret
    refine ⟨v8, rfl, ?_, HB1.out.trans (HB8.out.mono HB1.out.size)⟩
    have h6 := own_more HO8.out (show w.heap.size ≤ w1.heap.size from HB1.out.size)
    rw [HWR.out]
    exact h6
end Go.Proofs.YtplbcbamnjnhlaaDoor
/- Contract of the reference's Load (32). -/
namespace Go.Proofs.YtplbcbamnjnhlaaDoor
open Go.RowKit

theorem RecAt.grown {w w' : World} {b : Nat} {t : TypeId} {kind seq : Int} {kh : List UInt8} {kk : Int} {mh : List UInt8} {ms : Int} {v : Value} (h : RecAt w b t kind seq kh kk mh ms v) {base n : Nat} {u : Value} {xs : List Value} {e : TypeId} {size : Nat} (ho : w.ownsRow base e size u n xs) (hg : w.grownBy w' u.ownBlock) (ht : t ≠ e) :
    RecAt w' b t kind seq kh kk mh ms v := ⟨grown_other ho hg h.blk ht, h.hk, h.hm⟩
def Load32To (r : RecD) (w : World) (e : Ending) (w' : World) : Prop := ∃ v, e = .returned v ∧ w'.ownsRow w.heap.size 5 1 v (loadL r).length (bcells (loadL r)) ∧ Below w.heap.size w w'
theorem load32_intro {r : RecD} {w w' : World} {v : Value} {n : Nat} {l : List UInt8} (ho : w'.ownsRow w.heap.size 5 1 v n (bcells l)) (hl : l = loadL r) (hb : Below w.heap.size w w') : Load32To r w (.returned v) w' := by
  subst hl
  have h1 := ho.1
  rw [bcells_length, Nat.mul_one] at h1
  subst h1
  exact ⟨v, rfl, ho, hb⟩
set_option maxRecDepth 100000 in
set_option maxHeartbeats 8000000 in
theorem load32_any (r : RecD) (A : Option Addr) (n c B : Nat) (w : World) (hr : Hs r) (h1 : SlR eKey w B (.slice A n c) r.keys) (hB : B ≤ w.heap.size) (hR : rightB r = true) :
    Calls Tryd.prog 20 #[rv r (.slice A n c)] w (Load32To r w) := by
  have hkd := right_kind hR
  obtain ⟨kind, seq, kh, kk, mh, ms, keys⟩ := r
  obtain ⟨hk, hm⟩ := hr
  simp only at hk hm h1 hkd
  have HKH := Lib.hid hk
  have HMH := Lib.hid hm
  have N1 := Lib.hid h1.n_eq
  have hc1 := h1.n_le
  have H1 := Lib.hid h1
  have HBW := Lib.hid hB
  have HB1 := Lib.hid ((Below.refl _ _).alloc (Nat.le_refl _) (.cells (recCells kind seq kh kk mh ms (.slice A n c)).toArray 36) : Below w.heap.size w _)
  have HG1 := Lib.hid (RecAt.new (t := 36) (kind := kind) (seq := seq) (kk := kk) (ms := ms) (v := .slice A n c) w hk hm)
  have HLT := Lib.hid (show w.heap.size < w.heap.size + 1 from Nat.lt_succ_self _)
  clear h1 hB hk hm
  go_enter Tryd.func20, Tryd.ntmps20
  go_wp2_with (refine stop_at (some 1) rfl ?_)
  refine Stop.go (wpList_box rfl _ rfl rfl (recv_cells ..) ?_)
  generalize w.alloc (.cells (recCells kind seq kh kk mh ms (.slice A n c)).toArray 36) = w1 at *
  have HO1 := Lib.hid (World.ownsRow_nil w1 w.heap.size 5 1)
  rcases hkd with rfl | rfl | rfl | rfl | rfl | rfl | rfl
  · obtain ⟨⟨rfl, rfl⟩, rfl⟩ := right_1 hR
    obtain rfl : n = 0 := N1.out
    have HR := Lib.hid hR
    clear hR
    have c0 := HG1.out.kind_
    have c1 := HG1.out.seq_
    have c67 := HG1.out.size_
    have c68 := HG1.out.keys_
    have hb2 : Below w1.heap.size w1 (w1.alloc (.cells #[.int .u8 1] 5)) := (Below.refl _ _).alloc (Nat.le_refl _) _
    have HO2 := Lib.hid (World.ownsRow_lit (base := w.heap.size) (e := 5) (size := 1) w1 #[.int .u8 1] 1 HB1.out.size (by simp [maxLen]) rfl)
    go_wp2_with fail
    go_ret
    exact load32_intro (l := [1]) HO2.out rfl (HB1.out.trans (hb2.mono HB1.out.size))
  · obtain ⟨⟨hs0, hs1⟩, hkk, ⟨hm0, hm1⟩, rfl⟩ := right_2 hR
    obtain ⟨x, rfl⟩ : ∃ x : Nat, seq = x := ⟨seq.toNat, by omega⟩
    obtain ⟨y, rfl⟩ : ∃ y : Nat, ms = y := ⟨ms.toNat, by omega⟩
    obtain rfl : n = 0 := N1.out
    have HR := Lib.hid hR
    clear hR
    have c0 := HG1.out.kind_
    have c1 := HG1.out.seq_
    have c67 := HG1.out.size_
    have c68 := HG1.out.keys_
    go_wp2_with fail
    refine (num32_any 6 x _ (by decide) (by omega)).mono ?_
    rintro e w2 ⟨rfl, hh2, hb2⟩
    have HR2 := Lib.hid (rd_of_bytes (B := w2.heap.size) hh2 (Array.getElem?_eq_some_iff.1 hh2).1)
    clear hh2
    have HO2 := Lib.hid (own_below HO1.out hb2)
    have HG2 := Lib.hid (HG1.out.later hb2)
    have HB2 := Lib.hid (HB1.out.trans (hb2.mono HB1.out.size))
    clear hb2 c0 c1 c67 c68
    have c0 := HG2.out.kind_
    have c1 := HG2.out.seq_
    have c67 := HG2.out.size_
    have c68 := HG2.out.keys_
    have hsz2 := HB2.out.size
    go_wp2_with (at_builtin; refine wpList_app u8_ty rfl rfl rfl rfl HO2.out HR2.out (m := 6) (by rw [bcells_length, beBytes_length]) (bcells_one _) ?h63 ?hby ?hbase ?_)
    case h63 => simp [maxLen]
    case hby => decide
    case hbase => exact hsz2
    intro v3 w3 hown3 hg3 _ _
    have HG3 := Lib.hid (HG2.out.grown HO2.out hg3 (by decide))
    have HB3 := Lib.hid (grown_below HB2.out hg3 HO2.out (Nat.le_refl _) hsz2)
    have HO3 := Lib.hid (show w3.ownsRow w.heap.size 5 1 v3 6 (bcells (beBytes 6 x)) by exact hown3)
    obtain ⟨A3, d3, rfl, _, _⟩ := own_form HO3.out
    clear hown3 hg3 c0 c1 c67 c68 hsz2
    have c0 := HG3.out.kind_
    have c1 := HG3.out.seq_
    have c67 := HG3.out.size_
    have c68 := HG3.out.keys_
    go_wp2_with (refine stop_at (some 36) rfl ?_)
    refine Stop.go (wpList_seg 1 _ _ _ (fun Q' hQ' => ?_))
    simp only [List.take_succ_cons, List.take_zero]
    go_wp2_with fail
    try simp only [List.drop_succ_cons, List.drop_zero]
    refine Stop.go (wpList_load_agg rfl 26 rfl rfl keyTy.ut rfl (key_size _ _ HKH.out) HG3.out.key_ ?_)
    go_wp2_with fail
    refine (key32_any kh kk _ HKH.out hkk).mono ?_
    rintro e w4 ⟨u4, rfl, ho4, hb4⟩
    obtain ⟨E4, e4, rfl, _, _⟩ := own_form ho4
    have HR4 := Lib.hid (Rd.of_own ho4)
    clear ho4
    have HO4 := Lib.hid (own_below HO3.out hb4)
    have HG4 := Lib.hid (HG3.out.later hb4)
    have HB4 := Lib.hid (HB3.out.trans (hb4.mono HB3.out.size))
    clear hb4 c0 c1 c67 c68
    have c0 := HG4.out.kind_
    have c1 := HG4.out.seq_
    have c67 := HG4.out.size_
    have c68 := HG4.out.keys_
    have hsz4 := HB4.out.size
    go_wp2_with (at_builtin; refine wpList_app u8_ty rfl rfl rfl rfl HO4.out HR4.out (m := 33) (by rw [bcells_length, keyB_length _ (show (kh, kk).1.length = 32 from HKH.out)]) (bcells_one _) ?h63 ?hby ?hbase ?_)
    case h63 => simp [maxLen]
    case hby => decide
    case hbase => exact hsz4
    intro v5 w5 hown5 hg5 _ _
    have HG5 := Lib.hid (HG4.out.grown HO4.out hg5 (by decide))
    have HB5 := Lib.hid (grown_below HB4.out hg5 HO4.out (Nat.le_refl _) hsz4)
    have HO5 := Lib.hid (show w5.ownsRow w.heap.size 5 1 v5 39 (bcells (beBytes 6 x ++ keyB (kh, kk))) by rw [bcells_append]; exact hown5)
    obtain ⟨A5, d5, rfl, _, _⟩ := own_form HO5.out
    clear hown5 hg5 c0 c1 c67 c68 hsz4
    have c0 := HG5.out.kind_
    have c1 := HG5.out.seq_
    have c67 := HG5.out.size_
    have c68 := HG5.out.keys_
    have hsz5 := HB5.out.size
    go_wp2_with (at_builtin; refine wpList_app u8_ty rfl rfl rfl rfl HO5.out (HG5.out.rd_mark HLT.out) (m := 32) (by rw [bcells_length, HMH.out]) (bcells_one _) ?h63 ?hby ?hbase ?_)
    case h63 => simp [maxLen]
    case hby => decide
    case hbase => exact hsz5
    intro v6 w6 hown6 hg6 _ _
    have HG6 := Lib.hid (HG5.out.grown HO5.out hg6 (by decide))
    have HB6 := Lib.hid (grown_below HB5.out hg6 HO5.out (Nat.le_refl _) hsz5)
    have HO6 := Lib.hid (show w6.ownsRow w.heap.size 5 1 v6 71 (bcells ((beBytes 6 x ++ keyB (kh, kk)) ++ mh)) by rw [bcells_append]; exact hown6)
    obtain ⟨A6, d6, rfl, _, _⟩ := own_form HO6.out
    clear hown6 hg6 c0 c1 c67 c68 hsz5
    have c0 := HG6.out.kind_
    have c1 := HG6.out.seq_
    have c67 := HG6.out.size_
    have c68 := HG6.out.keys_
    go_wp2_with fail
    refine (num32_any 3 y _ (by decide) (by omega)).mono ?_
    rintro e w7 ⟨rfl, hh7, hb7⟩
    have HR7 := Lib.hid (rd_of_bytes (B := w7.heap.size) hh7 (Array.getElem?_eq_some_iff.1 hh7).1)
    clear hh7
    have HO7 := Lib.hid (own_below HO6.out hb7)
    have HG7 := Lib.hid (HG6.out.later hb7)
    have HB7 := Lib.hid (HB6.out.trans (hb7.mono HB6.out.size))
    clear hb7 c0 c1 c67 c68
    have c0 := HG7.out.kind_
    have c1 := HG7.out.seq_
    have c67 := HG7.out.size_
    have c68 := HG7.out.keys_
    have hsz7 := HB7.out.size
    go_wp2_with (at_builtin; refine wpList_app u8_ty rfl rfl rfl rfl HO7.out HR7.out (m := 3) (by rw [bcells_length, beBytes_length]) (bcells_one _) ?h63 ?hby ?hbase ?_)
    case h63 => simp [maxLen]
    case hby => decide
    case hbase => exact hsz7
    intro v8 w8 hown8 hg8 _ _
    have HG8 := Lib.hid (HG7.out.grown HO7.out hg8 (by decide))
    have HB8 := Lib.hid (grown_below HB7.out hg8 HO7.out (Nat.le_refl _) hsz7)
    have HO8 := Lib.hid (show w8.ownsRow w.heap.size 5 1 v8 74 (bcells (((beBytes 6 x ++ keyB (kh, kk)) ++ mh) ++ beBytes 3 y)) by rw [bcells_append]; exact hown8)
    obtain ⟨A8, d8, rfl, _, _⟩ := own_form HO8.out
    clear hown8 hg8 c0 c1 c67 c68 hsz7
    have c0 := HG8.out.kind_
    have c1 := HG8.out.seq_
    have c67 := HG8.out.size_
    have c68 := HG8.out.keys_
    go_wp2_with fail
    go_loopw [3, 4] (fun v3 v4 wr => v3 = .slice A8 74 d8 ∧ v4 = .int .i64 0 ∧ wr = w8) (fun _ _ _ => 0)
    case atStart => exact ⟨rfl, rfl, rfl⟩
    case round =>
      obtain ⟨rfl, rfl, rfl⟩ := hrel
      go_wp2_with fail
      go_ret
      exact load32_intro HO8.out (by simp [loadL]) HB8.out
  · obtain ⟨⟨hs0, hs1⟩, ⟨rfl, rfl⟩, rfl⟩ := right_3 hR
    obtain ⟨x, rfl⟩ : ∃ x : Nat, seq = x := ⟨seq.toNat, by omega⟩
    obtain rfl : n = 0 := N1.out
    have HR := Lib.hid hR
    clear hR
    have c0 := HG1.out.kind_
    have c1 := HG1.out.seq_
    have c67 := HG1.out.size_
    have c68 := HG1.out.keys_
    go_wp2_with fail
    refine (num32_any 6 x _ (by decide) (by omega)).mono ?_
    rintro e w2 ⟨rfl, hh2, hb2⟩
    have HR2 := Lib.hid (rd_of_bytes (B := w2.heap.size) hh2 (Array.getElem?_eq_some_iff.1 hh2).1)
    clear hh2
    have HO2 := Lib.hid (own_below HO1.out hb2)
    have HG2 := Lib.hid (HG1.out.later hb2)
    have HB2 := Lib.hid (HB1.out.trans (hb2.mono HB1.out.size))
    clear hb2 c0 c1 c67 c68
    have c0 := HG2.out.kind_
    have c1 := HG2.out.seq_
    have c67 := HG2.out.size_
    have c68 := HG2.out.keys_
    have hsz2 := HB2.out.size
    go_wp2_with (at_builtin; refine wpList_app u8_ty rfl rfl rfl rfl HO2.out HR2.out (m := 6) (by rw [bcells_length, beBytes_length]) (bcells_one _) ?h63 ?hby ?hbase ?_)
    case h63 => simp [maxLen]
    case hby => decide
    case hbase => exact hsz2
    intro v3 w3 hown3 hg3 _ _
    have HG3 := Lib.hid (HG2.out.grown HO2.out hg3 (by decide))
    have HB3 := Lib.hid (grown_below HB2.out hg3 HO2.out (Nat.le_refl _) hsz2)
    have HO3 := Lib.hid (show w3.ownsRow w.heap.size 5 1 v3 6 (bcells (beBytes 6 x)) by exact hown3)
    obtain ⟨A3, d3, rfl, _, _⟩ := own_form HO3.out
    clear hown3 hg3 c0 c1 c67 c68 hsz2
    have c0 := HG3.out.kind_
    have c1 := HG3.out.seq_
    have c67 := HG3.out.size_
    have c68 := HG3.out.keys_
    go_wp2_with fail
    go_loopw [3, 4] (fun v3 v4 wr => v3 = .slice A3 6 d3 ∧ v4 = .int .i64 0 ∧ wr = w3) (fun _ _ _ => 0)
    case atStart => exact ⟨rfl, rfl, rfl⟩
    case round =>
      obtain ⟨rfl, rfl, rfl⟩ := hrel
      go_wp2_with fail
      go_ret
      exact load32_intro HO3.out (by simp [loadL]) HB3.out
  · obtain ⟨hkk, ⟨hm0, hm1⟩, rfl⟩ := right_4 hR
    obtain ⟨y, rfl⟩ : ∃ y : Nat, ms = y := ⟨ms.toNat, by omega⟩
    obtain rfl : n = 0 := N1.out
    have HR := Lib.hid hR
    clear hR
    have c0 := HG1.out.kind_
    have c1 := HG1.out.seq_
    have c67 := HG1.out.size_
    have c68 := HG1.out.keys_
    go_wp2_with (refine stop_at (some 36) rfl ?_)
    refine Stop.go (wpList_seg 1 _ _ _ (fun Q' hQ' => ?_))
    simp only [List.take_succ_cons, List.take_zero]
    go_wp2_with fail
    try simp only [List.drop_succ_cons, List.drop_zero]
    refine Stop.go (wpList_load_agg rfl 26 rfl rfl keyTy.ut rfl (key_size _ _ HKH.out) HG1.out.key_ ?_)
    go_wp2_with fail
    refine (key32_any kh kk _ HKH.out hkk).mono ?_
    rintro e w2 ⟨u2, rfl, ho2, hb2⟩
    obtain ⟨E2, e2, rfl, _, _⟩ := own_form ho2
    have HR2 := Lib.hid (Rd.of_own ho2)
    clear ho2
    have HO2 := Lib.hid (own_below HO1.out hb2)
    have HG2 := Lib.hid (HG1.out.later hb2)
    have HB2 := Lib.hid (HB1.out.trans (hb2.mono HB1.out.size))
    clear hb2 c0 c1 c67 c68
    have c0 := HG2.out.kind_
    have c1 := HG2.out.seq_
    have c67 := HG2.out.size_
    have c68 := HG2.out.keys_
    have hsz2 := HB2.out.size
    go_wp2_with (at_builtin; refine wpList_app u8_ty rfl rfl rfl rfl HO2.out HR2.out (m := 33) (by rw [bcells_length, keyB_length _ (show (kh, kk).1.length = 32 from HKH.out)]) (bcells_one _) ?h63 ?hby ?hbase ?_)
    case h63 => simp [maxLen]
    case hby => decide
    case hbase => exact hsz2
    intro v3 w3 hown3 hg3 _ _
    have HG3 := Lib.hid (HG2.out.grown HO2.out hg3 (by decide))
    have HB3 := Lib.hid (grown_below HB2.out hg3 HO2.out (Nat.le_refl _) hsz2)
    have HO3 := Lib.hid (show w3.ownsRow w.heap.size 5 1 v3 33 (bcells (keyB (kh, kk))) by exact hown3)
    obtain ⟨A3, d3, rfl, _, _⟩ := own_form HO3.out
    clear hown3 hg3 c0 c1 c67 c68 hsz2
    have c0 := HG3.out.kind_
    have c1 := HG3.out.seq_
    have c67 := HG3.out.size_
    have c68 := HG3.out.keys_
    have hsz3 := HB3.out.size
    go_wp2_with (at_builtin; refine wpList_app u8_ty rfl rfl rfl rfl HO3.out (HG3.out.rd_mark HLT.out) (m := 32) (by rw [bcells_length, HMH.out]) (bcells_one _) ?h63 ?hby ?hbase ?_)
    case h63 => simp [maxLen]
    case hby => decide
    case hbase => exact hsz3
    intro v4 w4 hown4 hg4 _ _
    have HG4 := Lib.hid (HG3.out.grown HO3.out hg4 (by decide))
    have HB4 := Lib.hid (grown_below HB3.out hg4 HO3.out (Nat.le_refl _) hsz3)
    have HO4 := Lib.hid (show w4.ownsRow w.heap.size 5 1 v4 65 (bcells (keyB (kh, kk) ++ mh)) by rw [bcells_append]; exact hown4)
    obtain ⟨A4, d4, rfl, _, _⟩ := own_form HO4.out
    clear hown4 hg4 c0 c1 c67 c68 hsz3
    have c0 := HG4.out.kind_
    have c1 := HG4.out.seq_
    have c67 := HG4.out.size_
    have c68 := HG4.out.keys_
    go_wp2_with fail
    refine (num32_any 3 y _ (by decide) (by omega)).mono ?_
    rintro e w5 ⟨rfl, hh5, hb5⟩
    have HR5 := Lib.hid (rd_of_bytes (B := w5.heap.size) hh5 (Array.getElem?_eq_some_iff.1 hh5).1)
    clear hh5
    have HO5 := Lib.hid (own_below HO4.out hb5)
    have HG5 := Lib.hid (HG4.out.later hb5)
    have HB5 := Lib.hid (HB4.out.trans (hb5.mono HB4.out.size))
    clear hb5 c0 c1 c67 c68
    have c0 := HG5.out.kind_
    have c1 := HG5.out.seq_
    have c67 := HG5.out.size_
    have c68 := HG5.out.keys_
    have hsz5 := HB5.out.size
    go_wp2_with (at_builtin; refine wpList_app u8_ty rfl rfl rfl rfl HO5.out HR5.out (m := 3) (by rw [bcells_length, beBytes_length]) (bcells_one _) ?h63 ?hby ?hbase ?_)
    case h63 => simp [maxLen]
    case hby => decide
    case hbase => exact hsz5
    intro v6 w6 hown6 hg6 _ _
    have HG6 := Lib.hid (HG5.out.grown HO5.out hg6 (by decide))
    have HB6 := Lib.hid (grown_below HB5.out hg6 HO5.out (Nat.le_refl _) hsz5)
    have HO6 := Lib.hid (show w6.ownsRow w.heap.size 5 1 v6 68 (bcells ((keyB (kh, kk) ++ mh) ++ beBytes 3 y)) by rw [bcells_append]; exact hown6)
    obtain ⟨A6, d6, rfl, _, _⟩ := own_form HO6.out
    clear hown6 hg6 c0 c1 c67 c68 hsz5
    have c0 := HG6.out.kind_
    have c1 := HG6.out.seq_
    have c67 := HG6.out.size_
    have c68 := HG6.out.keys_
    go_wp2_with fail
    go_loopw [3, 4] (fun v3 v4 wr => v3 = .slice A6 68 d6 ∧ v4 = .int .i64 0 ∧ wr = w6) (fun _ _ _ => 0)
    case atStart => exact ⟨rfl, rfl, rfl⟩
    case round =>
      obtain ⟨rfl, rfl, rfl⟩ := hrel
      go_wp2_with fail
      go_ret
      exact load32_intro HO6.out (by simp [loadL]) HB6.out
  · obtain ⟨hkk, rfl⟩ := right_5 hR
    obtain rfl : n = 0 := N1.out
    have HR := Lib.hid hR
    clear hR
    have c0 := HG1.out.kind_
    have c1 := HG1.out.seq_
    have c67 := HG1.out.size_
    have c68 := HG1.out.keys_
    go_wp2_with (refine stop_at (some 36) rfl ?_)
    refine Stop.go (wpList_seg 1 _ _ _ (fun Q' hQ' => ?_))
    simp only [List.take_succ_cons, List.take_zero]
    go_wp2_with fail
    try simp only [List.drop_succ_cons, List.drop_zero]
    refine Stop.go (wpList_load_agg rfl 26 rfl rfl keyTy.ut rfl (key_size _ _ HKH.out) HG1.out.key_ ?_)
    go_wp2_with fail
    refine (key32_any kh kk _ HKH.out hkk).mono ?_
    rintro e w2 ⟨u2, rfl, ho2, hb2⟩
    obtain ⟨E2, e2, rfl, _, _⟩ := own_form ho2
    have HR2 := Lib.hid (Rd.of_own ho2)
    clear ho2
    have HO2 := Lib.hid (own_below HO1.out hb2)
    have HG2 := Lib.hid (HG1.out.later hb2)
    have HB2 := Lib.hid (HB1.out.trans (hb2.mono HB1.out.size))
    clear hb2 c0 c1 c67 c68
    have c0 := HG2.out.kind_
    have c1 := HG2.out.seq_
    have c67 := HG2.out.size_
    have c68 := HG2.out.keys_
    have hsz2 := HB2.out.size
    go_wp2_with (at_builtin; refine wpList_app u8_ty rfl rfl rfl rfl HO2.out HR2.out (m := 33) (by rw [bcells_length, keyB_length _ (show (kh, kk).1.length = 32 from HKH.out)]) (bcells_one _) ?h63 ?hby ?hbase ?_)
    case h63 => simp [maxLen]
    case hby => decide
    case hbase => exact hsz2
    intro v3 w3 hown3 hg3 _ _
    have HG3 := Lib.hid (HG2.out.grown HO2.out hg3 (by decide))
    have HB3 := Lib.hid (grown_below HB2.out hg3 HO2.out (Nat.le_refl _) hsz2)
    have HO3 := Lib.hid (show w3.ownsRow w.heap.size 5 1 v3 33 (bcells (keyB (kh, kk))) by exact hown3)
    obtain ⟨A3, d3, rfl, _, _⟩ := own_form HO3.out
    clear hown3 hg3 c0 c1 c67 c68 hsz2
    have c0 := HG3.out.kind_
    have c1 := HG3.out.seq_
    have c67 := HG3.out.size_
    have c68 := HG3.out.keys_
    go_wp2_with fail
    go_loopw [3, 4] (fun v3 v4 wr => v3 = .slice A3 33 d3 ∧ v4 = .int .i64 0 ∧ wr = w3) (fun _ _ _ => 0)
    case atStart => exact ⟨rfl, rfl, rfl⟩
    case round =>
      obtain ⟨rfl, rfl, rfl⟩ := hrel
      go_wp2_with fail
      go_ret
      exact load32_intro HO3.out (by simp [loadL]) HB3.out
  · obtain ⟨hkk, rfl⟩ := right_6 hR
    obtain rfl : n = 0 := N1.out
    have HR := Lib.hid hR
    clear hR
    have c0 := HG1.out.kind_
    have c1 := HG1.out.seq_
    have c67 := HG1.out.size_
    have c68 := HG1.out.keys_
    go_wp2_with (refine stop_at (some 36) rfl ?_)
    refine Stop.go (wpList_seg 1 _ _ _ (fun Q' hQ' => ?_))
    simp only [List.take_succ_cons, List.take_zero]
    go_wp2_with fail
    try simp only [List.drop_succ_cons, List.drop_zero]
    refine Stop.go (wpList_load_agg rfl 26 rfl rfl keyTy.ut rfl (key_size _ _ HKH.out) HG1.out.key_ ?_)
    go_wp2_with fail
    refine (key32_any kh kk _ HKH.out hkk).mono ?_
    rintro e w2 ⟨u2, rfl, ho2, hb2⟩
    obtain ⟨E2, e2, rfl, _, _⟩ := own_form ho2
    have HR2 := Lib.hid (Rd.of_own ho2)
    clear ho2
    have HO2 := Lib.hid (own_below HO1.out hb2)
    have HG2 := Lib.hid (HG1.out.later hb2)
    have HB2 := Lib.hid (HB1.out.trans (hb2.mono HB1.out.size))
    clear hb2 c0 c1 c67 c68
    have c0 := HG2.out.kind_
    have c1 := HG2.out.seq_
    have c67 := HG2.out.size_
    have c68 := HG2.out.keys_
    have hsz2 := HB2.out.size
    go_wp2_with (at_builtin; refine wpList_app u8_ty rfl rfl rfl rfl HO2.out HR2.out (m := 33) (by rw [bcells_length, keyB_length _ (show (kh, kk).1.length = 32 from HKH.out)]) (bcells_one _) ?h63 ?hby ?hbase ?_)
    case h63 => simp [maxLen]
    case hby => decide
    case hbase => exact hsz2
    intro v3 w3 hown3 hg3 _ _
    have HG3 := Lib.hid (HG2.out.grown HO2.out hg3 (by decide))
    have HB3 := Lib.hid (grown_below HB2.out hg3 HO2.out (Nat.le_refl _) hsz2)
    have HO3 := Lib.hid (show w3.ownsRow w.heap.size 5 1 v3 33 (bcells (keyB (kh, kk))) by exact hown3)
    obtain ⟨A3, d3, rfl, _, _⟩ := own_form HO3.out
    clear hown3 hg3 c0 c1 c67 c68 hsz2
    have c0 := HG3.out.kind_
    have c1 := HG3.out.seq_
    have c67 := HG3.out.size_
    have c68 := HG3.out.keys_
    go_wp2_with fail
    go_loopw [3, 4] (fun v3 v4 wr => v3 = .slice A3 33 d3 ∧ v4 = .int .i64 0 ∧ wr = w3) (fun _ _ _ => 0)
    case atStart => exact ⟨rfl, rfl, rfl⟩
    case round =>
      obtain ⟨rfl, rfl, rfl⟩ := hrel
      go_wp2_with fail
      go_ret
      exact load32_intro HO3.out (by simp [loadL]) HB3.out
  · obtain ⟨⟨rfl, rfl⟩, hris⟩ := right_7 hR
    have HR := Lib.hid hR
    clear hR
    have c0 := HG1.out.kind_
    have c1 := HG1.out.seq_
    have c67 := HG1.out.size_
    have c68 := HG1.out.keys_
    have HRI := Lib.hid (rising_ok hris)
    clear hris
    have hn256 : n ≤ 256 := by rw [N1.out]; exact HRI.out.1
    go_wp2_with fail
    go_loopw [3, 4] (fun v3 v4 wr => ∃ (i : Nat) (A3 : Option Addr) (c3 : Nat), i ≤ n ∧ v4 = .int .i64 i ∧ v3 = .slice A3 (33 * i) c3 ∧ Hid (wr.ownsRow w.heap.size 5 1 (.slice A3 (33 * i) c3) (33 * i) (bcells ((keys.take i).flatMap keyB))) ∧ Hid (RecAt wr w.heap.size 36 7 seq z32 0 mh ms (.slice A n c)) ∧ Hid (Below w.heap.size w wr)) (fun _ v4 _ => n - (intOf v4).toNat)
    case atStart => exact ⟨0, none, 0, by omega, rfl, rfl, HO1, HG1, HB1⟩
    case round =>
      clear c0 c1 c67 c68 HO1 HG1 HB1
      obtain ⟨i, A3, c3, hi, rfl, rfl, HO3, HG3, HB3⟩ := hrel
      have c68 := HG3.out.keys_
      by_cases hlt : i < n
      · have hlt1 : i < keys.length := by have := N1.out; omega
        obtain ⟨b1, o1, rfl, _, _, l1, e1⟩ := keys_at (H1.out.below (HB3.out.mono HBW.out)) hlt1
        have HOK := Lib.hid (HRI.out.2 i hlt1)
        have HFL := Lib.hid (show (keys.take (i + 1)).flatMap keyB = (keys.take i).flatMap keyB ++ keyB keys[i] by rw [List.take_succ_eq_append_getElem hlt1, List.flatMap_append]; simp)
        obtain ⟨q, hq⟩ : ∃ q, q = keys[i] := ⟨_, rfl⟩
        rw [← hq] at l1 e1 HOK HFL
        obtain ⟨qh, qk⟩ := q
        simp only at l1 e1 HOK
        have HE1 := Lib.hid e1
        have HL1 := Lib.hid l1
        clear e1 l1 hq
        go_wp2_with (refine stop_at (some 65) rfl ?_)
        refine Stop.go (wpList_seg 4 _ _ _ (fun Q' hQ' => ?_))
        simp only [List.take_succ_cons, List.take_zero]
        go_wp2_with fail
        try simp only [List.drop_succ_cons, List.drop_zero]
        refine Stop.go (wpList_load_agg rfl 26 rfl rfl keyTy.ut rfl (key_size _ _ HL1.out) HE1.out ?_)
        go_wp2_with fail
        refine (key32_any qh qk _ HL1.out HOK.out).mono ?_
        rintro e w4 ⟨u4, rfl, ho4, hb4⟩
        obtain ⟨E4, e4, rfl, _, _⟩ := own_form ho4
        have HR4 := Lib.hid (Rd.of_own ho4)
        have HO4 := Lib.hid (own_below HO3.out hb4)
        have HG4 := Lib.hid (HG3.out.later hb4)
        have HB4 := Lib.hid (HB3.out.trans (hb4.mono HB3.out.size))
        clear ho4 hb4 c68
        have hsz := HB4.out.size
        go_wp2_with (at_builtin; refine wpList_app u8_ty rfl rfl rfl rfl HO4.out HR4.out (m := 33) (by rw [bcells_length, keyB_length _ (show (qh, qk).1.length = 32 from HL1.out)]) (bcells_one _) ?h63 ?hby ?hbase ?_)
        case h63 => simp only [maxLen]; omega
        case hby => omega
        case hbase => exact hsz
        intro v5 w5 hown5 hg5 _ _
        have HG5 := Lib.hid (HG4.out.grown HO4.out hg5 (by decide))
        have HB5 := Lib.hid (grown_below HB4.out hg5 HO4.out (Nat.le_refl _) hsz)
        have HO5 := Lib.hid (show w5.ownsRow w.heap.size 5 1 v5 (33 * (i + 1)) (bcells ((keys.take (i + 1)).flatMap keyB)) by rw [HFL.out, bcells_append, Nat.mul_add]; exact hown5)
        obtain ⟨A5, c5, rfl, _, _⟩ := own_form HO5.out
        clear hown5 hg5 hsz
        go_wp2_with fail
        refine ⟨⟨i + 1, A5, c5, by omega, by go_num, rfl, HO5, HG5, HB5⟩, ?_⟩
        simp [intOf]; omega
      · obtain rfl : i = n := by omega
        have HF := Lib.hid (show (keys.take i).flatMap keyB = loadL ⟨7, seq, z32, 0, mh, ms, keys⟩ by rw [List.take_of_length_le (by rw [← N1.out]; exact Nat.le_refl _)]; simp [loadL])
        go_wp2_with fail
        go_ret
        exact load32_intro HO3.out HF.out HB3.out
end Go.Proofs.YtplbcbamnjnhlaaDoor
