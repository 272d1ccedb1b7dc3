/- Texts of this proof joined: RefLoad, Seven2. -/
import Derived.Test.YtplbcbamnjnhlaaGreatDoorMB28
import Derived.Test.YtplbcbamnjnhlaaGreatDoorMB19
import Derived.Test.YtplbcbamnjnhlaaGreatDoorMB15
namespace Go.Proofs.YtplbcbamnjnhlaaGreatDoor
open Go.RowKit

theorem RecAt.grown {w w' : World} {b : Nat} {t : TypeId} {kind seq : Int} {kh : List UInt8} {kk : Int} {mh : List UInt8} {ms : Int} {v : Value} (h : RecAt w b t kind seq kh kk mh ms v) {base n : Nat} {u : Value} {xs : List Value} {e : TypeId} {size : Nat} (ho : w.ownsRow base e size u n xs) (hg : w.grownBy w' u.ownBlock) (ht : t ≠ e) :
    RecAt w' b t kind seq kh kk mh ms v := ⟨grown_other ho hg h.blk ht, h.hk, h.hm⟩
def Load32To (r : RecD) (w : World) (e : Ending) (w' : World) : Prop := ∃ v, e = .returned v ∧ w'.ownsRow w.heap.size 5 1 v (loadL r).length (bcells (loadL r)) ∧ Below w.heap.size w w'
theorem load32_intro {r : RecD} {w w' : World} {v : Value} {n : Nat} {l : List UInt8} (ho : w'.ownsRow w.heap.size 5 1 v n (bcells l)) (hl : l = loadL r) (hb : Below w.heap.size w w') : Load32To r w (.returned v) w' := by
  subst hl
  have h1 := ho.1
  rw [bcells_length, Nat.mul_one] at h1
  subst h1
  exact ⟨v, rfl, ho, hb⟩
set_option maxRecDepth 100000 in
set_option maxHeartbeats 8000000 in
theorem load32_any (r : RecD) (A : Option Addr) (n c B : Nat) (w : World) (hr : Hs r) (h1 : SlR eKey w B (.slice A n c) r.keys) (hB : B ≤ w.heap.size) (hR : rightB r = true) :
    Calls Tryz.prog 69 #[rv r (.slice A n c)] w (Load32To r w) := by
  have hkd := right_kind hR
  obtain ⟨kind, seq, kh, kk, mh, ms, keys⟩ := r
  obtain ⟨hk, hm⟩ := hr
  simp only at hk hm h1 hkd
  have HKH := Lib.hid hk
  have HMH := Lib.hid hm
  have N1 := Lib.hid h1.n_eq
  have hc1 := h1.n_le
  have H1 := Lib.hid h1
  have HBW := Lib.hid hB
  have HB1 := Lib.hid ((Below.refl _ _).alloc (Nat.le_refl _) (.cells (recCells kind seq kh kk mh ms (.slice A n c)).toArray 42) : Below w.heap.size w _)
  have HG1 := Lib.hid (RecAt.new (t := 42) (kind := kind) (seq := seq) (kk := kk) (ms := ms) (v := .slice A n c) w hk hm)
  have HLT := Lib.hid (show w.heap.size < w.heap.size + 1 from Nat.lt_succ_self _)
  clear h1 hB hk hm
  go_enter Tryz.func69, Tryz.ntmps69
  go_wp2_with (refine stop_at (some 1) rfl ?_)
  refine Stop.go (wpList_box rfl _ rfl rfl (recv_cells ..) ?_)
  generalize w.alloc (.cells (recCells kind seq kh kk mh ms (.slice A n c)).toArray 42) = w1 at *
  have HO1 := Lib.hid (World.ownsRow_nil w1 w.heap.size 5 1)
  rcases hkd with rfl | rfl | rfl | rfl | rfl | rfl | rfl
  · obtain ⟨⟨rfl, rfl⟩, rfl⟩ := right_1 hR
    obtain rfl : n = 0 := N1.out
    have HR := Lib.hid hR
    clear hR
    have c0 := HG1.out.kind_
    have c1 := HG1.out.seq_
    have c67 := HG1.out.size_
    have c68 := HG1.out.keys_
    have hb2 : Below w1.heap.size w1 (w1.alloc (.cells #[.int .u8 1] 5)) := (Below.refl _ _).alloc (Nat.le_refl _) _
    have HO2 := Lib.hid (World.ownsRow_lit (base := w.heap.size) (e := 5) (size := 1) w1 #[.int .u8 1] 1 HB1.out.size (by simp [maxLen]) rfl)
    go_wp2_with fail
    go_ret
    exact load32_intro (l := [1]) HO2.out rfl (HB1.out.trans (hb2.mono HB1.out.size))
  · obtain ⟨⟨hs0, hs1⟩, hkk, ⟨hm0, hm1⟩, rfl⟩ := right_2 hR
    obtain ⟨x, rfl⟩ : ∃ x : Nat, seq = x := ⟨seq.toNat, by omega⟩
    obtain ⟨y, rfl⟩ : ∃ y : Nat, ms = y := ⟨ms.toNat, by omega⟩
    obtain rfl : n = 0 := N1.out
    have HR := Lib.hid hR
    clear hR
    have c0 := HG1.out.kind_
    have c1 := HG1.out.seq_
    have c67 := HG1.out.size_
    have c68 := HG1.out.keys_
    go_wp2_with fail
    refine (num32_any 6 x _ (by decide) (by omega)).mono ?_
    rintro e w2 ⟨rfl, hh2, hb2⟩
    have HR2 := Lib.hid (rd_of_bytes (B := w2.heap.size) hh2 (Array.getElem?_eq_some_iff.1 hh2).1)
    clear hh2
    have HO2 := Lib.hid (own_below HO1.out hb2)
    have HG2 := Lib.hid (HG1.out.later hb2)
    have HB2 := Lib.hid (HB1.out.trans (hb2.mono HB1.out.size))
    clear hb2 c0 c1 c67 c68
    have c0 := HG2.out.kind_
    have c1 := HG2.out.seq_
    have c67 := HG2.out.size_
    have c68 := HG2.out.keys_
    have hsz2 := HB2.out.size
    go_wp2_with (at_builtin; refine wpList_app u8_ty rfl rfl rfl rfl HO2.out HR2.out (m := 6) (by rw [bcells_length, beBytes_length]) (bcells_one _) ?h63 ?hby ?hbase ?_)
    case h63 => simp [maxLen]
    case hby => decide
    case hbase => exact hsz2
    intro v3 w3 hown3 hg3 _ _
    have HG3 := Lib.hid (HG2.out.grown HO2.out hg3 (by decide))
    have HB3 := Lib.hid (grown_below HB2.out hg3 HO2.out (Nat.le_refl _) hsz2)
    have HO3 := Lib.hid (show w3.ownsRow w.heap.size 5 1 v3 6 (bcells (beBytes 6 x)) by exact hown3)
    obtain ⟨A3, d3, rfl, _, _⟩ := own_form HO3.out
    clear hown3 hg3 c0 c1 c67 c68 hsz2
    have c0 := HG3.out.kind_
    have c1 := HG3.out.seq_
    have c67 := HG3.out.size_
    have c68 := HG3.out.keys_
    go_wp2_with (refine stop_at (some 36) rfl ?_)
    refine Stop.go (wpList_seg 1 _ _ _ (fun Q' hQ' => ?_))
    simp only [List.take_succ_cons, List.take_zero]
    go_wp2_with fail
    try simp only [List.drop_succ_cons, List.drop_zero]
    refine Stop.go (wpList_load_agg rfl 34 rfl rfl keyTy.ut rfl (key_size _ _ HKH.out) HG3.out.key_ ?_)
    go_wp2_with fail
    refine (key32_any kh kk _ HKH.out hkk).mono ?_
    rintro e w4 ⟨u4, rfl, ho4, hb4⟩
    obtain ⟨E4, e4, rfl, _, _⟩ := own_form ho4
    have HR4 := Lib.hid (Rd.of_own ho4)
    clear ho4
    have HO4 := Lib.hid (own_below HO3.out hb4)
    have HG4 := Lib.hid (HG3.out.later hb4)
    have HB4 := Lib.hid (HB3.out.trans (hb4.mono HB3.out.size))
    clear hb4 c0 c1 c67 c68
    have c0 := HG4.out.kind_
    have c1 := HG4.out.seq_
    have c67 := HG4.out.size_
    have c68 := HG4.out.keys_
    have hsz4 := HB4.out.size
    go_wp2_with (at_builtin; refine wpList_app u8_ty rfl rfl rfl rfl HO4.out HR4.out (m := 33) (by rw [bcells_length, keyB_length _ (show (kh, kk).1.length = 32 from HKH.out)]) (bcells_one _) ?h63 ?hby ?hbase ?_)
    case h63 => simp [maxLen]
    case hby => decide
    case hbase => exact hsz4
    intro v5 w5 hown5 hg5 _ _
    have HG5 := Lib.hid (HG4.out.grown HO4.out hg5 (by decide))
    have HB5 := Lib.hid (grown_below HB4.out hg5 HO4.out (Nat.le_refl _) hsz4)
    have HO5 := Lib.hid (show w5.ownsRow w.heap.size 5 1 v5 39 (bcells (beBytes 6 x ++ keyB (kh, kk))) by rw [bcells_append]; exact hown5)
    obtain ⟨A5, d5, rfl, _, _⟩ := own_form HO5.out
    clear hown5 hg5 c0 c1 c67 c68 hsz4
    have c0 := HG5.out.kind_
    have c1 := HG5.out.seq_
    have c67 := HG5.out.size_
    have c68 := HG5.out.keys_
    have hsz5 := HB5.out.size
    go_wp2_with (at_builtin; refine wpList_app u8_ty rfl rfl rfl rfl HO5.out (HG5.out.rd_mark HLT.out) (m := 32) (by rw [bcells_length, HMH.out]) (bcells_one _) ?h63 ?hby ?hbase ?_)
    case h63 => simp [maxLen]
    case hby => decide
    case hbase => exact hsz5
    intro v6 w6 hown6 hg6 _ _
    have HG6 := Lib.hid (HG5.out.grown HO5.out hg6 (by decide))
    have HB6 := Lib.hid (grown_below HB5.out hg6 HO5.out (Nat.le_refl _) hsz5)
    have HO6 := Lib.hid (show w6.ownsRow w.heap.size 5 1 v6 71 (bcells ((beBytes 6 x ++ keyB (kh, kk)) ++ mh)) by rw [bcells_append]; exact hown6)
    obtain ⟨A6, d6, rfl, _, _⟩ := own_form HO6.out
    clear hown6 hg6 c0 c1 c67 c68 hsz5
    have c0 := HG6.out.kind_
    have c1 := HG6.out.seq_
    have c67 := HG6.out.size_
    have c68 := HG6.out.keys_
    go_wp2_with fail
    refine (num32_any 3 y _ (by decide) (by omega)).mono ?_
    rintro e w7 ⟨rfl, hh7, hb7⟩
    have HR7 := Lib.hid (rd_of_bytes (B := w7.heap.size) hh7 (Array.getElem?_eq_some_iff.1 hh7).1)
    clear hh7
    have HO7 := Lib.hid (own_below HO6.out hb7)
    have HG7 := Lib.hid (HG6.out.later hb7)
    have HB7 := Lib.hid (HB6.out.trans (hb7.mono HB6.out.size))
    clear hb7 c0 c1 c67 c68
    have c0 := HG7.out.kind_
    have c1 := HG7.out.seq_
    have c67 := HG7.out.size_
    have c68 := HG7.out.keys_
    have hsz7 := HB7.out.size
    go_wp2_with (at_builtin; refine wpList_app u8_ty rfl rfl rfl rfl HO7.out HR7.out (m := 3) (by rw [bcells_length, beBytes_length]) (bcells_one _) ?h63 ?hby ?hbase ?_)
    case h63 => simp [maxLen]
    case hby => decide
    case hbase => exact hsz7
    intro v8 w8 hown8 hg8 _ _
    have HG8 := Lib.hid (HG7.out.grown HO7.out hg8 (by decide))
    have HB8 := Lib.hid (grown_below HB7.out hg8 HO7.out (Nat.le_refl _) hsz7)
    have HO8 := Lib.hid (show w8.ownsRow w.heap.size 5 1 v8 74 (bcells (((beBytes 6 x ++ keyB (kh, kk)) ++ mh) ++ beBytes 3 y)) by rw [bcells_append]; exact hown8)
    obtain ⟨A8, d8, rfl, _, _⟩ := own_form HO8.out
    clear hown8 hg8 c0 c1 c67 c68 hsz7
    have c0 := HG8.out.kind_
    have c1 := HG8.out.seq_
    have c67 := HG8.out.size_
    have c68 := HG8.out.keys_
    go_wp2_with fail
    go_loopw [3, 4] (fun v3 v4 wr => v3 = .slice A8 74 d8 ∧ v4 = .int .i64 0 ∧ wr = w8) (fun _ _ _ => 0)
    case atStart => exact ⟨rfl, rfl, rfl⟩
    case round =>
      obtain ⟨rfl, rfl, rfl⟩ := hrel
      go_wp2_with fail
      go_ret
      exact load32_intro HO8.out (by simp [loadL]) HB8.out
  · obtain ⟨⟨hs0, hs1⟩, ⟨rfl, rfl⟩, rfl⟩ := right_3 hR
    obtain ⟨x, rfl⟩ : ∃ x : Nat, seq = x := ⟨seq.toNat, by omega⟩
    obtain rfl : n = 0 := N1.out
    have HR := Lib.hid hR
    clear hR
    have c0 := HG1.out.kind_
    have c1 := HG1.out.seq_
    have c67 := HG1.out.size_
    have c68 := HG1.out.keys_
    go_wp2_with fail
    refine (num32_any 6 x _ (by decide) (by omega)).mono ?_
    rintro e w2 ⟨rfl, hh2, hb2⟩
    have HR2 := Lib.hid (rd_of_bytes (B := w2.heap.size) hh2 (Array.getElem?_eq_some_iff.1 hh2).1)
    clear hh2
    have HO2 := Lib.hid (own_below HO1.out hb2)
    have HG2 := Lib.hid (HG1.out.later hb2)
    have HB2 := Lib.hid (HB1.out.trans (hb2.mono HB1.out.size))
    clear hb2 c0 c1 c67 c68
    have c0 := HG2.out.kind_
    have c1 := HG2.out.seq_
    have c67 := HG2.out.size_
    have c68 := HG2.out.keys_
    have hsz2 := HB2.out.size
    go_wp2_with (at_builtin; refine wpList_app u8_ty rfl rfl rfl rfl HO2.out HR2.out (m := 6) (by rw [bcells_length, beBytes_length]) (bcells_one _) ?h63 ?hby ?hbase ?_)
    case h63 => simp [maxLen]
    case hby => decide
    case hbase => exact hsz2
    intro v3 w3 hown3 hg3 _ _
    have HG3 := Lib.hid (HG2.out.grown HO2.out hg3 (by decide))
    have HB3 := Lib.hid (grown_below HB2.out hg3 HO2.out (Nat.le_refl _) hsz2)
    have HO3 := Lib.hid (show w3.ownsRow w.heap.size 5 1 v3 6 (bcells (beBytes 6 x)) by exact hown3)
    obtain ⟨A3, d3, rfl, _, _⟩ := own_form HO3.out
    clear hown3 hg3 c0 c1 c67 c68 hsz2
    have c0 := HG3.out.kind_
    have c1 := HG3.out.seq_
    have c67 := HG3.out.size_
    have c68 := HG3.out.keys_
    go_wp2_with fail
    go_loopw [3, 4] (fun v3 v4 wr => v3 = .slice A3 6 d3 ∧ v4 = .int .i64 0 ∧ wr = w3) (fun _ _ _ => 0)
    case atStart => exact ⟨rfl, rfl, rfl⟩
    case round =>
      obtain ⟨rfl, rfl, rfl⟩ := hrel
      go_wp2_with fail
      go_ret
      exact load32_intro HO3.out (by simp [loadL]) HB3.out
  · obtain ⟨hkk, ⟨hm0, hm1⟩, rfl⟩ := right_4 hR
    obtain ⟨y, rfl⟩ : ∃ y : Nat, ms = y := ⟨ms.toNat, by omega⟩
    obtain rfl : n = 0 := N1.out
    have HR := Lib.hid hR
    clear hR
    have c0 := HG1.out.kind_
    have c1 := HG1.out.seq_
    have c67 := HG1.out.size_
    have c68 := HG1.out.keys_
    go_wp2_with (refine stop_at (some 36) rfl ?_)
    refine Stop.go (wpList_seg 1 _ _ _ (fun Q' hQ' => ?_))
    simp only [List.take_succ_cons, List.take_zero]
    go_wp2_with fail
    try simp only [List.drop_succ_cons, List.drop_zero]
    refine Stop.go (wpList_load_agg rfl 34 rfl rfl keyTy.ut rfl (key_size _ _ HKH.out) HG1.out.key_ ?_)
    go_wp2_with fail
    refine (key32_any kh kk _ HKH.out hkk).mono ?_
    rintro e w2 ⟨u2, rfl, ho2, hb2⟩
    obtain ⟨E2, e2, rfl, _, _⟩ := own_form ho2
    have HR2 := Lib.hid (Rd.of_own ho2)
    clear ho2
    have HO2 := Lib.hid (own_below HO1.out hb2)
    have HG2 := Lib.hid (HG1.out.later hb2)
    have HB2 := Lib.hid (HB1.out.trans (hb2.mono HB1.out.size))
    clear hb2 c0 c1 c67 c68
    have c0 := HG2.out.kind_
    have c1 := HG2.out.seq_
    have c67 := HG2.out.size_
    have c68 := HG2.out.keys_
    have hsz2 := HB2.out.size
    go_wp2_with (at_builtin; refine wpList_app u8_ty rfl rfl rfl rfl HO2.out HR2.out (m := 33) (by rw [bcells_length, keyB_length _ (show (kh, kk).1.length = 32 from HKH.out)]) (bcells_one _) ?h63 ?hby ?hbase ?_)
    case h63 => simp [maxLen]
    case hby => decide
    case hbase => exact hsz2
    intro v3 w3 hown3 hg3 _ _
    have HG3 := Lib.hid (HG2.out.grown HO2.out hg3 (by decide))
    have HB3 := Lib.hid (grown_below HB2.out hg3 HO2.out (Nat.le_refl _) hsz2)
    have HO3 := Lib.hid (show w3.ownsRow w.heap.size 5 1 v3 33 (bcells (keyB (kh, kk))) by exact hown3)
    obtain ⟨A3, d3, rfl, _, _⟩ := own_form HO3.out
    clear hown3 hg3 c0 c1 c67 c68 hsz2
    have c0 := HG3.out.kind_
    have c1 := HG3.out.seq_
    have c67 := HG3.out.size_
    have c68 := HG3.out.keys_
    have hsz3 := HB3.out.size
    go_wp2_with (at_builtin; refine wpList_app u8_ty rfl rfl rfl rfl HO3.out (HG3.out.rd_mark HLT.out) (m := 32) (by rw [bcells_length, HMH.out]) (bcells_one _) ?h63 ?hby ?hbase ?_)
    case h63 => simp [maxLen]
    case hby => decide
    case hbase => exact hsz3
    intro v4 w4 hown4 hg4 _ _
    have HG4 := Lib.hid (HG3.out.grown HO3.out hg4 (by decide))
    have HB4 := Lib.hid (grown_below HB3.out hg4 HO3.out (Nat.le_refl _) hsz3)
    have HO4 := Lib.hid (show w4.ownsRow w.heap.size 5 1 v4 65 (bcells (keyB (kh, kk) ++ mh)) by rw [bcells_append]; exact hown4)
    obtain ⟨A4, d4, rfl, _, _⟩ := own_form HO4.out
    clear hown4 hg4 c0 c1 c67 c68 hsz3
    have c0 := HG4.out.kind_
    have c1 := HG4.out.seq_
    have c67 := HG4.out.size_
    have c68 := HG4.out.keys_
    go_wp2_with fail
    refine (num32_any 3 y _ (by decide) (by omega)).mono ?_
    rintro e w5 ⟨rfl, hh5, hb5⟩
    have HR5 := Lib.hid (rd_of_bytes (B := w5.heap.size) hh5 (Array.getElem?_eq_some_iff.1 hh5).1)
    clear hh5
    have HO5 := Lib.hid (own_below HO4.out hb5)
    have HG5 := Lib.hid (HG4.out.later hb5)
    have HB5 := Lib.hid (HB4.out.trans (hb5.mono HB4.out.size))
    clear hb5 c0 c1 c67 c68
    have c0 := HG5.out.kind_
    have c1 := HG5.out.seq_
    have c67 := HG5.out.size_
    have c68 := HG5.out.keys_
    have hsz5 := HB5.out.size
    go_wp2_with (at_builtin; refine wpList_app u8_ty rfl rfl rfl rfl HO5.out HR5.out (m := 3) (by rw [bcells_length, beBytes_length]) (bcells_one _) ?h63 ?hby ?hbase ?_)
    case h63 => simp [maxLen]
    case hby => decide
    case hbase => exact hsz5
    intro v6 w6 hown6 hg6 _ _
    have HG6 := Lib.hid (HG5.out.grown HO5.out hg6 (by decide))
    have HB6 := Lib.hid (grown_below HB5.out hg6 HO5.out (Nat.le_refl _) hsz5)
    have HO6 := Lib.hid (show w6.ownsRow w.heap.size 5 1 v6 68 (bcells ((keyB (kh, kk) ++ mh) ++ beBytes 3 y)) by rw [bcells_append]; exact hown6)
    obtain ⟨A6, d6, rfl, _, _⟩ := own_form HO6.out
    clear hown6 hg6 c0 c1 c67 c68 hsz5
    have c0 := HG6.out.kind_
    have c1 := HG6.out.seq_
    have c67 := HG6.out.size_
    have c68 := HG6.out.keys_
    go_wp2_with fail
    go_loopw [3, 4] (fun v3 v4 wr => v3 = .slice A6 68 d6 ∧ v4 = .int .i64 0 ∧ wr = w6) (fun _ _ _ => 0)
    case atStart => exact ⟨rfl, rfl, rfl⟩
    case round =>
      obtain ⟨rfl, rfl, rfl⟩ := hrel
      go_wp2_with fail
      go_ret
      exact load32_intro HO6.out (by simp [loadL]) HB6.out
  · obtain ⟨hkk, rfl⟩ := right_5 hR
    obtain rfl : n = 0 := N1.out
    have HR := Lib.hid hR
    clear hR
    have c0 := HG1.out.kind_
    have c1 := HG1.out.seq_
    have c67 := HG1.out.size_
    have c68 := HG1.out.keys_
    go_wp2_with (refine stop_at (some 36) rfl ?_)
    refine Stop.go (wpList_seg 1 _ _ _ (fun Q' hQ' => ?_))
    simp only [List.take_succ_cons, List.take_zero]
    go_wp2_with fail
    try simp only [List.drop_succ_cons, List.drop_zero]
    refine Stop.go (wpList_load_agg rfl 34 rfl rfl keyTy.ut rfl (key_size _ _ HKH.out) HG1.out.key_ ?_)
    go_wp2_with fail
    refine (key32_any kh kk _ HKH.out hkk).mono ?_
    rintro e w2 ⟨u2, rfl, ho2, hb2⟩
    obtain ⟨E2, e2, rfl, _, _⟩ := own_form ho2
    have HR2 := Lib.hid (Rd.of_own ho2)
    clear ho2
    have HO2 := Lib.hid (own_below HO1.out hb2)
    have HG2 := Lib.hid (HG1.out.later hb2)
    have HB2 := Lib.hid (HB1.out.trans (hb2.mono HB1.out.size))
    clear hb2 c0 c1 c67 c68
    have c0 := HG2.out.kind_
    have c1 := HG2.out.seq_
    have c67 := HG2.out.size_
    have c68 := HG2.out.keys_
    have hsz2 := HB2.out.size
    go_wp2_with (at_builtin; refine wpList_app u8_ty rfl rfl rfl rfl HO2.out HR2.out (m := 33) (by rw [bcells_length, keyB_length _ (show (kh, kk).1.length = 32 from HKH.out)]) (bcells_one _) ?h63 ?hby ?hbase ?_)
    case h63 => simp [maxLen]
    case hby => decide
    case hbase => exact hsz2
    intro v3 w3 hown3 hg3 _ _
    have HG3 := Lib.hid (HG2.out.grown HO2.out hg3 (by decide))
    have HB3 := Lib.hid (grown_below HB2.out hg3 HO2.out (Nat.le_refl _) hsz2)
    have HO3 := Lib.hid (show w3.ownsRow w.heap.size 5 1 v3 33 (bcells (keyB (kh, kk))) by exact hown3)
    obtain ⟨A3, d3, rfl, _, _⟩ := own_form HO3.out
    clear hown3 hg3 c0 c1 c67 c68 hsz2
    have c0 := HG3.out.kind_
    have c1 := HG3.out.seq_
    have c67 := HG3.out.size_
    have c68 := HG3.out.keys_
    go_wp2_with fail
    go_loopw [3, 4] (fun v3 v4 wr => v3 = .slice A3 33 d3 ∧ v4 = .int .i64 0 ∧ wr = w3) (fun _ _ _ => 0)
    case atStart => exact ⟨rfl, rfl, rfl⟩
    case round =>
      obtain ⟨rfl, rfl, rfl⟩ := hrel
      go_wp2_with fail
      go_ret
      exact load32_intro HO3.out (by simp [loadL]) HB3.out
  · obtain ⟨hkk, rfl⟩ := right_6 hR
    obtain rfl : n = 0 := N1.out
    have HR := Lib.hid hR
    clear hR
    have c0 := HG1.out.kind_
    have c1 := HG1.out.seq_
    have c67 := HG1.out.size_
    have c68 := HG1.out.keys_
    go_wp2_with (refine stop_at (some 36) rfl ?_)
    refine Stop.go (wpList_seg 1 _ _ _ (fun Q' hQ' => ?_))
    simp only [List.take_succ_cons, List.take_zero]
    go_wp2_with fail
    try simp only [List.drop_succ_cons, List.drop_zero]
    refine Stop.go (wpList_load_agg rfl 34 rfl rfl keyTy.ut rfl (key_size _ _ HKH.out) HG1.out.key_ ?_)
    go_wp2_with fail
    refine (key32_any kh kk _ HKH.out hkk).mono ?_
    rintro e w2 ⟨u2, rfl, ho2, hb2⟩
    obtain ⟨E2, e2, rfl, _, _⟩ := own_form ho2
    have HR2 := Lib.hid (Rd.of_own ho2)
    clear ho2
    have HO2 := Lib.hid (own_below HO1.out hb2)
    have HG2 := Lib.hid (HG1.out.later hb2)
    have HB2 := Lib.hid (HB1.out.trans (hb2.mono HB1.out.size))
    clear hb2 c0 c1 c67 c68
    have c0 := HG2.out.kind_
    have c1 := HG2.out.seq_
    have c67 := HG2.out.size_
    have c68 := HG2.out.keys_
    have hsz2 := HB2.out.size
    go_wp2_with (at_builtin; refine wpList_app u8_ty rfl rfl rfl rfl HO2.out HR2.out (m := 33) (by rw [bcells_length, keyB_length _ (show (kh, kk).1.length = 32 from HKH.out)]) (bcells_one _) ?h63 ?hby ?hbase ?_)
    case h63 => simp [maxLen]
    case hby => decide
    case hbase => exact hsz2
    intro v3 w3 hown3 hg3 _ _
    have HG3 := Lib.hid (HG2.out.grown HO2.out hg3 (by decide))
    have HB3 := Lib.hid (grown_below HB2.out hg3 HO2.out (Nat.le_refl _) hsz2)
    have HO3 := Lib.hid (show w3.ownsRow w.heap.size 5 1 v3 33 (bcells (keyB (kh, kk))) by exact hown3)
    obtain ⟨A3, d3, rfl, _, _⟩ := own_form HO3.out
    clear hown3 hg3 c0 c1 c67 c68 hsz2
    have c0 := HG3.out.kind_
    have c1 := HG3.out.seq_
    have c67 := HG3.out.size_
    have c68 := HG3.out.keys_
    go_wp2_with fail
    go_loopw [3, 4] (fun v3 v4 wr => v3 = .slice A3 33 d3 ∧ v4 = .int .i64 0 ∧ wr = w3) (fun _ _ _ => 0)
    case atStart => exact ⟨rfl, rfl, rfl⟩
    case round =>
      obtain ⟨rfl, rfl, rfl⟩ := hrel
      go_wp2_with fail
      go_ret
      exact load32_intro HO3.out (by simp [loadL]) HB3.out
  · obtain ⟨⟨rfl, rfl⟩, hris⟩ := right_7 hR
    have HR := Lib.hid hR
    clear hR
    have c0 := HG1.out.kind_
    have c1 := HG1.out.seq_
    have c67 := HG1.out.size_
    have c68 := HG1.out.keys_
    have HRI := Lib.hid (rising_ok hris)
    clear hris
    have hn256 : n ≤ 256 := by rw [N1.out]; exact HRI.out.1
    go_wp2_with fail
    go_loopw [3, 4] (fun v3 v4 wr => ∃ (i : Nat) (A3 : Option Addr) (c3 : Nat), i ≤ n ∧ v4 = .int .i64 i ∧ v3 = .slice A3 (33 * i) c3 ∧ Hid (wr.ownsRow w.heap.size 5 1 (.slice A3 (33 * i) c3) (33 * i) (bcells ((keys.take i).flatMap keyB))) ∧ Hid (RecAt wr w.heap.size 42 7 seq z32 0 mh ms (.slice A n c)) ∧ Hid (Below w.heap.size w wr)) (fun _ v4 _ => n - (intOf v4).toNat)
    case atStart => exact ⟨0, none, 0, by omega, rfl, rfl, HO1, HG1, HB1⟩
    case round =>
      clear c0 c1 c67 c68 HO1 HG1 HB1
      obtain ⟨i, A3, c3, hi, rfl, rfl, HO3, HG3, HB3⟩ := hrel
      have c68 := HG3.out.keys_
      by_cases hlt : i < n
      · have hlt1 : i < keys.length := by have := N1.out; omega
        obtain ⟨b1, o1, rfl, _, _, l1, e1⟩ := keys_at (H1.out.below (HB3.out.mono HBW.out)) hlt1
        have HOK := Lib.hid (HRI.out.2 i hlt1)
        have HFL := Lib.hid (show (keys.take (i + 1)).flatMap keyB = (keys.take i).flatMap keyB ++ keyB keys[i] by rw [List.take_succ_eq_append_getElem hlt1, List.flatMap_append]; simp)
        obtain ⟨q, hq⟩ : ∃ q, q = keys[i] := ⟨_, rfl⟩
        rw [← hq] at l1 e1 HOK HFL
        obtain ⟨qh, qk⟩ := q
        simp only at l1 e1 HOK
        have HE1 := Lib.hid e1
        have HL1 := Lib.hid l1
        clear e1 l1 hq
        go_wp2_with (refine stop_at (some 65) rfl ?_)
        refine Stop.go (wpList_seg 4 _ _ _ (fun Q' hQ' => ?_))
        simp only [List.take_succ_cons, List.take_zero]
        go_wp2_with fail
        try simp only [List.drop_succ_cons, List.drop_zero]
        refine Stop.go (wpList_load_agg rfl 34 rfl rfl keyTy.ut rfl (key_size _ _ HL1.out) HE1.out ?_)
        go_wp2_with fail
        refine (key32_any qh qk _ HL1.out HOK.out).mono ?_
        rintro e w4 ⟨u4, rfl, ho4, hb4⟩
        obtain ⟨E4, e4, rfl, _, _⟩ := own_form ho4
        have HR4 := Lib.hid (Rd.of_own ho4)
        have HO4 := Lib.hid (own_below HO3.out hb4)
        have HG4 := Lib.hid (HG3.out.later hb4)
        have HB4 := Lib.hid (HB3.out.trans (hb4.mono HB3.out.size))
        clear ho4 hb4 c68
        have hsz := HB4.out.size
        go_wp2_with (at_builtin; refine wpList_app u8_ty rfl rfl rfl rfl HO4.out HR4.out (m := 33) (by rw [bcells_length, keyB_length _ (show (qh, qk).1.length = 32 from HL1.out)]) (bcells_one _) ?h63 ?hby ?hbase ?_)
        case h63 => simp only [maxLen]; omega
        case hby => omega
        case hbase => exact hsz
        intro v5 w5 hown5 hg5 _ _
        have HG5 := Lib.hid (HG4.out.grown HO4.out hg5 (by decide))
        have HB5 := Lib.hid (grown_below HB4.out hg5 HO4.out (Nat.le_refl _) hsz)
        have HO5 := Lib.hid (show w5.ownsRow w.heap.size 5 1 v5 (33 * (i + 1)) (bcells ((keys.take (i + 1)).flatMap keyB)) by rw [HFL.out, bcells_append, Nat.mul_add]; exact hown5)
        obtain ⟨A5, c5, rfl, _, _⟩ := own_form HO5.out
        clear hown5 hg5 hsz
        go_wp2_with fail
        refine ⟨⟨i + 1, A5, c5, by omega, by go_num, rfl, HO5, HG5, HB5⟩, ?_⟩
        simp [intOf]; omega
      · obtain rfl : i = n := by omega
        have HF := Lib.hid (show (keys.take i).flatMap keyB = loadL ⟨7, seq, z32, 0, mh, ms, keys⟩ by rw [List.take_of_length_le (by rw [← N1.out]; exact Nat.le_refl _)]; simp [loadL])
        go_wp2_with fail
        go_ret
        exact load32_intro HO3.out HF.out HB3.out
end Go.Proofs.YtplbcbamnjnhlaaGreatDoor
namespace Go.Proofs.YtplbcbamnjnhlaaGreatDoor
open Go.RowKit

theorem highB_take (l : List UInt8) (k : Nat) (h : k < l.length) : highB (l.take (k + 1)) = (highB (l.take k) && decide (128 ≤ l[k].toNat)) := by
  unfold highB
  rw [List.take_succ_eq_append_getElem h, List.all_append]
  simp only [List.all_cons, List.all_nil, Bool.and_true]
theorem highB_low (l : List UInt8) (k : Nat) (h : k < l.length) (hb : l[k].toNat < 128) : highB l = false := by
  unfold highB
  rw [List.all_eq_false]
  exact ⟨l[k], List.getElem_mem h, by simp; omega⟩
set_option maxRecDepth 100000 in
theorem whole_any (l : List UInt8) (A : Option Addr) (c B : Nat) (w : World) (hr : Rd w B A (bcells l)) (hl : l.length ≤ 1099511627776) :
    Calls Tryz.prog 114 #[.slice A l.length c] w fun e w' => e = .returned (.bool (highB l)) ∧ w = w' := by
  have HR := Lib.hid hr
  clear hr
  go_enter Tryz.func114, Tryz.ntmps114
  go_wp2_with fail
  go_loop [6] (fun v6 => ∃ k : Nat, k ≤ l.length ∧ v6 = .int .i64 k ∧ Hid (highB (l.take k) = true)) (fun v6 => l.length - (intOf v6).toNat)
  case atStart => exact ⟨0, by omega, rfl, rfl⟩
  case round =>
    obtain ⟨k, hk, rfl, hh⟩ := hrel
    by_cases hlt : k < l.length
    · obtain ⟨ab, ao, rfl, hab, hcell⟩ := HR.out.byte hlt
      by_cases hb : l[k].toNat < 128
      · have HL := Lib.hid (highB_low l k hlt hb)
        go_wp2
        go_ret
        exact ⟨rt1 (vbool HL.out.symm), rfl⟩
      · have HL := Lib.hid (show highB (l.take (k + 1)) = true by rw [highB_take l k hlt, hh.out]; simp; omega)
        go_wp2
        go_round
        case rel => exact ⟨k + 1, by omega, by go_num, HL.out⟩
        case measure => simp [intOf]; omega
    · have hkl : k = l.length := by omega
      subst hkl
      rw [List.take_length] at hh
      go_wp2
      go_ret
      exact ⟨rt1 (vbool hh.out.symm), rfl⟩

theorem bytesOfNat_snoc (n v : Nat) : bytesOfNat (n + 1) v = bytesOfNat n v ++ [UInt8.ofNat (v / 256 ^ n % 256)] := by simp [bytesOfNat, digs_snoc]
theorem un_byte (l : List UInt8) (c : UInt8) (i k : Nat) (h : 8 * i + k = 7 * l.length) :
    v128 (l ++ [c]) / 256 ^ i = v128 l / 256 ^ i + c.toNat % 128 * 2 ^ k ∧ bytesOfNat i (v128 (l ++ [c])) = bytesOfNat i (v128 l) := by
  have e : 128 ^ l.length = 2 ^ k * 256 ^ i := by rw [pow_256, pow_128, ← Nat.pow_add]; congr 1; omega
  rw [v128_snoc, e, ← Nat.mul_assoc]
  refine ⟨?_, ?_⟩
  · rw [Nat.add_mul_div_right _ _ (Nat.pow_pos (by omega))]
  · unfold bytesOfNat
    rw [digs_add_mul 256 (by omega)]
theorem un_rest (l : List UInt8) (i k : Nat) (h : 8 * i + k = 7 * l.length) : v128 l / 256 ^ i < 2 ^ k := by
  have e : 128 ^ l.length = 2 ^ k * 256 ^ i := by rw [pow_256, pow_128, ← Nat.pow_add]; congr 1; omega
  have := v128_lt l
  rw [e] at this
  exact Nat.div_lt_of_lt_mul (by rw [Nat.mul_comm]; exact this)
theorem and_127b (c : Nat) (hc : c < 256) : bits .and .u8 (c : Int) 127 = ((c % 128 : Nat) : Int) := by
  rw [show (127 : Int) = ((127 : Nat) : Int) by rfl, u8_and_nat _ _ hc (by omega), show (127 : Nat) = 2 ^ 7 - 1 by decide, Nat.and_two_pow_sub_one_eq_mod]
def UnpackTo (w : World) (r : Option (List UInt8)) (e : Ending) (w' : World) : Prop :=
  Below w.heap.size w w' ∧ match r with
  | none => e = .returned (.tuple #[.slice none 0 0, .bool false])
  | some t => ∃ v, e = .returned (.tuple #[v, .bool true]) ∧ w'.ownsRow w.heap.size 5 1 v t.length (bcells t)
set_option maxRecDepth 100000 in
set_option maxHeartbeats 1000000 in
theorem unpack_any (l : List UInt8) (A : Option Addr) (c B : Nat) (w : World) (hr : Rd w B A (bcells l)) (hB : B ≤ w.heap.size) (hl : l.length ≤ 68719476736) :
    Calls Tryz.prog 86 #[.slice A l.length c] w (UnpackTo w (sevUnpack l)) := by
  have HR := Lib.hid hr
  clear hr
  obtain ⟨n, hn⟩ : ∃ n, n = l.length * 7 / 8 := ⟨_, rfl⟩
  have HN := Lib.hid hn
  have hnl : n ≤ l.length := by omega
  have hni : ((l.length : Int) * 7) / 8 = (n : Int) := by omega
  by_cases hh : highB l = true
  · by_cases hle : (8 * n + 6) / 7 = l.length
    · have hle2 : ((8 * (n : Int) + 6) / 7 != (l.length : Int)) = false := by simp; omega
      have HH := Lib.hid hh
      have HLE := Lib.hid hle
      clear hn hle
      go_enter Tryz.func86, Tryz.ntmps86
      go_wp2_with fail
      refine (whole_any l A c B w HR.out (by omega)).mono ?_
      rintro e w1 ⟨rfl, rfl⟩
      rw [HH.out]
      go_wp2_with fail
      go_loopw [5, 6, 7, 28] (fun v5 v6 v7 v28 wr => ∃ j i k r : Nat, j ≤ l.length ∧ v28 = .int .i64 j ∧ k < 8 ∧ 8 * i + k = 7 * j ∧ v7 = .int .i64 k ∧ v6 = .int .u64 r ∧ r < 256 ∧ Hid (r = v128 (l.take j) / 256 ^ i) ∧
        wr.ownsRow w.heap.size 5 1 v5 i (bcells (bytesOfNat i (v128 (l.take j)))) ∧ Below w.heap.size w wr) (fun _ _ _ v28 _ => l.length - (intOf v28).toNat)
      case atStart => exact ⟨0, 0, 0, 0, by omega, rfl, by omega, rfl, rfl, rfl, by omega, (by show _ = _; simp [v128, ofDigs]), World.ownsRow_nil _ _ _ _, Below.refl _ _⟩
      case round =>
        obtain ⟨j, i, k, r, hj, rfl, hk8, hik, rfl, rfl, hr256, hre, hown, hbr⟩ := hrel
        have hsz := hbr.size
        by_cases hlt : j < l.length
        · obtain ⟨ab, ao, rfl, hab, hcell⟩ := (HR.out.below (hbr.mono hB)).byte hlt
          have hb8 := l[j].toNat_lt
          have ha := and_127b l[j].toNat hb8
          have hlj : (l.take j).length = j := by rw [List.length_take]; omega
          have hrk : r < 2 ^ k := by rw [hre.out]; exact un_rest _ i k (by rw [hlj]; exact hik)
          have UB := Lib.hid (un_byte (l.take j) l[j] i k (by rw [hlj]; exact hik))
          have HT := Lib.hid (show l.take (j + 1) = l.take j ++ [l[j]] from List.take_succ_eq_append_getElem hlt)
          obtain ⟨d, hd⟩ : ∃ d, d = l[j].toNat % 128 := ⟨_, rfl⟩
          rw [← hd] at ha
          have hd128 : d < 128 := by omega
          have ho := or_shl r d k hrk (by omega) (by omega)
          have HD := Lib.hid hd
          clear hlj hrk hd
          have h1 : r + d * 2 ^ k = v128 (l.take (j + 1)) / 256 ^ i := by rw [HT.out, UB.out.1, ← hre.out, ← HD.out]
          have H1 := Lib.hid h1
          have h4 : r + d * 2 ^ k < 32768 := by
            rw [h1]
            have h2 := un_rest (l.take (j + 1)) i (k + 7) (by rw [List.length_take, Nat.min_eq_left (by omega)]; omega)
            have h3 : 2 ^ (k + 7) ≤ 2 ^ 15 := Nat.pow_le_pow_right (by omega) (by omega)
            omega
          clear h1
          have hs : ((r : Int) + (d : Int) * 2 ^ k) = ((r + d * 2 ^ k : Nat) : Int) := by simp
          obtain ⟨x, hx⟩ : ∃ x, x = r + d * 2 ^ k := ⟨_, rfl⟩
          rw [← hx] at hs h4 H1 ho
          have HX := Lib.hid hx
          have HS := Lib.hid hs
          clear hx hs
          by_cases hk1 : 8 ≤ k + 7
          · go_wp2_with (at_builtin; refine wpList_app u8_ty rfl rfl rfl rfl (hown.alloc _) (Rd.row (B := wr.heap.size + 1) (Go.heap_alloc_new wr _) (by omega)) rfl (by simp [Value.oneCell']) ?h63 ?hby ?hbase ?_)
            case h63 => simp only [maxLen]; omega
            case hby => omega
            case hbase => simp; omega
            intro v1 w3 hown3 hg3 _ _
            have HO := Lib.hid hown3
            have HG3 := Lib.hid hg3
            clear hown3 hg3
            go_wp2
            go_roundw
            case rel =>
              refine ⟨j + 1, i + 1, k - 1, x / 256, by omega, by go_num, by omega, by omega, vint (by omega), by rfl, by omega, ?_, ?_, grown_below (hbr.alloc hsz _) HG3.out (hown.alloc _) (Nat.le_refl _) (by simp; omega)⟩
              · show _ = _
                rw [H1.out, Nat.div_div_eq_div_mul, ← Nat.pow_succ]
              · have h := HO.out
                rw [bytesOfNat_snoc, HT.out, UB.out.2, ← HT.out, ← H1.out, bcells_append]
                have e : bcells [UInt8.ofNat (x % 256)] = [.int .u8 ((x : Int) % 256)] := by simp [bcells, bcell]
                rw [e]
                exact h
            case measure => simp [intOf]; omega
          · have hk0 : k = 0 := by omega
            subst hk0
            have HO0 := Lib.hid ho
            clear ho
            go_wp2
            go_roundw
            case rel =>
              have e0 : bits .or .u64 (r : Int) (d : Int) = (x : Int) := by
                have h := HO0.out
                rw [Int.pow_zero, Int.mul_one, IntKind.wrap_u64, Int.emod_eq_of_lt (by omega) (by omega)] at h
                exact h
              refine ⟨j + 1, i, 7, x, by omega, by go_num, by omega, by omega, rfl, vint e0, ?_, H1.out, ?_, hbr⟩
              · rw [H1.out]
                have h2 := un_rest (l.take (j + 1)) i 7 (by rw [List.length_take, Nat.min_eq_left (by omega)]; omega)
                omega
              · rw [HT.out, UB.out.2]; exact hown
            case measure => simp [intOf]; omega
        · have hjl : j = l.length := by omega
          subst hjl
          have hin : i = n := by have := HN.out; omega
          subst hin
          rw [List.take_length] at hre hown
          by_cases hr0 : r = 0
          · have HU := Lib.hid (show sevUnpack l = some (bytesOfNat i (v128 l)) by
              have hlt' : v128 l < 256 ^ i := by
                have h1 := hre.out
                rw [hr0] at h1
                rcases Nat.lt_or_ge (v128 l) (256 ^ i) with h | h
                · exact h
                · have := Nat.div_pos h (Nat.pow_pos (by omega)); omega
              unfold sevUnpack
              simp only [← HN.out]
              rw [if_pos ⟨HH.out, HLE.out, hlt'⟩])
            subst hr0
            go_wp2
            go_ret2
            refine ⟨hbr, ?_⟩
            rw [HU.out]
            exact ⟨_, rfl, by rw [bytesOfNat_length]; exact hown⟩
          · have HU := Lib.hid (show sevUnpack l = none by
              unfold sevUnpack
              simp only [← HN.out]
              rw [if_neg]
              rintro ⟨_, _, h⟩
              apply hr0
              rw [hre.out]
              exact Nat.div_eq_of_lt h)
            have hr1 : ((r : Int) != 0) = true := by simp; omega
            go_wp2
            go_ret2
            refine ⟨hbr, ?_⟩
            rw [HU.out]
            rfl
    · have hle2 : ((8 * (n : Int) + 6) / 7 != (l.length : Int)) = true := by simp; omega
      have HU := Lib.hid (show sevUnpack l = none by
        unfold sevUnpack
        simp only [← HN.out]
        rw [if_neg]
        rintro ⟨_, h, _⟩
        exact hle h)
      have HH := Lib.hid hh
      clear hn hle
      go_enter Tryz.func86, Tryz.ntmps86
      go_wp2_with fail
      refine (whole_any l A c B w HR.out (by omega)).mono ?_
      rintro e w1 ⟨rfl, rfl⟩
      rw [HH.out]
      go_wp2
      go_ret2
      refine ⟨Below.refl _ _, ?_⟩
      rw [HU.out]
      rfl
  · have hh2 : highB l = false := by simpa using hh
    have HU := Lib.hid (show sevUnpack l = none by
      unfold sevUnpack
      simp only
      rw [if_neg]
      rintro ⟨h, _, _⟩
      exact hh h)
    have HH := Lib.hid hh2
    clear hn hh hh2
    go_enter Tryz.func86, Tryz.ntmps86
    go_wp2_with fail
    refine (whole_any l A c B w HR.out (by omega)).mono ?_
    rintro e w1 ⟨rfl, rfl⟩
    rw [HH.out]
    go_wp2
    go_ret2
    refine ⟨Below.refl _ _, ?_⟩
    rw [HU.out]
    rfl
end Go.Proofs.YtplbcbamnjnhlaaGreatDoor
