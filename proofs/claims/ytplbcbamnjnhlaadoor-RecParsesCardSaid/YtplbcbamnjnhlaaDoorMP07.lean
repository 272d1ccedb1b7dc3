/- Texts of this proof joined: Octet, Reader. -/
import Derived.Test.YtplbcbamnjnhlaaDoorChecked
import Derived.Test.YtplbcbamnjnhlaaDoorMP05
import Derived.Test.YtplbcbamnjnhlaaDoorMP06
import Derived.Test.YtplbcbamnjnhlaaDoorMP04
import Derived.Laws.BitsAllLaws
import Derived.Laws.CopyOwn
import Derived.Deep.OwnRows
import Derived.Outline
/- Contracts of octet's Writer, for any bytes and every world. -/
namespace Go.Proofs.YtplbcbamnjnhlaaDoor
open Go.RowKit

theorem u8_ty : AppTy Tryd.prog 22 5 1 1 (.int .u8 0) := appTy Tryd.underlying22 (by kernel_rfl) rfl (by omega)
theorem u8_make (n : Nat) (hn : n ≤ 1099511627776) (w : World) : (Instr.makeSlice 22 (.int .i64 (n : Int)) (.int .i64 (n : Int))).run Tryd.prog w = .ok (.slice (some ⟨w.heap.size, 0, none⟩) n n) (w.alloc (.cells (madeCells #[.int .u8 0] n) 5)) :=
  run_make_row' 22 5 (.int .u8 0) 1 Tryd.underlying22 (by kernel_rfl) rfl .i64 .i64 n (by omega) (by omega) w

/-- a writer at block g, with the bytes l -/
def WrR (w : World) (g : Nat) (l : List UInt8) : Prop :=
  ∃ v, w.heap[g]? = some (.cells #[v] 106 (0, 0)) ∧ w.ownsRow (g + 1) 5 1 v l.length (bcells l)
/-- what stays where only a writer (block g, and a row of bytes of its own) turns -/
structure Keep (g : Nat) (w w' : World) : Prop where
  below : Below g w w'
  size : w.heap.size ≤ w'.heap.size
  other : ∀ (k : Nat) (cs : Array Value) (t : TypeId) (fr : Nat × Nat), k ≠ g → t ≠ 5 → w.heap[k]? = some (.cells cs t fr) → w'.heap[k]? = some (.cells cs t fr)
theorem Keep.refl (g : Nat) (w : World) (h : g ≤ w.heap.size) : Keep g w w := ⟨(Below.refl _ _).mono h, Nat.le_refl _, fun _ _ _ _ _ _ h => h⟩
theorem Keep.trans {g : Nat} {w w' w'' : World} (h : Keep g w w') (h2 : Keep g w' w'') : Keep g w w'' :=
  ⟨h.below.trans h2.below, Nat.le_trans h.size h2.size, fun k cs t fr h1 h3 h4 => h2.other k cs t fr h1 h3 (h.other k cs t fr h1 h3 h4)⟩
theorem Keep.of_below {g : Nat} {w w' : World} (h : Below w.heap.size w w') (hg : g ≤ w.heap.size) : Keep g w w' :=
  ⟨h.mono hg, h.size, fun k _ _ _ _ _ h4 => (h.block k (Array.getElem?_eq_some_iff.1 h4).1).trans h4⟩
theorem Keep.heap {g : Nat} {w w' : World} (h : Keep g w w') : Below g w w' := h.below
theorem WrR.lt {w : World} {g : Nat} {l : List UInt8} (h : WrR w g l) : g < w.heap.size := by
  obtain ⟨v, h1, _⟩ := h
  exact (Array.getElem?_eq_some_iff.1 h1).1
theorem WrR.later {w w' : World} {g : Nat} {l : List UInt8} (h : WrR w g l) (hb : Below w.heap.size w w') : WrR w' g l := by
  obtain ⟨v, h1, h2⟩ := h
  exact ⟨v, (hb.block g (Array.getElem?_eq_some_iff.1 h1).1).trans h1, own_below h2 hb⟩
theorem own_setCell {w : World} {base : Nat} {e : TypeId} {size : Nat} {v : Value} {n : Nat} {xs : List Value} (h : w.ownsRow base e size v n xs) (p : Addr) (u : Value) (hp : p.block < base) : (w.setCell p u).ownsRow base e size v n xs := by
  refine ⟨h.1, ?_⟩
  rcases h.2 with h' | ⟨g, cap, cur, rfl, hg, hh, r⟩
  · exact .inl h'
  · exact .inr ⟨g, cap, cur, rfl, hg, by rw [heap_setCell_other _ _ _ _ (by omega)]; exact hh, r⟩
/-- an append onto the writer's row and the store behind it -/
theorem WrR.append {w w2 : World} {g : Nat} {l r : List UInt8} {v v' : Value} (hv : w.heap[g]? = some (.cells #[v] 106 (0, 0))) (ho : w.ownsRow (g + 1) 5 1 v l.length (bcells l))
    (hg : w.grownBy w2 v.ownBlock) (h2 : w2.ownsRow (g + 1) 5 1 v' (l.length + r.length) (bcells l ++ bcells r)) :
    WrR (w2.setCell ⟨g, 0, none⟩ v') g (l ++ r) ∧ Keep g w (w2.setCell ⟨g, 0, none⟩ v') := by
  have hlt : g < w.heap.size := (Array.getElem?_eq_some_iff.1 hv).1
  have hh : w2.heap[g]? = some (.cells #[v] 106 (0, 0)) := grown_other ho hg hv (by decide)
  refine ⟨⟨v', ?_, ?_⟩, ?_, ?_, ?_⟩
  · have := heap_setCell_same w2 g 0 #[v] 106 v' hh
    simpa using this
  · rw [List.length_append, bcells_append]
    exact own_setCell h2 _ _ (Nat.lt_succ_self _)
  · exact ((Below.refl w.heap.size w).mono (Nat.le_of_lt hlt) |>.grown hg (Nat.le_of_lt hlt) (fun k hk => by have := (ho.lt k hk).1; omega)).setCell (Nat.le_refl _) _
  · rw [World.size_setCell]; exact hg.size
  · intro k cs t fr hk ht hc
    rw [heap_setCell_other _ _ _ _ hk]
    exact grown_other ho hg hc ht

theorem write_any (w : World) : Calls Tryd.prog 42 #[] w fun e w' => e = .returned (.pointer (some ⟨w.heap.size, 0, none⟩)) ∧ WrR w' w.heap.size [] ∧ Below w.heap.size w w' ∧ w'.heap.size = w.heap.size + 1 := by
  go_enter Tryd.func42, Tryd.ntmps42
  go_wp2
  go_ret
  refine ⟨rfl, ⟨.slice none 0 0, Go.heap_alloc_new w _, World.ownsRow_nil _ _ _ _⟩, (Below.refl _ _).alloc (Nat.le_refl _) _, by simp⟩

/-- the bytes of a number, the highest first -/
def beBytes (n x : Nat) : List UInt8 := (bytesOfNat n x).reverse
theorem beBytes_length (n x : Nat) : (beBytes n x).length = n := by simp [beBytes, bytesOfNat_length]
theorem beBytes_step (n x i : Nat) (h : i < n) : (beBytes n x).take (n - i) = (beBytes n x).take (n - (i + 1)) ++ [UInt8.ofNat (x / 256 ^ i)] := by
  rw [show n - i = n - (i + 1) + 1 by omega, List.take_succ_eq_append_getElem (by rw [beBytes_length]; omega)]
  congr 2
  simp only [beBytes, List.getElem_reverse, bytesOfNat, List.getElem_map, digs_get]
  simp only [List.length_map, digs_length]
  rw [show n - 1 - (n - (i + 1)) = i by omega]
  apply UInt8.toNat_inj.1
  simp [Nat.mod_mod_of_dvd]
theorem shr_zero (n x : Nat) (hx : x < 256 ^ n) : (x : Int) / 2 ^ (8 * n) = 0 := by
  have e : ((2 : Int) ^ (8 * n)) = ((256 ^ n : Nat) : Int) := by
    rw [show (256 : Nat) ^ n = 2 ^ (8 * n) by rw [Nat.pow_mul]]
    simp
  rw [e, ← Int.natCast_ediv, Nat.div_eq_of_lt hx]
  rfl
theorem fits_any (n x : Nat) (w : World) (h1 : 1 ≤ n) (h8 : n ≤ 8) (hx : x < 256 ^ n) :
    Calls Tryd.prog 61 #[.int .i64 n, .int .u64 x] w fun e w' => e = .returned (.bool true) ∧ w = w' := by
  by_cases hn : n = 8
  · subst hn
    go_enter Tryd.func61, Tryd.ntmps61
    go_wp2
    go_ret
    exact ⟨rfl, rfl⟩
  · have HN := Lib.hid hn
    have hn8 : (((n : Nat) : Int) == 8) = false := by rw [beq_eq_false_iff_ne]; omega
    have HD := Lib.hid (shr_zero n x hx)
    clear hn
    go_enter Tryd.func61, Tryd.ntmps61
    go_wp2
    go_ret
    exact ⟨rt1 (vbool (by rw [HD.out]; rfl)), rfl⟩

theorem hq_byte (n x i : Nat) (_h : i < n) : Value.int .u8 ((x : Int) / 2 ^ (8 * i) % 256) = bcell (UInt8.ofNat (x / 256 ^ i)) := by
  unfold bcell
  rw [UInt8.toNat_ofNat', show (256 : Nat) ^ i = 2 ^ (8 * i) by rw [Nat.pow_mul]]
  simp
set_option maxRecDepth 100000 in
set_option maxHeartbeats 1000000 in
theorem num_any (g n x : Nat) (l : List UInt8) (w : World) (hw : WrR w g l) (h1 : 1 ≤ n) (h8 : n ≤ 8) (hx : x < 256 ^ n) (hl : l.length ≤ 1099511627776) :
    Calls Tryd.prog 43 #[.pointer (some ⟨g, 0, none⟩), .int .i64 n, .int .u64 x] w fun e w' => e = .returned (.bool true) ∧ WrR w' g (l ++ beBytes n x) ∧ Keep g w w' := by
  have HW := Lib.hid hw
  clear hw
  go_enter Tryd.func43, Tryd.ntmps43
  go_wp2_with fail
  refine (fits_any n x w h1 h8 hx).mono ?_
  rintro e w1 ⟨rfl, rfl⟩
  go_wp2_with fail
  go_loopw [7] (fun v7 wr => ∃ j : Nat, j ≤ n ∧ v7 = .int .i64 ((j : Int) - 1) ∧ WrR wr g (l ++ (beBytes n x).take (n - j)) ∧ Keep g w wr) (fun v7 _ => (intOf v7 + 1).toNat)
  case atStart => exact ⟨n, by omega, rfl, by simpa using HW.out, Keep.refl g w (Nat.le_of_lt HW.out.lt)⟩
  case round =>
    obtain ⟨j, hj, h7, hwr, hk⟩ := hrel
    cases j with
    | zero =>
      have h7' := h7.trans (vint (show ((0 : Nat) : Int) - 1 = -1 by rfl))
      clear h7
      subst h7'
      go_wp2
      go_ret
      refine ⟨rfl, ?_, hk⟩
      rw [Nat.sub_zero, List.take_of_length_le (by rw [beBytes_length]; omega)] at hwr
      exact hwr
    | succ i =>
      have h7' := h7.trans (vint (show ((i + 1 : Nat) : Int) - 1 = (i : Nat) by omega))
      clear h7
      subst h7'
      have HB := Lib.hid (beBytes_step n x i (by omega))
      have hlen : (l ++ (beBytes n x).take (n - (i + 1))).length ≤ l.length + n := by rw [List.length_append, List.length_take]; omega
      obtain ⟨t, ht⟩ : ∃ t, t = l ++ (beBytes n x).take (n - (i + 1)) := ⟨_, rfl⟩
      rw [← ht] at hwr hlen
      have HT := Lib.hid ht
      clear ht
      obtain ⟨v, hv, ho⟩ := hwr
      have hcell : wr.cell? ⟨g, 0, none⟩ = some v := by rw [cell_of_row _ _ _ _ _ _ hv]; rfl
      obtain ⟨A, c, rfl, hc1, hc2⟩ := own_form ho
      have HV := Lib.hid (hq_byte n x i (by omega))
      clear hx
      go_wp2_with fail
      refine Text.wp_grow [10] [4] [] (by kernel_rfl) (by kernel_rfl) ?_
      refine Text.wpS_seg 10 _ _ _ _ (by decide) (fun Q' hQ' => ?_)
      simp only [List.take_succ_cons, List.take_zero]
      go_wp2_with fail
      simp only [Nat.zero_add, List.drop_succ_cons, List.drop_zero]
      refine Text.wpS_one (fun Q' hQ' => ?_)
      go_wp2_with fail
      refine ⟨(Below.refl _ _).alloc (Nat.le_refl _) _, ?_⟩
      refine Text.wpS_seg 4 _ _ _ _ (by decide) (fun Q' hQ' => ?_)
      simp only [List.take_succ_cons, List.take_zero]
      go_wp2_with (at_builtin; refine wpList_app u8_ty rfl rfl rfl rfl (ho.alloc _).drew (Rd.row (B := wr.heap.size + 1) (Go.heap_alloc_new wr _) (by omega)) rfl (by simp [Value.oneCell']) ?h63 ?hby ?hbase ?_)
      case h63 => simp only [maxLen]; omega
      case hby => omega
      case hbase => have := hk.size; have := HW.out.lt; simp; omega
      intro v1 w2 hown2 hg2 _ _
      have HG2 := Lib.hid hg2
      have HO2 := Lib.hid hown2
      clear hg2 hown2
      have hv2 : w2.heap[g]? = some (.cells #[.slice A t.length c] 106 (0, 0)) := grown_other (ho.alloc _).drew HG2.out ((Below.heap_alloc wr _ g (Array.getElem?_eq_some_iff.1 hv).1).trans hv) (by decide)
      have hf2 := frozen_of_row w2 g 0 _ _ hv2
      have hc2 : w2.cell? ⟨g, 0, none⟩ = some (.slice A t.length c) := by rw [cell_of_row _ _ _ _ _ _ hv2]; rfl
      obtain ⟨A2, c2, rfl, _, _⟩ := own_form HO2.out
      go_wp2
      refine ⟨by rfl, ⟨fun _ => ⟨_, _, rfl, hcell⟩, trivial⟩, ?_⟩
      have HO3 := HO2.out
      rw [HV.out] at HO3
      have HA := WrR.append (w := (wr.alloc (.cells #[.int .u8 ((x : Int) / 2 ^ (8 * i) % 256)] 5)).drew) (r := [UInt8.ofNat (x / 256 ^ i)]) (((Below.heap_alloc wr _ g (Array.getElem?_eq_some_iff.1 hv).1).trans hv)) (ho.alloc _).drew HG2.out HO3
      have HK := Lib.hid HA
      clear HA HO3
      go_wp2
      go_roundw
      case rel =>
        refine ⟨i, by omega, by go_num, ?_, ?_⟩
        · have := HK.out.1
          have e : t ++ [UInt8.ofNat (x / 256 ^ i)] = l ++ (beBytes n x).take (n - i) := by rw [HT.out, List.append_assoc, ← HB.out]
          rw [e] at this
          exact this
        · exact (hk.trans (Keep.of_below ((Below.refl _ _).alloc (Nat.le_refl _) _).drew (Nat.le_of_lt (Array.getElem?_eq_some_iff.1 hv).1))).trans HK.out.2
      case measure => simp [intOf]

/-! Raw: one part -/
set_option maxRecDepth 100000 in
set_option maxHeartbeats 1000000 in
theorem raw_any (g b o cap : Nat) (l r : List UInt8) (A : Option Addr) (c B : Nat) (w : World) (hw : WrR w g l) (hp : w.cell? ⟨b, o, none⟩ = some (.slice A r.length c)) (hr : Rd w B A (bcells r)) (hB : B ≤ w.heap.size)
    (hl : l.length ≤ 1099511627776) (hl2 : r.length ≤ 1099511627776) :
    Calls Tryd.prog 45 #[.pointer (some ⟨g, 0, none⟩), .slice (some ⟨b, o, none⟩) 1 cap] w fun e w' => e = .returned (.tuple #[]) ∧ WrR w' g (l ++ r) ∧ Keep g w w' := by
  have HW := Lib.hid hw
  have HR := Lib.hid hr
  have HP := Lib.hid hp
  clear hw hr hp
  go_enter Tryd.func45, Tryd.ntmps45
  go_wp2_with fail
  go_loopw [10] (fun v10 wr => ∃ k : Nat, k ≤ 1 ∧ v10 = .int .i64 k ∧ (k = 0 → wr = w) ∧ (k = 1 → WrR wr g (l ++ r) ∧ Keep g w wr)) (fun v10 _ => 1 - (intOf v10).toNat)
  case atStart => exact ⟨0, by omega, rfl, fun _ => rfl, fun h => by cases h⟩
  case round =>
    obtain ⟨k, hk, rfl, hk0, hk1⟩ := hrel
    by_cases h0 : k = 0
    · have hwr := hk0 h0
      clear hk0 hk1
      subst hwr h0
      obtain ⟨v, hv, ho⟩ := HW.out
      have hcell : wr.cell? ⟨g, 0, none⟩ = some v := by rw [cell_of_row _ _ _ _ _ _ hv]; rfl
      have hp := HP.out
      obtain ⟨A1, c1, rfl, hc1, hc2⟩ := own_form ho
      go_wp2_with (at_builtin; refine wpList_app u8_ty rfl rfl rfl rfl ho HR.out (by simp [bcells_length]) (bcells_one _) ?h63 ?hby ?hbase ?_)
      case h63 => simp only [maxLen]; omega
      case hby => omega
      case hbase => have := HW.out.lt; simp; omega
      intro v1 w2 hown2 hg2 _ _
      have HG2 := Lib.hid hg2
      have HO2 := Lib.hid hown2
      clear hg2 hown2
      have hv2 : w2.heap[g]? = some (.cells #[.slice A1 l.length c1] 106 (0, 0)) := grown_other ho HG2.out hv (by decide)
      have hf2 := frozen_of_row w2 g 0 _ _ hv2
      have hc2 : w2.cell? ⟨g, 0, none⟩ = some (.slice A1 l.length c1) := by rw [cell_of_row _ _ _ _ _ _ hv2]; rfl
      obtain ⟨A2, c2, rfl, _, _⟩ := own_form HO2.out
      have HK := Lib.hid (WrR.append (w := wr) (r := r) hv ho HG2.out HO2.out)
      go_wp2
      go_roundw
      case rel => exact ⟨1, by omega, rfl, fun h => by (have : False := by omega); exact this.elim, fun _ => ⟨HK.out.1, HK.out.2⟩⟩
      case measure => simp [intOf]
    · obtain rfl : k = 1 := by omega
      have h := Lib.hid (hk1 rfl)
      clear hk0 hk1
      go_wp2
      go_end0
      exact ⟨rfl, h.out⟩
theorem splice_all {α : Type} (L cs : List α) (h : cs.length = L.length) : splice L 0 cs = cs := by
  unfold splice
  rw [List.take_zero, List.nil_append, Nat.zero_add, h, List.drop_length, List.append_nil]
theorem made_len (z : Value) (n : Nat) : (madeCells #[z] n).size = n := by simp [size_madeCells]
/-- a copy of all bytes into a row that was just made -/
theorem wpList_copy_all {w : World} {ops : Array Oper} {rest : List Oper} {o : Oper} {a : Act} {Q : Exit → Act → World → Prop} (hgd : o.guard = none) (d s : Operand)
    (ho : o.op = .call { callee := .builtin .copy, args := #[d, s], argTypes := #[22, 22] })
    {A : Option Addr} {g n c c1 : Nat} {l : List UInt8} (hd : a.eval d = .slice (some ⟨g, 0, none⟩) n c) (hs : a.eval s = .slice A n c1) (hn : n = l.length) {cur : Array Value} {t : TypeId}
    (hg : w.heap[g]? = some (.cells cur t (0, 0))) (hcur : cur.size = n) {B : Nat} (hr : Rd w B A (bcells l)) {B0 : Nat} {w0 : World} (hb : Below B0 w0 w) (hBg : B0 ≤ g)
    (h : ∀ w', Hid (w'.heap[g]? = some (.cells (bcells l).toArray t (0, 0))) → Below B0 w0 w' → w'.heap.size = w.heap.size → wpList Tryd.prog ops Q rest (a.put o.dst (goInt n)) w') :
    wpList Tryd.prog ops Q (o :: rest) a w := by
  have hlen : (bcells l).length = cur.toList.length := by rw [bcells_length, ← hn, ← hcur]; simp
  by_cases h0 : l.length = 0
  · obtain rfl : l = [] := List.eq_nil_of_length_eq_zero h0
    have hn0 : n = 0 := hn
    subst hn0
    refine wpList_copy_nothing hgd d s 22 22 ho 5 Tryd.underlying22 (by kernel_rfl) _ _ _ _ _ _ hd hs (by simp) (h w ?_ hb rfl)
    show _ = _
    rw [hg]
    have : cur = #[] := Array.eq_empty_of_size_eq_zero hcur
    rw [this]
    rfl
  · obtain ⟨ab, ao, rfl, hab, hcells⟩ := hr (by intro e; apply h0; have := congrArg List.length e; rw [bcells_length] at this; simpa using this)
    refine wpList_copy_own hgd d s 22 22 ho 5 Tryd.underlying22 (by kernel_rfl) g 0 n c ⟨ab, ao, none⟩ n c1 hd hs cur t hg (bcells l) (by rw [bcells_length, ← hn]; simp)
      (fun j v hv => by rw [Addr.add_lit]; exact hcells j v hv) (by rw [bcells_length, hcur, hn]; omega) (bcells_one _) ?_
    have hl2 : ((bcells l).length : Int) = (n : Int) := by rw [bcells_length, hn]
    rw [hl2]
    refine h _ ?_ (below_setRow hb hBg _) (by simp)
    show _ = _
    rw [setRow_heap w g cur _ t _ hg]
    congr 2
    simp only [List.take_zero, List.nil_append, Nat.zero_add, hlen, List.drop_length, List.append_nil]
set_option maxRecDepth 100000 in
theorem bytes_any (g : Nat) (l : List UInt8) (w : World) (hw : WrR w g l) (hl : l.length ≤ 1099511627776) :
    Calls Tryd.prog 48 #[.pointer (some ⟨g, 0, none⟩)] w fun e w' => e = .returned (.slice (some ⟨w.heap.size, 0, none⟩) l.length l.length) ∧
      w'.heap[w.heap.size]? = some (.cells (bcells l).toArray 5 (0, 0)) ∧ Below w.heap.size w w' ∧ w'.heap.size = w.heap.size + 1 := by
  have HW := Lib.hid hw
  clear hw
  obtain ⟨v, hv, ho⟩ := HW.out
  have hcell : w.cell? ⟨g, 0, none⟩ = some v := by rw [cell_of_row _ _ _ _ _ _ hv]; rfl
  obtain ⟨A1, c1, rfl, hc1, hc2⟩ := own_form ho
  have hmk := u8_make l.length hl
  have hcell2 : (w.alloc (.cells (madeCells #[.int .u8 0] l.length) 5)).cell? ⟨g, 0, none⟩ = some (.slice A1 l.length c1) := by
    rw [cell_of_row _ _ _ _ _ _ ((Below.heap_alloc w _ g HW.out.lt).trans hv)]; rfl
  go_enter Tryd.func48, Tryd.ntmps48
  go_wp2_with (refine wpList_copy_all rfl _ _ rfl rfl rfl rfl (Go.heap_alloc_new w _) (made_len _ _) (Rd.below (Rd.of_own ho) ((Below.refl _ _).alloc (Nat.le_refl _) _)) ((Below.refl _ _).alloc (Nat.le_refl _) _) (Nat.le_refl _) ?_)
  intro w2 h2 hb2 hs2
  go_wp2
  go_ret
  exact ⟨rfl, h2.out, hb2, hs2⟩
end Go.Proofs.YtplbcbamnjnhlaaDoor
/- Contracts of octet's Reader, for any bytes and every world. -/
namespace Go.Proofs.YtplbcbamnjnhlaaDoor
open Go.RowKit

theorem grown_refl (w : World) (r : Option Nat) : w.grownBy w r := ⟨rfl, rfl, rfl, Nat.le_refl _, fun _ _ _ => rfl⟩
theorem grown_trans {w w' w'' : World} {r : Option Nat} (h : w.grownBy w' r) (h2 : w'.grownBy w'' r) : w.grownBy w'' r :=
  ⟨h2.os.trans h.os, h2.tape.trans h.tape, h2.output.trans h.output, Nat.le_trans h.size h2.size, fun k hk hne => (h2.block k (Nat.lt_of_lt_of_le hk h.size) hne).trans (h.block k hk hne)⟩
theorem grown_drew (w : World) (r : Option Nat) : w.grownBy w.drew r := ⟨rfl, rfl, rfl, Nat.le_refl _, fun _ _ _ => rfl⟩
theorem grown_alloc (w : World) (o : Obj) (r : Option Nat) : w.grownBy (w.alloc o) r := ⟨rfl, rfl, rfl, by simp, fun k hk _ => Below.heap_alloc w o k hk⟩
theorem grown_below' {w w' : World} {r : Option Nat} (h : Below w.heap.size w w') : w.grownBy w' r := ⟨h.os, h.tape, h.output, h.size, fun k hk _ => h.block k hk⟩
theorem grown_set (w : World) (g i : Nat) (v : Value) : w.grownBy (w.setCell ⟨g, i, none⟩ v) (some g) :=
  ⟨rfl, rfl, rfl, by rw [World.size_setCell]; exact Nat.le_refl _, fun k _ hne => heap_setCell_other _ _ _ _ (show k ≠ g from fun e => hne (by rw [e]))⟩
theorem below_of_grown {w w' : World} {g B : Nat} (h : w.grownBy w' (some g)) (hB : B ≤ g) (hs : B ≤ w.heap.size) : Below B w w' :=
  ⟨h.os, h.tape, h.output, h.size, fun k hk => h.block k (by omega) (by intro e; injection e; omega)⟩

/-- a reader at block g: of the bytes l, at of them are taken; sp: it is spent -/
def RdrR (w : World) (g : Nat) (l : List UInt8) (at_ : Nat) (sp : Bool) : Prop :=
  ∃ A c, w.heap[g]? = some (.cells #[.slice A l.length c, .int .i64 at_, .bool sp] 100 (0, 0)) ∧ Rd w g A (bcells l) ∧ l.length ≤ c ∧ c ≤ 1099511627776 ∧ at_ ≤ l.length
theorem RdrR.lt {w : World} {g : Nat} {l : List UInt8} {at_ : Nat} {sp : Bool} (h : RdrR w g l at_ sp) : g < w.heap.size := by
  obtain ⟨_, _, h1, _⟩ := h
  exact (Array.getElem?_eq_some_iff.1 h1).1
theorem RdrR.later {w w' : World} {g : Nat} {l : List UInt8} {at_ : Nat} {sp : Bool} (h : RdrR w g l at_ sp) (hb : Below w.heap.size w w') : RdrR w' g l at_ sp := by
  have hlt := h.lt
  obtain ⟨A, c, h1, h2, h3, h4⟩ := h
  exact ⟨A, c, (hb.block g hlt).trans h1, h2.below (hb.mono (Nat.le_of_lt hlt)), h3, h4⟩
theorem RdrR.cells {w : World} {g : Nat} {l : List UInt8} {at_ : Nat} {sp : Bool} (h : RdrR w g l at_ sp) : ∃ A c, w.cell? ⟨g, 0, none⟩ = some (.slice A l.length c) ∧ w.cell? ⟨g, 1, none⟩ = some (.int .i64 at_) ∧ w.cell? ⟨g, 2, none⟩ = some (.bool sp) ∧
    w.frozen? ⟨g, 1, none⟩ = false ∧ w.frozen? ⟨g, 2, none⟩ = false ∧ Rd w g A (bcells l) ∧ l.length ≤ c ∧ c ≤ 1099511627776 := by
  obtain ⟨A, c, h1, h2, h3, h4, _⟩ := h
  exact ⟨A, c, by rw [cell_of_row _ _ _ _ _ _ h1]; rfl, by rw [cell_of_row _ _ _ _ _ _ h1]; rfl, by rw [cell_of_row _ _ _ _ _ _ h1]; rfl, frozen_of_row _ _ _ _ _ h1, frozen_of_row _ _ _ _ _ h1, h2, h3, h4⟩
theorem RdrR.spend {w : World} {g : Nat} {l : List UInt8} {at_ : Nat} {sp : Bool} (h : RdrR w g l at_ sp) : RdrR (w.setCell ⟨g, 2, none⟩ (.bool true)) g l at_ true := by
  obtain ⟨A, c, h1, h2, h3, h4⟩ := h
  exact ⟨A, c, by simpa using heap_setCell_same w g 2 _ _ (.bool true) h1, h2.below (((Below.refl _ _).mono (Nat.le_of_lt (Array.getElem?_eq_some_iff.1 h1).1)).setCell (p := ⟨g, 2, none⟩) (Nat.le_refl _) _), h3, h4⟩
theorem RdrR.move {w : World} {g : Nat} {l : List UInt8} {at_ n : Nat} {sp : Bool} (h : RdrR w g l at_ sp) (hn : n ≤ l.length) : RdrR (w.setCell ⟨g, 1, none⟩ (.int .i64 (n : Nat))) g l n sp := by
  obtain ⟨A, c, h1, h2, h3, h4, _⟩ := h
  exact ⟨A, c, by simpa using heap_setCell_same w g 1 _ _ (.int .i64 (n : Nat)) h1, h2.below (((Below.refl _ _).mono (Nat.le_of_lt (Array.getElem?_eq_some_iff.1 h1).1)).setCell (p := ⟨g, 1, none⟩) (Nat.le_refl _) _), h3, h4, hn⟩
theorem RdrR.drew {w : World} {g : Nat} {l : List UInt8} {at_ : Nat} {sp : Bool} (h : RdrR w g l at_ sp) : RdrR w.drew g l at_ sp := h.later (Below.refl _ _).drew

set_option maxRecDepth 100000 in
theorem read_any (l : List UInt8) (A : Option Addr) (c B : Nat) (w : World) (hr : Rd w B A (bcells l)) (hB : B ≤ w.heap.size) (hl : l.length ≤ 1099511627776) :
    Calls Tryd.prog 28 #[.slice A l.length c] w fun e w' => e = .returned (.pointer (some ⟨w.heap.size + 1, 0, none⟩)) ∧ RdrR w' (w.heap.size + 1) l 0 false ∧ Below w.heap.size w w' ∧ w'.heap.size = w.heap.size + 2 := by
  have HR := Lib.hid hr
  clear hr
  have hmk := u8_make l.length hl
  go_enter Tryd.func28, Tryd.ntmps28
  go_wp2_with (refine wpList_copy_all rfl _ _ rfl rfl rfl rfl (Go.heap_alloc_new w _) (made_len _ _) (HR.out.below (((Below.refl _ _).mono hB).alloc hB _)) ((Below.refl _ _).alloc (Nat.le_refl _) _) (Nat.le_refl _) ?_)
  intro w2 h2 hb2 hs2
  go_wp2
  go_ret
  refine ⟨rfl, ?_, hb2.alloc (by omega) _, by simp [hs2]⟩
  rw [← hs2]
  refine ⟨some ⟨w.heap.size, 0, none⟩, l.length, Go.heap_alloc_new w2 _, ?_, Nat.le_refl _, hl, by omega⟩
  have hrow := (Rd.row (w := w2) (B := w2.heap.size) h2.out (by omega)).below ((Below.refl _ _).alloc (Nat.le_refl _) (.cells #[.slice (some ⟨w.heap.size, 0, none⟩) l.length l.length, .int .i64 0, .bool false] 100))
  simpa using hrow

theorem spent_any (g : Nat) (l : List UInt8) (a : Nat) (sp : Bool) (w : World) (h : RdrR w g l a sp) :
    Calls Tryd.prog 51 #[.pointer (some ⟨g, 0, none⟩)] w fun e w' => e = .returned (.bool sp) ∧ w = w' := by
  obtain ⟨A, c, c0, c1, c2, f1, f2, _⟩ := h.cells
  go_enter Tryd.func51, Tryd.ntmps51
  go_wp2
  go_ret
  exact ⟨rfl, rfl⟩
theorem left_sp (g : Nat) (l : List UInt8) (a : Nat) (w : World) (h : RdrR w g l a true) :
    Calls Tryd.prog 32 #[.pointer (some ⟨g, 0, none⟩)] w fun e w' => e = .returned (.int .i64 0) ∧ w = w' := by
  have H := Lib.hid h
  clear h
  go_enter Tryd.func32, Tryd.ntmps32
  go_wp2_with fail
  refine (spent_any g l a true w H.out).mono ?_
  rintro e w' ⟨rfl, rfl⟩
  go_wp2
  go_ret
  exact ⟨rfl, rfl⟩
set_option maxRecDepth 100000 in
theorem left_ok (g : Nat) (l : List UInt8) (a : Nat) (w : World) (h : RdrR w g l a false) :
    Calls Tryd.prog 32 #[.pointer (some ⟨g, 0, none⟩)] w fun e w' => e = .returned (.int .i64 (l.length - a : Nat)) ∧ w.drew = w' := by
  obtain ⟨A, c, c0, c1, c2, f1, f2, _, hc1, hc2⟩ := h.cells
  have ha : a ≤ l.length := by obtain ⟨_, _, _, _, _, _, h5⟩ := h; exact h5
  have H := Lib.hid h
  clear h
  go_enter Tryd.func32, Tryd.ntmps32
  go_wp2_with fail
  refine (spent_any g l a false w H.out).mono ?_
  rintro e w' ⟨rfl, rfl⟩
  go_wp2_with fail
  refine Text.wp_text [] (by kernel_rfl) (by kernel_rfl) (fun Q' hQ' => ?_)
  go_wp2
  refine ⟨by rfl, ?_⟩
  go_wp2
  go_ret
  exact ⟨rt1 (vint (by omega)), rfl⟩
theorem all_sp (g : Nat) (l : List UInt8) (a : Nat) (w : World) (h : RdrR w g l a true) :
    Calls Tryd.prog 33 #[.pointer (some ⟨g, 0, none⟩)] w fun e w' => e = .returned (.bool false) ∧ w = w' := by
  have H := Lib.hid h
  clear h
  go_enter Tryd.func33, Tryd.ntmps33
  go_wp2_with fail
  refine (spent_any g l a true w H.out).mono ?_
  rintro e w' ⟨rfl, rfl⟩
  go_wp2
  go_ret
  exact ⟨rfl, rfl⟩
theorem all_ok (g : Nat) (l : List UInt8) (a : Nat) (w : World) (h : RdrR w g l a false) :
    Calls Tryd.prog 33 #[.pointer (some ⟨g, 0, none⟩)] w fun e w' => e = .returned (.bool (decide (a = l.length))) ∧ w.drew = w' := by
  have ha : a ≤ l.length := by obtain ⟨_, _, _, _, _, _, h5⟩ := h; exact h5
  have H := Lib.hid h
  clear h
  go_enter Tryd.func33, Tryd.ntmps33
  go_wp2_with fail
  refine (spent_any g l a false w H.out).mono ?_
  rintro e w' ⟨rfl, rfl⟩
  go_wp2_with fail
  refine (left_ok g l a w H.out).mono ?_
  rintro e w' ⟨rfl, rfl⟩
  go_wp2
  go_ret
  refine ⟨rt1 (vbool ?_), rfl⟩
  rw [Bool.eq_iff_iff]
  simp
  omega
/-- a take that does not succeed: the reader is spent -/
def SpentTo (g : Nat) (l : List UInt8) (a : Nat) (v : Value) (w : World) (e : Ending) (w' : World) : Prop := e = .returned v ∧ RdrR w' g l a true ∧ w.grownBy w' (some g)
theorem has_no (g : Nat) (l : List UInt8) (a : Nat) (sp : Bool) (n : Int) (w : World) (h : RdrR w g l a sp) (hn : sp = true ∨ n < 0 ∨ ((l.length - a : Nat) : Int) < n) :
    Calls Tryd.prog 66 #[.pointer (some ⟨g, 0, none⟩), .int .i64 n] w (SpentTo g l a (.bool false) w) := by
  obtain ⟨A, c, c0, c1, c2, f1, f2, _⟩ := h.cells
  have H := Lib.hid h
  have HS := Lib.hid h.spend
  have HS2 := Lib.hid h.drew.spend
  clear h
  cases sp with
  | true =>
    go_enter Tryd.func66, Tryd.ntmps66
    go_wp2_with fail
    refine (spent_any g l a true w H.out).mono ?_
    rintro e w' ⟨rfl, rfl⟩
    go_wp2
    go_ret
    exact ⟨rfl, H.out, grown_refl _ _⟩
  | false =>
    by_cases h0 : n < 0
    · clear hn
      go_enter Tryd.func66, Tryd.ntmps66
      go_wp2_with fail
      refine (spent_any g l a false w H.out).mono ?_
      rintro e w' ⟨rfl, rfl⟩
      go_wp2
      go_ret
      exact ⟨rfl, HS.out, grown_set _ _ _ _⟩
    · have hn2 : ((l.length - a : Nat) : Int) < n := by rcases hn with h | h | h; cases h; omega; exact h
      clear hn
      generalize hk : l.length - a = k at hn2
      have HK := Lib.hid hk
      clear hk
      go_enter Tryd.func66, Tryd.ntmps66
      go_wp2_with fail
      refine (spent_any g l a false w H.out).mono ?_
      rintro e w' ⟨rfl, rfl⟩
      go_wp2_with fail
      refine (left_ok g l a w H.out).mono ?_
      rintro e w' ⟨rfl, rfl⟩
      rw [HK.out]
      go_wp2
      go_ret
      exact ⟨rfl, HS2.out, grown_trans (grown_drew _ _) (grown_set _ _ _ _)⟩
theorem has_ok (g : Nat) (l : List UInt8) (a : Nat) (n : Nat) (w : World) (h : RdrR w g l a false) (hn : a + n ≤ l.length) :
    Calls Tryd.prog 66 #[.pointer (some ⟨g, 0, none⟩), .int .i64 n] w fun e w' => e = .returned (.bool true) ∧ w.drew = w' := by
  have hn2 : n ≤ l.length - a := by omega
  have H := Lib.hid h
  clear h hn
  generalize hk : l.length - a = k at hn2
  have HK := Lib.hid hk
  clear hk
  go_enter Tryd.func66, Tryd.ntmps66
  go_wp2_with fail
  refine (spent_any g l a false w H.out).mono ?_
  rintro e w' ⟨rfl, rfl⟩
  go_wp2_with fail
  refine (left_ok g l a w H.out).mono ?_
  rintro e w' ⟨rfl, rfl⟩
  rw [HK.out]
  go_wp2
  go_ret
  exact ⟨rfl, rfl⟩

/-! slices of bytes, cut -/
def cutA (A : Option Addr) (c k : Nat) : Option Addr := if c = k then A else A.map (·.add k)
theorem u8_from (A : Option Addr) (n c k : Nat) (h : k ≤ n) (w : World) : (Instr.sliceAt 22 (.slice A n c) (some (.int .i64 (k : Nat))) none none).run Tryd.prog w = .ok (.slice (cutA A c k) (n - k) (c - k)) w := by
  have hs : ∀ w : World, (sizeOf (Tryd.prog.elem 22)).run Tryd.prog w = .ok 1 w := fun _ => by kernel_rfl
  have ht : Tryd.prog.underlying 22 = some (.slice (Tryd.prog.elem 22)) := by kernel_rfl
  rw [run_sliceAt_slice _ _ _ _ _ _ ht, run_slice_l _ _ _ _ _ ht .i64 _ (by omega) (by omega), hs]
  simp [Result.andThen, sliced, cutA]
theorem u8_mid (A : Option Addr) (n c k m : Nat) (h : k ≤ m) (h2 : m ≤ c) (w : World) : (Instr.sliceAt 22 (.slice A n c) (some (.int .i64 (k : Nat))) (some (.int .i64 (m : Nat))) none).run Tryd.prog w = .ok (.slice (cutA A c k) (m - k) (c - k)) w := by
  have hs : ∀ w : World, (sizeOf (Tryd.prog.elem 22)).run Tryd.prog w = .ok 1 w := fun _ => by kernel_rfl
  have ht : Tryd.prog.underlying 22 = some (.slice (Tryd.prog.elem 22)) := by kernel_rfl
  rw [run_sliceAt_slice _ _ _ _ _ _ ht, run_slice_lh _ _ _ _ _ ht .i64 .i64 _ _ (by omega) (by omega) (by omega), hs]
  simp [Result.andThen, sliced, cutA]
theorem Rd.cut {w : World} {B : Nat} {A : Option Addr} {l : List UInt8} (h : Rd w B A (bcells l)) (k c : Nat) (hc : l.length ≤ c) : Rd w B (cutA A c k) (bcells (l.drop k)) := by
  have := h.drop_ k (cap := c) (fun h1 => by rw [bcells_length] at h1; omega)
  unfold cutA
  rw [show bcells (l.drop k) = (bcells l).drop k by simp [bcells, List.map_drop]]
  exact this
theorem Rd.upto {w : World} {B : Nat} {A : Option Addr} {l : List UInt8} (h : Rd w B A (bcells l)) (k : Nat) : Rd w B A (bcells (l.take k)) := by
  rw [show bcells (l.take k) = (bcells l).take k by simp [bcells, List.map_take]]
  exact h.take_ k
/-- a copy of the first bytes into a row that was just made -/
theorem wpList_copy_first {w : World} {ops : Array Oper} {rest : List Oper} {o : Oper} {a : Act} {Q : Exit → Act → World → Prop} (hgd : o.guard = none) (d s : Operand)
    (ho : o.op = .call { callee := .builtin .copy, args := #[d, s], argTypes := #[22, 22] })
    {A : Option Addr} {g n m c c1 : Nat} {l : List UInt8} (hd : a.eval d = .slice (some ⟨g, 0, none⟩) n c) (hs : a.eval s = .slice A m c1) (hn : m = l.length) (hnm : n ≤ m) {cur : Array Value} {t : TypeId}
    (hg : w.heap[g]? = some (.cells cur t (0, 0))) (hcur : cur.size = n) {B : Nat} (hr : Rd w B A (bcells l)) {B0 : Nat} {w0 : World} (hb : Below B0 w0 w) (hBg : B0 ≤ g)
    (h : ∀ w', Hid (w'.heap[g]? = some (.cells (bcells (l.take n)).toArray t (0, 0))) → Below B0 w0 w' → w'.heap.size = w.heap.size → wpList Tryd.prog ops Q rest (a.put o.dst (goInt n)) w') :
    wpList Tryd.prog ops Q (o :: rest) a w := by
  have hl2 : (l.take n).length = n := by rw [List.length_take]; omega
  have hlen : (bcells (l.take n)).length = cur.toList.length := by rw [bcells_length, hl2, ← hcur]; simp
  by_cases h0 : n = 0
  · have hcur0 : cur = #[] := Array.eq_empty_of_size_eq_zero (by omega)
    refine wpList_copy_nothing hgd d s 22 22 ho 5 Tryd.underlying22 (by kernel_rfl) _ _ _ _ _ _ hd hs (by rw [h0]; simp) ?_
    have := h w ?_ hb rfl
    · rw [h0] at this; exact this
    · show _ = _
      rw [hg, h0, hcur0]
      rfl
  · have hne : bcells (l.take n) ≠ [] := by intro e; apply h0; have := congrArg List.length e; rw [bcells_length, hl2] at this; simpa using this
    obtain ⟨ab, ao, rfl, hab, hcells⟩ := (hr.upto n) hne
    refine wpList_copy_own hgd d s 22 22 ho 5 Tryd.underlying22 (by kernel_rfl) g 0 n c ⟨ab, ao, none⟩ m c1 hd hs cur t hg (bcells (l.take n)) (by rw [bcells_length, hl2]; exact (Nat.min_eq_right hnm).symm)
      (fun j v hv => by rw [Addr.add_lit]; exact hcells j v hv) (by rw [bcells_length, hl2, hcur]; omega) (bcells_one _) ?_
    have hl3 : ((bcells (l.take n)).length : Int) = (n : Int) := by rw [bcells_length, hl2]
    rw [hl3]
    refine h _ ?_ (below_setRow hb hBg _) (by simp)
    show _ = _
    rw [setRow_heap w g cur _ t _ hg]
    congr 2
    simp only [List.take_zero, List.nil_append, Nat.zero_add, hlen, List.drop_length, List.append_nil]

theorem take_no (g : Nat) (l : List UInt8) (a : Nat) (sp : Bool) (n : Int) (w : World) (h : RdrR w g l a sp) (hn : sp = true ∨ n < 0 ∨ ((l.length - a : Nat) : Int) < n) :
    Calls Tryd.prog 53 #[.pointer (some ⟨g, 0, none⟩), .int .i64 n] w (SpentTo g l a (.slice none 0 0) w) := by
  have H := Lib.hid h
  have HN := Lib.hid hn
  clear h hn
  go_enter Tryd.func53, Tryd.ntmps53
  go_wp2_with fail
  refine (has_no g l a sp n w H.out HN.out).mono ?_
  rintro e w' ⟨rfl, h1, h2⟩
  have H1 := Lib.hid h1
  have H2 := Lib.hid h2
  clear h1 h2
  go_wp2
  go_ret
  exact ⟨rfl, H1.out, H2.out⟩
/-- a take that succeeds -/
def TakenTo (g : Nat) (l : List UInt8) (a n : Nat) (w : World) (e : Ending) (w' : World) : Prop :=
  e = .returned (.slice (some ⟨w.heap.size, 0, none⟩) n n) ∧ w'.heap[w.heap.size]? = some (.cells (bcells ((l.drop a).take n)).toArray 5 (0, 0)) ∧ RdrR w' g l (a + n) false ∧ w.grownBy w' (some g) ∧ w.heap.size < w'.heap.size
set_option maxRecDepth 100000 in
set_option maxHeartbeats 400000 in
theorem take_ok (g : Nat) (l : List UInt8) (a n : Nat) (w : World) (h : RdrR w g l a false) (hn : a + n ≤ l.length) :
    Calls Tryd.prog 53 #[.pointer (some ⟨g, 0, none⟩), .int .i64 n] w (TakenTo g l a n w) := by
  have hgl := h.lt
  have h1 : RdrR (w.drew.alloc (.cells (madeCells #[.int .u8 0] n) 5)) g l a false := h.drew.later ((Below.refl _ _).alloc (Nat.le_refl _) _)
  obtain ⟨A, c, c0, c1, c2, f1, f2, hrd, hc, hc2⟩ := h.cells
  have hmk := u8_make n (by omega)
  have hfr := u8_from A l.length c a (by omega)
  have H := Lib.hid h
  have H1 := Lib.hid h1
  have HRD := Lib.hid hrd
  clear h h1 hrd
  go_enter Tryd.func53, Tryd.ntmps53
  go_wp2_with fail
  refine (has_ok g l a n w H.out hn).mono ?_
  rintro e w' ⟨rfl, rfl⟩
  go_wp2_with fail
  refine Text.wp_text [] (by kernel_rfl) (by kernel_rfl) (fun Q' hQ' => ?_)
  go_wp2_with (refine wpList_copy_first rfl _ _ rfl rfl rfl (List.length_drop ..).symm (by omega) (Go.heap_alloc_new w _) (made_len _ _) ((HRD.out.cut a c hc).below (((Below.refl _ _).mono (Nat.le_of_lt hgl)).alloc (Nat.le_of_lt hgl) _).drew.drew) ((Below.refl _ _).alloc (Nat.le_refl _) _).drew.drew (Nat.le_refl _) ?_)
  intro w2 h2 hb2 hs2
  have H2 : Hid (RdrR w2 g l a false) := H.out.later hb2
  obtain ⟨A2, c3, d0, d1, d2, e1, _, _⟩ := H2.out.cells
  go_wp2
  refine ⟨by rfl, ?_⟩
  go_wp2
  go_ret
  refine ⟨rfl, ?_, H2.out.move hn, ?_, ?_⟩
  · rw [heap_setCell_other _ _ _ _ (show w.heap.size ≠ g by omega)]
    exact h2.out
  · exact grown_trans (grown_below' hb2) (grown_set _ _ _ _)
  · rw [World.size_setCell, hs2]; omega
theorem spend_any (g : Nat) (l : List UInt8) (a : Nat) (sp : Bool) (w : World) (h : RdrR w g l a sp) :
    Calls Tryd.prog 65 #[.pointer (some ⟨g, 0, none⟩)] w (SpentTo g l a (.int .u64 0) w) := by
  have H := Lib.hid h
  clear h
  go_enter Tryd.func65, Tryd.ntmps65
  go_wp2_with fail
  refine (take_no g l a sp (-1) w H.out (.inr (.inl (by omega)))).mono ?_
  rintro e w' ⟨rfl, h1, h2⟩
  have H1 := Lib.hid h1
  have H2 := Lib.hid h2
  clear h1 h2
  go_wp2
  go_ret
  exact ⟨rfl, H1.out, H2.out⟩
/-- a number's value, the highest byte first -/
def beVal (l : List UInt8) : Nat := l.foldl (fun v c => v * 256 + c.toNat) 0
theorem beVal_snoc (l : List UInt8) (c : UInt8) : beVal (l ++ [c]) = beVal l * 256 + c.toNat := by simp [beVal]
theorem beVal_lt (l : List UInt8) : beVal l < 256 ^ l.length := by
  have h : ∀ (l : List UInt8) (v m : Nat), v < 256 ^ m → l.foldl (fun v c => v * 256 + c.toNat) v < 256 ^ (m + l.length) := by
    intro l
    induction l with
    | nil => intro v m h; simpa using h
    | cons c l ih =>
      intro v m h
      rw [List.foldl_cons, List.length_cons, show m + (l.length + 1) = (m + 1) + l.length by omega]
      apply ih
      have := c.toNat_lt
      rw [Nat.pow_succ]
      omega
  have := h l 0 0 (by simp)
  simpa [beVal] using this
theorem or_byte (v c : Nat) (hv : v < 72057594037927936) (hc : c < 256) : bits .or .u64 ((v : Int) * 256) (c : Int) = ((v * 256 + c : Nat) : Int) := by
  have e : v * 256 ||| c = v * 256 + c := by
    have := Nat.shiftLeft_add_eq_or_of_lt (a := v) (b := c) (i := 8) (by omega)
    rw [Nat.shiftLeft_eq] at this
    exact this.symm
  rw [show (v : Int) * 256 = ((v * 256 : Nat) : Int) by simp, u64_or_nat _ _ (by omega) (by omega), e]
theorem num_no (g : Nat) (l : List UInt8) (a : Nat) (sp : Bool) (n : Nat) (w : World) (h : RdrR w g l a sp) (h1 : 1 ≤ n) (h8 : n ≤ 8) (hn : sp = true ∨ l.length < a + n) :
    Calls Tryd.prog 29 #[.pointer (some ⟨g, 0, none⟩), .int .i64 n] w (SpentTo g l a (.int .u64 0) w) := by
  have H := Lib.hid h
  have HN := Lib.hid hn
  have ha : a ≤ l.length := by obtain ⟨_, _, _, _, _, _, h5⟩ := h; exact h5
  clear h hn
  go_enter Tryd.func29, Tryd.ntmps29
  go_wp2_with fail
  refine (take_no g l a sp n w H.out (by rcases HN.out with h | h; exact .inl h; exact .inr (.inr (by omega)))).mono ?_
  rintro e w' ⟨rfl, h1, h2⟩
  have H1 := Lib.hid h1
  have H2 := Lib.hid h2
  clear h1 h2
  go_wp2
  go_loopw [5, 18] (fun v5 v18 wr => wr = w' ∧ v5 = .int .u64 0 ∧ v18 = .int .i64 0) (fun _ _ _ => 0)
  case atStart => exact ⟨rfl, rfl, rfl⟩
  case round =>
    obtain ⟨rfl, rfl, rfl⟩ := hrel
    go_wp2
    go_ret
    exact ⟨rfl, H1.out, H2.out⟩
/-- a number that is taken -/
def NumTo (g : Nat) (l : List UInt8) (a n : Nat) (w : World) (e : Ending) (w' : World) : Prop :=
  e = .returned (.int .u64 (beVal ((l.drop a).take n) : Nat)) ∧ RdrR w' g l (a + n) false ∧ w.grownBy w' (some g)
set_option maxRecDepth 100000 in
set_option maxHeartbeats 400000 in
theorem num_ok (g : Nat) (l : List UInt8) (a n : Nat) (w : World) (h : RdrR w g l a false) (h1 : 1 ≤ n) (h8 : n ≤ 8) (hn : a + n ≤ l.length) :
    Calls Tryd.prog 29 #[.pointer (some ⟨g, 0, none⟩), .int .i64 n] w (NumTo g l a n w) := by
  have H := Lib.hid h
  clear h
  go_enter Tryd.func29, Tryd.ntmps29
  go_wp2_with fail
  refine (take_ok g l a n w H.out hn).mono ?_
  rintro e w' ⟨rfl, h1, h2, h3, h4⟩
  have HB := Lib.hid h1
  have H2 := Lib.hid h2
  have H3 := Lib.hid h3
  clear h1 h2 h3 h4
  have hseg : ((l.drop a).take n).length = n := by rw [List.length_take, List.length_drop]; omega
  obtain ⟨seg, hs⟩ : ∃ seg, seg = (l.drop a).take n := ⟨_, rfl⟩
  rw [← hs] at hseg HB
  have HS := Lib.hid hs
  clear hs
  have HRD := Lib.hid (Rd.row (B := w.heap.size + 1) HB.out (by omega))
  go_wp2_with fail
  go_loop [5, 18] (fun v5 v18 => ∃ k : Nat, k ≤ n ∧ v18 = .int .i64 k ∧ v5 = .int .u64 (beVal (seg.take k) : Nat)) (fun _ v18 => n - (intOf v18).toNat)
  case atStart => exact ⟨0, by omega, rfl, rfl⟩
  case round =>
    obtain ⟨k, hk, rfl, rfl⟩ := hrel
    by_cases hlt : k < n
    · have hlt2 : k < seg.length := by omega
      obtain ⟨ab, ao, e1, _, hcell⟩ := (show Rd w' (w.heap.size + 1) (some ⟨w.heap.size, 0, none⟩) (bcells seg) by simpa using HRD.out).byte hlt2
      injection e1 with e1
      injection e1 with e1 e2
      subst e1 e2
      rw [Nat.zero_add] at hcell
      have hb8 := seg[k].toNat_lt
      have hv : beVal (seg.take k) < 72057594037927936 := by
        have h1 := beVal_lt (seg.take k)
        have h2 : 256 ^ (seg.take k).length ≤ 256 ^ 7 := Nat.pow_le_pow_right (by omega) (by rw [List.length_take]; omega)
        exact Nat.lt_of_lt_of_le h1 (by simpa using h2)
      have HV := Lib.hid (show beVal (seg.take (k + 1)) = beVal (seg.take k) * 256 + seg[k].toNat by rw [List.take_succ_eq_append_getElem hlt2, beVal_snoc])
      have HO := Lib.hid (or_byte _ _ hv hb8)
      go_wp2
      go_round
      case rel => exact ⟨k + 1, by omega, by go_num, vint (by rw [HV.out]; exact HO.out)⟩
      case measure => simp [intOf]; omega
    · have hkn : k = n := by omega
      subst hkn
      go_wp2
      go_ret
      refine ⟨rt1 (vint ?_), H2.out, H3.out⟩
      rw [List.take_of_length_le (by omega), HS.out]
end Go.Proofs.YtplbcbamnjnhlaaDoor
