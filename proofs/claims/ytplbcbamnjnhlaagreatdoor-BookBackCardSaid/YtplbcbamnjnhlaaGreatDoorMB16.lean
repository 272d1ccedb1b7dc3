/- Texts of this proof joined: Line, TakeKey. -/
import Derived.Test.YtplbcbamnjnhlaaGreatDoorMB15
import Derived.Test.YtplbcbamnjnhlaaGreatDoorMB14
import Derived.Test.YtplbcbamnjnhlaaGreatDoorMB07
import Derived.Test.YtplbcbamnjnhlaaGreatDoorMB06
import Derived.Test.YtplbcbamnjnhlaaGreatDoorMB11
import Derived.Test.YtplbcbamnjnhlaaGreatDoorMB10
import Derived.Test.YtplbcbamnjnhlaaGreatDoorMB12
namespace Go.Proofs.YtplbcbamnjnhlaaGreatDoor
open Go.RowKit

def lineL (r : RecD) : List UInt8 := sevPack (frameSeal (UInt8.ofNat r.kind.toNat) (loadL r)) ++ [10]
theorem flat_keys_length : ∀ xs : List KeyD, (∀ x ∈ xs, x.1.length = 32) → (xs.flatMap keyB).length = 33 * xs.length
  | [], _ => rfl
  | x :: r, h => by
    rw [List.flatMap_cons, List.length_append, keyB_length x (h x (by simp)), flat_keys_length r fun y hy => h y (by simp [hy]), List.length_cons]
    omega
theorem loadL_le (r : RecD) (hr : Hs r) (hk : ∀ x ∈ r.keys, x.1.length = 32) (h : rightB r = true) : (loadL r).length ≤ 9000 := by
  have hn : r.keys.length ≤ 256 := by
    by_cases h7 : r.kind = 7
    · obtain ⟨kind, seq, kh, kk, mh, ms, keys⟩ := r
      simp only at h7
      subst h7
      exact (rising_ok (right_7 h).2).1
    · have : r.keys = [] := by
        unfold rightB at h
        simp only [h7, if_false, Bool.and_eq_true, decide_eq_true_eq] at h
        exact h.2
      rw [this]
      simp
  have h2 := flat_keys_length r.keys hk
  have h3 : (keyB (r.kh, r.kk)).length = 33 := keyB_length _ hr.1
  unfold loadL
  simp only [List.length_append, h2]
  repeat' split
  all_goals simp [beBytes_length, h3, hr.2]
  all_goals omega
def LineTo (r : RecD) (N : Nat) (e : Ending) (w' : World) : Prop :=
  if rightB r = true then ∃ v, e = .returned (.tuple #[v, .int .i64 0]) ∧ w'.ownsRow N 5 1 v (lineL r).length (bcells (lineL r)) else e = .returned (.tuple #[.slice none 0 0, .int .i64 1])
theorem lineTo_no {r : RecD} {N : Nat} {e : Ending} {w' : World} (h : rightB r = false) (he : e = .returned (.tuple #[.slice none 0 0, .int .i64 1])) : LineTo r N e w' := by unfold LineTo; rw [h, if_neg (by simp)]; exact he
theorem lineTo_yes {r : RecD} {N : Nat} {e : Ending} {w' : World} {v : Value} (h : rightB r = true) (he : e = .returned (.tuple #[v, .int .i64 0])) (ho : w'.ownsRow N 5 1 v (lineL r).length (bcells (lineL r))) : LineTo r N e w' := by
  unfold LineTo; rw [if_pos h]; exact ⟨v, he, ho⟩
set_option maxRecDepth 100000 in
set_option maxHeartbeats 4000000 in
theorem line_any (r : RecD) (A : Option Addr) (n c B : Nat) (w : World) (hr : Hs r) (h1 : SlR eKey w B (.slice A n c) r.keys) (hB : B ≤ w.heap.size) (hks : ∀ x ∈ r.keys, x.1.length = 32) :
    Calls Tryz.prog 35 #[rv r (.slice A n c)] w fun e w' => LineTo r w.heap.size e w' ∧ Below w.heap.size w w' := by
  have HR := Lib.hid hr
  have HKS := Lib.hid hks
  have HBW := Lib.hid hB
  have HB1 := Lib.hid ((Below.refl _ _).alloc (Nat.le_refl _) (.cells (recCells r.kind r.seq r.kh r.kk r.mh r.ms (.slice A n c)).toArray 38) : Below w.heap.size w _)
  have HG1 := Lib.hid (RecAt.new (t := 38) (kind := r.kind) (seq := r.seq) (kk := r.kk) (ms := r.ms) (v := .slice A n c) w hr.1 hr.2)
  have HK1 := Lib.hid (h1.fut HB1.out hB (Nat.le_refl B))
  clear hr h1 hB hks
  go_enter Tryz.func35, Tryz.ntmps35
  go_wp2_with (refine stop_at (some 1) rfl ?_)
  refine Stop.go (wpList_box rfl _ rfl rfl (recv_cells ..) ?_)
  generalize w.alloc (.cells (recCells r.kind r.seq r.kh r.kk r.mh r.ms (.slice A n c)).toArray 38) = w1 at *
  go_wp2_with (refine stop_at (some 6) rfl ?_)
  refine Stop.go (wpList_load_agg rfl 38 rfl rfl recTy_u rfl (rec_size _ _ _ _ _ _ _ HR.out.1 HR.out.2) HG1.out.all_ ?_)
  go_wp2_with fail
  refine (right32_any r A n c B _ HR.out HK1.out (Nat.le_trans HBW.out HB1.out.size)).mono ?_
  rw [rightP_eq]
  rintro e w2 ⟨rfl, hb2⟩
  cases hR : rightB r
  · have HB2 := Lib.hid (HB1.out.trans (hb2.mono HB1.out.size))
    have HRF := Lib.hid hR
    clear hb2 hR
    go_wp2_with fail
    go_ret2
    exact ⟨lineTo_no HRF.out rfl, HB2.out⟩
  · have HRT := Lib.hid hR
    obtain ⟨K, hK⟩ : ∃ K : UInt8, r.kind = (K.toNat : Int) := ⟨UInt8.ofNat r.kind.toNat, by
      have := right_kind hR
      rw [UInt8.toNat_ofNat']
      omega⟩
    have HK := Lib.hid hK
    have hk8 := K.toNat_lt
    have HG2 := Lib.hid (HG1.out.later hb2)
    have HB2 := Lib.hid (HB1.out.trans (hb2.mono HB1.out.size))
    have HK2 := Lib.hid (HK1.out.below (hb2.mono (Nat.le_trans HBW.out HB1.out.size)))
    have HLL := Lib.hid (loadL_le r HR.out HKS.out hR)
    have HLN := Lib.hid (show lineL r = sevPack (frameSeal K (loadL r)) ++ [10] by unfold lineL; rw [hK]; simp)
    clear hb2 hR HK1 HG1 HB1
    have c0 : w2.cell? ⟨w.heap.size, 0, none⟩ = some (.int .i64 K.toNat) := by rw [← HK.out]; exact HG2.out.kind_
    clear hK
    go_wp2_with fail
    refine wpT_grow [4, 5] [1, 3] [] (by kernel_rfl) (by kernel_rfl) ?_
    refine wpT_seg 3 (by decide) (fun Q0 hQ0 => ?_)
    simp only [List.take_succ_cons, List.take_zero]
    go_wp2_with fail
    try simp only [List.drop_succ_cons, List.drop_zero]
    refine wpT_seg 1 (by decide) (fun Q1 hQ1 => ?_)
    simp only [List.take_succ_cons, List.take_zero]
    refine wpList_load_agg rfl 38 rfl rfl recTy_u rfl (rec_size _ _ _ _ _ _ _ HR.out.1 HR.out.2) HG2.out.all_ ?_
    refine hQ1 _ _ ?_
    simp only [List.drop_succ_cons, List.drop_zero]
    generalize hac : Act.put _ _ _ = a9
    simp [Act.put] at hac
    subst hac
    refine wpT_one (fun Q1 hQ1 => ?_)
    go_wp2_with fail
    refine (load_any r A n c B _ HR.out (HK2.out.below (Below.refl _ _).drew) (Nat.le_trans HBW.out HB2.out.size) HRT.out).mono ?_
    rintro e w3 ⟨g3, rfl, hr3, hb3, hs3, hg3⟩
    have HB3 := Lib.hid hb3
    have HR3 := Lib.hid (Rd.row (B := w3.heap.size) hr3 (by rw [hs3]; omega))
    obtain ⟨L, hL⟩ : ∃ L, L = loadL r := ⟨_, rfl⟩
    rw [← hL] at HR3 HLL HLN
    simp only [← hL]
    clear hr3 hb3 hs3 hL
    go_wp2_with fail
    refine ⟨HB3.out, ?_⟩
    refine wpT_one (fun Q2 hQ2 => ?_)
    go_wp2_with fail
    refine (seal_any K L _ _ _ _ HR3.out (Nat.le_refl _) (by have := HLL.out; omega)).mono ?_
    rintro e w4 ⟨v4, rfl, ho4, hb4⟩
    have HB4 := Lib.hid (HB3.out.trans (hb4.mono HB3.out.size))
    have HO4 := Lib.hid ho4
    clear ho4 hb4
    go_wp2_with fail
    refine ⟨HB4.out, ?_⟩
    refine wpT_seg 5 (by decide) (fun Q3 hQ3 => ?_)
    simp only [List.take_succ_cons, List.take_zero]
    go_wp2_with fail
    try simp only [List.drop_succ_cons, List.drop_zero]
    refine wpT_end ⟨by rfl, ⟨(fun _ => ⟨_, _, rfl, c0⟩), (fun _ => ⟨_, _, rfl, by simpa using HG2.out.all_ 0 _ rfl⟩), trivial⟩, ?_⟩
    have HB5 := Lib.hid (HB2.out.trans ((below_drew HB4.out).mono HB2.out.size))
    obtain ⟨F, hF⟩ : ∃ F, F = frameSeal K L := ⟨_, rfl⟩
    have HFL := Lib.hid (show F.length ≤ 10000 by rw [hF, frameSeal_length]; have := vForm_len_le L.length (by have := HLL.out; omega); have := HLL.out; omega)
    rw [← hF] at HO4 HLN
    obtain ⟨A4, c4, rfl, _, _⟩ := own_form HO4.out
    have HR4 := Lib.hid (Rd.of_own HO4.out)
    clear hF HB3 HR3 HB4
    go_wp2_with fail
    have hb6 : Below w4.heap.size w4 (w4.alloc (.cells #[.slice A4 F.length c4] 44)) := (Below.refl _ _).alloc (Nat.le_refl _) _
    refine (pack_any w4.heap.size 0 1 F A4 c4 (w4.heap.size + 1) _ (cell_new w4 _ _) (by omega) ((HR4.out.below hb6).more (by omega)) (by simp) (by have := HFL.out; omega)).mono ?_
    rintro e w7 ⟨v7, rfl, ho7, hb7⟩
    have HB7 := Lib.hid (HB5.out.trans ((hb6.trans (hb7.mono hb6.size)).mono HB5.out.size))
    have HO7 := Lib.hid (own_more ho7 (Nat.le_trans HB5.out.size hb6.size))
    obtain ⟨S, hS⟩ : ∃ S, S = sevPack F := ⟨_, rfl⟩
    have HSL := Lib.hid (show S.length ≤ 20000 by rw [hS, sevPack_length]; have := HFL.out; omega)
    rw [← hS] at HO7 HLN
    clear hb6 hb7 ho7 hS
    have hs7 := HB7.out.size
    obtain ⟨A7, c7, rfl, _, _⟩ := own_form HO7.out
    have hsl := HSL.out
    go_wp2_with (at_builtin; refine wpList_app u8_ty rfl rfl rfl rfl (HO7.out.alloc _) (Rd.row (B := w7.heap.size + 1) (Go.heap_alloc_new w7 _) (by omega)) rfl (by simp [Value.oneCell']) ?h63 ?hby ?hbase ?_)
    case h63 => simp only [maxLen]; omega
    case hby => omega
    case hbase => simp; omega
    intro v8 w8 hown8 hg8 _ _
    have B8 := Lib.hid (grown_below (HB7.out.alloc hs7 _) hg8 (HO7.out.alloc _) (Nat.le_refl _) (by simp; omega))
    have HO8 := Lib.hid hown8
    clear hown8 hg8
    go_wp2_with fail
    go_ret2
    refine ⟨lineTo_yes HRT.out rfl ?_, B8.out⟩
    have h8 := HO8.out
    rw [HLN.out, bcells_append, List.length_append]
    exact h8
end Go.Proofs.YtplbcbamnjnhlaaGreatDoor
namespace Go.Proofs.YtplbcbamnjnhlaaGreatDoor
open Go.RowKit

section
variable {P : Program} {ops : Array Oper} {I : World → Prop} {G : List Nat}
theorem wpI_seg {Q : Act → World → Prop} (n : Nat) {k : Nat} {l : List Oper} {a : Act} {w : World} (hG : (List.range' k n).all (fun i => !G.contains i) = true)
    (h : ∀ Q' : Exit → Act → World → Prop, (∀ a w, Stop (TextI.wpS P ops I G Q (k + n) (l.drop n) a w) → Q' .normal a w) → wpList P ops Q' (l.take n) a w) : Stop (TextI.wpS P ops I G Q k l a w) :=
  ⟨TextI.wpS_seg n k l a w hG fun Q' hQ' => h Q' fun a w hh => hQ' a w hh.out⟩
theorem wpI_one {Q : Act → World → Prop} {k : Nat} {o : Oper} {r : List Oper} {a : Act} {w : World}
    (h : ∀ Q' : Exit → Act → World → Prop, (∀ a' w', I w' ∧ Stop (TextI.wpS P ops I G Q (k + 1) r a' w') → Q' .normal a' w') → wpList P ops Q' [o] a w) : Stop (TextI.wpS P ops I G Q k (o :: r) a w) :=
  ⟨TextI.wpS_one fun Q' hQ' => h Q' fun a w hh => hQ' a w ⟨hh.1, hh.2.out⟩⟩
theorem wpI_end {Q : Act → World → Prop} {k : Nat} {a : Act} {w : World} (h : Q a w) : Stop (TextI.wpS P ops I G Q k [] a w) := ⟨h⟩
theorem wpI_inv {id : Nat} {Q : Exit → Act → World → Prop} {a : Act} {w : World} {l : List Oper} (G LD ex : List Nat) (I : World → Prop) (hI : I w.drew) (hm : P.follows .mixedOrders = true) (hB : Text.growB P l.toArray G LD ex = true)
    (h : Stop (TextI.wpS P l.toArray I G (fun a' w' => Text.chk l.toArray ex a' = true ∧ TextI.oldAll P l.toArray I a' LD ∧ Q .normal a' w') 0 l a w.drew)) : (Code.region id l.toArray true).wp P Q a w :=
  TextI.wp_inv G LD ex I hI hm hB h.out
end
theorem RdrR.low {w w' : World} {g N : Nat} {l : List UInt8} {a : Nat} {sp : Bool} (h : RdrR w g l a sp) (hb : Below N w w') (hN : g < N) : RdrR w' g l a sp := by
  obtain ⟨A, c, h1, h2, h3⟩ := h
  exact ⟨A, c, (hb.block g hN).trans h1, h2.below (hb.mono (Nat.le_of_lt hN)), h3⟩
theorem grown_low {w w' w'' : World} {g N : Nat} (h : w.grownBy w' (some g)) (hb : Below N w' w'') (hN : w.heap.size ≤ N) (hs : w.heap.size ≤ w''.heap.size) : w.grownBy w'' (some g) :=
  ⟨hb.os.trans h.os, hb.tape.trans h.tape, hb.output.trans h.output, hs, fun k hk hne => (hb.block k (Nat.lt_of_lt_of_le hk hN)).trans (h.block k hk hne)⟩
theorem row_num (h : List UInt8) (k k' : Int) (hh : h.length = 32) : ((hkCells h k).toArray.toList.take 32 ++ [Value.int .i64 k'] ++ (hkCells h k).toArray.toList.drop (32 + 1)).toArray = (hkCells h k').toArray := by
  have hl : (bcells h).length = 32 := by rw [bcells_length, hh]
  unfold hkCells
  rw [List.take_append_of_le_length (by simp [hl]), List.take_of_length_le (by simp [hl]), List.drop_of_length_le (by simp [hl]), List.append_nil]
theorem ret_key1 {fn : Func} {p : Tmp} {Q : Ending → World → Prop} (h : fn.results = #[.cell p 34]) {a : Act} {w : World} {g : Nat} {hh : List UInt8} {k : Int} {fr : Nat × Nat} {t : TypeId} (hl : hh.length = 32) (hd : a.defers = [])
    (hp : a.tmps.getD p undef = .pointer (some ⟨g, 0, none⟩)) (hg : w.heap[g]? = some (.cells (hkCells hh k).toArray t fr)) (hq : Q (.returned (hkv hh k)) w) : bodyPost Tryz.prog fn Q .ret a w :=
  bodyPost_ret (v := hkv hh k) (results_cell_row h _ w g t _ fr _ hp hg keyTy_u rfl (key_size hh k hl)) hd hq
def KeyOk (g : Nat) (l : List UInt8) (a : Nat) (w : World) (e : Ending) (w' : World) : Prop :=
  e = .returned (hkv ((l.drop a).take 32) (beVal ((l.drop (a + 32)).take 1))) ∧ RdrR w' g l (a + 33) false ∧ w.grownBy w' (some g)
set_option maxRecDepth 100000 in
set_option maxHeartbeats 4000000 in
theorem takeKey_ok (g : Nat) (l : List UInt8) (a : Nat) (w : World) (h : RdrR w g l a false) (hn : a + 33 ≤ l.length) :
    Calls Tryz.prog 118 #[.pointer (some ⟨g, 0, none⟩)] w (KeyOk g l a w) := by
  have HGW := Lib.hid h.lt
  have H := Lib.hid h
  clear h
  go_enter Tryz.func118, Tryz.ntmps118
  go_wp2_with (refine stop_at (some 2) rfl ?_)
  refine Stop.go (wpList_alloc rfl 34 rfl zero_key rfl ?_)
  have hb1 : Below w.heap.size w (w.alloc (.cells (hkCells z32 0).toArray 34)) := (Below.refl _ _).alloc (Nat.le_refl _) _
  have HG1 := Lib.hid (Go.heap_alloc_new w (.cells (hkCells z32 0).toArray 34))
  have HS1 := Lib.hid (show (w.alloc (.cells (hkCells z32 0).toArray 34)).heap.size = w.heap.size + 1 from Array.size_push _)
  have HR1 := Lib.hid (H.out.later hb1)
  have HB1 := Lib.hid hb1
  clear hb1
  generalize w.alloc (.cells (hkCells z32 0).toArray 34) = w1 at *
  go_wp2_with (refine stop_at (some 3) rfl ?_)
  refine Stop.go (wpList_alloc rfl 34 rfl zero_key rfl ?_)
  have hb2 : Below w1.heap.size w1 (w1.alloc (.cells (hkCells z32 0).toArray 34)) := (Below.refl _ _).alloc (Nat.le_refl _) _
  have HG2 := Lib.hid (Go.heap_alloc_new w1 (.cells (hkCells z32 0).toArray 34))
  have HG21 := Lib.hid ((hb2.block _ (Array.getElem?_eq_some_iff.1 HG1.out).1).trans HG1.out)
  have HR2 := Lib.hid (HR1.out.later hb2)
  have HB2 := Lib.hid (HB1.out.trans (hb2.mono HB1.out.size))
  clear hb2
  generalize w1.alloc (.cells (hkCells z32 0).toArray 34) = w2 at *
  generalize w1.heap.size = m at *
  go_wp2_with fail
  refine wpI_inv [3] [] [] (fun _ => True) trivial (by kernel_rfl) (by kernel_rfl) ?_
  refine wpI_seg 3 (by decide) (fun Q0 hQ0 => ?_)
  simp only [List.take_succ_cons, List.take_zero]
  go_wp2_with fail
  try simp only [List.drop_succ_cons, List.drop_zero]
  refine wpI_one (fun Q1 hQ1 => ?_)
  go_wp2_with fail
  refine (take_ok g l a 32 _ HR2.out.drew (by omega)).mono ?_
  rintro e w3 ⟨rfl, hr3, hrd3, hg3, hs3⟩
  have HGM := Lib.hid (show m < w2.heap.size from (Array.getElem?_eq_some_iff.1 HG2.out).1)
  have HMG := Lib.hid (show g < m by have := HGW.out; have := HS1.out; omega)
  have HG3 := Lib.hid ((hg3.block m HGM.out (by intro e; injection e with e; have := HMG.out; omega)).trans HG2.out)
  have HG31 := Lib.hid ((hg3.block w.heap.size (Nat.lt_trans (by rw [HS1.out]; omega) HGM.out) (by intro e; injection e with e; have := HGW.out; omega)).trans HG21.out)
  have HT3 := Lib.hid (Rd.row (B := w3.heap.size) hr3 hs3)
  have HR3 := Lib.hid hrd3
  have HS3 := Lib.hid hs3
  have HW3 := Lib.hid (show w.grownBy w3 (some g) from grown_trans (grown_below' HB2.out.drew) hg3)
  have HSM := Lib.hid (show m < w3.heap.size from Nat.lt_trans HGM.out hs3)
  clear hr3 hrd3 hg3 hs3
  go_wp2_with fail
  refine ⟨trivial, ?_⟩
  refine wpI_seg 1 (by decide) (fun Q3 hQ3 => ?_)
  simp only [List.take_succ_cons, List.take_zero]
  obtain ⟨hh, hhd⟩ : ∃ hh, hh = (l.drop a).take 32 := ⟨_, rfl⟩
  have HHL := Lib.hid (show hh.length = 32 by rw [hhd, List.length_take, List.length_drop]; omega)
  rw [← hhd] at HT3
  refine wpList_copy_hash rfl _ _ rfl rfl rfl rfl z32_len HHL.out HG3.out HT3.out (Below.refl m w3) (Nat.le_refl _) ?_
  intro w4 hg4 hb4 hs4
  refine hQ3 _ _ ?_
  simp only [List.drop_succ_cons, List.drop_zero]
  refine wpI_end ⟨by rfl, trivial, ?_⟩
  have HR4 := Lib.hid (HR3.out.low hb4 HMG.out)
  have HG41 := Lib.hid ((hb4.block w.heap.size (by rw [HS1.out]; omega)).trans HG31.out)
  have HW4 := Lib.hid (grown_low HW3.out hb4 (by rw [HS1.out]; omega) (by rw [hs4]; exact HW3.out.size))
  clear hb4
  have HS4 := Lib.hid hs4
  clear hs4
  go_wp2_with fail
  refine (num_ok g l (a + 32) 1 _ HR4.out (by decide) (by decide) (by omega)).mono ?_
  rintro e w5 ⟨rfl, hr5, hg5⟩
  obtain ⟨k, hkd⟩ : ∃ k, k = beVal ((l.drop (a + 32)).take 1) := ⟨_, rfl⟩
  have hk8 : k < 256 := by
    rw [hkd]
    refine Nat.lt_of_lt_of_le (beVal_lt _) ?_
    rw [List.length_take, List.length_drop, Nat.min_eq_left (by omega)]
    decide
  rw [← hkd]
  have HS45 : Hid (w4.heap.size ≤ w5.heap.size) := hg5.size
  have HM4 := Lib.hid (show m < w4.heap.size by rw [HS4.out]; exact HSM.out)
  have HG5 := Lib.hid ((hg5.block m HM4.out (by intro e; injection e with e; have := HMG.out; omega)).trans hg4.out)
  have HG51 := Lib.hid ((hg5.block w.heap.size (Nat.lt_trans (by rw [HS1.out]; omega) HM4.out) (by intro e; injection e with e; have := HGW.out; omega)).trans HG41.out)
  have HR5 := Lib.hid hr5
  have HW5 := Lib.hid (grown_trans HW4.out hg5)
  clear hr5 hg5
  obtain ⟨w6, hst6, hg6, hot6, hbl6⟩ := store_field (P := Tryz.prog) w5 (g := m) (off := 32) (vs := [.int .i64 k]) (v := .int .i64 k) (ty := 3) rfl (by kernel_rfl) HG5.out (by simp [hkCells_length, HHL.out]) (fun u hu => by rw [List.mem_singleton.1 hu]; rfl) (row_num hh 0 k HHL.out)
  have HR6 := Lib.hid (HR5.out.low (hbl6 m w5 (Below.refl m w5) (Nat.le_refl _)) HMG.out)
  have HW6 := Lib.hid (grown_low HW5.out (hbl6 m w5 (Below.refl m w5) (Nat.le_refl _)) (by rw [HS1.out]; omega) (Nat.le_trans HW5.out.size (hbl6 m w5 (Below.refl m w5) (Nat.le_refl _)).size))
  have HST6 := Lib.hid hst6
  have HG6 := Lib.hid hg6
  have HG61 := Lib.hid ((hot6 w.heap.size (by rw [HS1.out]; omega)).trans HG51.out)
  have HKD := Lib.hid hkd
  clear hst6 hg6 hot6 hbl6 hkd
  go_wp2_with (refine stop_at none rfl ?_)
  refine Stop.go (wpList_store_agg rfl 3 rfl rfl rfl HST6.out ?_)
  go_wp2_with (refine stop_at (some 13) rfl ?_)
  refine Stop.go (wpList_load_agg rfl 34 rfl rfl keyTy.ut rfl (key_size hh _ HHL.out) (row_cells HG6.out) ?_)
  refine wpList_store_agg rfl 34 rfl rfl rfl (store_row (hkv_cells _ _) (key_size _ _ HHL.out) HG61.out (by simp [hkCells_length, HHL.out, z32_len]) (hkCells_one _ _)) ?_
  go_wp2_with fail
  refine ret_key1 rfl HHL.out rfl rfl (setRow_heap _ _ _ _ _ _ HG61.out) ?_
  have hbz : Below w.heap.size w6 (w6.setRow w.heap.size (hkCells hh k).toArray) := below_setRow (Below.refl _ _) (Nat.le_refl _) _
  refine ⟨?_, HR6.out.low hbz HGW.out, grown_low HW6.out hbz (Nat.le_refl _) (Nat.le_trans HW6.out.size hbz.size)⟩
  rw [← hhd, ← HKD.out]
theorem zero_mark : ∀ w, (zeroValue 36).run Tryz.prog w = .ok (hkv z32 0) w := fun _ => by kernel_rfl
theorem ret_mark1 {fn : Func} {p : Tmp} {Q : Ending → World → Prop} (h : fn.results = #[.cell p 36]) {a : Act} {w : World} {g : Nat} {hh : List UInt8} {k : Int} {fr : Nat × Nat} {t : TypeId} (hl : hh.length = 32) (hd : a.defers = [])
    (hp : a.tmps.getD p undef = .pointer (some ⟨g, 0, none⟩)) (hg : w.heap[g]? = some (.cells (hkCells hh k).toArray t fr)) (hq : Q (.returned (hkv hh k)) w) : bodyPost Tryz.prog fn Q .ret a w :=
  bodyPost_ret (v := hkv hh k) (results_cell_row h _ w g t _ fr _ hp hg markTy.ut rfl (mark_size hh k hl)) hd hq
def MarkOk (g : Nat) (l : List UInt8) (a : Nat) (w : World) (e : Ending) (w' : World) : Prop :=
  e = .returned (hkv ((l.drop a).take 32) (beVal ((l.drop (a + 32)).take 3))) ∧ RdrR w' g l (a + 35) false ∧ w.grownBy w' (some g)
set_option maxRecDepth 100000 in
set_option maxHeartbeats 4000000 in
theorem takeMark_ok (g : Nat) (l : List UInt8) (a : Nat) (w : World) (h : RdrR w g l a false) (hn : a + 35 ≤ l.length) :
    Calls Tryz.prog 119 #[.pointer (some ⟨g, 0, none⟩)] w (MarkOk g l a w) := by
  have HGW := Lib.hid h.lt
  have H := Lib.hid h
  clear h
  go_enter Tryz.func119, Tryz.ntmps119
  go_wp2_with (refine stop_at (some 2) rfl ?_)
  refine Stop.go (wpList_alloc rfl 36 rfl zero_mark rfl ?_)
  have hb1 : Below w.heap.size w (w.alloc (.cells (hkCells z32 0).toArray 36)) := (Below.refl _ _).alloc (Nat.le_refl _) _
  have HG1 := Lib.hid (Go.heap_alloc_new w (.cells (hkCells z32 0).toArray 36))
  have HS1 := Lib.hid (show (w.alloc (.cells (hkCells z32 0).toArray 36)).heap.size = w.heap.size + 1 from Array.size_push _)
  have HR1 := Lib.hid (H.out.later hb1)
  have HB1 := Lib.hid hb1
  clear hb1
  generalize w.alloc (.cells (hkCells z32 0).toArray 36) = w1 at *
  go_wp2_with (refine stop_at (some 3) rfl ?_)
  refine Stop.go (wpList_alloc rfl 36 rfl zero_mark rfl ?_)
  have hb2 : Below w1.heap.size w1 (w1.alloc (.cells (hkCells z32 0).toArray 36)) := (Below.refl _ _).alloc (Nat.le_refl _) _
  have HG2 := Lib.hid (Go.heap_alloc_new w1 (.cells (hkCells z32 0).toArray 36))
  have HG21 := Lib.hid ((hb2.block _ (Array.getElem?_eq_some_iff.1 HG1.out).1).trans HG1.out)
  have HR2 := Lib.hid (HR1.out.later hb2)
  have HB2 := Lib.hid (HB1.out.trans (hb2.mono HB1.out.size))
  clear hb2
  generalize w1.alloc (.cells (hkCells z32 0).toArray 36) = w2 at *
  generalize w1.heap.size = m at *
  go_wp2_with fail
  refine wpI_inv [3] [] [] (fun _ => True) trivial (by kernel_rfl) (by kernel_rfl) ?_
  refine wpI_seg 3 (by decide) (fun Q0 hQ0 => ?_)
  simp only [List.take_succ_cons, List.take_zero]
  go_wp2_with fail
  try simp only [List.drop_succ_cons, List.drop_zero]
  refine wpI_one (fun Q1 hQ1 => ?_)
  go_wp2_with fail
  refine (take_ok g l a 32 _ HR2.out.drew (by omega)).mono ?_
  rintro e w3 ⟨rfl, hr3, hrd3, hg3, hs3⟩
  have HGM := Lib.hid (show m < w2.heap.size from (Array.getElem?_eq_some_iff.1 HG2.out).1)
  have HMG := Lib.hid (show g < m by have := HGW.out; have := HS1.out; omega)
  have HG3 := Lib.hid ((hg3.block m HGM.out (by intro e; injection e with e; have := HMG.out; omega)).trans HG2.out)
  have HG31 := Lib.hid ((hg3.block w.heap.size (Nat.lt_trans (by rw [HS1.out]; omega) HGM.out) (by intro e; injection e with e; have := HGW.out; omega)).trans HG21.out)
  have HT3 := Lib.hid (Rd.row (B := w3.heap.size) hr3 hs3)
  have HR3 := Lib.hid hrd3
  have HS3 := Lib.hid hs3
  have HW3 := Lib.hid (show w.grownBy w3 (some g) from grown_trans (grown_below' HB2.out.drew) hg3)
  have HSM := Lib.hid (show m < w3.heap.size from Nat.lt_trans HGM.out hs3)
  clear hr3 hrd3 hg3 hs3
  go_wp2_with fail
  refine ⟨trivial, ?_⟩
  refine wpI_seg 1 (by decide) (fun Q3 hQ3 => ?_)
  simp only [List.take_succ_cons, List.take_zero]
  obtain ⟨hh, hhd⟩ : ∃ hh, hh = (l.drop a).take 32 := ⟨_, rfl⟩
  have HHL := Lib.hid (show hh.length = 32 by rw [hhd, List.length_take, List.length_drop]; omega)
  rw [← hhd] at HT3
  refine wpList_copy_hash rfl _ _ rfl rfl rfl rfl z32_len HHL.out HG3.out HT3.out (Below.refl m w3) (Nat.le_refl _) ?_
  intro w4 hg4 hb4 hs4
  refine hQ3 _ _ ?_
  simp only [List.drop_succ_cons, List.drop_zero]
  refine wpI_end ⟨by rfl, trivial, ?_⟩
  have HR4 := Lib.hid (HR3.out.low hb4 HMG.out)
  have HG41 := Lib.hid ((hb4.block w.heap.size (by rw [HS1.out]; omega)).trans HG31.out)
  have HW4 := Lib.hid (grown_low HW3.out hb4 (by rw [HS1.out]; omega) (by rw [hs4]; exact HW3.out.size))
  clear hb4
  have HS4 := Lib.hid hs4
  clear hs4
  go_wp2_with fail
  refine (num_ok g l (a + 32) 3 _ HR4.out (by decide) (by decide) (by omega)).mono ?_
  rintro e w5 ⟨rfl, hr5, hg5⟩
  obtain ⟨k, hkd⟩ : ∃ k, k = beVal ((l.drop (a + 32)).take 3) := ⟨_, rfl⟩
  have hk8 : k < 16777216 := by
    rw [hkd]
    refine Nat.lt_of_lt_of_le (beVal_lt _) ?_
    rw [List.length_take, List.length_drop, Nat.min_eq_left (by omega)]
    decide
  rw [← hkd]
  have HS45 : Hid (w4.heap.size ≤ w5.heap.size) := hg5.size
  have HM4 := Lib.hid (show m < w4.heap.size by rw [HS4.out]; exact HSM.out)
  have HG5 := Lib.hid ((hg5.block m HM4.out (by intro e; injection e with e; have := HMG.out; omega)).trans hg4.out)
  have HG51 := Lib.hid ((hg5.block w.heap.size (Nat.lt_trans (by rw [HS1.out]; omega) HM4.out) (by intro e; injection e with e; have := HGW.out; omega)).trans HG41.out)
  have HR5 := Lib.hid hr5
  have HW5 := Lib.hid (grown_trans HW4.out hg5)
  clear hr5 hg5
  obtain ⟨w6, hst6, hg6, hot6, hbl6⟩ := store_field (P := Tryz.prog) w5 (g := m) (off := 32) (vs := [.int .i64 k]) (v := .int .i64 k) (ty := 3) rfl (by kernel_rfl) HG5.out (by simp [hkCells_length, HHL.out]) (fun u hu => by rw [List.mem_singleton.1 hu]; rfl) (row_num hh 0 k HHL.out)
  have HR6 := Lib.hid (HR5.out.low (hbl6 m w5 (Below.refl m w5) (Nat.le_refl _)) HMG.out)
  have HW6 := Lib.hid (grown_low HW5.out (hbl6 m w5 (Below.refl m w5) (Nat.le_refl _)) (by rw [HS1.out]; omega) (Nat.le_trans HW5.out.size (hbl6 m w5 (Below.refl m w5) (Nat.le_refl _)).size))
  have HST6 := Lib.hid hst6
  have HG6 := Lib.hid hg6
  have HG61 := Lib.hid ((hot6 w.heap.size (by rw [HS1.out]; omega)).trans HG51.out)
  have HKD := Lib.hid hkd
  clear hst6 hg6 hot6 hbl6 hkd
  go_wp2_with (refine stop_at none rfl ?_)
  refine Stop.go (wpList_store_agg rfl 3 rfl rfl rfl HST6.out ?_)
  go_wp2_with (refine stop_at (some 13) rfl ?_)
  refine Stop.go (wpList_load_agg rfl 36 rfl rfl markTy.ut rfl (mark_size hh _ HHL.out) (row_cells HG6.out) ?_)
  refine wpList_store_agg rfl 36 rfl rfl rfl (store_row (hkv_cells _ _) (mark_size _ _ HHL.out) HG61.out (by simp [hkCells_length, HHL.out, z32_len]) (hkCells_one _ _)) ?_
  go_wp2_with fail
  refine ret_mark1 rfl HHL.out rfl rfl (setRow_heap _ _ _ _ _ _ HG61.out) ?_
  have hbz : Below w.heap.size w6 (w6.setRow w.heap.size (hkCells hh k).toArray) := below_setRow (Below.refl _ _) (Nat.le_refl _) _
  refine ⟨?_, HR6.out.low hbz HGW.out, grown_low HW6.out hbz (Nat.le_refl _) (Nat.le_trans HW6.out.size hbz.size)⟩
  rw [← hhd, ← HKD.out]
end Go.Proofs.YtplbcbamnjnhlaaGreatDoor
