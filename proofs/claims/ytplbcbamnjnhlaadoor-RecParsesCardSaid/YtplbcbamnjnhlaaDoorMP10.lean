/- Texts of this proof joined: Front, Front2. -/
import Derived.Test.YtplbcbamnjnhlaaDoorMP09
import Derived.Test.YtplbcbamnjnhlaaDoorMP04
/- Contracts of frame.front, Open, and of the reference's Front, for any bytes, every world. -/
namespace Go.Proofs.YtplbcbamnjnhlaaDoor
open Go.RowKit

theorem results_tmp4 {fn : Func} {t u v x : Tmp} (h : fn.results = #[.tmp t, .tmp u, .tmp v, .tmp x]) (tmps : Array Value) (P : Program) (w : World) :
    (results fn tmps).run P w = .ok (.tuple #[tmps.getD t undef, tmps.getD u undef, tmps.getD v undef, tmps.getD x undef]) w := by
  simp [results, h]
/-- the frame with which bytes begin: kind, load, length -/
def frameParse : List UInt8 → Option (UInt8 × List UInt8 × Nat)
  | [] => none
  | k :: r => match vFrom r 0 0 with
    | none => none
    | some (n, m) => if n ≤ 1048576 ∧ 1 + m + n + 4 ≤ (k :: r).length ∧ (((k :: r).drop (1 + m + n)).take 4) = crcTail (crcSum ((k :: r).take (1 + m + n))) then some (k, ((k :: r).drop (1 + m)).take n, 1 + m + n + 4) else none
def FrontTo (w : World) (r : Option (UInt8 × List UInt8 × Nat)) (e : Ending) (w' : World) : Prop :=
  Below w.heap.size w w' ∧ match r with
  | none => ∃ x : Int, x ≠ 0 ∧ 0 ≤ x ∧ x ≤ 100 ∧ e = .returned (.tuple #[.int .u8 0, .slice none 0 0, .int .i64 0, .int .i64 x])
  | some (k, load, n) => ∃ A c, e = .returned (.tuple #[.int .u8 (k.toNat : Nat), .slice A load.length c, .int .i64 (n : Nat), .int .i64 0]) ∧ Rd w' w'.heap.size A (bcells load)
theorem FrontTo.no {w w' : World} {r : Option (UInt8 × List UInt8 × Nat)} {e : Ending} (hr : r = none) (hb : Below w.heap.size w w') (x : Int) (h0 : x ≠ 0) (h1 : 0 ≤ x) (h2 : x ≤ 100) (he : e = .returned (.tuple #[.int .u8 0, .slice none 0 0, .int .i64 0, .int .i64 x])) : FrontTo w r e w' := by
  subst hr
  exact ⟨hb, x, h0, h1, h2, he⟩

/-- whether a form is cut off -/
def cutB (l : List UInt8) : Bool := highB' l && decide (l.length < 10)
where highB' (l : List UInt8) : Bool := l.all fun c => decide (128 ≤ c.toNat)
set_option maxRecDepth 100000 in
theorem cut_any (l : List UInt8) (A : Option Addr) (c B : Nat) (w : World) (hr : Rd w B A (bcells l)) (hl : l.length ≤ 1099511627776) :
    Calls Tryd.prog 52 #[.slice A l.length c] w fun e w' => e = .returned (.bool (cutB l)) ∧ w = w' := by
  have HR := Lib.hid hr
  clear hr
  go_enter Tryd.func52, Tryd.ntmps52
  go_wp2_with fail
  go_loop [7] (fun v7 => ∃ k : Nat, k ≤ l.length ∧ v7 = .int .i64 k ∧ Hid (cutB.highB' (l.take k) = true)) (fun v7 => l.length - (intOf v7).toNat)
  case atStart => exact ⟨0, by omega, rfl, rfl⟩
  case round =>
    obtain ⟨k, hk, rfl, hh⟩ := hrel
    by_cases hlt : k < l.length
    · obtain ⟨ab, ao, rfl, hab, hcell⟩ := HR.out.byte hlt
      by_cases hb : l[k].toNat < 128
      · have HL := Lib.hid (show cutB l = false by
          have : cutB.highB' l = false := by
            unfold cutB.highB'
            rw [List.all_eq_false]
            exact ⟨l[k], List.getElem_mem hlt, by simp; omega⟩
          unfold cutB
          rw [this, Bool.false_and])
        go_wp2
        go_ret
        exact ⟨rt1 (vbool HL.out.symm), rfl⟩
      · have HL := Lib.hid (show cutB.highB' (l.take (k + 1)) = true by
          have h := hh.out
          unfold cutB.highB' at h ⊢
          rw [List.take_succ_eq_append_getElem hlt, List.all_append, h]
          simp; omega)
        go_wp2
        go_round
        case rel => exact ⟨k + 1, by omega, by go_num, HL.out⟩
        case measure => simp [intOf]; omega
    · have hkl : k = l.length := by omega
      subst hkl
      rw [List.take_length] at hh
      have HL := Lib.hid (show cutB l = decide (l.length < 10) by unfold cutB; rw [hh.out, Bool.true_and])
      go_wp2
      go_ret
      exact ⟨rt1 (vbool (by rw [HL.out, Bool.eq_iff_iff]; simp; omega)), rfl⟩
theorem frameParse_cons (k : UInt8) (r : List UInt8) : frameParse (k :: r) = match vFrom r 0 0 with
    | none => none
    | some (n, m) => if n ≤ 1048576 ∧ 1 + m + n + 4 ≤ (k :: r).length ∧ (((k :: r).drop (1 + m + n)).take 4) = crcTail (crcSum ((k :: r).take (1 + m + n))) then some (k, ((k :: r).drop (1 + m)).take n, 1 + m + n + 4) else none := rfl
theorem vFrom_len (l : List UInt8) : ∀ i v n m, vFrom l i v = some (n, m) → i < m ∧ m ≤ i + l.length := by
  induction l with
  | nil => intro i v n m h; cases h
  | cons c l ih =>
    intro i v n m h
    rw [vFrom] at h
    split at h
    · cases h
    · split at h
      · cases h
      · split at h
        · injection h with h
          injection h with h1 h2
          simp
          omega
        · have := ih _ _ _ _ h
          simp
          omega
theorem below_left {B : Nat} {w w' : World} (h : Below B w w') : Below B w.drew w' := ⟨h.os, h.tape, h.output, h.size, h.block⟩
theorem addr_add_zero (a : Addr) : a.add 0 = a := by simp [Addr.add]
theorem u8_upto (A : Option Addr) (n c m : Nat) (h : m ≤ c) (w : World) : (Instr.sliceAt 22 (.slice A n c) none (some (.int .i64 (m : Nat))) none).run Tryd.prog w = .ok (.slice A m c) w := by
  have hs : ∀ w : World, (sizeOf (Tryd.prog.elem 22)).run Tryd.prog w = .ok 1 w := fun _ => by kernel_rfl
  have ht : Tryd.prog.underlying 22 = some (.slice (Tryd.prog.elem 22)) := by kernel_rfl
  rw [run_sliceAt_slice _ _ _ _ _ _ ht, run_slice_h _ _ _ _ _ ht .i64 _ (by omega) (by omega), hs]
  have e : ∀ s : Nat, (if c = 0 then A else A.map (·.add (0 * s))) = A := by
    intro s
    rw [Nat.zero_mul]
    split
    · rfl
    · cases A with
      | none => rfl
      | some a => simp [Addr.add]
  simp only [Result.andThen, sliced, Int.toNat_natCast, e, Nat.sub_zero]
theorem str_eq (x y : List UInt8) : ((⟨x.toArray⟩ : ByteArray).toList == (⟨y.toArray⟩ : ByteArray).toList) = decide (x = y) := by
  rw [← beq_toListBytes, bytes_beq]
  by_cases h : x = y
  · subst h; simp
  · rw [decide_eq_false h, decide_eq_false]
    intro e
    apply h
    injection e with e
    have := congrArg Array.toList e
    simpa using this.symm
set_option maxRecDepth 100000 in
set_option maxHeartbeats 2000000 in
theorem front_any (l : List UInt8) (A : Option Addr) (c B : Nat) (w : World) (hr : Rd w B A (bcells l)) (hB : B ≤ w.heap.size) (hl : l.length ≤ 68719476736) (hc : l.length ≤ c) :
    Calls Tryd.prog 27 #[.slice A l.length c] w (FrontTo w (frameParse l)) := by
  have HR := Lib.hid hr
  clear hr
  cases l with
  | nil =>
    go_enter Tryd.func27, Tryd.ntmps27
    go_wp2
    refine bodyPost_ret (results_tmp4 rfl _ _ _) rfl ?_
    exact FrontTo.no rfl (Below.refl _ _) 2 (by omega) (by omega) (by omega) rfl
  | cons kb r =>
    have HP := Lib.hid (frameParse_cons kb r)
    obtain ⟨l, hle⟩ : ∃ l, l = kb :: r := ⟨_, rfl⟩
    rw [← hle] at HR HP hl hc ⊢
    have h0 : 0 < l.length := by rw [hle]; simp
    have hkb : l[0] = kb := by subst hle; rfl
    have hdr : l.drop 1 = r := by subst hle; rfl
    have HLE := Lib.hid hle
    have HKB := Lib.hid hkb
    have HDR := Lib.hid hdr
    clear hle hkb hdr
    have hne : ((l.length : Int) == 0) = false := by rw [beq_eq_false_iff_ne]; omega
    have hu1 : ∀ w : World, (Instr.sliceAt 22 (.slice A l.length c) (some (.int .i64 1)) none none).run Tryd.prog w = .ok (.slice (cutA A c 1) (l.length - 1) (c - 1)) w := fun w => u8_from A l.length c 1 (by omega) w
    go_enter Tryd.func27, Tryd.ntmps27
    go_wp2_with fail
    refine (read_any l A c B w HR.out hB (by omega)).mono ?_
    rintro e w1 ⟨rfl, hr1, hb1, hs1⟩
    have R1 := Lib.hid hr1
    have B1 := Lib.hid hb1
    have hs1' : w.heap.size + 2 ≤ w1.heap.size := by omega
    clear hr1 hb1 hs1
    obtain ⟨g, hg⟩ : ∃ g, g = w.heap.size + 1 := ⟨_, rfl⟩
    rw [← hg] at R1 ⊢
    have hgw : w.heap.size ≤ g := by omega
    clear hg
    go_wp2_with fail
    refine (num1_ok g l 0 w1 R1.out h0).mono ?_
    rintro e w2 ⟨rfl, hr2, hg2⟩
    have R2 := Lib.hid hr2
    have B2 := Lib.hid (B1.out.trans (below_of_grown hg2 hgw B1.out.size))
    have hs2 := B2.out.size
    clear hr2 hg2
    rw [HKB.out]
    have hk8 := kb.toNat_lt
    go_wp2_with fail
    refine (take_var g l (0 + 1) 1048576 w2 R2.out (by omega)).mono ?_
    rintro e w3 ⟨hg3, hv⟩
    have B3 := Lib.hid (B2.out.trans (below_of_grown hg3 hgw hs2))
    have hs3 := B3.out.size
    clear hg3
    rcases hv with ⟨n, m, hv, hn, rfl, hr3⟩ | ⟨hv, rfl, a', hr3⟩
    · have hml : 1 + m ≤ l.length := by obtain ⟨_, _, _, _, _, _, h5⟩ := hr3; omega
      rw [Nat.zero_add] at hv hr3
      have R3 := Lib.hid hr3
      have HV : Hid (vFrom r 0 0 = some (n, m)) := by rw [← HDR.out]; exact hv
      clear hr3 hv
      have HPM := Lib.hid (show frameParse l = if n ≤ 1048576 ∧ 1 + m + n + 4 ≤ l.length ∧ ((l.drop (1 + m + n)).take 4) = crcTail (crcSum (l.take (1 + m + n))) then some (kb, (l.drop (1 + m)).take n, 1 + m + n + 4) else none by rw [HP.out, HV.out])
      go_wp2_with fail
      refine (spent_any g l (1 + m) false w3 R3.out).mono ?_
      rintro e w4 ⟨rfl, rfl⟩
      by_cases hmn : 1 + m + n ≤ l.length
      · go_wp2_with fail
        refine (take_ok g l (1 + m) n w3 R3.out hmn).mono ?_
        rintro e w4 ⟨rfl, hb4, hr4, hg4, hs4⟩
        have R4 := Lib.hid hr4
        have HB4 := Lib.hid hb4
        have B4 := Lib.hid (B3.out.trans (below_of_grown hg4 hgw hs3))
        have G4 := Lib.hid hg4
        clear hb4 hr4 hg4
        have hs4' := B4.out.size
        go_wp2_with fail
        refine (left_ok g l (1 + m + n) w4 R4.out).mono ?_
        rintro e w5 ⟨rfl, rfl⟩
        have hend : (l.length : Int) - ((l.length - (1 + m + n) : Nat) : Int) = ((1 + m + n : Nat) : Int) := by omega
        obtain ⟨E, hE⟩ : ∃ E, E = 1 + m + n := ⟨_, rfl⟩
        obtain ⟨z, hz⟩ : ∃ z, z = l.length - E := ⟨_, rfl⟩
        rw [← hE, ← hz] at hend
        rw [← hE, ← hz]
        rw [← hE] at R4 HPM hmn
        have HE := Lib.hid hE
        have HZ := Lib.hid hz
        clear hE hz
        go_wp2_with fail
        by_cases h4 : E + 4 ≤ l.length
        · refine (take_ok g l E 4 w4.drew R4.out.drew h4).mono ?_
          rintro e w6 ⟨rfl, hb6, hr6, hg6, hs6⟩
          have R6 := Lib.hid hr6
          have HB6 := Lib.hid hb6
          have B6 := Lib.hid (B4.out.drew.trans (below_of_grown hg6 hgw hs4'))
          have G6 := Lib.hid hg6
          have hs6' := B6.out.size
          clear hb6 hr6 hg6
          go_wp2_with fail
          refine (spent_any g l (E + 4) false w6 R6.out).mono ?_
          rintro e w7 ⟨rfl, rfl⟩
          have hs6a : w4.heap.size < w6.heap.size := hs6
          obtain ⟨s4, hs4e⟩ : ∃ s4, s4 = (l.drop E).take 4 := ⟨_, rfl⟩
          have hs4l : s4.length = 4 := by rw [hs4e, List.length_take, List.length_drop]; omega
          have HS4 := Lib.hid hs4e
          have RD6 : Hid (Rd w6 w6.heap.size (some ⟨w4.heap.size, 0, none⟩) (bcells s4)) := rd_of_bytes (by rw [hs4e]; exact HB6.out) hs6a
          clear hs4e
          obtain ⟨sa, hsa⟩ : ∃ sa : ByteArray, sa = ⟨s4.toArray⟩ := ⟨_, rfl⟩
          have hcv : ∀ w', Below w6.heap.size w6 w' → (convert 22 9 (.slice (some ⟨w4.heap.size, 0, none⟩) 4 4)).run Tryd.prog w' = .ok (.string sa) w' := by
            intro w' hb
            rw [hsa]
            exact conv_bytes (P := Tryd.prog) (RD6.out.below hb) Tryd.underlying22 Tryd.underlying5 Tryd.underlying9 4 hs4l.symm 4
          have HCV := Lib.hid hcv
          have hcv1 := hcv _ (Below.refl _ _).drew
          have hu2 := u8_upto A l.length c E (by omega)
          obtain ⟨tl, htl⟩ : ∃ tl, tl = crcTail (crcSum (l.take E)) := ⟨_, rfl⟩
          have HTL := Lib.hid htl
          have htll : tl.length = 4 := by rw [htl]; simp [crcTail]
          obtain ⟨sb, hsb⟩ : ∃ sb : ByteArray, sb = ⟨tl.toArray⟩ := ⟨_, rfl⟩
          have hq := str_eq s4 tl
          rw [← hsa, ← hsb] at hq
          have HSA := Lib.hid hsa
          have HSB := Lib.hid hsb
          clear hcv hsa hsb htl hs4l
          go_wp2_with fail
          refine Text.wp_grow [5, 6, 7, 8] [1] [1, 8] (by kernel_rfl) (by kernel_rfl) ?_
          refine Text.wpS_seg 5 _ _ _ _ (by decide) (fun Q' hQ' => ?_)
          simp only [List.take_succ_cons, List.take_zero]
          go_wp2_with fail
          simp only [Nat.zero_add, List.drop_succ_cons, List.drop_zero]
          refine Text.wpS_one (fun Q' hQ' => ?_)
          go_wp2_with fail
          have hbA : Below w6.heap.size w6 (w6.alloc (.cells #[.slice A E c] 22)).drew := ((Below.refl _ _).alloc (Nat.le_refl _) _).drew
          refine ⟨((Below.refl w6.drew.heap.size w6.drew).alloc (Nat.le_refl _) (.cells #[.slice A E c] 22)), ?_⟩
          have HBA := Lib.hid hbA
          clear hbA
          refine Text.wpS_one (fun Q' hQ' => ?_)
          go_wp2_with fail
          have hlE : (l.take E).length = E := by rw [List.length_take]; omega
          refine (of_crc w6.heap.size 0 1 (l.take E) A c (w6.heap.size + 1) _ (by rw [hlE]; exact cell_new w6 _ _) (by omega) ((((HR.out.upto E).below (B6.out.mono hB)).below (HBA.out.mono (by omega))).more (by omega)) (by show _ ≤ (w6.alloc _).heap.size; simp) (by omega)).mono ?_
          rintro e w7 ⟨rfl, hb7⟩
          have HB7 := Lib.hid (HBA.out.trans (hb7.mono (by show _ ≤ (w6.alloc _).heap.size; simp)))
          clear hb7 hlE
          have hs7 := HB7.out.size
          go_wp2_with fail
          refine ⟨below_left HB7.out, ?_⟩
          refine Text.wpS_one (fun Q' hQ' => ?_)
          go_wp2_with fail
          refine (frame_tail _ w7).mono ?_
          rintro e w8 ⟨rfl, rfl⟩
          have HB8 := Lib.hid (HB7.out.alloc hs7 (.cells (bcells (crcTail (crcSum (l.take E)))).toArray 5))
          go_wp2_with fail
          refine ⟨below_left HB8.out, ?_⟩
          have hcv2 : (convert 22 9 (.slice (some ⟨w7.heap.size, 0, none⟩) 4 4)).run Tryd.prog (w7.alloc (.cells (bcells (crcTail (crcSum (l.take E)))).toArray 5)) = .ok (.string sb) (w7.alloc (.cells (bcells (crcTail (crcSum (l.take E)))).toArray 5)) := by
            rw [HSB.out, HTL.out]
            exact conv_bytes (P := Tryd.prog) (rd_of_bytes (B := w7.heap.size + 1) (Go.heap_alloc_new w7 _) (by omega)) Tryd.underlying22 Tryd.underlying5 Tryd.underlying9 4 (by simp [crcTail]) 4
          refine Text.wpS_one (fun Q' hQ' => ?_)
          go_wp2_with fail
          refine ⟨below_left HB8.out, ?_⟩
          refine Text.wpS_seg 2 _ _ _ _ (by decide) (fun Q' hQ' => ?_)
          simp only [List.take_succ_cons, List.take_zero]
          rcases Bool.eq_false_or_eq_true (decide (s4 = tl)) with hd | hd
          · rw [hd] at hq
            have heq := of_decide_eq_true hd
            have HQ := Lib.hid (show frameParse l = some (kb, (l.drop (1 + m)).take n, E + 4) by rw [HPM.out, if_pos ⟨hn, h4, by rw [← HS4.out, ← HTL.out]; exact heq⟩])
            clear heq hd
            go_wp2_with fail
            refine ⟨by rfl, ⟨fun _ => ⟨_, fun w' hb => HCV.out w' ⟨hb.os, hb.tape, hb.output, hb.size, hb.block⟩⟩, trivial⟩, ?_⟩
            go_wp2
            refine bodyPost_ret (results_tmp4 rfl _ _ _) rfl ?_
            refine ⟨B6.out.trans (HB8.out.mono hs6'), ?_⟩
            rw [HQ.out]
            have hll : ((l.drop (1 + m)).take n).length = n := by rw [List.length_take, List.length_drop]; have := HE.out; omega
            have hgl := R3.out.lt
            refine ⟨some ⟨w3.heap.size, 0, none⟩, n, ?_, ?_⟩
            · rw [hll]; exact congrArg Ending.returned (congrArg (fun x => Value.tuple #[.int .u8 (kb.toNat : Nat), .slice (some ⟨w3.heap.size, 0, none⟩) n n, x, .int .i64 0]) (by go_num))
            · have h6 : w6.heap[w3.heap.size]? = _ := (G6.out.block w3.heap.size hs4 (by intro e; injection e; omega)).trans HB4.out
              exact rd_of_bytes ((HB8.out.block w3.heap.size (by omega)).trans h6) (by have := HB8.out.size; omega)
          · rw [hd] at hq
            have hneq := of_decide_eq_false hd
            have HN := Lib.hid (show frameParse l = none by rw [HPM.out, if_neg]; rintro ⟨_, _, h⟩; exact hneq (by rw [HS4.out, HTL.out]; exact h))
            clear hneq hd
            go_wp2_with fail
            refine ⟨by rfl, ⟨fun _ => ⟨_, fun w' hb => HCV.out w' ⟨hb.os, hb.tape, hb.output, hb.size, hb.block⟩⟩, trivial⟩, ?_⟩
            go_wp2
            refine bodyPost_ret (results_tmp4 rfl _ _ _) rfl ?_
            exact FrontTo.no HN.out (B6.out.trans (HB8.out.mono hs6')) 6 (by omega) (by omega) (by omega) rfl
        · have HN := Lib.hid (show frameParse l = none by rw [HPM.out, if_neg (by omega)])
          refine (take_no g l E false 4 w4.drew R4.out.drew (.inr (.inr (by omega)))).mono ?_
          rintro e w6 ⟨rfl, hr6, hg6⟩
          have R6 := Lib.hid hr6
          have B6 := Lib.hid (B4.out.drew.trans (below_of_grown hg6 hgw hs4'))
          clear hr6 hg6
          go_wp2_with fail
          refine (spent_any g l E true w6 R6.out).mono ?_
          rintro e w7 ⟨rfl, rfl⟩
          go_wp2
          refine bodyPost_ret (results_tmp4 rfl _ _ _) rfl ?_
          exact FrontTo.no HN.out B6.out 2 (by omega) (by omega) (by omega) rfl
      · have HN := Lib.hid (show frameParse l = none by rw [HPM.out, if_neg (by omega)])
        go_wp2_with fail
        refine (take_no g l (1 + m) false n w3 R3.out (.inr (.inr (by omega)))).mono ?_
        rintro e w4 ⟨rfl, hr4, hg4⟩
        have R4 := Lib.hid hr4
        have B4 := Lib.hid (B3.out.trans (below_of_grown hg4 hgw hs3))
        have hs4' := B4.out.size
        clear hr4 hg4
        go_wp2_with fail
        refine (left_sp g l (1 + m) w4 R4.out).mono ?_
        rintro e w5 ⟨rfl, rfl⟩
        go_wp2_with fail
        refine (take_no g l (1 + m) true 4 w4 R4.out (.inl rfl)).mono ?_
        rintro e w6 ⟨rfl, hr6, hg6⟩
        have R6 := Lib.hid hr6
        have B6 := Lib.hid (B4.out.trans (below_of_grown hg6 hgw hs4'))
        clear hr6 hg6
        go_wp2_with fail
        refine (spent_any g l (1 + m) true w6 R6.out).mono ?_
        rintro e w7 ⟨rfl, rfl⟩
        go_wp2
        refine bodyPost_ret (results_tmp4 rfl _ _ _) rfl ?_
        exact FrontTo.no HN.out B6.out 2 (by omega) (by omega) (by omega) rfl
    · have R3 := Lib.hid hr3
      have HV := Lib.hid hv
      clear hr3 hv
      have HN := Lib.hid (show frameParse l = none by
        rw [HP.out]
        have h1 := HV.out
        rw [Nat.zero_add, HDR.out] at h1
        cases hvf : vFrom r 0 0 with
        | none => rfl
        | some p =>
          obtain ⟨n, m⟩ := p
          have := h1 n m hvf
          simp only
          rw [if_neg (by omega)])
      go_wp2_with fail
      refine (spent_any g l a' true w3 R3.out).mono ?_
      rintro e w4 ⟨rfl, rfl⟩
      go_wp2_with fail
      have hlen : l.length - 1 = (l.drop 1).length := (List.length_drop ..).symm
      rw [hlen]
      clear hlen
      refine (cut_any (l.drop 1) (cutA A c 1) (c - 1) B w3 ((HR.out.cut 1 c hc).below (B3.out.mono hB)) (by rw [List.length_drop]; omega)).mono ?_
      rintro e w5 ⟨rfl, rfl⟩
      rcases Bool.eq_false_or_eq_true (cutB (l.drop 1)) with hcb | hcb
      · rw [hcb]
        clear hcb
        go_wp2
        refine bodyPost_ret (results_tmp4 rfl _ _ _) rfl ?_
        exact FrontTo.no HN.out B3.out 2 (by omega) (by omega) (by omega) rfl
      · rw [hcb]
        clear hcb
        go_wp2
        refine bodyPost_ret (results_tmp4 rfl _ _ _) rfl ?_
        exact FrontTo.no HN.out B3.out 3 (by omega) (by omega) (by omega) rfl
end Go.Proofs.YtplbcbamnjnhlaaDoor
/- Contracts of frame.Open and of the reference's Front (07), for any bytes, every world. -/
namespace Go.Proofs.YtplbcbamnjnhlaaDoor
open Go.RowKit

/-- the load of a frame -/
def frameOpen (l : List UInt8) : Option (UInt8 × List UInt8) := match frameParse l with
  | some (k, load, n) => if n = l.length then some (k, load) else none
  | none => none
def OpenTo (w : World) (r : Option (UInt8 × List UInt8)) (e : Ending) (w' : World) : Prop :=
  Below w.heap.size w w' ∧ match r with
  | none => ∃ x : Int, x ≠ 0 ∧ 0 ≤ x ∧ x ≤ 100 ∧ e = .returned (.tuple #[.int .u8 0, .slice none 0 0, .int .i64 x])
  | some (k, load) => ∃ A c, e = .returned (.tuple #[.int .u8 (k.toNat : Nat), .slice A load.length c, .int .i64 0]) ∧ Rd w' w'.heap.size A (bcells load)
theorem frameParse_le {l : List UInt8} {k : UInt8} {load : List UInt8} {n : Nat} (h : frameParse l = some (k, load, n)) : n ≤ l.length := by
  cases l with
  | nil => cases h
  | cons a r =>
    rw [frameParse_cons] at h
    split at h
    · cases h
    · split at h
      · rename_i hc
        injection h with h
        injection h with h1 h2
        injection h2 with h2 h3
        omega
      · cases h
set_option maxRecDepth 100000 in
theorem open_any (l : List UInt8) (A : Option Addr) (c B : Nat) (w : World) (hr : Rd w B A (bcells l)) (hB : B ≤ w.heap.size) (hl : l.length ≤ 68719476736) (hc : l.length ≤ c) :
    Calls Tryd.prog 13 #[.slice A l.length c] w (OpenTo w (frameOpen l)) := by
  have HR := Lib.hid hr
  clear hr
  go_enter Tryd.func13, Tryd.ntmps13
  go_wp2_with fail
  refine (front_any l A c B w HR.out hB hl hc).mono ?_
  rintro e w1 ⟨hb, hm⟩
  have B1 := Lib.hid hb
  clear hb
  cases hf : frameParse l with
  | none =>
    rw [hf] at hm
    obtain ⟨x, h0, h1, h2, rfl⟩ := hm
    have HO := Lib.hid (show frameOpen l = none by unfold frameOpen; rw [hf])
    have hx : (x != 0) = true := by simpa using h0
    clear hf
    go_wp2
    go_ret3
    refine ⟨B1.out, ?_⟩
    rw [HO.out]
    exact ⟨x, h0, h1, h2, rfl⟩
  | some p =>
    obtain ⟨k, load, n⟩ := p
    have hle := frameParse_le hf
    rw [hf] at hm
    obtain ⟨A1, c1, rfl, hrd⟩ := hm
    have HRD := Lib.hid hrd
    have HF := Lib.hid hf
    clear hrd hf
    have hk8 := k.toNat_lt
    by_cases hn : n = l.length
    · have HO := Lib.hid (show frameOpen l = some (k, load) by unfold frameOpen; rw [HF.out]; simp only; rw [if_pos hn])
      have hnl : ¬ n < l.length := by omega
      clear hn
      go_wp2
      go_ret3
      refine ⟨B1.out, ?_⟩
      rw [HO.out]
      exact ⟨A1, c1, rfl, HRD.out⟩
    · have HO := Lib.hid (show frameOpen l = none by unfold frameOpen; rw [HF.out]; simp only; rw [if_neg hn])
      have hnl : n < l.length := by omega
      clear hn
      go_wp2
      go_ret3
      refine ⟨B1.out, ?_⟩
      rw [HO.out]
      exact ⟨5, by omega, by omega, by omega, rfl⟩
theorem four_eq (l : List UInt8) (E : Nat) (h : E + 4 ≤ l.length) (s : BitVec 32) : ((l.drop E).take 4 = crcTail s) ↔ (l[E].toNat = s.toNat % 256 ∧ l[E + 1].toNat = s.toNat / 256 % 256 ∧ l[E + 2].toNat = s.toNat / 65536 % 256 ∧ l[E + 3].toNat = s.toNat / 16777216 % 256) := by
  rw [List.drop_eq_getElem_cons (by omega), List.drop_eq_getElem_cons (i := E + 1) (by omega), List.drop_eq_getElem_cons (i := E + 1 + 1) (by omega), List.drop_eq_getElem_cons (i := E + 1 + 1 + 1) (by omega)]
  simp only [List.take_succ_cons, List.take_zero, crcTail, List.cons.injEq, and_true]
  simp only [← UInt8.toNat_inj, UInt8.toNat_ofNat']
set_option maxRecDepth 100000 in
set_option maxHeartbeats 2000000 in
theorem refFront_any (l : List UInt8) (A : Option Addr) (c B : Nat) (w : World) (hr : Rd w B A (bcells l)) (hB : B ≤ w.heap.size) (hl : l.length ≤ 68719476736) (hc : l.length ≤ c) :
    Calls Tryd.prog 16 #[.slice A l.length c] w (FrontTo w (frameParse l)) := by
  have HR := Lib.hid hr
  clear hr
  cases l with
  | nil =>
    go_enter Tryd.func16, Tryd.ntmps16
    go_wp2
    refine bodyPost_ret (results_tmp4 rfl _ _ _) rfl ?_
    exact FrontTo.no rfl (Below.refl _ _) 2 (by omega) (by omega) (by omega) rfl
  | cons kb r =>
    have HP := Lib.hid (frameParse_cons kb r)
    obtain ⟨l, hle⟩ : ∃ l, l = kb :: r := ⟨_, rfl⟩
    rw [← hle] at HR HP hl hc ⊢
    have h0 : 0 < l.length := by rw [hle]; simp
    have hkb : l[0] = kb := by subst hle; rfl
    have hdr : l.drop 1 = r := by subst hle; rfl
    have hlr : l.length - 1 = r.length := by subst hle; simp
    have HKB := Lib.hid hkb
    have HDR := Lib.hid hdr
    clear hle hkb hdr
    have hne : ((l.length : Int) == 0) = false := by rw [beq_eq_false_iff_ne]; omega
    have hu1 : ∀ w : World, (Instr.sliceAt 22 (.slice A l.length c) (some (.int .i64 1)) none none).run Tryd.prog w = .ok (.slice (cutA A c 1) r.length (c - 1)) w := fun w => by have := u8_from A l.length c 1 (by omega) w; rw [hlr] at this; exact this
    have HLR := Lib.hid hlr
    clear hlr
    go_enter Tryd.func16, Tryd.ntmps16
    go_wp2_with fail
    refine (refFront2_any r (cutA A c 1) (c - 1) B w (by have := HR.out.cut 1 c hc; rw [HDR.out] at this; exact this) (by have := HLR.out; omega)).mono ?_
    rintro e w1 ⟨rfl, rfl⟩
    cases hv : vFrom r 0 0 with
    | none =>
      have HN := Lib.hid (show frameParse l = none by rw [HP.out, hv])
      clear hv
      have hfv : frontVal none = .tuple #[.int .u64 0, .int .i64 0] := rfl
      rw [hfv]
      clear hfv
      go_wp2_with fail
      go_loop [8] (fun v8 => ∃ i : Nat, 1 ≤ i ∧ i ≤ l.length ∧ v8 = .int .i64 i) (fun v8 => l.length - (intOf v8).toNat)
      case atStart => exact ⟨1, by omega, by omega, rfl⟩
      case round =>
        obtain ⟨i, hi1, hi, rfl⟩ := hrel
        by_cases hlt : i < l.length
        · obtain ⟨ab, ao, rfl, hab, hcell⟩ := HR.out.byte hlt
          have hb8 := l[i].toNat_lt
          obtain ⟨y, hy⟩ : ∃ y, y = l[i].toNat := ⟨_, rfl⟩
          rw [← hy] at hcell hb8
          clear hy
          rcases Nat.lt_or_ge y 128 with hy | hy
          · go_wp2
            refine bodyPost_ret (results_tmp4 rfl _ _ _) rfl ?_
            exact FrontTo.no HN.out (Below.refl _ _) 3 (by omega) (by omega) (by omega) rfl
          · rcases Nat.lt_or_ge i 10 with h10 | h10
            · go_wp2
              go_round
              case rel => exact ⟨i + 1, by omega, by omega, by go_num⟩
              case measure => simp [intOf]; omega
            · go_wp2
              refine bodyPost_ret (results_tmp4 rfl _ _ _) rfl ?_
              exact FrontTo.no HN.out (Below.refl _ _) 3 (by omega) (by omega) (by omega) rfl
        · go_wp2
          refine bodyPost_ret (results_tmp4 rfl _ _ _) rfl ?_
          exact FrontTo.no HN.out (Below.refl _ _) 2 (by omega) (by omega) (by omega) rfl
    | some p =>
      obtain ⟨n, m⟩ := p
      have hml := vFrom_len r 0 0 n m hv
      have hm1 : 1 + m ≤ l.length := by have := HLR.out; omega
      have hm0 : ((m : Int) == 0) = false := by rw [beq_eq_false_iff_ne]; omega
      have HPM := Lib.hid (show frameParse l = if n ≤ 1048576 ∧ 1 + m + n + 4 ≤ l.length ∧ ((l.drop (1 + m + n)).take 4) = crcTail (crcSum (l.take (1 + m + n))) then some (kb, (l.drop (1 + m)).take n, 1 + m + n + 4) else none by rw [HP.out, hv])
      clear hv hml
      have hfv : frontVal (some (n, m)) = .tuple #[.int .u64 (n : Nat), .int .i64 (m : Nat)] := rfl
      rw [hfv]
      clear hfv
      rcases Nat.lt_or_ge 1048576 n with hbig | hsm
      · have HN := Lib.hid (show frameParse l = none by rw [HPM.out, if_neg (by omega)])
        go_wp2
        refine bodyPost_ret (results_tmp4 rfl _ _ _) rfl ?_
        exact FrontTo.no HN.out (Below.refl _ _) 3 (by omega) (by omega) (by omega) rfl
      · obtain ⟨E, hE⟩ : ∃ E, E = 1 + m + n := ⟨_, rfl⟩
        have hEi : (1 : Int) + m + n = (E : Int) := by omega
        rw [← hE] at HPM
        have HE := Lib.hid hE
        clear hE
        by_cases h4 : E + 4 ≤ l.length
        · have hu2 := u8_upto A l.length c E (by omega)
          have hnlt : ¬ ((l.length : Int) < (E : Int) + 4) := by omega
          have hlE : (l.take E).length = E := by rw [List.length_take]; omega
          have HLE := Lib.hid hlE
          clear hlE
          go_wp2_with fail
          rw [← HLE.out]
          refine (refSum_any (l.take E) A c B w (HR.out.upto E) (by rw [HLE.out]; omega)).mono ?_
          rintro e w1 ⟨rfl, rfl⟩
          rw [HLE.out]
          obtain ⟨b0, o0, rfl, hb0, hall⟩ := HR.out (by intro e; have := congrArg List.length e; rw [bcells_length, List.length_nil] at this; omega)
          have hcl : ∀ (j : Nat) (hj : j < l.length), w.cell? ⟨b0, o0 + j, none⟩ = some (.int .u8 (l[j].toNat : Nat)) := by
            intro j hj
            refine hall j _ ?_
            rw [List.getElem?_eq_getElem (by rw [bcells_length]; exact hj), bcells_get]
          have hF := four_eq l E h4 (crcSum (l.take E))
          have hs32 := (crcSum (l.take E)).isLt
          obtain ⟨sv, hsv⟩ : ∃ sv, sv = (crcSum (l.take E)).toNat := ⟨_, rfl⟩
          rw [← hsv] at hF hs32 ⊢
          have ce0 := hcl E (by omega)
          have ce1 := hcl (E + 1) (by omega)
          have ce2 := hcl (E + 2) (by omega)
          have ce3 := hcl (E + 3) (by omega)
          have cz := hcl 0 h0
          rw [HKB.out, Nat.add_zero] at cz
          have hk8 := kb.toNat_lt
          obtain ⟨y0, hy0⟩ : ∃ y, y = l[E].toNat := ⟨_, rfl⟩
          obtain ⟨y1, hy1⟩ : ∃ y, y = l[E + 1].toNat := ⟨_, rfl⟩
          obtain ⟨y2, hy2⟩ : ∃ y, y = l[E + 2].toNat := ⟨_, rfl⟩
          obtain ⟨y3, hy3⟩ : ∃ y, y = l[E + 3].toNat := ⟨_, rfl⟩
          rw [← hy0] at ce0 hF
          rw [← hy1] at ce1 hF
          rw [← hy2] at ce2 hF
          rw [← hy3] at ce3 hF
          have hy38 : y3 < 256 := by rw [hy3]; exact l[E + 3].toNat_lt
          clear hy0 hy1 hy2 hy3 hcl hall hsv
          have HF := Lib.hid hF
          clear hF
          have hu3 : ∀ w : World, (Instr.sliceAt 22 (.slice (some ⟨b0, o0, none⟩) l.length c) (some (.int .i64 (1 + (m : Int)))) (some (.int .i64 (E : Nat))) none).run Tryd.prog w = .ok (.slice (cutA (some ⟨b0, o0, none⟩) c (1 + m)) n (c - (1 + m))) w := fun w => by
            have h := u8_mid (some ⟨b0, o0, none⟩) l.length c (1 + m) E (by have := HE.out; omega) (by omega) w
            rw [show ((1 + m : Nat) : Int) = 1 + (m : Int) by omega, show E - (1 + m) = n by have := HE.out; omega] at h
            exact h
          rcases Bool.eq_false_or_eq_true (((y0 : Nat) : Int) != (sv : Int) % 256) with q0 | q0
          · have HN := Lib.hid (show frameParse l = none by
              rw [HPM.out, if_neg]; rintro ⟨_, _, h⟩; have := (HF.out.1 h).1; simp at q0; omega)
            go_wp2
            refine bodyPost_ret (results_tmp4 rfl _ _ _) rfl ?_
            exact FrontTo.no HN.out (Below.refl _ _) 6 (by omega) (by omega) (by omega) rfl
          rcases Bool.eq_false_or_eq_true (((y1 : Nat) : Int) != (sv : Int) / 256 % 256) with q1 | q1
          · have HN := Lib.hid (show frameParse l = none by
              rw [HPM.out, if_neg]; rintro ⟨_, _, h⟩; have := (HF.out.1 h).2.1; simp at q1; omega)
            go_wp2
            refine bodyPost_ret (results_tmp4 rfl _ _ _) rfl ?_
            exact FrontTo.no HN.out (Below.refl _ _) 6 (by omega) (by omega) (by omega) rfl
          rcases Bool.eq_false_or_eq_true (((y2 : Nat) : Int) != (sv : Int) / 65536 % 256) with q2 | q2
          · have HN := Lib.hid (show frameParse l = none by
              rw [HPM.out, if_neg]; rintro ⟨_, _, h⟩; have := (HF.out.1 h).2.2.1; simp at q2; omega)
            go_wp2
            refine bodyPost_ret (results_tmp4 rfl _ _ _) rfl ?_
            exact FrontTo.no HN.out (Below.refl _ _) 6 (by omega) (by omega) (by omega) rfl
          rcases Bool.eq_false_or_eq_true (((y3 : Nat) : Int) != (sv : Int) / 16777216) with q3 | q3
          · have HN := Lib.hid (show frameParse l = none by
              rw [HPM.out, if_neg]; rintro ⟨_, _, h⟩; have := (HF.out.1 h).2.2.2; simp at q3; omega)
            go_wp2
            refine bodyPost_ret (results_tmp4 rfl _ _ _) rfl ?_
            exact FrontTo.no HN.out (Below.refl _ _) 6 (by omega) (by omega) (by omega) rfl
          have HQ := Lib.hid (show frameParse l = some (kb, (l.drop (1 + m)).take n, E + 4) by
            have hf := HF.out.2 (by simp at q0 q1 q2 q3; omega)
            rw [HPM.out, if_pos ⟨hsm, h4, hf⟩])
          go_wp2_with fail
          refine Text.wp_text [] (by kernel_rfl) (by kernel_rfl) (fun Q' hQ' => ?_)
          go_wp2
          refine ⟨by rfl, ?_⟩
          go_wp2
          refine bodyPost_ret (results_tmp4 rfl _ _ _) rfl ?_
          refine ⟨(Below.refl _ _).drew, ?_⟩
          rw [HQ.out]
          have hll : ((l.drop (1 + m)).take n).length = n := by rw [List.length_take, List.length_drop]; have := HE.out; omega
          refine ⟨cutA (some ⟨b0, o0, none⟩) c (1 + m), c - (1 + m), ?_, ((((HR.out.cut (1 + m) c hc).upto n).below ((Below.refl _ _).drew)).more (by exact hB))⟩
          rw [hll]
          exact congrArg Ending.returned (congrArg (fun x => Value.tuple #[.int .u8 (kb.toNat : Nat), .slice (cutA (some ⟨b0, o0, none⟩) c (1 + m)) n (c - (1 + m)), x, .int .i64 0]) (by go_num))
        · have HN := Lib.hid (show frameParse l = none by rw [HPM.out, if_neg (by omega)])
          have hlt4 : (l.length : Int) < (E : Int) + 4 := by omega
          go_wp2
          refine bodyPost_ret (results_tmp4 rfl _ _ _) rfl ?_
          exact FrontTo.no HN.out (Below.refl _ _) 2 (by omega) (by omega) (by omega) rfl
end Go.Proofs.YtplbcbamnjnhlaaDoor
