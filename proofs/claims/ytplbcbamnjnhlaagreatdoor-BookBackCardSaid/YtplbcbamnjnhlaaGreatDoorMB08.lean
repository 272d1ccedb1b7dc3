/- Texts of this proof joined: Front, Front2, Key, Rec0. -/
import Derived.Test.YtplbcbamnjnhlaaGreatDoorMB07
import Derived.Test.YtplbcbamnjnhlaaGreatDoorMB03
import Derived.Test.YtplbcbamnjnhlaaGreatDoorMB04
import Derived.Test.YtplbcbamnjnhlaaGreatDoorMB05
namespace Go.Proofs.YtplbcbamnjnhlaaGreatDoor
open Go.RowKit

theorem results_tmp4 {fn : Func} {t u v x : Tmp} (h : fn.results = #[.tmp t, .tmp u, .tmp v, .tmp x]) (tmps : Array Value) (P : Program) (w : World) :
    (results fn tmps).run P w = .ok (.tuple #[tmps.getD t undef, tmps.getD u undef, tmps.getD v undef, tmps.getD x undef]) w := by
  simp [results, h]
def frameParse : List UInt8 → Option (UInt8 × List UInt8 × Nat)
  | [] => none
  | k :: r => match vFrom r 0 0 with
    | none => none
    | some (n, m) => if n ≤ 1048576 ∧ 1 + m + n + 4 ≤ (k :: r).length ∧ (((k :: r).drop (1 + m + n)).take 4) = crcTail (crcSum ((k :: r).take (1 + m + n))) then some (k, ((k :: r).drop (1 + m)).take n, 1 + m + n + 4) else none
def FrontTo (w : World) (r : Option (UInt8 × List UInt8 × Nat)) (e : Ending) (w' : World) : Prop :=
  Below w.heap.size w w' ∧ match r with
  | none => ∃ x : Int, x ≠ 0 ∧ 0 ≤ x ∧ x ≤ 100 ∧ e = .returned (.tuple #[.int .u8 0, .slice none 0 0, .int .i64 0, .int .i64 x])
  | some (k, load, n) => ∃ A c, e = .returned (.tuple #[.int .u8 (k.toNat : Nat), .slice A load.length c, .int .i64 (n : Nat), .int .i64 0]) ∧ Rd w' w'.heap.size A (bcells load)
theorem FrontTo.no {w w' : World} {r : Option (UInt8 × List UInt8 × Nat)} {e : Ending} (hr : r = none) (hb : Below w.heap.size w w') (x : Int) (h0 : x ≠ 0) (h1 : 0 ≤ x) (h2 : x ≤ 100) (he : e = .returned (.tuple #[.int .u8 0, .slice none 0 0, .int .i64 0, .int .i64 x])) : FrontTo w r e w' := by
  subst hr
  exact ⟨hb, x, h0, h1, h2, he⟩

def cutB (l : List UInt8) : Bool := highB' l && decide (l.length < 10)
where highB' (l : List UInt8) : Bool := l.all fun c => decide (128 ≤ c.toNat)
set_option maxRecDepth 100000 in
theorem cut_any (l : List UInt8) (A : Option Addr) (c B : Nat) (w : World) (hr : Rd w B A (bcells l)) (hl : l.length ≤ 1099511627776) :
    Calls Tryz.prog 144 #[.slice A l.length c] w fun e w' => e = .returned (.bool (cutB l)) ∧ w = w' := by
  have HR := Lib.hid hr
  clear hr
  go_enter Tryz.func144, Tryz.ntmps144
  go_wp2_with fail
  go_loop [7] (fun v7 => ∃ k : Nat, k ≤ l.length ∧ v7 = .int .i64 k ∧ Hid (cutB.highB' (l.take k) = true)) (fun v7 => l.length - (intOf v7).toNat)
  case atStart => exact ⟨0, by omega, rfl, rfl⟩
  case round =>
    obtain ⟨k, hk, rfl, hh⟩ := hrel
    by_cases hlt : k < l.length
    · obtain ⟨ab, ao, rfl, hab, hcell⟩ := HR.out.byte hlt
      by_cases hb : l[k].toNat < 128
      · have HL := Lib.hid (show cutB l = false by
          have : cutB.highB' l = false := by
            unfold cutB.highB'
            rw [List.all_eq_false]
            exact ⟨l[k], List.getElem_mem hlt, by simp; omega⟩
          unfold cutB
          rw [this, Bool.false_and])
        go_wp2
        go_ret
        exact ⟨rt1 (vbool HL.out.symm), rfl⟩
      · have HL := Lib.hid (show cutB.highB' (l.take (k + 1)) = true by
          have h := hh.out
          unfold cutB.highB' at h ⊢
          rw [List.take_succ_eq_append_getElem hlt, List.all_append, h]
          simp; omega)
        go_wp2
        go_round
        case rel => exact ⟨k + 1, by omega, by go_num, HL.out⟩
        case measure => simp [intOf]; omega
    · have hkl : k = l.length := by omega
      subst hkl
      rw [List.take_length] at hh
      have HL := Lib.hid (show cutB l = decide (l.length < 10) by unfold cutB; rw [hh.out, Bool.true_and])
      go_wp2
      go_ret
      exact ⟨rt1 (vbool (by rw [HL.out, Bool.eq_iff_iff]; simp; omega)), rfl⟩
theorem frameParse_cons (k : UInt8) (r : List UInt8) : frameParse (k :: r) = match vFrom r 0 0 with
    | none => none
    | some (n, m) => if n ≤ 1048576 ∧ 1 + m + n + 4 ≤ (k :: r).length ∧ (((k :: r).drop (1 + m + n)).take 4) = crcTail (crcSum ((k :: r).take (1 + m + n))) then some (k, ((k :: r).drop (1 + m)).take n, 1 + m + n + 4) else none := rfl
theorem below_left {B : Nat} {w w' : World} (h : Below B w w') : Below B w.drew w' := ⟨h.os, h.tape, h.output, h.size, h.block⟩
theorem u8_upto (A : Option Addr) (n c m : Nat) (h : m ≤ c) (w : World) : (Instr.sliceAt 44 (.slice A n c) none (some (.int .i64 (m : Nat))) none).run Tryz.prog w = .ok (.slice A m c) w := by
  have hs : ∀ w : World, (sizeOf (Tryz.prog.elem 44)).run Tryz.prog w = .ok 1 w := fun _ => by kernel_rfl
  have ht : Tryz.prog.underlying 44 = some (.slice (Tryz.prog.elem 44)) := by kernel_rfl
  rw [run_sliceAt_slice _ _ _ _ _ _ ht, run_slice_h _ _ _ _ _ ht .i64 _ (by omega) (by omega), hs]
  have e : ∀ s : Nat, (if c = 0 then A else A.map (·.add (0 * s))) = A := by
    intro s
    rw [Nat.zero_mul]
    split
    · rfl
    · cases A with
      | none => rfl
      | some a => simp [Addr.add]
  simp only [Result.andThen, sliced, Int.toNat_natCast, e, Nat.sub_zero]
theorem str_eq (x y : List UInt8) : ((⟨x.toArray⟩ : ByteArray).toList == (⟨y.toArray⟩ : ByteArray).toList) = decide (x = y) := by
  rw [← beq_toListBytes, bytes_beq]
  by_cases h : x = y
  · subst h; simp
  · rw [decide_eq_false h, decide_eq_false]
    intro e
    apply h
    injection e with e
    have := congrArg Array.toList e
    simpa using this.symm
set_option maxRecDepth 100000 in
set_option maxHeartbeats 2000000 in
theorem front_any (l : List UInt8) (A : Option Addr) (c B : Nat) (w : World) (hr : Rd w B A (bcells l)) (hB : B ≤ w.heap.size) (hl : l.length ≤ 68719476736) (hc : l.length ≤ c) :
    Calls Tryz.prog 115 #[.slice A l.length c] w (FrontTo w (frameParse l)) := by
  have HR := Lib.hid hr
  clear hr
  cases l with
  | nil =>
    go_enter Tryz.func115, Tryz.ntmps115
    go_wp2
    refine bodyPost_ret (results_tmp4 rfl _ _ _) rfl ?_
    exact FrontTo.no rfl (Below.refl _ _) 2 (by omega) (by omega) (by omega) rfl
  | cons kb r =>
    have HP := Lib.hid (frameParse_cons kb r)
    obtain ⟨l, hle⟩ : ∃ l, l = kb :: r := ⟨_, rfl⟩
    rw [← hle] at HR HP hl hc ⊢
    have h0 : 0 < l.length := by rw [hle]; simp
    have hkb : l[0] = kb := by subst hle; rfl
    have hdr : l.drop 1 = r := by subst hle; rfl
    have HLE := Lib.hid hle
    have HKB := Lib.hid hkb
    have HDR := Lib.hid hdr
    clear hle hkb hdr
    have hne : ((l.length : Int) == 0) = false := by rw [beq_eq_false_iff_ne]; omega
    have hu1 : ∀ w : World, (Instr.sliceAt 44 (.slice A l.length c) (some (.int .i64 1)) none none).run Tryz.prog w = .ok (.slice (cutA A c 1) (l.length - 1) (c - 1)) w := fun w => u8_from A l.length c 1 (by omega) w
    go_enter Tryz.func115, Tryz.ntmps115
    go_wp2_with fail
    refine (read_any l A c B w HR.out hB (by omega)).mono ?_
    rintro e w1 ⟨rfl, hr1, hb1, hs1⟩
    have R1 := Lib.hid hr1
    have B1 := Lib.hid hb1
    have hs1' : w.heap.size + 2 ≤ w1.heap.size := by omega
    clear hr1 hb1 hs1
    obtain ⟨g, hg⟩ : ∃ g, g = w.heap.size + 1 := ⟨_, rfl⟩
    rw [← hg] at R1 ⊢
    have hgw : w.heap.size ≤ g := by omega
    clear hg
    go_wp2_with fail
    refine (num1_ok g l 0 w1 R1.out h0).mono ?_
    rintro e w2 ⟨rfl, hr2, hg2⟩
    have R2 := Lib.hid hr2
    have B2 := Lib.hid (B1.out.trans (below_of_grown hg2 hgw B1.out.size))
    have hs2 := B2.out.size
    clear hr2 hg2
    rw [HKB.out]
    have hk8 := kb.toNat_lt
    go_wp2_with fail
    refine (take_var g l (0 + 1) 1048576 w2 R2.out (by omega)).mono ?_
    rintro e w3 ⟨hg3, hv⟩
    have B3 := Lib.hid (B2.out.trans (below_of_grown hg3 hgw hs2))
    have hs3 := B3.out.size
    clear hg3
    rcases hv with ⟨n, m, hv, hn, rfl, hr3⟩ | ⟨hv, rfl, a', hr3⟩
    · have hml : 1 + m ≤ l.length := by obtain ⟨_, _, _, _, _, _, h5⟩ := hr3; omega
      rw [Nat.zero_add] at hv hr3
      have R3 := Lib.hid hr3
      have HV : Hid (vFrom r 0 0 = some (n, m)) := by rw [← HDR.out]; exact hv
      clear hr3 hv
      have HPM := Lib.hid (show frameParse l = if n ≤ 1048576 ∧ 1 + m + n + 4 ≤ l.length ∧ ((l.drop (1 + m + n)).take 4) = crcTail (crcSum (l.take (1 + m + n))) then some (kb, (l.drop (1 + m)).take n, 1 + m + n + 4) else none by rw [HP.out, HV.out])
      go_wp2_with fail
      refine (spent_any g l (1 + m) false w3 R3.out).mono ?_
      rintro e w4 ⟨rfl, rfl⟩
      by_cases hmn : 1 + m + n ≤ l.length
      · go_wp2_with fail
        refine (take_ok g l (1 + m) n w3 R3.out hmn).mono ?_
        rintro e w4 ⟨rfl, hb4, hr4, hg4, hs4⟩
        have R4 := Lib.hid hr4
        have HB4 := Lib.hid hb4
        have B4 := Lib.hid (B3.out.trans (below_of_grown hg4 hgw hs3))
        have G4 := Lib.hid hg4
        clear hb4 hr4 hg4
        have hs4' := B4.out.size
        go_wp2_with fail
        refine (left_ok g l (1 + m + n) w4 R4.out).mono ?_
        rintro e w5 ⟨rfl, rfl⟩
        have hend : (l.length : Int) - ((l.length - (1 + m + n) : Nat) : Int) = ((1 + m + n : Nat) : Int) := by omega
        obtain ⟨E, hE⟩ : ∃ E, E = 1 + m + n := ⟨_, rfl⟩
        obtain ⟨z, hz⟩ : ∃ z, z = l.length - E := ⟨_, rfl⟩
        rw [← hE, ← hz] at hend
        rw [← hE, ← hz]
        rw [← hE] at R4 HPM hmn
        have HE := Lib.hid hE
        have HZ := Lib.hid hz
        clear hE hz
        go_wp2_with fail
        by_cases h4 : E + 4 ≤ l.length
        · refine (take_ok g l E 4 w4.drew R4.out.drew h4).mono ?_
          rintro e w6 ⟨rfl, hb6, hr6, hg6, hs6⟩
          have R6 := Lib.hid hr6
          have HB6 := Lib.hid hb6
          have B6 := Lib.hid (B4.out.drew.trans (below_of_grown hg6 hgw hs4'))
          have G6 := Lib.hid hg6
          have hs6' := B6.out.size
          clear hb6 hr6 hg6
          go_wp2_with fail
          refine (spent_any g l (E + 4) false w6 R6.out).mono ?_
          rintro e w7 ⟨rfl, rfl⟩
          have hs6a : w4.heap.size < w6.heap.size := hs6
          obtain ⟨s4, hs4e⟩ : ∃ s4, s4 = (l.drop E).take 4 := ⟨_, rfl⟩
          have hs4l : s4.length = 4 := by rw [hs4e, List.length_take, List.length_drop]; omega
          have HS4 := Lib.hid hs4e
          have RD6 : Hid (Rd w6 w6.heap.size (some ⟨w4.heap.size, 0, none⟩) (bcells s4)) := rd_of_bytes (by rw [hs4e]; exact HB6.out) hs6a
          clear hs4e
          obtain ⟨sa, hsa⟩ : ∃ sa : ByteArray, sa = ⟨s4.toArray⟩ := ⟨_, rfl⟩
          have hcv : ∀ w', Below w6.heap.size w6 w' → (convert 44 9 (.slice (some ⟨w4.heap.size, 0, none⟩) 4 4)).run Tryz.prog w' = .ok (.string sa) w' := by
            intro w' hb
            rw [hsa]
            exact conv_bytes (P := Tryz.prog) (RD6.out.below hb) Tryz.underlying44 Tryz.underlying5 Tryz.underlying9 4 hs4l.symm 4
          have HCV := Lib.hid hcv
          have hcv1 := hcv _ (Below.refl _ _).drew
          have hu2 := u8_upto A l.length c E (by omega)
          obtain ⟨tl, htl⟩ : ∃ tl, tl = crcTail (crcSum (l.take E)) := ⟨_, rfl⟩
          have HTL := Lib.hid htl
          have htll : tl.length = 4 := by rw [htl]; simp [crcTail]
          obtain ⟨sb, hsb⟩ : ∃ sb : ByteArray, sb = ⟨tl.toArray⟩ := ⟨_, rfl⟩
          have hq := str_eq s4 tl
          rw [← hsa, ← hsb] at hq
          have HSA := Lib.hid hsa
          have HSB := Lib.hid hsb
          clear hcv hsa hsb htl hs4l
          go_wp2_with fail
          refine Text.wp_grow [5, 6, 7, 8] [1] [1, 8] (by kernel_rfl) (by kernel_rfl) ?_
          refine Text.wpS_seg 5 _ _ _ _ (by decide) (fun Q' hQ' => ?_)
          simp only [List.take_succ_cons, List.take_zero]
          go_wp2_with fail
          simp only [Nat.zero_add, List.drop_succ_cons, List.drop_zero]
          refine Text.wpS_one (fun Q' hQ' => ?_)
          go_wp2_with fail
          have hbA : Below w6.heap.size w6 (w6.alloc (.cells #[.slice A E c] 44)).drew := ((Below.refl _ _).alloc (Nat.le_refl _) _).drew
          refine ⟨((Below.refl w6.drew.heap.size w6.drew).alloc (Nat.le_refl _) (.cells #[.slice A E c] 44)), ?_⟩
          have HBA := Lib.hid hbA
          clear hbA
          refine Text.wpS_one (fun Q' hQ' => ?_)
          go_wp2_with fail
          have hlE : (l.take E).length = E := by rw [List.length_take]; omega
          refine (of_crc w6.heap.size 0 1 (l.take E) A c (w6.heap.size + 1) _ (by rw [hlE]; exact cell_new w6 _ _) (by omega) ((((HR.out.upto E).below (B6.out.mono hB)).below (HBA.out.mono (by omega))).more (by omega)) (by show _ ≤ (w6.alloc _).heap.size; simp) (by omega)).mono ?_
          rintro e w7 ⟨rfl, hb7⟩
          have HB7 := Lib.hid (HBA.out.trans (hb7.mono (by show _ ≤ (w6.alloc _).heap.size; simp)))
          clear hb7 hlE
          have hs7 := HB7.out.size
          go_wp2_with fail
          refine ⟨below_left HB7.out, ?_⟩
          refine Text.wpS_one (fun Q' hQ' => ?_)
          go_wp2_with fail
          refine (frame_tail _ w7).mono ?_
          rintro e w8 ⟨rfl, rfl⟩
          have HB8 := Lib.hid (HB7.out.alloc hs7 (.cells (bcells (crcTail (crcSum (l.take E)))).toArray 5))
          go_wp2_with fail
          refine ⟨below_left HB8.out, ?_⟩
          have hcv2 : (convert 44 9 (.slice (some ⟨w7.heap.size, 0, none⟩) 4 4)).run Tryz.prog (w7.alloc (.cells (bcells (crcTail (crcSum (l.take E)))).toArray 5)) = .ok (.string sb) (w7.alloc (.cells (bcells (crcTail (crcSum (l.take E)))).toArray 5)) := by
            rw [HSB.out, HTL.out]
            exact conv_bytes (P := Tryz.prog) (rd_of_bytes (B := w7.heap.size + 1) (Go.heap_alloc_new w7 _) (by omega)) Tryz.underlying44 Tryz.underlying5 Tryz.underlying9 4 (by simp [crcTail]) 4
          refine Text.wpS_one (fun Q' hQ' => ?_)
          go_wp2_with fail
          refine ⟨below_left HB8.out, ?_⟩
          refine Text.wpS_seg 2 _ _ _ _ (by decide) (fun Q' hQ' => ?_)
          simp only [List.take_succ_cons, List.take_zero]
          rcases Bool.eq_false_or_eq_true (decide (s4 = tl)) with hd | hd
          · rw [hd] at hq
            have heq := of_decide_eq_true hd
            have HQ := Lib.hid (show frameParse l = some (kb, (l.drop (1 + m)).take n, E + 4) by rw [HPM.out, if_pos ⟨hn, h4, by rw [← HS4.out, ← HTL.out]; exact heq⟩])
            clear heq hd
            go_wp2_with fail
            refine ⟨by rfl, ⟨fun _ => ⟨_, fun w' hb => HCV.out w' ⟨hb.os, hb.tape, hb.output, hb.size, hb.block⟩⟩, trivial⟩, ?_⟩
            go_wp2
            refine bodyPost_ret (results_tmp4 rfl _ _ _) rfl ?_
            refine ⟨B6.out.trans (HB8.out.mono hs6'), ?_⟩
            rw [HQ.out]
            have hll : ((l.drop (1 + m)).take n).length = n := by rw [List.length_take, List.length_drop]; have := HE.out; omega
            have hgl := R3.out.lt
            refine ⟨some ⟨w3.heap.size, 0, none⟩, n, ?_, ?_⟩
            · rw [hll]; exact congrArg Ending.returned (congrArg (fun x => Value.tuple #[.int .u8 (kb.toNat : Nat), .slice (some ⟨w3.heap.size, 0, none⟩) n n, x, .int .i64 0]) (by go_num))
            · have h6 : w6.heap[w3.heap.size]? = _ := (G6.out.block w3.heap.size hs4 (by intro e; injection e; omega)).trans HB4.out
              exact rd_of_bytes ((HB8.out.block w3.heap.size (by omega)).trans h6) (by have := HB8.out.size; omega)
          · rw [hd] at hq
            have hneq := of_decide_eq_false hd
            have HN := Lib.hid (show frameParse l = none by rw [HPM.out, if_neg]; rintro ⟨_, _, h⟩; exact hneq (by rw [HS4.out, HTL.out]; exact h))
            clear hneq hd
            go_wp2_with fail
            refine ⟨by rfl, ⟨fun _ => ⟨_, fun w' hb => HCV.out w' ⟨hb.os, hb.tape, hb.output, hb.size, hb.block⟩⟩, trivial⟩, ?_⟩
            go_wp2
            refine bodyPost_ret (results_tmp4 rfl _ _ _) rfl ?_
            exact FrontTo.no HN.out (B6.out.trans (HB8.out.mono hs6')) 6 (by omega) (by omega) (by omega) rfl
        · have HN := Lib.hid (show frameParse l = none by rw [HPM.out, if_neg (by omega)])
          refine (take_no g l E false 4 w4.drew R4.out.drew (.inr (.inr (by omega)))).mono ?_
          rintro e w6 ⟨rfl, hr6, hg6⟩
          have R6 := Lib.hid hr6
          have B6 := Lib.hid (B4.out.drew.trans (below_of_grown hg6 hgw hs4'))
          clear hr6 hg6
          go_wp2_with fail
          refine (spent_any g l E true w6 R6.out).mono ?_
          rintro e w7 ⟨rfl, rfl⟩
          go_wp2
          refine bodyPost_ret (results_tmp4 rfl _ _ _) rfl ?_
          exact FrontTo.no HN.out B6.out 2 (by omega) (by omega) (by omega) rfl
      · have HN := Lib.hid (show frameParse l = none by rw [HPM.out, if_neg (by omega)])
        go_wp2_with fail
        refine (take_no g l (1 + m) false n w3 R3.out (.inr (.inr (by omega)))).mono ?_
        rintro e w4 ⟨rfl, hr4, hg4⟩
        have R4 := Lib.hid hr4
        have B4 := Lib.hid (B3.out.trans (below_of_grown hg4 hgw hs3))
        have hs4' := B4.out.size
        clear hr4 hg4
        go_wp2_with fail
        refine (left_sp g l (1 + m) w4 R4.out).mono ?_
        rintro e w5 ⟨rfl, rfl⟩
        go_wp2_with fail
        refine (take_no g l (1 + m) true 4 w4 R4.out (.inl rfl)).mono ?_
        rintro e w6 ⟨rfl, hr6, hg6⟩
        have R6 := Lib.hid hr6
        have B6 := Lib.hid (B4.out.trans (below_of_grown hg6 hgw hs4'))
        clear hr6 hg6
        go_wp2_with fail
        refine (spent_any g l (1 + m) true w6 R6.out).mono ?_
        rintro e w7 ⟨rfl, rfl⟩
        go_wp2
        refine bodyPost_ret (results_tmp4 rfl _ _ _) rfl ?_
        exact FrontTo.no HN.out B6.out 2 (by omega) (by omega) (by omega) rfl
    · have R3 := Lib.hid hr3
      have HV := Lib.hid hv
      clear hr3 hv
      have HN := Lib.hid (show frameParse l = none by
        rw [HP.out]
        have h1 := HV.out
        rw [Nat.zero_add, HDR.out] at h1
        cases hvf : vFrom r 0 0 with
        | none => rfl
        | some p =>
          obtain ⟨n, m⟩ := p
          have := h1 n m hvf
          simp only
          rw [if_neg (by omega)])
      go_wp2_with fail
      refine (spent_any g l a' true w3 R3.out).mono ?_
      rintro e w4 ⟨rfl, rfl⟩
      go_wp2_with fail
      have hlen : l.length - 1 = (l.drop 1).length := (List.length_drop ..).symm
      rw [hlen]
      clear hlen
      refine (cut_any (l.drop 1) (cutA A c 1) (c - 1) B w3 ((HR.out.cut 1 c hc).below (B3.out.mono hB)) (by rw [List.length_drop]; omega)).mono ?_
      rintro e w5 ⟨rfl, rfl⟩
      rcases Bool.eq_false_or_eq_true (cutB (l.drop 1)) with hcb | hcb
      · rw [hcb]
        clear hcb
        go_wp2
        refine bodyPost_ret (results_tmp4 rfl _ _ _) rfl ?_
        exact FrontTo.no HN.out B3.out 2 (by omega) (by omega) (by omega) rfl
      · rw [hcb]
        clear hcb
        go_wp2
        refine bodyPost_ret (results_tmp4 rfl _ _ _) rfl ?_
        exact FrontTo.no HN.out B3.out 3 (by omega) (by omega) (by omega) rfl
end Go.Proofs.YtplbcbamnjnhlaaGreatDoor
namespace Go.Proofs.YtplbcbamnjnhlaaGreatDoor
open Go.RowKit

def frameOpen (l : List UInt8) : Option (UInt8 × List UInt8) := match frameParse l with
  | some (k, load, n) => if n = l.length then some (k, load) else none
  | none => none
def OpenTo (w : World) (r : Option (UInt8 × List UInt8)) (e : Ending) (w' : World) : Prop :=
  Below w.heap.size w w' ∧ match r with
  | none => ∃ x : Int, x ≠ 0 ∧ 0 ≤ x ∧ x ≤ 100 ∧ e = .returned (.tuple #[.int .u8 0, .slice none 0 0, .int .i64 x])
  | some (k, load) => ∃ A c, e = .returned (.tuple #[.int .u8 (k.toNat : Nat), .slice A load.length c, .int .i64 0]) ∧ Rd w' w'.heap.size A (bcells load)
theorem frameParse_le {l : List UInt8} {k : UInt8} {load : List UInt8} {n : Nat} (h : frameParse l = some (k, load, n)) : n ≤ l.length := by
  cases l with
  | nil => cases h
  | cons a r =>
    rw [frameParse_cons] at h
    split at h
    · cases h
    · split at h
      · rename_i hc
        injection h with h
        injection h with h1 h2
        injection h2 with h2 h3
        omega
      · cases h
set_option maxRecDepth 100000 in
theorem open_any (l : List UInt8) (A : Option Addr) (c B : Nat) (w : World) (hr : Rd w B A (bcells l)) (hB : B ≤ w.heap.size) (hl : l.length ≤ 68719476736) (hc : l.length ≤ c) :
    Calls Tryz.prog 87 #[.slice A l.length c] w (OpenTo w (frameOpen l)) := by
  have HR := Lib.hid hr
  clear hr
  go_enter Tryz.func87, Tryz.ntmps87
  go_wp2_with fail
  refine (front_any l A c B w HR.out hB hl hc).mono ?_
  rintro e w1 ⟨hb, hm⟩
  have B1 := Lib.hid hb
  clear hb
  cases hf : frameParse l with
  | none =>
    rw [hf] at hm
    obtain ⟨x, h0, h1, h2, rfl⟩ := hm
    have HO := Lib.hid (show frameOpen l = none by unfold frameOpen; rw [hf])
    have hx : (x != 0) = true := by simpa using h0
    clear hf
    go_wp2
    go_ret3
    refine ⟨B1.out, ?_⟩
    rw [HO.out]
    exact ⟨x, h0, h1, h2, rfl⟩
  | some p =>
    obtain ⟨k, load, n⟩ := p
    have hle := frameParse_le hf
    rw [hf] at hm
    obtain ⟨A1, c1, rfl, hrd⟩ := hm
    have HRD := Lib.hid hrd
    have HF := Lib.hid hf
    clear hrd hf
    have hk8 := k.toNat_lt
    by_cases hn : n = l.length
    · have HO := Lib.hid (show frameOpen l = some (k, load) by unfold frameOpen; rw [HF.out]; simp only; rw [if_pos hn])
      have hnl : ¬ n < l.length := by omega
      clear hn
      go_wp2
      go_ret3
      refine ⟨B1.out, ?_⟩
      rw [HO.out]
      exact ⟨A1, c1, rfl, HRD.out⟩
    · have HO := Lib.hid (show frameOpen l = none by unfold frameOpen; rw [HF.out]; simp only; rw [if_neg hn])
      have hnl : n < l.length := by omega
      clear hn
      go_wp2
      go_ret3
      refine ⟨B1.out, ?_⟩
      rw [HO.out]
      exact ⟨5, by omega, by omega, by omega, rfl⟩
end Go.Proofs.YtplbcbamnjnhlaaGreatDoor
namespace Go.Proofs.YtplbcbamnjnhlaaGreatDoor
open Go.RowKit

theorem hashTy : HashTy Tryz.prog 32 5 := ⟨by kernel_rfl, by kernel_rfl, fun _ => by kernel_rfl, fun _ => by kernel_rfl, by kernel_rfl⟩
noncomputable def fieldAt' (t i : Nat) : Field := (Tryz.prog.fieldsOf t).getD i { name := "", type := 0, offset := 0, embedded := false, tag := "", pkgPath := "", byteOffset := 0 }
theorem key_n0 : (fieldAt' 34 0).name = "Hash" := by kernel_rfl
theorem key_n1 : (fieldAt' 34 1).name = "K" := by kernel_rfl
theorem mark_n0 : (fieldAt' 36 0).name = "Hash" := by kernel_rfl
theorem mark_n1 : (fieldAt' 36 1).name = "Size" := by kernel_rfl
theorem keyTy : HkTy Tryz.prog 34 32 5 3 (fieldAt' 34 0) (fieldAt' 34 1) :=
  ⟨by kernel_rfl, by rw [key_n0]; decide, by rw [key_n1]; decide, by kernel_rfl, by kernel_rfl, by kernel_rfl, by kernel_rfl, by kernel_rfl, hashTy, by kernel_rfl, by kernel_rfl⟩
theorem markTy : HkTy Tryz.prog 36 32 5 3 (fieldAt' 36 0) (fieldAt' 36 1) :=
  ⟨by kernel_rfl, by rw [mark_n0]; decide, by rw [mark_n1]; decide, by kernel_rfl, by kernel_rfl, by kernel_rfl, by kernel_rfl, by kernel_rfl, hashTy, by kernel_rfl, by kernel_rfl⟩

def kOk (k : Int) : Bool := decide (1 ≤ k ∧ k ≤ 4)
theorem right_any (k : Int) (w : World) : Calls Tryz.prog 139 #[.int .i64 k] w fun e w' => e = .returned (.bool (kOk k)) ∧ w = w' := by
  by_cases h1 : 1 ≤ k
  · by_cases h2 : k ≤ 4
    · have HK := Lib.hid (show kOk k = true by unfold kOk; simp; omega)
      go_enter Tryz.func139, Tryz.ntmps139
      go_wp2
      go_ret
      exact ⟨rt1 (vbool HK.out.symm), rfl⟩
    · have HK := Lib.hid (show kOk k = false by unfold kOk; simp; omega)
      go_enter Tryz.func139, Tryz.ntmps139
      go_wp2
      go_ret
      exact ⟨rt1 (vbool HK.out.symm), rfl⟩
  · have HK := Lib.hid (show kOk k = false by unfold kOk; simp; omega)
    go_enter Tryz.func139, Tryz.ntmps139
    go_wp2
    go_ret
    exact ⟨rt1 (vbool HK.out.symm), rfl⟩
theorem itoa_small (k : Int) (w : World) (hk : kOk k = true) : Calls Tryz.prog 61 #[.int .i64 k] w fun e w' => e = .returned (.string ⟨#[UInt8.ofNat (48 + k.toNat)]⟩) ∧ w = w' := by
  have h : k = 1 ∨ k = 2 ∨ k = 3 ∨ k = 4 := by unfold kOk at hk; simp at hk; omega
  clear hk
  rcases h with rfl | rfl | rfl | rfl
  all_goals
    go_enter Tryz.func61, Tryz.ntmps61
    go_wp2
    go_ret
    exact ⟨rt1 (vstr (by kernel_rfl)), rfl⟩
def keyText (h : List UInt8) (k : Int) : List UInt8 := if kOk k then hexOf h ++ [45, UInt8.ofNat (48 + k.toNat)] else []
theorem below_drew {B : Nat} {w w' : World} (h : Below B w.drew w') : Below B w w' := ⟨h.os, h.tape, h.output, h.size, h.block⟩
theorem rd_hash {w : World} {B : Nat} {A : Option Addr} {h : List UInt8} {k : Int} (hr : Rd w B A (hkCells h k)) : Rd w B A (bcells h) := by
  have := hr.take_ h.length
  have e : (hkCells h k).take h.length = bcells h := by
    unfold hkCells
    rw [List.take_append_of_le_length (by rw [bcells_length]; omega), List.take_of_length_le (by rw [bcells_length]; omega)]
  rwa [e] at this
theorem hex_text32 (l : List UInt8) (A : Option Addr) (c : Nat) (w : World) (hr : Rd w w.heap.size A (bcells l)) (hl : l.length = 32) :
    Calls Tryz.prog 140 #[.slice A 32 c] w fun e w' => e = .returned (.string ⟨(hexOf l).toArray⟩) ∧ Below w.heap.size w w' := by
  have := hex_text l A c w hr (by omega)
  rwa [hl] at this
set_option maxRecDepth 100000 in
set_option maxHeartbeats 400000 in
theorem text_any (h : List UInt8) (k : Int) (w : World) (hh : h.length = 32) :
    Calls Tryz.prog 105 #[hkv h k] w fun e w' => e = .returned (.string ⟨(keyText h k).toArray⟩) ∧ Below w.heap.size w w' := by
  have hck : (w.alloc (.cells (hkCells h k).toArray 34)).cell? ⟨w.heap.size, 32, none⟩ = some (.int .i64 k) := by
    rw [cell_of_row _ _ _ _ _ _ (Go.heap_alloc_new w _), ← Array.getElem?_toList]
    exact hkCells_get h k hh
  have hgk : (hkCells h k)[32]? = some (.int .i64 k) := hkCells_get h k hh
  have hlk : (hkCells h k).length = 33 := by rw [hkCells_length, hh]
  have HH := Lib.hid hh
  clear hh
  rcases Bool.eq_false_or_eq_true (kOk k) with hb | hb
  · have HB := Lib.hid hb
    clear hb
    go_enter Tryz.func105, Tryz.ntmps105
    go_wp2_with fail
    refine (right_any k _).mono ?_
    rintro e w1 ⟨rfl, rfl⟩
    rw [HB.out]
    go_wp2_with fail
    refine Text.wp_grow [2, 6] [5] [] (by kernel_rfl) (by kernel_rfl) ?_
    refine Text.wpS_seg 2 _ _ _ _ (by decide) (fun Q' hQ' => ?_)
    simp only [List.take_succ_cons, List.take_zero]
    go_wp2_with fail
    simp only [Nat.zero_add, List.drop_succ_cons, List.drop_zero]
    refine Text.wpS_one (fun Q' hQ' => ?_)
    go_wp2_with fail
    have hrow : Rd (w.alloc (.cells (hkCells h k).toArray 34)) (w.heap.size + 1) (some ⟨w.heap.size, 0, none⟩) (hkCells h k) := by
      have := Rd.row (w := w.alloc (.cells (hkCells h k).toArray 34)) (B := w.heap.size + 1) (Go.heap_alloc_new w _) (by omega)
      simpa using this
    refine (hex_text32 h (some ⟨w.heap.size, 0, none⟩) 32 _ (by have := (rd_hash hrow).below (Below.refl _ _).drew; simpa using this) HH.out).mono ?_
    rintro e w2 ⟨rfl, hb2⟩
    have hb2' : Below w.heap.size w w2 := ((Below.refl _ _).alloc (Nat.le_refl _) _).trans ((below_drew hb2).mono (by simp))
    have hck2 : w2.cell? ⟨w.heap.size, 32, none⟩ = some (.int .i64 k) := (hb2.cell (p := ⟨w.heap.size, 32, none⟩) (by show w.heap.size < (w.alloc _).heap.size; simp)).trans hck
    have HB2 := Lib.hid hb2
    have HB2' := Lib.hid hb2'
    clear hb2 hb2' hrow
    obtain ⟨sh, hsh⟩ : ∃ sh : ByteArray, sh = ⟨(hexOf h).toArray⟩ := ⟨_, rfl⟩
    have hsz : sh.size ≤ 64 := by
      rw [hsh]
      show (hexOf h).toArray.size ≤ 64
      have := hexOf_length h
      have := HH.out
      simp; omega
    rw [← hsh]
    have HSH := Lib.hid hsh
    clear hsh
    go_wp2_with fail
    refine ⟨HB2.out, ?_⟩
    refine Text.wpS_seg 3 _ _ _ _ (by decide) (fun Q' hQ' => ?_)
    simp only [List.take_succ_cons, List.take_zero]
    go_wp2_with fail
    simp only [List.drop_succ_cons, List.drop_zero]
    refine Text.wpS_one (fun Q' hQ' => ?_)
    go_wp2_with fail
    refine (itoa_small k _ HB.out).mono ?_
    rintro e w3 ⟨rfl, rfl⟩
    go_wp2_with fail
    refine ⟨HB2.out, ?_⟩
    refine Text.wpS_seg 2 _ _ _ _ (by decide) (fun Q' hQ' => ?_)
    simp only [List.take_succ_cons, List.take_zero]
    go_wp2_with fail
    refine ⟨by rfl, ⟨fun _ => ⟨_, _, rfl, hck⟩, trivial⟩, ?_⟩
    go_wp2
    go_ret
    refine ⟨rt1 (vstr ?_), HB2'.out⟩
    unfold keyText
    rw [HB.out, if_pos rfl, HSH.out]
    apply ByteArray.ext
    simp
  · have HB := Lib.hid hb
    clear hb
    go_enter Tryz.func105, Tryz.ntmps105
    go_wp2_with fail
    refine (right_any k _).mono ?_
    rintro e w1 ⟨rfl, rfl⟩
    rw [HB.out]
    go_wp2
    go_ret
    refine ⟨rt1 (vstr ?_), (Below.refl _ _).alloc (Nat.le_refl _) _⟩
    unfold keyText
    rw [HB.out]
    rfl

theorem may_any (h : List UInt8) (k : Int) (w : World) (hh : h.length = 32) :
    Calls Tryz.prog 53 #[hkv h k] w fun e w' => e = .returned (.bool (kOk k)) ∧ Below w.heap.size w w' := by
  have hck : (w.alloc (.cells (hkCells h k).toArray 34)).cell? ⟨w.heap.size, 32, none⟩ = some (.int .i64 k) := by
    rw [cell_of_row _ _ _ _ _ _ (Go.heap_alloc_new w _), ← Array.getElem?_toList]
    exact hkCells_get h k hh
  have hgk : (hkCells h k)[32]? = some (.int .i64 k) := hkCells_get h k hh
  have hlk : (hkCells h k).length = 33 := by rw [hkCells_length, hh]
  by_cases h1 : 1 ≤ k
  · by_cases h2 : k ≤ 4
    · have HK := Lib.hid (show kOk k = true by unfold kOk; simp; omega)
      go_enter Tryz.func53, Tryz.ntmps53
      go_wp2
      go_ret
      exact ⟨rt1 (vbool HK.out.symm), (Below.refl _ _).alloc (Nat.le_refl _) _⟩
    · have HK := Lib.hid (show kOk k = false by unfold kOk; simp; omega)
      go_enter Tryz.func53, Tryz.ntmps53
      go_wp2
      go_ret
      exact ⟨rt1 (vbool HK.out.symm), (Below.refl _ _).alloc (Nat.le_refl _) _⟩
  · have HK := Lib.hid (show kOk k = false by unfold kOk; simp; omega)
    go_enter Tryz.func53, Tryz.ntmps53
    go_wp2
    go_ret
    exact ⟨rt1 (vbool HK.out.symm), (Below.refl _ _).alloc (Nat.le_refl _) _⟩
def digStr : ByteArray := ⟨#[48, 49, 50, 51, 52, 53, 54, 55, 56, 57, 97, 98, 99, 100, 101, 102]⟩
theorem digStr_at (x : Nat) (hx : x < 16) : digStr.extract x (x + 1) = ⟨#[(digAt x).toNat.toUInt8]⟩ := by
  have h : ∀ j : Fin 16, (digStr.extract j.val (j.val + 1)).data = #[(digAt j.val).toNat.toUInt8] := by decide +kernel
  apply ByteArray.ext
  exact h ⟨x, hx⟩
set_option maxRecDepth 100000 in
set_option maxHeartbeats 400000 in
theorem digits_any (l : List UInt8) (w : World) (hl : l.length = 32) :
    Calls Tryz.prog 109 #[hashv l] w fun e w' => e = .returned (.string ⟨(hexOf l).toArray⟩) ∧ Below w.heap.size w w' := by
  have hlb : (bcells l).length = 32 := by rw [bcells_length, hl]
  have HL := Lib.hid hl
  clear hl
  go_enter Tryz.func109, Tryz.ntmps109
  go_wp2_with fail
  obtain ⟨D, hD⟩ : ∃ D, D = digStr := ⟨_, rfl⟩
  have hDs : D.size = 16 := by rw [hD]; rfl
  have hD2 : ({ data := #[48, 49, 50, 51, 52, 53, 54, 55, 56, 57, 97, 98, 99, 100, 101, 102] } : ByteArray) = D := hD.symm
  rw [hD2]
  have HD := Lib.hid hD
  clear hD hD2
  go_loopw [4, 5] (fun v4 v5 wr => ∃ (i : Nat) (s : ByteArray), i ≤ 32 ∧ v5 = .int .i64 i ∧ v4 = .string s ∧ s.size ≤ 64 ∧ Hid (s = ⟨(hexOf (l.take i)).toArray⟩) ∧ Hid (Below (w.heap.size + 1) (w.alloc (.cells (bcells l).toArray 32)) wr)) (fun _ v5 _ => 32 - (intOf v5).toNat)
  case atStart => exact ⟨0, ⟨#[]⟩, by omega, rfl, rfl, by decide, rfl, (Below.refl _ _)⟩
  case round =>
    obtain ⟨i, s, hi, rfl, rfl, hs, hse, hbr⟩ := hrel
    by_cases hlt : i < 32
    · have hlt2 : i < l.length := by have := HL.out; omega
      have hcell : wr.cell? ⟨w.heap.size, i, none⟩ = some (.int .u8 (l[i].toNat : Nat)) := by
        refine (hbr.out.cell (p := ⟨w.heap.size, i, none⟩) (by show w.heap.size < _; omega)).trans ?_
        rw [cell_of_row _ _ _ _ _ _ (Go.heap_alloc_new w _), ← Array.getElem?_toList, List.getElem?_eq_getElem (by rw [bcells_length]; exact hlt2)]
        simp [bcells, bcell]
      have hsn := Lib.hid (hexOf_snoc l i hlt2)
      obtain ⟨y, hy⟩ : ∃ y, y = l[i].toNat := ⟨_, rfl⟩
      have hy8 : y < 256 := by rw [hy]; exact l[i].toNat_lt
      rw [← hy] at hcell
      have HY := Lib.hid hy
      clear hy
      have HE1 := Lib.hid (show D.extract (y / 16) (y / 16 + 1) = ⟨#[(digAt (y / 16)).toNat.toUInt8]⟩ by rw [HD.out]; exact digStr_at _ (by omega))
      have HE2 := Lib.hid (show D.extract (y % 16) (y % 16 + 1) = ⟨#[(digAt (y % 16)).toNat.toUInt8]⟩ by rw [HD.out]; exact digStr_at _ (by omega))
      go_wp2_with fail
      refine Text.wp_text [] (by kernel_rfl) (by kernel_rfl) (fun Q' hQ' => ?_)
      go_wp2
      refine ⟨by rfl, ?_⟩
      have HSN := Lib.hid (show s ++ D.extract (y / 16) (y / 16 + 1) ++ D.extract (y % 16) (y % 16 + 1) = ⟨(hexOf (l.take (i + 1))).toArray⟩ by
        rw [HE1.out, HE2.out, hse.out, hsn.out]
        apply ByteArray.ext
        simp [hex2, HY.out])
      go_wp2
      go_roundw
      case rel =>
        refine ⟨i + 1, _, by omega, by go_num, rfl, ?_, HSN.out, hbr.out.drew⟩
        rw [HSN.out]
        show (hexOf (l.take (i + 1))).toArray.size ≤ 64
        have := hexOf_length (l.take (i + 1))
        have h2 : (l.take (i + 1)).length ≤ i + 1 := List.length_take_le _ _
        simp; omega
      case measure => simp [intOf]; omega
    · have hi32 : i = 32 := by omega
      subst hi32
      have hlt2 : l.take 32 = l := List.take_of_length_le (by have := HL.out; omega)
      have HT := Lib.hid hlt2
      clear hlt2
      go_wp2
      go_ret
      refine ⟨rt1 (vstr ?_), ((Below.refl _ _).alloc (Nat.le_refl _) _).trans (hbr.out.mono (by omega))⟩
      rw [hse.out, HT.out]
end Go.Proofs.YtplbcbamnjnhlaaGreatDoor
namespace Go.Proofs.YtplbcbamnjnhlaaGreatDoor
open Go.RowKit

section
variable {w : World} {g : Nat} {t : TypeId} {fr : Nat × Nat} {kind seq : Int} {kh mh : List UInt8} {kk ms : Int} {v : Value}
structure RecAt (w : World) (g : Nat) (t : TypeId) (kind seq : Int) (kh : List UInt8) (kk : Int) (mh : List UInt8) (ms : Int) (v : Value) : Prop where
  blk : w.heap[g]? = some (.cells (recCells kind seq kh kk mh ms v).toArray t (0, 0))
  hk : kh.length = 32
  hm : mh.length = 32
theorem rec_split1 : recCells kind seq kh kk mh ms v = [.int .i64 kind, .int .i64 seq] ++ (hkCells kh kk ++ (hkCells mh ms ++ [v])) := rfl
theorem rec_split2 : recCells kind seq kh kk mh ms v = ([.int .i64 kind, .int .i64 seq] ++ hkCells kh kk) ++ (hkCells mh ms ++ [v]) := by simp [recCells]
theorem rec_split3 : recCells kind seq kh kk mh ms v = ([.int .i64 kind, .int .i64 seq] ++ hkCells kh kk) ++ (bcells mh ++ ([.int .i64 ms] ++ [v])) := by simp [recCells, hkCells]
theorem rec_split4 : recCells kind seq kh kk mh ms v = ([.int .i64 kind, .int .i64 seq] ++ hkCells kh kk ++ bcells mh) ++ ([.int .i64 ms, v] ++ []) := by simp [recCells, hkCells]
theorem RecAt.kind_ (h : RecAt w g t kind seq kh kk mh ms v) : w.cell? ⟨g, 0, none⟩ = some (.int .i64 kind) := by rw [cell_of_row _ _ _ _ _ _ h.blk]; rfl
theorem RecAt.seq_ (h : RecAt w g t kind seq kh kk mh ms v) : w.cell? ⟨g, 1, none⟩ = some (.int .i64 seq) := by rw [cell_of_row _ _ _ _ _ _ h.blk]; rfl
theorem RecAt.size_ (h : RecAt w g t kind seq kh kk mh ms v) : w.cell? ⟨g, 67, none⟩ = some (.int .i64 ms) := by
  have := cell_part h.blk (congrArg List.toArray rec_split4) 0 (.int .i64 ms) rfl
  simpa [bcells_length, hkCells_length, h.hk, h.hm] using this
theorem RecAt.keys_ (h : RecAt w g t kind seq kh kk mh ms v) : w.cell? ⟨g, 68, none⟩ = some v := by
  have := cell_part h.blk (congrArg List.toArray rec_split4) 1 v rfl
  simpa [bcells_length, hkCells_length, h.hk, h.hm] using this
theorem RecAt.key_ (h : RecAt w g t kind seq kh kk mh ms v) : ∀ j u, (hkCells kh kk)[j]? = some u → w.cell? ⟨g, 2 + j, none⟩ = some u := fun j u hu => cell_part h.blk (congrArg List.toArray rec_split1) j u hu
theorem RecAt.mark_ (h : RecAt w g t kind seq kh kk mh ms v) : ∀ j u, (hkCells mh ms)[j]? = some u → w.cell? ⟨g, 35 + j, none⟩ = some u := fun j u hu => by
  have := cell_part h.blk (congrArg List.toArray rec_split2) j u hu
  rwa [show ([Value.int .i64 kind, .int .i64 seq] ++ hkCells kh kk).length = 35 by simp [hkCells_length, h.hk]] at this
theorem RecAt.hash_ (h : RecAt w g t kind seq kh kk mh ms v) : ∀ j u, (bcells mh)[j]? = some u → w.cell? ⟨g, 35 + j, none⟩ = some u := fun j u hu => by
  have := cell_part h.blk (congrArg List.toArray rec_split3) j u hu
  rwa [show ([Value.int .i64 kind, .int .i64 seq] ++ hkCells kh kk).length = 35 by simp [hkCells_length, h.hk]] at this
theorem RecAt.all_ (h : RecAt w g t kind seq kh kk mh ms v) : ∀ j u, (recCells kind seq kh kk mh ms v)[j]? = some u → w.cell? ⟨g, 0 + j, none⟩ = some u := fun j u hu => by
  rw [Nat.zero_add, cell_of_row _ _ _ _ _ _ h.blk, ← Array.getElem?_toList]
  exact hu
theorem RecAt.lt (h : RecAt w g t kind seq kh kk mh ms v) : g < w.heap.size := (Array.getElem?_eq_some_iff.1 h.blk).1
theorem RecAt.later {w' : World} (h : RecAt w g t kind seq kh kk mh ms v) (hb : Below w.heap.size w w') : RecAt w' g t kind seq kh kk mh ms v := ⟨(hb.block g h.lt).trans h.blk, h.hk, h.hm⟩
theorem RecAt.new (w : World) (hk : kh.length = 32) (hm : mh.length = 32) : RecAt (w.alloc (.cells (recCells kind seq kh kk mh ms v).toArray t)) w.heap.size t kind seq kh kk mh ms v := ⟨Go.heap_alloc_new w _, hk, hm⟩
end
theorem key_size (h : List UInt8) (k : Int) (hh : h.length = 32) : (Tryz.prog.info? 34).map (·.size) = some (hkCells h k).length := by rw [hkCells_length, hh]; kernel_rfl
theorem mark_size (h : List UInt8) (k : Int) (hh : h.length = 32) : (Tryz.prog.info? 36).map (·.size) = some (hkCells h k).length := by rw [hkCells_length, hh]; kernel_rfl
theorem hash_size (h : List UInt8) (hh : h.length = 32) : (Tryz.prog.info? 32).map (·.size) = some (bcells h).length := by rw [bcells_length, hh]; kernel_rfl
theorem rec_size (kind seq : Int) (kh : List UInt8) (kk : Int) (mh : List UInt8) (ms : Int) (v : Value) (hk : kh.length = 32) (hm : mh.length = 32) : (Tryz.prog.info? 38).map (·.size) = some (recCells kind seq kh kk mh ms v).length := by
  rw [recCells_length, hk, hm]; kernel_rfl
theorem rec32_size (kind seq : Int) (kh : List UInt8) (kk : Int) (mh : List UInt8) (ms : Int) (v : Value) (hk : kh.length = 32) (hm : mh.length = 32) : (Tryz.prog.info? 42).map (·.size) = some (recCells kind seq kh kk mh ms v).length := by
  rw [recCells_length, hk, hm]; kernel_rfl
noncomputable def recTy : TypeDesc := .struct (Tryz.prog.fieldsOf 38)
noncomputable def rec32Ty : TypeDesc := .struct (Tryz.prog.fieldsOf 42)
theorem recTy_u : Tryz.prog.underlying 38 = some recTy := by kernel_rfl
theorem rec32Ty_u : Tryz.prog.underlying 42 = some rec32Ty := by kernel_rfl

theorem hkCells_one (l : List UInt8) (k : Int) : ∀ u ∈ hkCells l k, u.oneCell' = true := fun u hu => by
  rcases List.mem_append.1 hu with h | h
  · exact bcells_one l u h
  · rw [List.mem_singleton.1 h]; rfl
theorem recCells_one (kind seq : Int) (kh : List UInt8) (kk : Int) (mh : List UInt8) (ms : Int) (A : Option Addr) (n c : Nat) : ∀ u ∈ recCells kind seq kh kk mh ms (.slice A n c), u.oneCell' = true := fun u hu => by
  rcases List.mem_append.1 hu with h | h
  · rcases List.mem_cons.1 h with rfl | h
    · rfl
    · rw [List.mem_singleton.1 h]; rfl
  rcases List.mem_append.1 h with h | h
  · exact hkCells_one _ _ u h
  rcases List.mem_append.1 h with h | h
  · exact hkCells_one _ _ u h
  · rw [List.mem_singleton.1 h]; rfl

theorem zip_fold (off : Nat) : ∀ (vs : List Value) (k : Nat) (pre Z : List Value), pre.length = off + k → vs.length ≤ Z.length →
    (vs.zipIdx k).foldl (fun (cs : Array Value) (x : Value × Nat) => cs.setIfInBounds (off + x.2) x.1) (pre ++ Z).toArray = (pre ++ vs ++ Z.drop vs.length).toArray
  | [], k, pre, Z, _, _ => by simp
  | u :: vs, k, pre, [], _, h => by simp at h
  | u :: vs, k, pre, z :: Z, hp, h => by
    rw [List.zipIdx_cons, List.foldl_cons]
    have e : (pre ++ z :: Z).toArray.setIfInBounds (off + (u, k).2) (u, k).1 = ((pre ++ [u]) ++ Z).toArray := by
      simp only
      rw [List.setIfInBounds_toArray]
      congr 1
      rw [← hp, List.set_append_right _ _ (by omega)]
      simp
    rw [e, zip_fold off vs (k + 1) (pre ++ [u]) Z (by simp; omega) (by simpa using h)]
    simp
theorem fill_step {place : Nat → Option (Nat × Nat)} {i : Nat} {v : Value} {vs : List Value} {rest : List (Nat × Value)} {pre Z : List Value} (hv : v.cells = vs.toArray) (hp : place i = some (pre.length, vs.length)) (hl : vs.length ≤ Z.length) :
    Instr.fill place (pre ++ Z).toArray ((i, v) :: rest) = Instr.fill place ((pre ++ vs) ++ Z.drop vs.length).toArray rest := by
  rw [Instr.fill, hp]
  simp only [hv]
  rw [if_neg (by simp; omega)]
  congr 1
  have h := zip_fold pre.length vs 0 pre Z rfl hl
  rw [← h, ← Array.foldl_toList]
  simp

def z32 : List UInt8 := List.replicate 32 0
theorem z32_len : z32.length = 32 := rfl
theorem zero_rec (w : World) : (zeroValue 38).run Tryz.prog w = .ok (recv 0 0 z32 0 z32 0 (.slice none 0 0)) w := by kernel_rfl
theorem zero_rec32 (w : World) : (zeroValue 42).run Tryz.prog w = .ok (recv 0 0 z32 0 z32 0 (.slice none 0 0)) w := by kernel_rfl
theorem zero_key (w : World) : (zeroValue 34).run Tryz.prog w = .ok (hkv z32 0) w := by kernel_rfl
theorem fields_rec32 (w : World) : ((Tryz.prog.fieldsOf 42).mapM fun (f : Field) => do pure (f.offset, ← sizeOf f.type)).run Tryz.prog w = .ok #[(0, 1), (1, 1), (2, 33), (35, 32), (67, 1), (68, 1)] w := by kernel_rfl
theorem fields_rec (w : World) : ((Tryz.prog.fieldsOf 38).mapM fun (f : Field) => do pure (f.offset, ← sizeOf f.type)).run Tryz.prog w = .ok #[(0, 1), (1, 1), (2, 33), (35, 33), (68, 1)] w := by kernel_rfl
theorem fields_key (w : World) : ((Tryz.prog.fieldsOf 34).mapM fun (f : Field) => do pure (f.offset, ← sizeOf f.type)).run Tryz.prog w = .ok #[(0, 32), (32, 1)] w := by kernel_rfl
theorem build_rec32 (kind seq : Int) (kh : List UInt8) (kk : Int) (mh : List UInt8) (ms : Int) (A : Option Addr) (n c : Nat) (hk : kh.length = 32) (hm : mh.length = 32) (w : World) :
    (Instr.build 42 #[(0, .int .i64 kind), (1, .int .i64 seq), (2, hkv kh kk), (3, hashv mh), (4, .int .i64 ms), (5, .slice A n c)]).run Tryz.prog w = .ok (recv kind seq kh kk mh ms (.slice A n c)) w := by
  have hz : (recCells 0 0 z32 0 z32 0 (.slice none 0 0)).length = 69 := rfl
  unfold Instr.build
  simp only [Sem.run_bind, zero_rec32, Result.andThen_ok, recv_cells, run_underlying rec32Ty_u, rec32Ty, fields_rec32]
  have h0 := fill_step (place := fun i => (#[((0 : Nat), (1 : Nat)), (1, 1), (2, 33), (35, 32), (67, 1), (68, 1)] : Array (Nat × Nat))[i]?) (i := 0) (v := .int .i64 kind) (vs := [.int .i64 kind]) (pre := []) (Z := recCells 0 0 z32 0 z32 0 (.slice none 0 0)) rfl rfl (by simp [hz])
    (rest := [(1, .int .i64 seq), (2, hkv kh kk), (3, hashv mh), (4, .int .i64 ms), (5, .slice A n c)])
  have hf : Instr.fill (fun i => (#[((0 : Nat), (1 : Nat)), (1, 1), (2, 33), (35, 32), (67, 1), (68, 1)] : Array (Nat × Nat))[i]?) (recCells 0 0 z32 0 z32 0 (.slice none 0 0)).toArray [(0, .int .i64 kind), (1, .int .i64 seq), (2, hkv kh kk), (3, hashv mh), (4, .int .i64 ms), (5, .slice A n c)] = some (recCells kind seq kh kk mh ms (.slice A n c)).toArray := by
    rw [List.nil_append] at h0
    rw [h0, fill_step (vs := [.int .i64 seq]) rfl rfl (by simp [hz]), fill_step (vs := hkCells kh kk) rfl (by simp [hkCells_length, hk]) (by simp [hz, hkCells_length, hk]), fill_step (vs := bcells mh) rfl (by simp [hkCells_length, bcells_length, hk, hm]) (by simp [hz, hkCells_length, bcells_length, hk, hm]),
      fill_step (vs := [.int .i64 ms]) rfl (by simp [hkCells_length, bcells_length, hk, hm]) (by simp [hz, hkCells_length, bcells_length, hk, hm]), fill_step (vs := [.slice A n c]) rfl (by simp [hkCells_length, bcells_length, hk, hm]) (by simp [hz, hkCells_length, bcells_length, hk, hm])]
    rw [Instr.fill]
    congr 2
    rw [List.drop_eq_nil_of_le (by simp [hz, hkCells_length, bcells_length, hk, hm])]
    simp [recCells, hkCells]
  rw [hf]
  rfl
end Go.Proofs.YtplbcbamnjnhlaaGreatDoor
