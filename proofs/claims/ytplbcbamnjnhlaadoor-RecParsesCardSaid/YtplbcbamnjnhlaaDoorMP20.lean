/- Texts of this proof joined: Seven, Line, TakeKey. -/
import Derived.Test.YtplbcbamnjnhlaaDoorMP07
import Derived.Test.YtplbcbamnjnhlaaDoorMP19
import Derived.Test.YtplbcbamnjnhlaaDoorMP18
import Derived.Test.YtplbcbamnjnhlaaDoorMP09
import Derived.Test.YtplbcbamnjnhlaaDoorMP14
import Derived.Test.YtplbcbamnjnhlaaDoorMP13
import Derived.Test.YtplbcbamnjnhlaaDoorMP16
/- Contracts of seven.Pack, Whole, Unpack, for any bytes, every world. -/
namespace Go.Proofs.YtplbcbamnjnhlaaDoor
open Go.RowKit

theorem digs_zero (B v : Nat) : digs B 0 v = [] := rfl
theorem sevOf_zero (v : Nat) : sevOf 0 v = [] := rfl
theorem sevOf_snoc (q v : Nat) : sevOf (q + 1) v = sevOf q v ++ [UInt8.ofNat (128 + v / 128 ^ q % 128)] := by simp [sevOf, digs_snoc]
theorem pow_128 (q : Nat) : (128 : Nat) ^ q = 2 ^ (7 * q) := by rw [show (128 : Nat) = 2 ^ 7 by decide, ← Nat.pow_mul]
theorem pow_256 (q : Nat) : (256 : Nat) ^ q = 2 ^ (8 * q) := by rw [show (256 : Nat) = 2 ^ 8 by decide, ← Nat.pow_mul]
/-- one byte more: what is left over, and what was put out -/
theorem sev_byte (l : List UInt8) (c : UInt8) (q n : Nat) (h : 7 * q + n = 8 * l.length) :
    v256 (l ++ [c]) / 128 ^ q = v256 l / 128 ^ q + c.toNat * 2 ^ n ∧ sevOf q (v256 (l ++ [c])) = sevOf q (v256 l) := by
  have e : 256 ^ l.length = 2 ^ n * 128 ^ q := by rw [pow_256, pow_128, ← Nat.pow_add]; congr 1; omega
  rw [v256_snoc, e, ← Nat.mul_assoc]
  refine ⟨?_, ?_⟩
  · rw [Nat.add_mul_div_right _ _ (Nat.pow_pos (by omega))]
  · unfold sevOf
    rw [digs_add_mul 128 (by omega)]
theorem sev_rest (l : List UInt8) (q n : Nat) (h : 7 * q + n = 8 * l.length) : v256 l / 128 ^ q < 2 ^ n := by
  have e : 256 ^ l.length = 2 ^ n * 128 ^ q := by rw [pow_256, pow_128, ← Nat.pow_add]; congr 1; omega
  have := v256_lt l
  rw [e] at this
  exact Nat.div_lt_of_lt_mul (by rw [Nat.mul_comm]; exact this)
theorem or_shl (r c n : Nat) (hr : r < 2 ^ n) (hn : n ≤ 7) (hc : c < 256) : bits .or .u64 (r : Int) (IntKind.u64.wrap ((c : Int) * 2 ^ n)) = ((r + c * 2 ^ n : Nat) : Int) := by
  have h7 : 2 ^ n ≤ 2 ^ 7 := Nat.pow_le_pow_right (by omega) hn
  have h1 : c * 2 ^ n ≤ 255 * 2 ^ 7 := Nat.mul_le_mul (by omega) h7
  have e : ((c : Int) * 2 ^ n) = ((c * 2 ^ n : Nat) : Int) := by simp
  rw [e, IntKind.wrap_u64, Int.emod_eq_of_lt (by omega) (by omega), u64_or_nat _ _ (by omega) (by omega)]
  congr 1
  have h3 := Nat.shiftLeft_add_eq_or_of_lt (a := c) (b := r) (i := n) hr
  rw [Nat.shiftLeft_eq] at h3
  rw [Nat.or_comm, ← h3, Nat.add_comm]
theorem and_127 (r : Nat) (hr : r < 18446744073709551616) : bits .and .u64 (r : Int) 127 = ((r % 128 : Nat) : Int) := by
  rw [show (127 : Int) = ((127 : Nat) : Int) by rfl, u64_and_nat _ _ hr (by omega), show (127 : Nat) = 2 ^ 7 - 1 by decide, Nat.and_two_pow_sub_one_eq_mod]
theorem or_128 (r : Nat) (hr : r < 128) : bits .or .u8 (r : Int) 128 = ((128 + r : Nat) : Int) := by
  rw [show (128 : Int) = ((128 : Nat) : Int) by rfl, u8_or_nat _ _ (by omega) (by omega)]
  congr 1
  have h3 := Nat.shiftLeft_add_eq_or_of_lt (a := 1) (b := r) (i := 7) (by omega)
  rw [Nat.or_comm]
  simpa using h3.symm
theorem sev_own {w : World} {base : Nat} {v : Value} {n m : Nat} {xs : List Value} (h : w.ownsRow base 5 1 v n (xs ++ [.int .u8 (128 + (m : Int))])) (hm : m < 128) :
    w.ownsRow base 5 1 v n (xs ++ bcells [UInt8.ofNat (128 + m)]) := by
  have e : bcells [UInt8.ofNat (128 + m)] = [.int .u8 (128 + (m : Int))] := by simp [bcells, bcell]; omega
  rw [e]
  exact h
set_option maxRecDepth 100000 in
set_option maxHeartbeats 1000000 in
theorem pack_any (g o cap : Nat) (l : List UInt8) (A : Option Addr) (c B : Nat) (w : World) (hg : w.cell? ⟨g, o, none⟩ = some (.slice A l.length c)) (hgB : g < B) (hr : Rd w B A (bcells l)) (hB : B ≤ w.heap.size) (hl : l.length ≤ 68719476736) :
    Calls Tryd.prog 25 #[.slice (some ⟨g, o, none⟩) 1 cap] w fun e w' => ∃ v, e = .returned v ∧ w'.ownsRow w.heap.size 5 1 v (sevPack l).length (bcells (sevPack l)) ∧ Below w.heap.size w w' := by
  have HR := Lib.hid hr
  have HG := Lib.hid hg
  clear hr hg
  go_enter Tryd.func25, Tryd.ntmps25
  go_wp2_with fail
  go_loopw [3, 4, 5, 12] (fun v3 v4 v5 v12 wr => ∃ k q n r : Nat, k ≤ 1 ∧ v12 = .int .i64 k ∧ n < 7 ∧ 7 * q + n = 8 * (if k = 0 then 0 else l.length) ∧ v5 = .int .i64 n ∧ v4 = .int .u64 r ∧ r < 128 ∧ Hid (r = v256 (if k = 0 then [] else l) / 128 ^ q) ∧
    wr.ownsRow w.heap.size 5 1 v3 q (bcells (sevOf q (v256 (if k = 0 then [] else l)))) ∧ Below w.heap.size w wr) (fun _ _ _ v12 _ => 1 - (intOf v12).toNat)
  case atStart => exact ⟨0, 0, 0, 0, by omega, rfl, by omega, rfl, rfl, rfl, by omega, (by show _ = _; simp [v256, ofDigs]), World.ownsRow_nil _ _ _ _, Below.refl _ _⟩
  case round =>
    obtain ⟨k, q, n, r, hk, rfl, hn, hqn, rfl, rfl, hr128, hre, hown, hbr⟩ := hrel
    by_cases h0 : k = 0
    · subst h0
      have hq0 : q = 0 := by simp at hqn; omega
      have hn0 : n = 0 := by simp at hqn; omega
      have hr0 : r = 0 := by have := hre.out; simpa [v256, ofDigs] using this
      subst hq0 hn0 hr0
      clear hre hqn
      have hc : wr.cell? ⟨g, o, none⟩ = some (.slice A l.length c) := (hbr.cell (p := ⟨g, o, none⟩) (by show g < _; omega)).trans HG.out
      have hsz := hbr.size
      obtain ⟨wo, rfl⟩ : ∃ wo : World, wo = wr := ⟨_, rfl⟩
      go_wp2_with fail
      go_loopw [3, 4, 5, 18] (fun v3 v4 v5 v18 wr => ∃ j q n r : Nat, j ≤ l.length ∧ v18 = .int .i64 j ∧ n < 7 ∧ 7 * q + n = 8 * j ∧ v5 = .int .i64 n ∧ v4 = .int .u64 r ∧ r < 128 ∧ Hid (r = v256 (l.take j) / 128 ^ q) ∧
        wr.ownsRow w.heap.size 5 1 v3 q (bcells (sevOf q (v256 (l.take j)))) ∧ Below w.heap.size w wr) (fun _ _ _ v18 _ => l.length - (intOf v18).toNat)
      case atStart => exact ⟨0, 0, 0, 0, by omega, rfl, by omega, rfl, rfl, rfl, by omega, (by show _ = _; simp [v256, ofDigs]), hown, hbr⟩
      case round =>
        obtain ⟨j, q, n, r, hj, rfl, hn, hqn, rfl, rfl, hr128, hre, hown, hbr⟩ := hrel
        by_cases hlt : j < l.length
        · obtain ⟨ab, ao, e0, hab, hcell⟩ := (HR.out.below (hbr.mono hB)).byte hlt
          subst e0
          have hsz2 := hbr.size
          have hb8 := l[j].toNat_lt
          have hlj : (l.take j).length = j := by rw [List.length_take]; omega
          have hrn : r < 2 ^ n := by rw [hre.out]; exact sev_rest _ q n (by rw [hlj]; exact hqn)
          have ho := or_shl r l[j].toNat n hrn (by omega) hb8
          have SB := Lib.hid (sev_byte (l.take j) l[j] q n (by rw [hlj]; exact hqn))
          have HT := Lib.hid (show l.take (j + 1) = l.take j ++ [l[j]] from List.take_succ_eq_append_getElem hlt)
          clear hlj hrn
          obtain ⟨wm, rfl⟩ : ∃ wm : World, wm = wr := ⟨_, rfl⟩
          go_wp2_with fail
          go_loopw [3, 4, 5] (fun v3 v4 v5 wr => ∃ q' n' r' : Nat, n' ≤ 14 ∧ 7 * q' + n' = 8 * (j + 1) ∧ v5 = .int .i64 n' ∧ v4 = .int .u64 r' ∧ r' < 16384 ∧ Hid (r' = v256 (l.take (j + 1)) / 128 ^ q') ∧
            wr.ownsRow w.heap.size 5 1 v3 q' (bcells (sevOf q' (v256 (l.take (j + 1))))) ∧ Below w.heap.size w wr) (fun _ _ v5 _ => (intOf v5).toNat)
          case atStart =>
            have h1 : r + l[j].toNat * 2 ^ n = v256 (l.take (j + 1)) / 128 ^ q := by rw [HT.out, SB.out.1, ← hre.out]
            refine ⟨q, n + 8, r + l[j].toNat * 2 ^ n, by omega, by omega, by go_num, vint (by simp), ?_, h1, ?_, hbr⟩
            · rw [h1]
              have h2 := sev_rest (l.take (j + 1)) q (n + 8) (by rw [List.length_take, Nat.min_eq_left (by omega)]; omega)
              have h3 : 2 ^ (n + 8) ≤ 2 ^ 14 := Nat.pow_le_pow_right (by omega) (by omega)
              omega
            · rw [HT.out, SB.out.2]; exact hown
          case round =>
            clear ho hr128 hcell
            obtain ⟨q', n', r', hn', hqn', rfl, rfl, hr', hre', hown', hbr'⟩ := hrel
            have hsz3 := hbr'.size
            by_cases h7 : 7 ≤ n'
            · have ha := and_127 r' (by omega)
              have hor := or_128 (r' % 128) (by omega)
              obtain ⟨m, hm⟩ : ∃ m, m = r' % 128 := ⟨_, rfl⟩
              rw [← hm] at ha hor
              have hm128 : m < 128 := by omega
              have HM := Lib.hid hm
              clear hm
              go_wp2_with (at_builtin; refine wpList_app u8_ty rfl rfl rfl rfl (hown'.alloc _) (Rd.row (B := wr.heap.size + 1) (Go.heap_alloc_new wr _) (by omega)) rfl (by simp [Value.oneCell']) ?h63 ?hby ?hbase ?_)
              case h63 => simp only [maxLen]; omega
              case hby => omega
              case hbase => simp; omega
              intro v1 w3 hown3 hg3 _ _
              have HO := Lib.hid hown3
              have HG3 := Lib.hid hg3
              clear hown3 hg3
              go_wp2
              go_roundw
              case rel =>
                refine ⟨q' + 1, n' - 7, r' / 128, by omega, by omega, vint (by omega), by rfl, by omega, ?_, ?_, grown_below (hbr'.alloc hsz3 _) HG3.out (hown'.alloc _) (Nat.le_refl _) (by simp; omega)⟩
                · show _ = _
                  rw [hre'.out, Nat.div_div_eq_div_mul, ← Nat.pow_succ]
                · rw [sevOf_snoc, bcells_append, ← hre'.out, ← HM.out]
                  exact sev_own HO.out hm128
              case measure => simp [intOf]; omega
            · have h7' : n' < 7 := by omega
              have hr7 : r' < 128 := by
                have h2 := sev_rest (l.take (j + 1)) q' n' (by rw [List.length_take, Nat.min_eq_left (by omega)]; omega)
                have h3 : 2 ^ n' ≤ 2 ^ 7 := Nat.pow_le_pow_right (by omega) (by omega)
                rw [hre'.out]
                omega
              go_wp2
              go_roundw
              case rel => exact ⟨j + 1, q', n', r', by omega, by go_num, h7', hqn', rfl, rfl, hr7, hre', hown', hbr'⟩
              case measure => simp [intOf]; omega
        · have hjl : j = l.length := by omega
          subst hjl
          go_wp2
          go_roundw
          case rel =>
            rw [List.take_length] at hre hown
            exact ⟨1, q, n, r, by omega, rfl, hn, by simpa using hqn, rfl, rfl, hr128, by simpa using hre, by simpa using hown, hbr⟩
          case measure => simp [intOf]
    · obtain rfl : k = 1 := by omega
      simp only [Nat.one_ne_zero, if_false] at hqn hre hown
      have hsz := hbr.size
      clear hk
      by_cases hn0 : n = 0
      · subst hn0
        have e : sevOf q (v256 l) = sevPack l := by unfold sevPack; congr 1; omega
        have e2 : q = (sevPack l).length := by rw [← e, sevOf_length]
        rw [e] at hown
        go_wp2
        go_ret
        rw [← e2]
        exact ⟨_, rfl, hown, hbr⟩
      · have hor := or_128 r hr128
        have e : sevPack l = sevOf q (v256 l) ++ [UInt8.ofNat (128 + r)] := by
          unfold sevPack
          rw [show (8 * l.length + 6) / 7 = q + 1 by omega, sevOf_snoc, ← hre.out, Nat.mod_eq_of_lt hr128]
        have E := Lib.hid e
        clear e
        go_wp2_with (at_builtin; refine wpList_app u8_ty rfl rfl rfl rfl (hown.alloc _) (Rd.row (B := wr.heap.size + 1) (Go.heap_alloc_new wr _) (by omega)) rfl (by simp [Value.oneCell']) ?h63 ?hby ?hbase ?_)
        case h63 => simp only [maxLen]; omega
        case hby => omega
        case hbase => simp; omega
        intro v1 w3 hown3 hg3 _ _
        have HO := Lib.hid hown3
        have HG3 := Lib.hid hg3
        clear hown3 hg3
        go_wp2
        go_ret
        refine ⟨v1, rfl, ?_, grown_below (hbr.alloc hsz _) HG3.out (hown.alloc _) (Nat.le_refl _) (by simp; omega)⟩
        rw [E.out, List.length_append, sevOf_length, bcells_append]
        exact sev_own HO.out hr128
end Go.Proofs.YtplbcbamnjnhlaaDoor
/- Contract of rec.Line. -/
namespace Go.Proofs.YtplbcbamnjnhlaaDoor
open Go.RowKit

/-- a record's line -/
def lineL (r : RecD) : List UInt8 := sevPack (frameSeal (UInt8.ofNat r.kind.toNat) (loadL r)) ++ [10]
theorem flat_keys_length : ∀ xs : List KeyD, (∀ x ∈ xs, x.1.length = 32) → (xs.flatMap keyB).length = 33 * xs.length
  | [], _ => rfl
  | x :: r, h => by
    rw [List.flatMap_cons, List.length_append, keyB_length x (h x (by simp)), flat_keys_length r fun y hy => h y (by simp [hy]), List.length_cons]
    omega
theorem loadL_le (r : RecD) (hr : Hs r) (hk : ∀ x ∈ r.keys, x.1.length = 32) (h : rightB r = true) : (loadL r).length ≤ 9000 := by
  have hn : r.keys.length ≤ 256 := by
    by_cases h7 : r.kind = 7
    · obtain ⟨kind, seq, kh, kk, mh, ms, keys⟩ := r
      simp only at h7
      subst h7
      exact (rising_ok (right_7 h).2).1
    · have : r.keys = [] := by
        unfold rightB at h
        simp only [h7, if_false, Bool.and_eq_true, decide_eq_true_eq] at h
        exact h.2
      rw [this]
      simp
  have h2 := flat_keys_length r.keys hk
  have h3 : (keyB (r.kh, r.kk)).length = 33 := keyB_length _ hr.1
  unfold loadL
  simp only [List.length_append, h2]
  repeat' split
  all_goals simp [beBytes_length, h3, hr.2]
  all_goals omega
/-- what Line answers: the line of a right record, else a fault -/
def LineTo (r : RecD) (N : Nat) (e : Ending) (w' : World) : Prop :=
  if rightB r = true then ∃ v, e = .returned (.tuple #[v, .int .i64 0]) ∧ w'.ownsRow N 5 1 v (lineL r).length (bcells (lineL r)) else e = .returned (.tuple #[.slice none 0 0, .int .i64 1])
theorem lineTo_no {r : RecD} {N : Nat} {e : Ending} {w' : World} (h : rightB r = false) (he : e = .returned (.tuple #[.slice none 0 0, .int .i64 1])) : LineTo r N e w' := by unfold LineTo; rw [h, if_neg (by simp)]; exact he
theorem lineTo_yes {r : RecD} {N : Nat} {e : Ending} {w' : World} {v : Value} (h : rightB r = true) (he : e = .returned (.tuple #[v, .int .i64 0])) (ho : w'.ownsRow N 5 1 v (lineL r).length (bcells (lineL r))) : LineTo r N e w' := by
  unfold LineTo; rw [if_pos h]; exact ⟨v, he, ho⟩
set_option maxRecDepth 100000 in
set_option maxHeartbeats 4000000 in
theorem line_any (r : RecD) (A : Option Addr) (n c B : Nat) (w : World) (hr : Hs r) (h1 : SlR eKey w B (.slice A n c) r.keys) (hB : B ≤ w.heap.size) (hks : ∀ x ∈ r.keys, x.1.length = 32) :
    Calls Tryd.prog 11 #[rv r (.slice A n c)] w fun e w' => LineTo r w.heap.size e w' ∧ Below w.heap.size w w' := by
  have HR := Lib.hid hr
  have HKS := Lib.hid hks
  have HBW := Lib.hid hB
  have HB1 := Lib.hid ((Below.refl _ _).alloc (Nat.le_refl _) (.cells (recCells r.kind r.seq r.kh r.kk r.mh r.ms (.slice A n c)).toArray 31) : Below w.heap.size w _)
  have HG1 := Lib.hid (RecAt.new (t := 31) (kind := r.kind) (seq := r.seq) (kk := r.kk) (ms := r.ms) (v := .slice A n c) w hr.1 hr.2)
  have HK1 := Lib.hid (h1.fut HB1.out hB (Nat.le_refl B))
  clear hr h1 hB hks
  go_enter Tryd.func11, Tryd.ntmps11
  go_wp2_with (refine stop_at (some 1) rfl ?_)
  refine Stop.go (wpList_box rfl _ rfl rfl (recv_cells ..) ?_)
  generalize w.alloc (.cells (recCells r.kind r.seq r.kh r.kk r.mh r.ms (.slice A n c)).toArray 31) = w1 at *
  go_wp2_with (refine stop_at (some 6) rfl ?_)
  refine Stop.go (wpList_load_agg rfl 31 rfl rfl recTy_u rfl (rec_size _ _ _ _ _ _ _ HR.out.1 HR.out.2) HG1.out.all_ ?_)
  go_wp2_with fail
  refine (right32_any r A n c B _ HR.out HK1.out (Nat.le_trans HBW.out HB1.out.size)).mono ?_
  rw [rightP_eq]
  rintro e w2 ⟨rfl, hb2⟩
  cases hR : rightB r
  · have HB2 := Lib.hid (HB1.out.trans (hb2.mono HB1.out.size))
    have HRF := Lib.hid hR
    clear hb2 hR
    go_wp2_with fail
    go_ret2
    exact ⟨lineTo_no HRF.out rfl, HB2.out⟩
  · have HRT := Lib.hid hR
    obtain ⟨K, hK⟩ : ∃ K : UInt8, r.kind = (K.toNat : Int) := ⟨UInt8.ofNat r.kind.toNat, by
      have := right_kind hR
      rw [UInt8.toNat_ofNat']
      omega⟩
    have HK := Lib.hid hK
    have hk8 := K.toNat_lt
    have HG2 := Lib.hid (HG1.out.later hb2)
    have HB2 := Lib.hid (HB1.out.trans (hb2.mono HB1.out.size))
    have HK2 := Lib.hid (HK1.out.below (hb2.mono (Nat.le_trans HBW.out HB1.out.size)))
    have HLL := Lib.hid (loadL_le r HR.out HKS.out hR)
    have HLN := Lib.hid (show lineL r = sevPack (frameSeal K (loadL r)) ++ [10] by unfold lineL; rw [hK]; simp)
    clear hb2 hR HK1 HG1 HB1
    have c0 : w2.cell? ⟨w.heap.size, 0, none⟩ = some (.int .i64 K.toNat) := by rw [← HK.out]; exact HG2.out.kind_
    clear hK
    go_wp2_with fail
    refine wpT_grow [4, 5] [1, 3] [] (by kernel_rfl) (by kernel_rfl) ?_
    refine wpT_seg 3 (by decide) (fun Q0 hQ0 => ?_)
    simp only [List.take_succ_cons, List.take_zero]
    go_wp2_with fail
    try simp only [List.drop_succ_cons, List.drop_zero]
    refine wpT_seg 1 (by decide) (fun Q1 hQ1 => ?_)
    simp only [List.take_succ_cons, List.take_zero]
    refine wpList_load_agg rfl 31 rfl rfl recTy_u rfl (rec_size _ _ _ _ _ _ _ HR.out.1 HR.out.2) HG2.out.all_ ?_
    refine hQ1 _ _ ?_
    simp only [List.drop_succ_cons, List.drop_zero]
    generalize hac : Act.put _ _ _ = a9
    simp [Act.put] at hac
    subst hac
    refine wpT_one (fun Q1 hQ1 => ?_)
    go_wp2_with fail
    refine (load_any r A n c B _ HR.out (HK2.out.below (Below.refl _ _).drew) (Nat.le_trans HBW.out HB2.out.size) HRT.out).mono ?_
    rintro e w3 ⟨g3, rfl, hr3, hb3, hs3, hg3⟩
    have HB3 := Lib.hid hb3
    have HR3 := Lib.hid (Rd.row (B := w3.heap.size) hr3 (by rw [hs3]; omega))
    obtain ⟨L, hL⟩ : ∃ L, L = loadL r := ⟨_, rfl⟩
    rw [← hL] at HR3 HLL HLN
    simp only [← hL]
    clear hr3 hb3 hs3 hL
    go_wp2_with fail
    refine ⟨HB3.out, ?_⟩
    refine wpT_one (fun Q2 hQ2 => ?_)
    go_wp2_with fail
    refine (seal_any K L _ _ _ _ HR3.out (Nat.le_refl _) (by have := HLL.out; omega)).mono ?_
    rintro e w4 ⟨v4, rfl, ho4, hb4⟩
    have HB4 := Lib.hid (HB3.out.trans (hb4.mono HB3.out.size))
    have HO4 := Lib.hid ho4
    clear ho4 hb4
    go_wp2_with fail
    refine ⟨HB4.out, ?_⟩
    refine wpT_seg 5 (by decide) (fun Q3 hQ3 => ?_)
    simp only [List.take_succ_cons, List.take_zero]
    go_wp2_with fail
    try simp only [List.drop_succ_cons, List.drop_zero]
    refine wpT_end ⟨by rfl, ⟨(fun _ => ⟨_, _, rfl, c0⟩), (fun _ => ⟨_, _, rfl, by simpa using HG2.out.all_ 0 _ rfl⟩), trivial⟩, ?_⟩
    have HB5 := Lib.hid (HB2.out.trans ((below_drew HB4.out).mono HB2.out.size))
    obtain ⟨F, hF⟩ : ∃ F, F = frameSeal K L := ⟨_, rfl⟩
    have HFL := Lib.hid (show F.length ≤ 10000 by rw [hF, frameSeal_length]; have := vForm_len_le L.length (by have := HLL.out; omega); have := HLL.out; omega)
    rw [← hF] at HO4 HLN
    obtain ⟨A4, c4, rfl, _, _⟩ := own_form HO4.out
    have HR4 := Lib.hid (Rd.of_own HO4.out)
    clear hF HB3 HR3 HB4
    go_wp2_with fail
    have hb6 : Below w4.heap.size w4 (w4.alloc (.cells #[.slice A4 F.length c4] 22)) := (Below.refl _ _).alloc (Nat.le_refl _) _
    refine (pack_any w4.heap.size 0 1 F A4 c4 (w4.heap.size + 1) _ (cell_new w4 _ _) (by omega) ((HR4.out.below hb6).more (by omega)) (by simp) (by have := HFL.out; omega)).mono ?_
    rintro e w7 ⟨v7, rfl, ho7, hb7⟩
    have HB7 := Lib.hid (HB5.out.trans ((hb6.trans (hb7.mono hb6.size)).mono HB5.out.size))
    have HO7 := Lib.hid (own_more ho7 (Nat.le_trans HB5.out.size hb6.size))
    obtain ⟨S, hS⟩ : ∃ S, S = sevPack F := ⟨_, rfl⟩
    have HSL := Lib.hid (show S.length ≤ 20000 by rw [hS, sevPack_length]; have := HFL.out; omega)
    rw [← hS] at HO7 HLN
    clear hb6 hb7 ho7 hS
    have hs7 := HB7.out.size
    obtain ⟨A7, c7, rfl, _, _⟩ := own_form HO7.out
    have hsl := HSL.out
    go_wp2_with (at_builtin; refine wpList_app u8_ty rfl rfl rfl rfl (HO7.out.alloc _) (Rd.row (B := w7.heap.size + 1) (Go.heap_alloc_new w7 _) (by omega)) rfl (by simp [Value.oneCell']) ?h63 ?hby ?hbase ?_)
    case h63 => simp only [maxLen]; omega
    case hby => omega
    case hbase => simp; omega
    intro v8 w8 hown8 hg8 _ _
    have B8 := Lib.hid (grown_below (HB7.out.alloc hs7 _) hg8 (HO7.out.alloc _) (Nat.le_refl _) (by simp; omega))
    have HO8 := Lib.hid hown8
    clear hown8 hg8
    go_wp2_with fail
    go_ret2
    refine ⟨lineTo_yes HRT.out rfl ?_, B8.out⟩
    have h8 := HO8.out
    rw [HLN.out, bcells_append, List.length_append]
    exact h8
end Go.Proofs.YtplbcbamnjnhlaaDoor
/- Contracts of rec.takeKey and rec.takeMark. -/
namespace Go.Proofs.YtplbcbamnjnhlaaDoor
open Go.RowKit

section
variable {P : Program} {ops : Array Oper} {I : World → Prop} {G : List Nat}
theorem wpI_seg {Q : Act → World → Prop} (n : Nat) {k : Nat} {l : List Oper} {a : Act} {w : World} (hG : (List.range' k n).all (fun i => !G.contains i) = true)
    (h : ∀ Q' : Exit → Act → World → Prop, (∀ a w, Stop (TextI.wpS P ops I G Q (k + n) (l.drop n) a w) → Q' .normal a w) → wpList P ops Q' (l.take n) a w) : Stop (TextI.wpS P ops I G Q k l a w) :=
  ⟨TextI.wpS_seg n k l a w hG fun Q' hQ' => h Q' fun a w hh => hQ' a w hh.out⟩
theorem wpI_one {Q : Act → World → Prop} {k : Nat} {o : Oper} {r : List Oper} {a : Act} {w : World}
    (h : ∀ Q' : Exit → Act → World → Prop, (∀ a' w', I w' ∧ Stop (TextI.wpS P ops I G Q (k + 1) r a' w') → Q' .normal a' w') → wpList P ops Q' [o] a w) : Stop (TextI.wpS P ops I G Q k (o :: r) a w) :=
  ⟨TextI.wpS_one fun Q' hQ' => h Q' fun a w hh => hQ' a w ⟨hh.1, hh.2.out⟩⟩
theorem wpI_skip {Q : Act → World → Prop} {k : Nat} {o : Oper} {r : List Oper} {a : Act} {w : World} (hg : Region.wanted o (yielded ops a.tmps) = false) (h : Stop (TextI.wpS P ops I G Q (k + 1) r (a.put o.dst undef) w)) : Stop (TextI.wpS P ops I G Q k (o :: r) a w) :=
  ⟨TextI.wpS_skip hg h.out⟩
theorem wpI_end {Q : Act → World → Prop} {k : Nat} {a : Act} {w : World} (h : Q a w) : Stop (TextI.wpS P ops I G Q k [] a w) := ⟨h⟩
theorem wpI_inv {id : Nat} {Q : Exit → Act → World → Prop} {a : Act} {w : World} {l : List Oper} (G LD ex : List Nat) (I : World → Prop) (hI : I w.drew) (hm : P.follows .mixedOrders = true) (hB : Text.growB P l.toArray G LD ex = true)
    (h : Stop (TextI.wpS P l.toArray I G (fun a' w' => Text.chk l.toArray ex a' = true ∧ TextI.oldAll P l.toArray I a' LD ∧ Q .normal a' w') 0 l a w.drew)) : (Code.region id l.toArray true).wp P Q a w :=
  TextI.wp_inv G LD ex I hI hm hB h.out
end
theorem RdrR.low {w w' : World} {g N : Nat} {l : List UInt8} {a : Nat} {sp : Bool} (h : RdrR w g l a sp) (hb : Below N w w') (hN : g < N) : RdrR w' g l a sp := by
  obtain ⟨A, c, h1, h2, h3⟩ := h
  exact ⟨A, c, (hb.block g hN).trans h1, h2.below (hb.mono (Nat.le_of_lt hN)), h3⟩
theorem grown_low {w w' w'' : World} {g N : Nat} (h : w.grownBy w' (some g)) (hb : Below N w' w'') (hN : w.heap.size ≤ N) (hs : w.heap.size ≤ w''.heap.size) : w.grownBy w'' (some g) :=
  ⟨hb.os.trans h.os, hb.tape.trans h.tape, hb.output.trans h.output, hs, fun k hk hne => (hb.block k (Nat.lt_of_lt_of_le hk hN)).trans (h.block k hk hne)⟩
theorem row_num (h : List UInt8) (k k' : Int) (hh : h.length = 32) : ((hkCells h k).toArray.toList.take 32 ++ [Value.int .i64 k'] ++ (hkCells h k).toArray.toList.drop (32 + 1)).toArray = (hkCells h k').toArray := by
  have hl : (bcells h).length = 32 := by rw [bcells_length, hh]
  unfold hkCells
  rw [List.take_append_of_le_length (by simp [hl]), List.take_of_length_le (by simp [hl]), List.drop_of_length_le (by simp [hl]), List.append_nil]
theorem ret_key1 {fn : Func} {p : Tmp} {Q : Ending → World → Prop} (h : fn.results = #[.cell p 26]) {a : Act} {w : World} {g : Nat} {hh : List UInt8} {k : Int} {fr : Nat × Nat} {t : TypeId} (hl : hh.length = 32) (hd : a.defers = [])
    (hp : a.tmps.getD p undef = .pointer (some ⟨g, 0, none⟩)) (hg : w.heap[g]? = some (.cells (hkCells hh k).toArray t fr)) (hq : Q (.returned (hkv hh k)) w) : bodyPost Tryd.prog fn Q .ret a w :=
  bodyPost_ret (v := hkv hh k) (results_cell_row h _ w g t _ fr _ hp hg keyTy_u rfl (key_size hh k hl)) hd hq
/-- a key that is taken -/
def KeyOk (g : Nat) (l : List UInt8) (a : Nat) (w : World) (e : Ending) (w' : World) : Prop :=
  e = .returned (hkv ((l.drop a).take 32) (beVal ((l.drop (a + 32)).take 1))) ∧ RdrR w' g l (a + 33) false ∧ w.grownBy w' (some g)
set_option maxRecDepth 100000 in
set_option maxHeartbeats 4000000 in
theorem takeKey_ok (g : Nat) (l : List UInt8) (a : Nat) (w : World) (h : RdrR w g l a false) (hn : a + 33 ≤ l.length) :
    Calls Tryd.prog 30 #[.pointer (some ⟨g, 0, none⟩)] w (KeyOk g l a w) := by
  have HGW := Lib.hid h.lt
  have H := Lib.hid h
  clear h
  go_enter Tryd.func30, Tryd.ntmps30
  go_wp2_with (refine stop_at (some 2) rfl ?_)
  refine Stop.go (wpList_alloc rfl 26 rfl zero_key rfl ?_)
  have hb1 : Below w.heap.size w (w.alloc (.cells (hkCells z32 0).toArray 26)) := (Below.refl _ _).alloc (Nat.le_refl _) _
  have HG1 := Lib.hid (Go.heap_alloc_new w (.cells (hkCells z32 0).toArray 26))
  have HS1 := Lib.hid (show (w.alloc (.cells (hkCells z32 0).toArray 26)).heap.size = w.heap.size + 1 from Array.size_push _)
  have HR1 := Lib.hid (H.out.later hb1)
  have HB1 := Lib.hid hb1
  clear hb1
  generalize w.alloc (.cells (hkCells z32 0).toArray 26) = w1 at *
  go_wp2_with (refine stop_at (some 3) rfl ?_)
  refine Stop.go (wpList_alloc rfl 26 rfl zero_key rfl ?_)
  have hb2 : Below w1.heap.size w1 (w1.alloc (.cells (hkCells z32 0).toArray 26)) := (Below.refl _ _).alloc (Nat.le_refl _) _
  have HG2 := Lib.hid (Go.heap_alloc_new w1 (.cells (hkCells z32 0).toArray 26))
  have HG21 := Lib.hid ((hb2.block _ (Array.getElem?_eq_some_iff.1 HG1.out).1).trans HG1.out)
  have HR2 := Lib.hid (HR1.out.later hb2)
  have HB2 := Lib.hid (HB1.out.trans (hb2.mono HB1.out.size))
  clear hb2
  generalize w1.alloc (.cells (hkCells z32 0).toArray 26) = w2 at *
  generalize w1.heap.size = m at *
  go_wp2_with fail
  refine wpI_inv [3] [] [] (fun _ => True) trivial (by kernel_rfl) (by kernel_rfl) ?_
  refine wpI_seg 3 (by decide) (fun Q0 hQ0 => ?_)
  simp only [List.take_succ_cons, List.take_zero]
  go_wp2_with fail
  try simp only [List.drop_succ_cons, List.drop_zero]
  refine wpI_one (fun Q1 hQ1 => ?_)
  go_wp2_with fail
  refine (take_ok g l a 32 _ HR2.out.drew (by omega)).mono ?_
  rintro e w3 ⟨rfl, hr3, hrd3, hg3, hs3⟩
  have HGM := Lib.hid (show m < w2.heap.size from (Array.getElem?_eq_some_iff.1 HG2.out).1)
  have HMG := Lib.hid (show g < m by have := HGW.out; have := HS1.out; omega)
  have HG3 := Lib.hid ((hg3.block m HGM.out (by intro e; injection e with e; have := HMG.out; omega)).trans HG2.out)
  have HG31 := Lib.hid ((hg3.block w.heap.size (Nat.lt_trans (by rw [HS1.out]; omega) HGM.out) (by intro e; injection e with e; have := HGW.out; omega)).trans HG21.out)
  have HT3 := Lib.hid (Rd.row (B := w3.heap.size) hr3 hs3)
  have HR3 := Lib.hid hrd3
  have HS3 := Lib.hid hs3
  have HW3 := Lib.hid (show w.grownBy w3 (some g) from grown_trans (grown_below' HB2.out.drew) hg3)
  have HSM := Lib.hid (show m < w3.heap.size from Nat.lt_trans HGM.out hs3)
  clear hr3 hrd3 hg3 hs3
  go_wp2_with fail
  refine ⟨trivial, ?_⟩
  refine wpI_seg 1 (by decide) (fun Q3 hQ3 => ?_)
  simp only [List.take_succ_cons, List.take_zero]
  obtain ⟨hh, hhd⟩ : ∃ hh, hh = (l.drop a).take 32 := ⟨_, rfl⟩
  have HHL := Lib.hid (show hh.length = 32 by rw [hhd, List.length_take, List.length_drop]; omega)
  rw [← hhd] at HT3
  refine wpList_copy_hash rfl _ _ rfl rfl rfl rfl z32_len HHL.out HG3.out HT3.out (Below.refl m w3) (Nat.le_refl _) ?_
  intro w4 hg4 hb4 hs4
  refine hQ3 _ _ ?_
  simp only [List.drop_succ_cons, List.drop_zero]
  refine wpI_end ⟨by rfl, trivial, ?_⟩
  have HR4 := Lib.hid (HR3.out.low hb4 HMG.out)
  have HG41 := Lib.hid ((hb4.block w.heap.size (by rw [HS1.out]; omega)).trans HG31.out)
  have HW4 := Lib.hid (grown_low HW3.out hb4 (by rw [HS1.out]; omega) (by rw [hs4]; exact HW3.out.size))
  clear hb4
  have HS4 := Lib.hid hs4
  clear hs4
  go_wp2_with fail
  refine (num_ok g l (a + 32) 1 _ HR4.out (by decide) (by decide) (by omega)).mono ?_
  rintro e w5 ⟨rfl, hr5, hg5⟩
  obtain ⟨k, hkd⟩ : ∃ k, k = beVal ((l.drop (a + 32)).take 1) := ⟨_, rfl⟩
  have hk8 : k < 256 := by
    rw [hkd]
    refine Nat.lt_of_lt_of_le (beVal_lt _) ?_
    rw [List.length_take, List.length_drop, Nat.min_eq_left (by omega)]
    decide
  rw [← hkd]
  have HS45 : Hid (w4.heap.size ≤ w5.heap.size) := hg5.size
  have HM4 := Lib.hid (show m < w4.heap.size by rw [HS4.out]; exact HSM.out)
  have HG5 := Lib.hid ((hg5.block m HM4.out (by intro e; injection e with e; have := HMG.out; omega)).trans hg4.out)
  have HG51 := Lib.hid ((hg5.block w.heap.size (Nat.lt_trans (by rw [HS1.out]; omega) HM4.out) (by intro e; injection e with e; have := HGW.out; omega)).trans HG41.out)
  have HR5 := Lib.hid hr5
  have HW5 := Lib.hid (grown_trans HW4.out hg5)
  clear hr5 hg5
  obtain ⟨w6, hst6, hg6, hot6, hbl6⟩ := store_field (P := Tryd.prog) w5 (g := m) (off := 32) (vs := [.int .i64 k]) (v := .int .i64 k) (ty := 3) rfl (by kernel_rfl) HG5.out (by simp [hkCells_length, HHL.out]) (fun u hu => by rw [List.mem_singleton.1 hu]; rfl) (row_num hh 0 k HHL.out)
  have HR6 := Lib.hid (HR5.out.low (hbl6 m w5 (Below.refl m w5) (Nat.le_refl _)) HMG.out)
  have HW6 := Lib.hid (grown_low HW5.out (hbl6 m w5 (Below.refl m w5) (Nat.le_refl _)) (by rw [HS1.out]; omega) (Nat.le_trans HW5.out.size (hbl6 m w5 (Below.refl m w5) (Nat.le_refl _)).size))
  have HST6 := Lib.hid hst6
  have HG6 := Lib.hid hg6
  have HG61 := Lib.hid ((hot6 w.heap.size (by rw [HS1.out]; omega)).trans HG51.out)
  have HKD := Lib.hid hkd
  clear hst6 hg6 hot6 hbl6 hkd
  go_wp2_with (refine stop_at none rfl ?_)
  refine Stop.go (wpList_store_agg rfl 3 rfl rfl rfl HST6.out ?_)
  go_wp2_with (refine stop_at (some 13) rfl ?_)
  refine Stop.go (wpList_load_agg rfl 26 rfl rfl keyTy.ut rfl (key_size hh _ HHL.out) (row_cells HG6.out) ?_)
  refine wpList_store_agg rfl 26 rfl rfl rfl (store_row (hkv_cells _ _) (key_size _ _ HHL.out) HG61.out (by simp [hkCells_length, HHL.out, z32_len]) (hkCells_one _ _)) ?_
  go_wp2_with fail
  refine ret_key1 rfl HHL.out rfl rfl (setRow_heap _ _ _ _ _ _ HG61.out) ?_
  have hbz : Below w.heap.size w6 (w6.setRow w.heap.size (hkCells hh k).toArray) := below_setRow (Below.refl _ _) (Nat.le_refl _) _
  refine ⟨?_, HR6.out.low hbz HGW.out, grown_low HW6.out hbz (Nat.le_refl _) (Nat.le_trans HW6.out.size hbz.size)⟩
  rw [← hhd, ← HKD.out]
theorem zero_mark : ∀ w, (zeroValue 28).run Tryd.prog w = .ok (hkv z32 0) w := fun _ => by kernel_rfl
theorem ret_mark1 {fn : Func} {p : Tmp} {Q : Ending → World → Prop} (h : fn.results = #[.cell p 28]) {a : Act} {w : World} {g : Nat} {hh : List UInt8} {k : Int} {fr : Nat × Nat} {t : TypeId} (hl : hh.length = 32) (hd : a.defers = [])
    (hp : a.tmps.getD p undef = .pointer (some ⟨g, 0, none⟩)) (hg : w.heap[g]? = some (.cells (hkCells hh k).toArray t fr)) (hq : Q (.returned (hkv hh k)) w) : bodyPost Tryd.prog fn Q .ret a w :=
  bodyPost_ret (v := hkv hh k) (results_cell_row h _ w g t _ fr _ hp hg markTy.ut rfl (mark_size hh k hl)) hd hq
/-- a mark that is taken -/
def MarkOk (g : Nat) (l : List UInt8) (a : Nat) (w : World) (e : Ending) (w' : World) : Prop :=
  e = .returned (hkv ((l.drop a).take 32) (beVal ((l.drop (a + 32)).take 3))) ∧ RdrR w' g l (a + 35) false ∧ w.grownBy w' (some g)
set_option maxRecDepth 100000 in
set_option maxHeartbeats 4000000 in
theorem takeMark_ok (g : Nat) (l : List UInt8) (a : Nat) (w : World) (h : RdrR w g l a false) (hn : a + 35 ≤ l.length) :
    Calls Tryd.prog 31 #[.pointer (some ⟨g, 0, none⟩)] w (MarkOk g l a w) := by
  have HGW := Lib.hid h.lt
  have H := Lib.hid h
  clear h
  go_enter Tryd.func31, Tryd.ntmps31
  go_wp2_with (refine stop_at (some 2) rfl ?_)
  refine Stop.go (wpList_alloc rfl 28 rfl zero_mark rfl ?_)
  have hb1 : Below w.heap.size w (w.alloc (.cells (hkCells z32 0).toArray 28)) := (Below.refl _ _).alloc (Nat.le_refl _) _
  have HG1 := Lib.hid (Go.heap_alloc_new w (.cells (hkCells z32 0).toArray 28))
  have HS1 := Lib.hid (show (w.alloc (.cells (hkCells z32 0).toArray 28)).heap.size = w.heap.size + 1 from Array.size_push _)
  have HR1 := Lib.hid (H.out.later hb1)
  have HB1 := Lib.hid hb1
  clear hb1
  generalize w.alloc (.cells (hkCells z32 0).toArray 28) = w1 at *
  go_wp2_with (refine stop_at (some 3) rfl ?_)
  refine Stop.go (wpList_alloc rfl 28 rfl zero_mark rfl ?_)
  have hb2 : Below w1.heap.size w1 (w1.alloc (.cells (hkCells z32 0).toArray 28)) := (Below.refl _ _).alloc (Nat.le_refl _) _
  have HG2 := Lib.hid (Go.heap_alloc_new w1 (.cells (hkCells z32 0).toArray 28))
  have HG21 := Lib.hid ((hb2.block _ (Array.getElem?_eq_some_iff.1 HG1.out).1).trans HG1.out)
  have HR2 := Lib.hid (HR1.out.later hb2)
  have HB2 := Lib.hid (HB1.out.trans (hb2.mono HB1.out.size))
  clear hb2
  generalize w1.alloc (.cells (hkCells z32 0).toArray 28) = w2 at *
  generalize w1.heap.size = m at *
  go_wp2_with fail
  refine wpI_inv [3] [] [] (fun _ => True) trivial (by kernel_rfl) (by kernel_rfl) ?_
  refine wpI_seg 3 (by decide) (fun Q0 hQ0 => ?_)
  simp only [List.take_succ_cons, List.take_zero]
  go_wp2_with fail
  try simp only [List.drop_succ_cons, List.drop_zero]
  refine wpI_one (fun Q1 hQ1 => ?_)
  go_wp2_with fail
  refine (take_ok g l a 32 _ HR2.out.drew (by omega)).mono ?_
  rintro e w3 ⟨rfl, hr3, hrd3, hg3, hs3⟩
  have HGM := Lib.hid (show m < w2.heap.size from (Array.getElem?_eq_some_iff.1 HG2.out).1)
  have HMG := Lib.hid (show g < m by have := HGW.out; have := HS1.out; omega)
  have HG3 := Lib.hid ((hg3.block m HGM.out (by intro e; injection e with e; have := HMG.out; omega)).trans HG2.out)
  have HG31 := Lib.hid ((hg3.block w.heap.size (Nat.lt_trans (by rw [HS1.out]; omega) HGM.out) (by intro e; injection e with e; have := HGW.out; omega)).trans HG21.out)
  have HT3 := Lib.hid (Rd.row (B := w3.heap.size) hr3 hs3)
  have HR3 := Lib.hid hrd3
  have HS3 := Lib.hid hs3
  have HW3 := Lib.hid (show w.grownBy w3 (some g) from grown_trans (grown_below' HB2.out.drew) hg3)
  have HSM := Lib.hid (show m < w3.heap.size from Nat.lt_trans HGM.out hs3)
  clear hr3 hrd3 hg3 hs3
  go_wp2_with fail
  refine ⟨trivial, ?_⟩
  refine wpI_seg 1 (by decide) (fun Q3 hQ3 => ?_)
  simp only [List.take_succ_cons, List.take_zero]
  obtain ⟨hh, hhd⟩ : ∃ hh, hh = (l.drop a).take 32 := ⟨_, rfl⟩
  have HHL := Lib.hid (show hh.length = 32 by rw [hhd, List.length_take, List.length_drop]; omega)
  rw [← hhd] at HT3
  refine wpList_copy_hash rfl _ _ rfl rfl rfl rfl z32_len HHL.out HG3.out HT3.out (Below.refl m w3) (Nat.le_refl _) ?_
  intro w4 hg4 hb4 hs4
  refine hQ3 _ _ ?_
  simp only [List.drop_succ_cons, List.drop_zero]
  refine wpI_end ⟨by rfl, trivial, ?_⟩
  have HR4 := Lib.hid (HR3.out.low hb4 HMG.out)
  have HG41 := Lib.hid ((hb4.block w.heap.size (by rw [HS1.out]; omega)).trans HG31.out)
  have HW4 := Lib.hid (grown_low HW3.out hb4 (by rw [HS1.out]; omega) (by rw [hs4]; exact HW3.out.size))
  clear hb4
  have HS4 := Lib.hid hs4
  clear hs4
  go_wp2_with fail
  refine (num_ok g l (a + 32) 3 _ HR4.out (by decide) (by decide) (by omega)).mono ?_
  rintro e w5 ⟨rfl, hr5, hg5⟩
  obtain ⟨k, hkd⟩ : ∃ k, k = beVal ((l.drop (a + 32)).take 3) := ⟨_, rfl⟩
  have hk8 : k < 16777216 := by
    rw [hkd]
    refine Nat.lt_of_lt_of_le (beVal_lt _) ?_
    rw [List.length_take, List.length_drop, Nat.min_eq_left (by omega)]
    decide
  rw [← hkd]
  have HS45 : Hid (w4.heap.size ≤ w5.heap.size) := hg5.size
  have HM4 := Lib.hid (show m < w4.heap.size by rw [HS4.out]; exact HSM.out)
  have HG5 := Lib.hid ((hg5.block m HM4.out (by intro e; injection e with e; have := HMG.out; omega)).trans hg4.out)
  have HG51 := Lib.hid ((hg5.block w.heap.size (Nat.lt_trans (by rw [HS1.out]; omega) HM4.out) (by intro e; injection e with e; have := HGW.out; omega)).trans HG41.out)
  have HR5 := Lib.hid hr5
  have HW5 := Lib.hid (grown_trans HW4.out hg5)
  clear hr5 hg5
  obtain ⟨w6, hst6, hg6, hot6, hbl6⟩ := store_field (P := Tryd.prog) w5 (g := m) (off := 32) (vs := [.int .i64 k]) (v := .int .i64 k) (ty := 3) rfl (by kernel_rfl) HG5.out (by simp [hkCells_length, HHL.out]) (fun u hu => by rw [List.mem_singleton.1 hu]; rfl) (row_num hh 0 k HHL.out)
  have HR6 := Lib.hid (HR5.out.low (hbl6 m w5 (Below.refl m w5) (Nat.le_refl _)) HMG.out)
  have HW6 := Lib.hid (grown_low HW5.out (hbl6 m w5 (Below.refl m w5) (Nat.le_refl _)) (by rw [HS1.out]; omega) (Nat.le_trans HW5.out.size (hbl6 m w5 (Below.refl m w5) (Nat.le_refl _)).size))
  have HST6 := Lib.hid hst6
  have HG6 := Lib.hid hg6
  have HG61 := Lib.hid ((hot6 w.heap.size (by rw [HS1.out]; omega)).trans HG51.out)
  have HKD := Lib.hid hkd
  clear hst6 hg6 hot6 hbl6 hkd
  go_wp2_with (refine stop_at none rfl ?_)
  refine Stop.go (wpList_store_agg rfl 3 rfl rfl rfl HST6.out ?_)
  go_wp2_with (refine stop_at (some 13) rfl ?_)
  refine Stop.go (wpList_load_agg rfl 28 rfl rfl markTy.ut rfl (mark_size hh _ HHL.out) (row_cells HG6.out) ?_)
  refine wpList_store_agg rfl 28 rfl rfl rfl (store_row (hkv_cells _ _) (mark_size _ _ HHL.out) HG61.out (by simp [hkCells_length, HHL.out, z32_len]) (hkCells_one _ _)) ?_
  go_wp2_with fail
  refine ret_mark1 rfl HHL.out rfl rfl (setRow_heap _ _ _ _ _ _ HG61.out) ?_
  have hbz : Below w.heap.size w6 (w6.setRow w.heap.size (hkCells hh k).toArray) := below_setRow (Below.refl _ _) (Nat.le_refl _) _
  refine ⟨?_, HR6.out.low hbz HGW.out, grown_low HW6.out hbz (Nat.le_refl _) (Nat.le_trans HW6.out.size hbz.size)⟩
  rw [← hhd, ← HKD.out]
end Go.Proofs.YtplbcbamnjnhlaaDoor
