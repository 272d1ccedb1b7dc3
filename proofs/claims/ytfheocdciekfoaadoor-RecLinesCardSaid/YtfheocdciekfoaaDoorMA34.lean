/- Texts of this proof joined: LineLaw, Seven2, RecIndex. -/
import Derived.Test.YtfheocdciekfoaaDoorMA33
import Derived.Test.YtfheocdciekfoaaDoorMA28
/- The plain law of lines: one record a line; all records at the beginning of bytes. -/
namespace Go.Proofs.YtfheocdciekfoaaDoor
open Go.RowKit

/-- the record of a line's content (without the line feed) -/
def bodyL (x : List UInt8) : Option RecD := match sevUnpack x with
  | none => none
  | some b => match frameOpen b with
    | none => none
    | some (k, load) => if okT (k.toNat : Nat) load = true then some (decR (k.toNat : Nat) load) else none
/-- the record of a line -/
def parseL (l : List UInt8) : Option RecD := if 1 ≤ l.length ∧ l.getD (l.length - 1) 0 = 10 then bodyL (l.take (l.length - 1)) else none
def frameR (r : RecD) : List UInt8 := frameSeal (UInt8.ofNat r.kind.toNat) (loadL r)
theorem lineL_eq (r : RecD) : lineL r = sevPack (frameR r) ++ [10] := rfl
theorem kind_u8 {r : RecD} (h : GoodR r) : (((UInt8.ofNat r.kind.toNat).toNat : Nat) : Int) = r.kind := by
  have hk := right_kind h.1
  simp
  omega
theorem bodyL_line {r : RecD} (h : GoodR r) : bodyL (sevPack (frameR r)) = some r := by
  have hl := loadL_le r h.2.1 h.2.2 h.1
  have hd := load_dec h
  unfold bodyL
  rw [sevUnpack_pack]
  simp only
  rw [frameR, frameOpen_seal _ _ (by omega)]
  simp only
  rw [kind_u8 h, if_pos hd.1, hd.2]
theorem parseL_line {r : RecD} (h : GoodR r) : parseL (lineL r) = some r := by
  unfold parseL
  rw [lineL_eq, List.length_append, List.length_singleton, Nat.add_sub_cancel, List.take_left]
  have : (sevPack (frameR r) ++ [(10 : UInt8)]).getD (sevPack (frameR r)).length 0 = 10 := by simp [List.getD_eq_getElem?_getD]
  rw [this, if_pos ⟨by omega, rfl⟩, bodyL_line h]
theorem bodyL_some {x : List UInt8} {r : RecD} (h : bodyL x = some r) : GoodR r ∧ x = sevPack (frameR r) := by
  unfold bodyL at h
  cases hb : sevUnpack x with
  | none => rw [hb] at h; cases h
  | some b =>
    rw [hb] at h
    simp only at h
    cases hf : frameOpen b with
    | none => rw [hf] at h; cases h
    | some kl =>
      obtain ⟨k, load⟩ := kl
      rw [hf] at h
      simp only at h
      by_cases ho : okT (k.toNat : Nat) load = true
      · rw [if_pos ho] at h
        injection h with h
        subst h
        obtain ⟨h1, h2, h3⟩ := dec_load ho
        obtain ⟨h4, _⟩ := frameOpen_some hf
        refine ⟨h1, ?_⟩
        rw [sevPack_unpack hb, frameR, h2, h3, h4]
        congr 2
        have : ((k.toNat : Int)).toNat = k.toNat := rfl
        rw [this]
        simp
      · rw [if_neg ho] at h; cases h
theorem parseL_some {l : List UInt8} {r : RecD} (h : parseL l = some r) : GoodR r ∧ l = lineL r := by
  unfold parseL at h
  by_cases hc : 1 ≤ l.length ∧ l.getD (l.length - 1) 0 = 10
  · rw [if_pos hc] at h
    obtain ⟨h1, h2⟩ := bodyL_some h
    refine ⟨h1, ?_⟩
    rw [lineL_eq, ← h2]
    have hl : l.length - 1 < l.length := by omega
    have e : l[l.length - 1] = 10 := by have := hc.2; rwa [List.getD_eq_getElem?_getD, List.getElem?_eq_getElem hl] at this
    have e2 := List.take_append_getElem hl
    rw [e] at e2
    rw [e2, Nat.sub_add_cancel hc.1, List.take_length]
  · rw [if_neg hc] at h; cases h
theorem sev_high (x : List UInt8) : ∀ c ∈ sevPack x, 128 ≤ c.toNat := by
  intro c hc
  have := List.all_eq_true.1 (highB_sevOf ((8 * x.length + 6) / 7) (v256 x)) c hc
  simpa using this
theorem line_get {r : RecD} {j : Nat} (h : j < (sevPack (frameR r)).length) (h' : j < (lineL r).length) : 128 ≤ ((lineL r)[j]'h').toNat := by
  simp only [lineL_eq, List.getElem_append_left h]
  exact sev_high _ _ (List.getElem_mem _)
theorem line_len (r : RecD) : (lineL r).length = (sevPack (frameR r)).length + 1 := by rw [lineL_eq, List.length_append]; rfl
theorem line_last (r : RecD) (h : (sevPack (frameR r)).length < (lineL r).length) : (lineL r)[(sevPack (frameR r)).length]'h = 10 := by
  simp [lineL_eq]
/-- where the first line feed stands -/
def FeedAt (c : List UInt8) (n : Nat) : Prop := c[n]? = some 10 ∧ ∀ j, j < n → c[j]? ≠ some 10
theorem FeedAt.one {c : List UInt8} {n m : Nat} (h1 : FeedAt c n) (h2 : FeedAt c m) : n = m := by
  rcases Nat.lt_trichotomy n m with h | h | h
  · exact absurd h1.1 (h2.2 n h)
  · exact h
  · exact absurd h2.1 (h1.2 m h)
theorem feed_line (r : RecD) (c : List UInt8) : FeedAt (lineL r ++ c) ((lineL r).length - 1) := by
  have hl := line_len r
  refine ⟨?_, fun j hj he => ?_⟩
  · rw [List.getElem?_append_left (by omega)]
    rw [List.getElem?_eq_getElem (by omega)]
    congr 1
    have := line_last r (by omega)
    simpa [hl] using this
  · rw [List.getElem?_append_left (by omega), List.getElem?_eq_getElem (by omega)] at he
    injection he with he
    have := line_get (r := r) (j := j) (by omega) (by omega)
    rw [he] at this
    exact absurd this (by decide)
/-- no record stands at the beginning -/
def Stuck (c : List UInt8) : Prop := ∀ n, FeedAt c n → parseL (c.take (n + 1)) = none
theorem not_stuck {r : RecD} (h : GoodR r) (c : List UInt8) : ¬ Stuck (lineL r ++ c) := by
  intro hs
  have := hs _ (feed_line r c)
  have hl := line_len r
  rw [Nat.sub_add_cancel (by omega), List.take_left, parseL_line h] at this
  cases this
theorem line_inj {r r' : RecD} {c c' : List UInt8} (h : GoodR r) (h' : GoodR r') (he : lineL r ++ c = lineL r' ++ c') : r = r' ∧ c = c' := by
  have h1 := feed_line r c
  have h2 := feed_line r' c'
  rw [he] at h1
  have hl := line_len r
  have hl' := line_len r'
  have hn := h1.one h2
  have hll : (lineL r).length = (lineL r').length := by omega
  obtain ⟨h3, h4⟩ := List.append_inj he hll
  refine ⟨?_, h4⟩
  have := parseL_line h
  rw [h3, parseL_line h'] at this
  injection this with this
  exact this.symm
/-- the records at the beginning of bytes, and how many bytes they have -/
structure AllTo (b : List UInt8) (rs : List RecD) (n : Nat) : Prop where
  le : n ≤ b.length
  lines : b.take n = rs.flatMap lineL
  good : ∀ r ∈ rs, GoodR r
  stuck : Stuck (b.drop n)
theorem all_nil_cons {r : RecD} {rs' : List RecD} {b : List UInt8} {n n' : Nat} (h : AllTo b [] n) (h' : AllTo b (r :: rs') n') : False := by
  have h1 := congrArg List.length h.lines
  have := h.le
  rw [List.length_take] at h1
  simp only [List.flatMap_nil, List.length_nil] at h1
  have e : b = lineL r ++ (rs'.flatMap lineL ++ b.drop n') := by
    conv => lhs; rw [← List.take_append_drop n' b, h'.lines, List.flatMap_cons, List.append_assoc]
  have hl := line_len r
  have hbl := congrArg List.length e
  rw [List.length_append] at hbl
  have hn0 : n = 0 := by omega
  subst hn0
  have hs := h.stuck
  rw [List.drop_zero, e] at hs
  exact not_stuck (h'.good r (by simp)) _ hs
theorem all_one : ∀ {rs rs' : List RecD} {b : List UInt8} {n n' : Nat}, AllTo b rs n → AllTo b rs' n' → rs = rs' ∧ n = n'
  | [], [], b, n, n', h, h' => by
    have h1 := congrArg List.length h.lines
    have h2 := congrArg List.length h'.lines
    have := h.le
    have := h'.le
    rw [List.length_take] at h1 h2
    simp only [List.flatMap_nil, List.length_nil] at h1 h2
    exact ⟨rfl, by omega⟩
  | [], r :: rs', b, n, n', h, h' => (all_nil_cons h h').elim
  | r :: rs, [], b, n, n', h, h' => (all_nil_cons h' h).elim
  | r :: rs, r' :: rs', b, n, n', h, h' => by
    have e : b = lineL r ++ (rs.flatMap lineL ++ b.drop n) := by
      conv => lhs; rw [← List.take_append_drop n b, h.lines, List.flatMap_cons, List.append_assoc]
    have e' : b = lineL r' ++ (rs'.flatMap lineL ++ b.drop n') := by
      conv => lhs; rw [← List.take_append_drop n' b, h'.lines, List.flatMap_cons, List.append_assoc]
    obtain ⟨rfl, ec⟩ := line_inj (h.good r (by simp)) (h'.good r' (by simp)) (e.symm.trans e')
    have lenL := congrArg List.length h.lines
    have lenL' := congrArg List.length h'.lines
    have hle := h.le
    have hle' := h'.le
    rw [List.length_take, List.flatMap_cons, List.length_append] at lenL lenL'
    have t : AllTo (rs.flatMap lineL ++ b.drop n) rs (n - (lineL r).length) := by
      refine ⟨?_, ?_, fun x hx => h.good x (by simp [hx]), ?_⟩
      · rw [List.length_append]; omega
      · rw [show n - (lineL r).length = (rs.flatMap lineL).length by omega, List.take_left]
      · rw [show n - (lineL r).length = (rs.flatMap lineL).length by omega, List.drop_left]
        exact h.stuck
    have t' : AllTo (rs.flatMap lineL ++ b.drop n) rs' (n' - (lineL r).length) := by
      rw [ec]
      refine ⟨?_, ?_, fun x hx => h'.good x (by simp [hx]), ?_⟩
      · rw [List.length_append]; omega
      · rw [show n' - (lineL r).length = (rs'.flatMap lineL).length by omega, List.take_left]
      · rw [show n' - (lineL r).length = (rs'.flatMap lineL).length by omega, List.drop_left]
        exact h'.stuck
    obtain ⟨rfl, hn⟩ := all_one t t'
    exact ⟨rfl, by omega⟩
end Go.Proofs.YtfheocdciekfoaaDoor
/- Contracts of seven.Whole, Unpack, for any bytes, every world. -/
namespace Go.Proofs.YtfheocdciekfoaaDoor
open Go.RowKit

theorem highB_take (l : List UInt8) (k : Nat) (h : k < l.length) : highB (l.take (k + 1)) = (highB (l.take k) && decide (128 ≤ l[k].toNat)) := by
  unfold highB
  rw [List.take_succ_eq_append_getElem h, List.all_append]
  simp only [List.all_cons, List.all_nil, Bool.and_true]
theorem highB_low (l : List UInt8) (k : Nat) (h : k < l.length) (hb : l[k].toNat < 128) : highB l = false := by
  unfold highB
  rw [List.all_eq_false]
  exact ⟨l[k], List.getElem_mem h, by simp; omega⟩
set_option maxRecDepth 100000 in
theorem whole_any (l : List UInt8) (A : Option Addr) (c B : Nat) (w : World) (hr : Rd w B A (bcells l)) (hl : l.length ≤ 1099511627776) :
    Calls Tryd.prog 76 #[.slice A l.length c] w fun e w' => e = .returned (.bool (highB l)) ∧ w = w' := by
  have HR := Lib.hid hr
  clear hr
  go_enter Tryd.func76, Tryd.ntmps76
  go_wp2_with fail
  go_loop [6] (fun v6 => ∃ k : Nat, k ≤ l.length ∧ v6 = .int .i64 k ∧ Hid (highB (l.take k) = true)) (fun v6 => l.length - (intOf v6).toNat)
  case atStart => exact ⟨0, by omega, rfl, rfl⟩
  case round =>
    obtain ⟨k, hk, rfl, hh⟩ := hrel
    by_cases hlt : k < l.length
    · obtain ⟨ab, ao, rfl, hab, hcell⟩ := HR.out.byte hlt
      by_cases hb : l[k].toNat < 128
      · have HL := Lib.hid (highB_low l k hlt hb)
        go_wp2
        go_ret
        exact ⟨rt1 (vbool HL.out.symm), rfl⟩
      · have HL := Lib.hid (show highB (l.take (k + 1)) = true by rw [highB_take l k hlt, hh.out]; simp; omega)
        go_wp2
        go_round
        case rel => exact ⟨k + 1, by omega, by go_num, HL.out⟩
        case measure => simp [intOf]; omega
    · have hkl : k = l.length := by omega
      subst hkl
      rw [List.take_length] at hh
      go_wp2
      go_ret
      exact ⟨rt1 (vbool hh.out.symm), rfl⟩

theorem bytesOfNat_snoc (n v : Nat) : bytesOfNat (n + 1) v = bytesOfNat n v ++ [UInt8.ofNat (v / 256 ^ n % 256)] := by simp [bytesOfNat, digs_snoc]
/-- one packed byte more -/
theorem un_byte (l : List UInt8) (c : UInt8) (i k : Nat) (h : 8 * i + k = 7 * l.length) :
    v128 (l ++ [c]) / 256 ^ i = v128 l / 256 ^ i + c.toNat % 128 * 2 ^ k ∧ bytesOfNat i (v128 (l ++ [c])) = bytesOfNat i (v128 l) := by
  have e : 128 ^ l.length = 2 ^ k * 256 ^ i := by rw [pow_256, pow_128, ← Nat.pow_add]; congr 1; omega
  rw [v128_snoc, e, ← Nat.mul_assoc]
  refine ⟨?_, ?_⟩
  · rw [Nat.add_mul_div_right _ _ (Nat.pow_pos (by omega))]
  · unfold bytesOfNat
    rw [digs_add_mul 256 (by omega)]
theorem un_rest (l : List UInt8) (i k : Nat) (h : 8 * i + k = 7 * l.length) : v128 l / 256 ^ i < 2 ^ k := by
  have e : 128 ^ l.length = 2 ^ k * 256 ^ i := by rw [pow_256, pow_128, ← Nat.pow_add]; congr 1; omega
  have := v128_lt l
  rw [e] at this
  exact Nat.div_lt_of_lt_mul (by rw [Nat.mul_comm]; exact this)
theorem and_127b (c : Nat) (hc : c < 256) : bits .and .u8 (c : Int) 127 = ((c % 128 : Nat) : Int) := by
  rw [show (127 : Int) = ((127 : Nat) : Int) by rfl, u8_and_nat _ _ hc (by omega), show (127 : Nat) = 2 ^ 7 - 1 by decide, Nat.and_two_pow_sub_one_eq_mod]
def UnpackTo (w : World) (r : Option (List UInt8)) (e : Ending) (w' : World) : Prop :=
  Below w.heap.size w w' ∧ match r with
  | none => e = .returned (.tuple #[.slice none 0 0, .bool false])
  | some t => ∃ v, e = .returned (.tuple #[v, .bool true]) ∧ w'.ownsRow w.heap.size 5 1 v t.length (bcells t)
set_option maxRecDepth 100000 in
set_option maxHeartbeats 1000000 in
theorem unpack_any (l : List UInt8) (A : Option Addr) (c B : Nat) (w : World) (hr : Rd w B A (bcells l)) (hB : B ≤ w.heap.size) (hl : l.length ≤ 68719476736) :
    Calls Tryd.prog 44 #[.slice A l.length c] w (UnpackTo w (sevUnpack l)) := by
  have HR := Lib.hid hr
  clear hr
  obtain ⟨n, hn⟩ : ∃ n, n = l.length * 7 / 8 := ⟨_, rfl⟩
  have HN := Lib.hid hn
  have hnl : n ≤ l.length := by omega
  have hni : ((l.length : Int) * 7) / 8 = (n : Int) := by omega
  by_cases hh : highB l = true
  · by_cases hle : (8 * n + 6) / 7 = l.length
    · have hle2 : ((8 * (n : Int) + 6) / 7 != (l.length : Int)) = false := by simp; omega
      have HH := Lib.hid hh
      have HLE := Lib.hid hle
      clear hn hle
      go_enter Tryd.func44, Tryd.ntmps44
      go_wp2_with fail
      refine (whole_any l A c B w HR.out (by omega)).mono ?_
      rintro e w1 ⟨rfl, rfl⟩
      rw [HH.out]
      go_wp2_with fail
      go_loopw [5, 6, 7, 28] (fun v5 v6 v7 v28 wr => ∃ j i k r : Nat, j ≤ l.length ∧ v28 = .int .i64 j ∧ k < 8 ∧ 8 * i + k = 7 * j ∧ v7 = .int .i64 k ∧ v6 = .int .u64 r ∧ r < 256 ∧ Hid (r = v128 (l.take j) / 256 ^ i) ∧
        wr.ownsRow w.heap.size 5 1 v5 i (bcells (bytesOfNat i (v128 (l.take j)))) ∧ Below w.heap.size w wr) (fun _ _ _ v28 _ => l.length - (intOf v28).toNat)
      case atStart => exact ⟨0, 0, 0, 0, by omega, rfl, by omega, rfl, rfl, rfl, by omega, (by show _ = _; simp [v128, ofDigs]), World.ownsRow_nil _ _ _ _, Below.refl _ _⟩
      case round =>
        obtain ⟨j, i, k, r, hj, rfl, hk8, hik, rfl, rfl, hr256, hre, hown, hbr⟩ := hrel
        have hsz := hbr.size
        by_cases hlt : j < l.length
        · obtain ⟨ab, ao, rfl, hab, hcell⟩ := (HR.out.below (hbr.mono hB)).byte hlt
          have hb8 := l[j].toNat_lt
          have ha := and_127b l[j].toNat hb8
          have hlj : (l.take j).length = j := by rw [List.length_take]; omega
          have hrk : r < 2 ^ k := by rw [hre.out]; exact un_rest _ i k (by rw [hlj]; exact hik)
          have UB := Lib.hid (un_byte (l.take j) l[j] i k (by rw [hlj]; exact hik))
          have HT := Lib.hid (show l.take (j + 1) = l.take j ++ [l[j]] from List.take_succ_eq_append_getElem hlt)
          obtain ⟨d, hd⟩ : ∃ d, d = l[j].toNat % 128 := ⟨_, rfl⟩
          rw [← hd] at ha
          have hd128 : d < 128 := by omega
          have ho := or_shl r d k hrk (by omega) (by omega)
          have HD := Lib.hid hd
          clear hlj hrk hd
          have h1 : r + d * 2 ^ k = v128 (l.take (j + 1)) / 256 ^ i := by rw [HT.out, UB.out.1, ← hre.out, ← HD.out]
          have H1 := Lib.hid h1
          have h4 : r + d * 2 ^ k < 32768 := by
            rw [h1]
            have h2 := un_rest (l.take (j + 1)) i (k + 7) (by rw [List.length_take, Nat.min_eq_left (by omega)]; omega)
            have h3 : 2 ^ (k + 7) ≤ 2 ^ 15 := Nat.pow_le_pow_right (by omega) (by omega)
            omega
          clear h1
          have hs : ((r : Int) + (d : Int) * 2 ^ k) = ((r + d * 2 ^ k : Nat) : Int) := by simp
          obtain ⟨x, hx⟩ : ∃ x, x = r + d * 2 ^ k := ⟨_, rfl⟩
          rw [← hx] at hs h4 H1 ho
          have HX := Lib.hid hx
          have HS := Lib.hid hs
          clear hx hs
          by_cases hk1 : 8 ≤ k + 7
          · go_wp2_with (at_builtin; refine wpList_app u8_ty rfl rfl rfl rfl (hown.alloc _) (Rd.row (B := wr.heap.size + 1) (Go.heap_alloc_new wr _) (by omega)) rfl (by simp [Value.oneCell']) ?h63 ?hby ?hbase ?_)
            case h63 => simp only [maxLen]; omega
            case hby => omega
            case hbase => simp; omega
            intro v1 w3 hown3 hg3 _ _
            have HO := Lib.hid hown3
            have HG3 := Lib.hid hg3
            clear hown3 hg3
            go_wp2
            go_roundw
            case rel =>
              refine ⟨j + 1, i + 1, k - 1, x / 256, by omega, by go_num, by omega, by omega, vint (by omega), by rfl, by omega, ?_, ?_, grown_below (hbr.alloc hsz _) HG3.out (hown.alloc _) (Nat.le_refl _) (by simp; omega)⟩
              · show _ = _
                rw [H1.out, Nat.div_div_eq_div_mul, ← Nat.pow_succ]
              · have h := HO.out
                rw [bytesOfNat_snoc, HT.out, UB.out.2, ← HT.out, ← H1.out, bcells_append]
                have e : bcells [UInt8.ofNat (x % 256)] = [.int .u8 ((x : Int) % 256)] := by simp [bcells, bcell]
                rw [e]
                exact h
            case measure => simp [intOf]; omega
          · have hk0 : k = 0 := by omega
            subst hk0
            have HO0 := Lib.hid ho
            clear ho
            go_wp2
            go_roundw
            case rel =>
              have e0 : bits .or .u64 (r : Int) (d : Int) = (x : Int) := by
                have h := HO0.out
                rw [Int.pow_zero, Int.mul_one, IntKind.wrap_u64, Int.emod_eq_of_lt (by omega) (by omega)] at h
                exact h
              refine ⟨j + 1, i, 7, x, by omega, by go_num, by omega, by omega, rfl, vint e0, ?_, H1.out, ?_, hbr⟩
              · rw [H1.out]
                have h2 := un_rest (l.take (j + 1)) i 7 (by rw [List.length_take, Nat.min_eq_left (by omega)]; omega)
                omega
              · rw [HT.out, UB.out.2]; exact hown
            case measure => simp [intOf]; omega
        · have hjl : j = l.length := by omega
          subst hjl
          have hin : i = n := by have := HN.out; omega
          subst hin
          rw [List.take_length] at hre hown
          by_cases hr0 : r = 0
          · have HU := Lib.hid (show sevUnpack l = some (bytesOfNat i (v128 l)) by
              have hlt' : v128 l < 256 ^ i := by
                have h1 := hre.out
                rw [hr0] at h1
                rcases Nat.lt_or_ge (v128 l) (256 ^ i) with h | h
                · exact h
                · have := Nat.div_pos h (Nat.pow_pos (by omega)); omega
              unfold sevUnpack
              simp only [← HN.out]
              rw [if_pos ⟨HH.out, HLE.out, hlt'⟩])
            subst hr0
            go_wp2
            go_ret2
            refine ⟨hbr, ?_⟩
            rw [HU.out]
            exact ⟨_, rfl, by rw [bytesOfNat_length]; exact hown⟩
          · have HU := Lib.hid (show sevUnpack l = none by
              unfold sevUnpack
              simp only [← HN.out]
              rw [if_neg]
              rintro ⟨_, _, h⟩
              apply hr0
              rw [hre.out]
              exact Nat.div_eq_of_lt h)
            have hr1 : ((r : Int) != 0) = true := by simp; omega
            go_wp2
            go_ret2
            refine ⟨hbr, ?_⟩
            rw [HU.out]
            rfl
    · have hle2 : ((8 * (n : Int) + 6) / 7 != (l.length : Int)) = true := by simp; omega
      have HU := Lib.hid (show sevUnpack l = none by
        unfold sevUnpack
        simp only [← HN.out]
        rw [if_neg]
        rintro ⟨_, h, _⟩
        exact hle h)
      have HH := Lib.hid hh
      clear hn hle
      go_enter Tryd.func44, Tryd.ntmps44
      go_wp2_with fail
      refine (whole_any l A c B w HR.out (by omega)).mono ?_
      rintro e w1 ⟨rfl, rfl⟩
      rw [HH.out]
      go_wp2
      go_ret2
      refine ⟨Below.refl _ _, ?_⟩
      rw [HU.out]
      rfl
  · have hh2 : highB l = false := by simpa using hh
    have HU := Lib.hid (show sevUnpack l = none by
      unfold sevUnpack
      simp only
      rw [if_neg]
      rintro ⟨h, _, _⟩
      exact hh h)
    have HH := Lib.hid hh2
    clear hn hh hh2
    go_enter Tryd.func44, Tryd.ntmps44
    go_wp2_with fail
    refine (whole_any l A c B w HR.out (by omega)).mono ?_
    rintro e w1 ⟨rfl, rfl⟩
    rw [HH.out]
    go_wp2
    go_ret2
    refine ⟨Below.refl _ _, ?_⟩
    rw [HU.out]
    rfl
end Go.Proofs.YtfheocdciekfoaaDoor
/- Contract of slices.Index at bytes. -/
namespace Go.Proofs.YtfheocdciekfoaaDoor
open Go.RowKit

/-- where a byte stands first, or -1 -/
def IndexTo (l : List UInt8) (x : UInt8) (e : Ending) : Prop := (∃ n : Nat, e = .returned (.int .i64 n) ∧ l[n]? = some x ∧ ∀ j : Nat, j < n → l[j]? ≠ some x) ∨ (e = .returned (.int .i64 (-1)) ∧ ∀ j : Nat, l[j]? ≠ some x)
set_option maxRecDepth 100000 in
theorem index_any (l : List UInt8) (x : UInt8) (A : Option Addr) (c B : Nat) (w : World) (hr : Rd w B A (bcells l)) (hl : l.length ≤ 1099511627776) :
    Calls Tryd.prog 54 #[.slice A l.length c, .int .u8 (x.toNat : Nat)] w fun e w' => IndexTo l x e ∧ w = w' := by
  have HR := Lib.hid hr
  clear hr
  obtain ⟨xn, hx⟩ : ∃ xn, xn = x.toNat := ⟨_, rfl⟩
  rw [← hx]
  have HX := Lib.hid hx
  clear hx
  go_enter Tryd.func54, Tryd.ntmps54
  go_wp2_with fail
  go_loop [8] (fun v8 => ∃ k : Nat, k ≤ l.length ∧ v8 = .int .i64 k ∧ Hid (∀ j : Nat, j < k → l[j]? ≠ some x)) (fun v8 => l.length - (intOf v8).toNat)
  case atStart => exact ⟨0, by omega, rfl, fun j hj => absurd hj (by omega)⟩
  case round =>
    obtain ⟨k, hk, rfl, hh⟩ := hrel
    by_cases hlt : k < l.length
    · obtain ⟨ab, ao, rfl, hab, hcell⟩ := HR.out.byte hlt
      obtain ⟨d, hd⟩ : ∃ d, d = l[k].toNat := ⟨_, rfl⟩
      rw [← hd] at hcell
      by_cases hb : xn = d
      · have HL := Lib.hid (show l[k]? = some x by rw [List.getElem?_eq_getElem hlt]; congr 1; apply UInt8.toNat_inj.1; rw [← hd, ← hb, HX.out])
        subst hb
        clear hd
        go_wp2
        go_ret
        exact ⟨Or.inl ⟨k, rfl, HL.out, hh.out⟩, rfl⟩
      · have HL := Lib.hid (show ∀ j : Nat, j < k + 1 → l[j]? ≠ some x by
          intro j hj he
          by_cases hjk : j = k
          · subst hjk
            rw [List.getElem?_eq_getElem hlt] at he
            injection he with he
            exact hb (by rw [HX.out, hd, he])
          · exact hh.out j (by omega) he)
        have hne : ((xn : Int) == (d : Int)) = false := by simp; omega
        clear hd
        go_wp2
        go_round
        case rel => exact ⟨k + 1, by omega, by go_num, HL.out⟩
        case measure => simp [intOf]; omega
    · have HL := Lib.hid (show ∀ j : Nat, l[j]? ≠ some x by
        intro j he
        by_cases hj : j < k
        · exact hh.out j hj he
        · rw [List.getElem?_eq_none (by omega)] at he; cases he)
      go_wp2
      go_ret
      exact ⟨Or.inr ⟨rfl, HL.out⟩, rfl⟩
end Go.Proofs.YtfheocdciekfoaaDoor
