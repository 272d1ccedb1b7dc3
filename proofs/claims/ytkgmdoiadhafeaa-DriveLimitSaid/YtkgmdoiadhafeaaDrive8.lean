/- Walks of drive.Begin and drive.Parse. -/
import Derived.Test.YtkgmdoiadhafeaaDrive7
namespace Go.Proofs.Ytkgmdoiadhafeaa
open Go.RowKit

def st0 : St := { stack := [0], at_ := 0, rules := [], failed := false }
theorem heap_three (w : World) (a b c : Obj) : (((w.alloc a).alloc b).alloc c).heap[w.heap.size]? = some a ∧ (((w.alloc a).alloc b).alloc c).heap[w.heap.size + 1]? = some b ∧ (((w.alloc a).alloc b).alloc c).heap[w.heap.size + 2]? = some c := by
  refine ⟨?_, ?_, ?_⟩
  · rw [Below.heap_alloc _ _ _ (by simp; omega), Below.heap_alloc _ _ _ (by simp)]
    exact heap_alloc_new w a
  · rw [Below.heap_alloc _ _ _ (by simp)]
    exact heap_two w a b
  · have := heap_two (w.alloc a) b c
    rwa [World.size_alloc] at this
def BeginTo (v1 v2 v3 v4 : Value) (k : Int) (s : ByteArray) (w : World) (b : Bool) (e : Ending) (w' : World) : Prop := Below w.heap.size w w' ∧
  ((b = true ∧ ∃ p r vs, e = .returned (.pointer (some ⟨r, 0, none⟩)) ∧ RunR { base := w.heap.size, p := p, r := r, s := s, v1 := v1, v2 := v2, v3 := v3, v4 := v4, k := k.toNat } w' vs (.slice none 0 0) st0) ∨ (b = false ∧ e = .returned (.pointer none)))
set_option maxRecDepth 100000 in
set_option maxHeartbeats 3200000 in
theorem begin_any (v1 v2 v3 v4 : Value) (g : Gram) (k : Int) (ms : List Mach) (s : ByteArray) (w : World) (hsz : g.1.length + g.2.1.length ≤ 4611686018427387904) (h1 : SlR eStr w w.heap.size v1 g.1) (h2 : SlR eStr w w.heap.size v2 g.2.1) (h3 : SlR eRule w w.heap.size v3 g.2.2) (h4 : SlR (eSl eState) w w.heap.size v4 ms) :
    Calls Try.prog 9 #[.agg #[v1, v2, v3], .int .i64 k, v4, .string s] w (BeginTo v1 v2 v3 v4 k s w (beginB g k ms)) := by
  obtain ⟨ns, ts, rs⟩ := g
  simp only at hsz h1 h2 h3
  have HG := Lib.hid (gramValid_any v1 v2 v3 ns ts rs)
  have HM := Lib.hid (may_any v1 v2 v3 v4 ns ts rs ms)
  obtain ⟨A1, c1, rfl, hc1, hc1'⟩ := h1.form
  obtain ⟨A2, c2, rfl, hc2, hc2'⟩ := h2.form
  obtain ⟨A3, c3, rfl, hc3, hc3'⟩ := h3.form
  obtain ⟨A4, c4, rfl, hc4, hc4'⟩ := h4.form
  by_cases hk : 1 ≤ k ∧ k ≤ 4
  case neg =>
    have HB : Hid (beginB (ns, ts, rs) k ms = false) := by
      show _ = _
      unfold beginB
      rw [decide_eq_false hk]
      rfl
    have hc : k < 1 ∨ (1 ≤ k ∧ 4 < k) := by omega
    rcases hc with h | ⟨h, h'⟩
    all_goals
      go_enter Try.func9, Try.ntmps9
      go_wp2_with fail
      all_goals first
        | (exfalso; omega)
        | (go_ret; exact ⟨by go_grown, .inr ⟨HB.out, rfl⟩⟩)
  obtain ⟨hk1, hk2⟩ := hk
  obtain ⟨W, hW⟩ : ∃ W, W = w.alloc (Obj.cells #[Value.slice A1 ns.length c1, Value.slice A2 ts.length c2, Value.slice A3 rs.length c3] 29) := ⟨_, rfl⟩
  have HB : Hid (beginB (ns, ts, rs) k ms = (gramB (ns, ts, rs) && mayB (ns, ts, rs) ms)) := by
    show _ = _
    unfold beginB
    rw [decide_eq_true ⟨hk1, hk2⟩]
    rfl
  go_enter Try.func9, Try.ntmps9
  go_wp2_with fail
  rw [← hW]
  have hb0 : Below w.heap.size w W := hW ▸ (Below.refl _ _).alloc (Nat.le_refl _) _
  have hs0 : W.heap.size = w.heap.size + 1 := by rw [hW]; simp
  refine (HG.out W hsz (h1.fut hb0 (Nat.le_refl _) (by omega)) (h2.fut hb0 (Nat.le_refl _) (by omega)) (h3.fut hb0 (Nat.le_refl _) (by omega))).mono ?_
  rintro e w1 ⟨rfl, hb1⟩
  rcases Bool.eq_false_or_eq_true (gramB (ns, ts, rs)) with hg | hg
  case inr =>
    have HGB := Lib.hid hg
    rw [hg]
    clear hg
    go_wp2_with fail
    go_ret
    exact ⟨hb0.trans (hb1.mono (by omega)), .inr ⟨by rw [HB.out, HGB.out]; rfl, rfl⟩⟩
  have HGB := Lib.hid hg
  rw [hg]
  clear hg
  have k0 : w1.cell? ⟨w.heap.size, 0, none⟩ = some (Value.slice A1 ns.length c1) := by rw [hb1.cell (p := ⟨w.heap.size, 0, none⟩) (by simp only []; omega), hW]; simp
  have k1 : w1.cell? ⟨w.heap.size, 1, none⟩ = some (Value.slice A2 ts.length c2) := by rw [hb1.cell (p := ⟨w.heap.size, 1, none⟩) (by simp only []; omega), hW]; simp
  have k2 : w1.cell? ⟨w.heap.size, 2, none⟩ = some (Value.slice A3 rs.length c3) := by rw [hb1.cell (p := ⟨w.heap.size, 2, none⟩) (by simp only []; omega), hW]; simp
  have hs1 := hb1.size
  have hb01 : Below w.heap.size w w1 := hb0.trans (hb1.mono (by omega))
  go_wp2_with fail
  refine (HM.out w1 (h1.fut hb01 (Nat.le_refl _) (by omega)) (h2.fut hb01 (Nat.le_refl _) (by omega)) (h3.fut hb01 (Nat.le_refl _) (by omega)) (h4.fut hb01 (Nat.le_refl _) (by omega))).mono ?_
  rintro e w2 ⟨rfl, hb2⟩
  have hs2 := hb2.size
  have hb02 : Below w.heap.size w w2 := hb01.trans (hb2.mono (by omega))
  have hg1 : w.heap.size < w1.heap.size := by omega
  have hg2 : w.heap.size < w2.heap.size := by omega
  have l0 := (hb2.cell (p := ⟨w.heap.size, 0, none⟩) hg1).trans k0
  have l1 := (hb2.cell (p := ⟨w.heap.size, 1, none⟩) hg1).trans k1
  have l2 := (hb2.cell (p := ⟨w.heap.size, 2, none⟩) hg1).trans k2
  rcases Bool.eq_false_or_eq_true (mayB (ns, ts, rs) ms) with hg | hg
  case inr =>
    have HMB := Lib.hid hg
    rw [hg]
    clear hg
    go_wp2_with fail
    go_ret
    exact ⟨hb02, .inr ⟨by rw [HB.out, HGB.out, HMB.out]; rfl, rfl⟩⟩
  have HMB := Lib.hid hg
  rw [hg]
  clear hg
  have HK : Hid (k.toNat = k) := by show _ = _; omega
  go_wp2_with fail
  go_ret
  refine ⟨hb02.trans (by go_grown), .inl ⟨by rw [HB.out, HGB.out, HMB.out]; rfl, w2.heap.size, w2.heap.size + 2, .slice (some ⟨w2.heap.size + 1, 0, none⟩) 1 1, rfl, ?_⟩⟩
  obtain ⟨q0, q1, q2⟩ := heap_three w2 (Obj.cells #[Value.string s, Value.int .i64 0] 54) (Obj.cells #[Value.int .i64 0] 3)
    (Obj.cells #[Value.pointer (some ⟨w2.heap.size, 0, none⟩), Value.slice A1 ns.length c1, Value.slice A2 ts.length c2, Value.slice A3 rs.length c3, Value.int .i64 k, Value.slice A4 ms.length c4, Value.slice (some ⟨w2.heap.size + 1, 0, none⟩) 1 1, Value.slice none 0 0, Value.bool false] 52)
  refine ⟨by show w.heap.size ≤ w2.heap.size; omega, by show w.heap.size ≤ w2.heap.size + 2; omega, by show w2.heap.size ≠ w2.heap.size + 2; omega, ?_, q0, ?_, World.ownsRow_nil _ _ _ _, fun g _ => by simp [Value.ownBlock]⟩
  · rw [q2]
    show _ = some (Obj.cells #[_, _, _, _, Value.int .i64 ((k.toNat : Nat) : Int), _, _, _, _] _ _)
    rw [HK.out]
    rfl
  · exact ⟨rfl, .inr ⟨w2.heap.size + 1, 1, #[.int .i64 0], rfl, by show w.heap.size ≤ w2.heap.size + 1; omega, q1, Nat.le_refl _, by simp [maxLen], rfl, rfl⟩⟩

/-- a whole run: the rules, where it stands, the kind of error -/
def parseD (rs : List (Int × List Int)) (ms : List Mach) (s : ByteArray) (k : Nat) : Nat → Nat → St → List Int × Nat × Int
  | 0, _, _ => ([], 0, 21)
  | fuel + 1, n, x =>
    if (stepD rs ms s k x).1 = true then
      if 100000 ≤ n ∨ 20000 < (stepD rs ms s k x).2.stack.length then ([], 0, 21) else parseD rs ms s k fuel (n + 1) (stepD rs ms s k x).2
    else if (stepD rs ms s k x).2.failed = true then ([], (stepD rs ms s k x).2.at_, 14) else ((stepD rs ms s k x).2.rules, (stepD rs ms s k x).2.at_, 0)
theorem parseD_succ (rs : List (Int × List Int)) (ms : List Mach) (s : ByteArray) (k fuel n : Nat) (x : St) : parseD rs ms s k (fuel + 1) n x =
    if (stepD rs ms s k x).1 = true then
      if 100000 ≤ n ∨ 20000 < (stepD rs ms s k x).2.stack.length then ([], 0, 21) else parseD rs ms s k fuel (n + 1) (stepD rs ms s k x).2
    else if (stepD rs ms s k x).2.failed = true then ([], (stepD rs ms s k x).2.at_, 14) else ((stepD rs ms s k x).2.rules, (stepD rs ms s k x).2.at_, 0) := rfl
def parseB (g : Gram) (k : Int) (ms : List Mach) (s : ByteArray) : List Int × Nat × Int := if beginB g k ms then parseD g.2.2 ms s k.toNat 100001 0 st0 else ([], 0, 1)
def ParseTo (w : World) (r : List Int × Nat × Int) (e : Ending) (w' : World) : Prop := ∃ v, e = .returned (.tuple #[v, .int .i64 r.2.1, .int .i64 r.2.2]) ∧ w'.ownsRow w.heap.size 3 1 v r.1.length (icells r.1) ∧ Below w.heap.size w w' ∧ ∀ y ∈ r.1, -9223372036854775808 ≤ y ∧ y ≤ 9223372036854775807
set_option maxRecDepth 100000 in
set_option maxHeartbeats 3200000 in
theorem parse_any (v1 v2 v3 v4 : Value) (g : Gram) (k : Int) (ms : List Mach) (s : ByteArray) (w : World) (hsz : g.1.length + g.2.1.length ≤ 4611686018427387904) (hs : s.size ≤ 1099511627776) (h1 : SlR eStr w w.heap.size v1 g.1) (h2 : SlR eStr w w.heap.size v2 g.2.1) (h3 : SlR eRule w w.heap.size v3 g.2.2) (h4 : SlR (eSl eState) w w.heap.size v4 ms) :
    Calls Try.prog 6 #[.agg #[v1, v2, v3], .int .i64 k, v4, .string s] w (ParseTo w (parseB g k ms s)) := by
  have HBG := Lib.hid (begin_any v1 v2 v3 v4 g k ms s)
  obtain ⟨A1, c1, e1, _, _⟩ := h1.form
  obtain ⟨A2, c2, e2, _, _⟩ := h2.form
  obtain ⟨A3, c3, e3, _, _⟩ := h3.form
  obtain ⟨A4, c4, e4, _, _⟩ := h4.form
  rw [e1, e2, e3, e4]
  obtain ⟨W, hW⟩ : ∃ W, W = w.alloc (Obj.cells #[Value.slice A1 g.1.length c1, Value.slice A2 g.2.1.length c2, Value.slice A3 g.2.2.length c3] 29) := ⟨_, rfl⟩
  have hb0 : Below w.heap.size w W := hW ▸ (Below.refl _ _).alloc (Nat.le_refl _) _
  have hs0 : W.heap.size = w.heap.size + 1 := by rw [hW]; simp
  have H1 := Lib.hid (h1.fut hb0 (Nat.le_refl _) (B' := W.heap.size) (by omega))
  have H2 := Lib.hid (h2.fut hb0 (Nat.le_refl _) (B' := W.heap.size) (by omega))
  have H3 := Lib.hid (h3.fut hb0 (Nat.le_refl _) (B' := W.heap.size) (by omega))
  have H4 := Lib.hid (h4.fut hb0 (Nat.le_refl _) (B' := W.heap.size) (by omega))
  have HB := Lib.hid (HBG.out W hsz H1.out H2.out H3.out H4.out)
  rw [e1, e2, e3, e4] at HB
  go_enter Try.func6, Try.ntmps6
  go_wp2_with fail
  rw [← hW]
  refine HB.out.mono ?_
  rintro e w1 ⟨hb1, ⟨hbt, p, r, vs, rfl, hrun⟩ | ⟨hbf, rfl⟩⟩
  case inr =>
    have HP : Hid (parseB g k ms s = ([], 0, 1)) := by
      show _ = _
      unfold parseB
      rw [hbf]
      rfl
    go_wp2_with fail
    go_ret3
    refine ⟨_, by rw [HP.out]; rfl, ?_, hb0.trans (hb1.mono (by omega)), ?_⟩
    · rw [HP.out]; exact World.ownsRow_nil _ _ _ _
    · rw [HP.out]; simp
  have hgm : gramB g = true ∧ mayB g ms = true ∧ 1 ≤ k ∧ k ≤ 4 := by
    unfold beginB at hbt
    simp only [Bool.and_eq_true, decide_eq_true_eq] at hbt
    exact ⟨hbt.1.2, hbt.2, hbt.1.1⟩
  obtain ⟨hg, hm, hk1, hk2⟩ := hgm
  have HF := Lib.hid (gram_fine hg hm h3)
  have HP : Hid (parseB g k ms s = parseD g.2.2 ms s k.toNat 100001 0 st0) := by
    show _ = _
    unfold parseB
    rw [hbt]
    rfl
  clear hg hm hbt
  obtain ⟨C, hC⟩ : ∃ C : Cfg, C = { base := W.heap.size, p := p, r := r, s := s, v1 := .slice A1 g.1.length c1, v2 := .slice A2 g.2.1.length c2, v3 := .slice A3 g.2.2.length c3, v4 := .slice A4 ms.length c4, k := k.toNat } := ⟨_, rfl⟩
  have hCr : C.r = r := by rw [hC]
  have hCb : C.base = W.heap.size := by rw [hC]
  have HCs : Hid (C.s = s) := by show _ = _; rw [hC]
  have HCk : Hid (C.k = k.toNat) := by show _ = _; rw [hC]
  have HC3 : Hid (C.v3 = v3) := by show _ = _; rw [hC, e3]
  have HC4 : Hid (C.v4 = v4) := by show _ = _; rw [hC, e4]
  rw [← hC] at hrun
  clear hC hW HB HBG
  subst hCr
  go_wp2_with fail
  go_loopw [12] (fun v12 wr => ∃ (n : Nat) (x : St) (vs vr : Value), v12 = .int .i64 n ∧ n ≤ 100000 ∧ RunR C wr vs vr x ∧ Hid (Inv s x) ∧ x.stack.length ≤ 20000 ∧ x.rules.length ≤ n ∧ Hid (parseB g k ms s = parseD g.2.2 ms s k.toNat (100001 - n) n x) ∧ Below W.heap.size W wr) (fun v12 _ => 100001 - (intOf v12).toNat)
  case atStart =>
    refine ⟨0, st0, vs, .slice none 0 0, rfl, by omega, hrun, ⟨Nat.zero_le _, fun y hy => ?_, fun y hy => absurd hy (by simp [st0])⟩, by simp [st0], by simp [st0], HP.out, hb1⟩
    simp [st0] at hy
    omega
  case round =>
    clear hrun hb1
    obtain ⟨n, x, vs, vr, rfl, hn, hrun, hinv, hls, hlr, hpd, hbr⟩ := hrel
    have hrd : Ready C wr x g.2.2 ms := ⟨by rw [HCs.out]; exact hs, by rw [HCs.out]; exact hinv.out.hat, by rw [HCk.out]; omega, by rw [HC3.out, hCb]; exact H3.out.below hbr, by rw [HC4.out, hCb]; exact H4.out.below hbr, HF.out.right, by omega, by omega, hinv.out.bs, hinv.out.br⟩
    have hstep := Lib.hid (step_any C wr vs vr x g.2.2 ms hrun hrd HF.out.may)
    rw [HCs.out, HCk.out] at hstep
    have hsi := stepD_inv (k := k.toNat) HF.out hinv.out
    obtain ⟨y, hy⟩ : ∃ y, y = (stepD g.2.2 ms s k.toNat x).2 := ⟨_, rfl⟩
    have hfu : 100001 - n = (100000 - n) + 1 := by omega
    rw [hfu] at hpd
    have hpe : Hid (parseB g k ms s = if (stepD g.2.2 ms s k.toNat x).1 = true then if 100000 ≤ n ∨ 20000 < y.stack.length then ([], 0, 21) else parseD g.2.2 ms s k.toNat (100000 - n) (n + 1) y else if y.failed = true then ([], y.at_, 14) else (y.rules, y.at_, 0)) := by
      show _ = _
      rw [hpd.out, hy, parseD_succ]
    rw [← hy] at hstep hsi
    obtain ⟨hyi, hyl, hyr⟩ := hsi
    have HYI := Lib.hid hyi
    clear hpd hrd hyi hy hfu
    go_wp2_with fail
    refine hstep.out.mono ?_
    rintro e w2 ⟨rfl, ⟨vs', vr', hrun'⟩, hb2⟩
    have hbn : Below W.heap.size W w2 := hbr.trans (hCb ▸ hb2)
    obtain ⟨As, cs, rfl, _, _⟩ := own_form hrun'.st
    obtain ⟨Ar, cr, rfl, _, _⟩ := own_form hrun'.ru
    obtain ⟨m0, _, _, _, _, _, m6, m7, m8, _, n1⟩ := hrun'.cells
    clear hstep hrun
    rcases Bool.eq_false_or_eq_true (stepD g.2.2 ms s k.toNat x).1 with hb | hb
    · rw [hb]
      have hpe2 : Hid (parseB g k ms s = if 100000 ≤ n ∨ 20000 < y.stack.length then ([], 0, 21) else parseD g.2.2 ms s k.toNat (100000 - n) (n + 1) y) := by
        show _ = _
        rw [hpe.out, hb]
        rw [if_pos rfl]
      clear hb hpe
      by_cases hlim : 100000 ≤ n ∨ 20000 < y.stack.length
      · have HR : Hid (parseB g k ms s = ([], 0, 21)) := by show _ = _; rw [hpe2.out, if_pos hlim]
        have hcc : 100000 ≤ n ∨ (n < 100000 ∧ 20000 < y.stack.length) := by omega
        clear hlim hpe2
        have hmn : w.heap.size ≤ W.heap.size := by omega
        rcases hcc with h | ⟨h, h'⟩
        · have hd : decide ((100000 : Int) ≤ (n : Int)) = true := decide_eq_true (by omega)
          clear h hn hlr
          go_wp2_with fail
          go_ret3
          refine ⟨_, by rw [HR.out]; rfl, ?_, hb0.trans (hbn.mono hmn), ?_⟩
          · rw [HR.out]; exact World.ownsRow_nil _ _ _ _
          · rw [HR.out]; simp
        · have hd : decide ((100000 : Int) ≤ (n : Int)) = false := decide_eq_false (by omega)
          have hd2 : decide ((20000 : Int) < (y.stack.length : Int)) = true := decide_eq_true (by omega)
          clear h hn hlr h' hyl hyr hls
          go_wp2_with fail
          go_ret3
          refine ⟨_, by rw [HR.out]; rfl, ?_, hb0.trans (hbn.mono hmn), ?_⟩
          · rw [HR.out]; exact World.ownsRow_nil _ _ _ _
          · rw [HR.out]; simp
      · have HR : Hid (parseB g k ms s = parseD g.2.2 ms s k.toNat (100001 - (n + 1)) (n + 1) y) := by
          show _ = _
          rw [hpe2.out, if_neg hlim, show 100001 - (n + 1) = 100000 - n by omega]
        obtain ⟨q1, q2⟩ : n < 100000 ∧ y.stack.length ≤ 20000 := by omega
        have hd : decide ((100000 : Int) ≤ (n : Int)) = false := decide_eq_false (by omega)
        have hd2 : decide ((20000 : Int) < (y.stack.length : Int)) = false := decide_eq_false (by omega)
        have HN : Hid (n < 100000 ∧ y.stack.length ≤ 20000 ∧ y.rules.length ≤ n + 1) := ⟨q1, q2, by omega⟩
        have hnw : (n : Int) < 200000 := by omega
        clear hlim hpe2 q1 q2 hn hlr hyl hyr hls
        go_wp2_with fail
        go_roundw
        case rel =>
          have hNN := HN.out
          exact ⟨n + 1, y, _, _, by go_num, by omega, hrun', HYI, hNN.2.1, by omega, HR, hbn⟩
        case measure =>
          have hNN := HN.out
          simp [intOf]
          omega
    · rw [hb]
      have hpe2 : Hid (parseB g k ms s = if y.failed = true then ([], y.at_, 14) else (y.rules, y.at_, 0)) := by
        show _ = _
        rw [hpe.out, hb]
        rw [if_neg (by decide)]
      clear hb hpe
      rcases Bool.eq_false_or_eq_true y.failed with hf | hf
      · have HR : Hid (parseB g k ms s = ([], y.at_, 14)) := by show _ = _; rw [hpe2.out, if_pos hf]
        rw [hf] at m8
        clear hpe2
        go_wp2_with fail
        refine Text.wp_text [] (by kernel_rfl) (by kernel_rfl) (fun Q' hQ' => ?_)
        go_wp2
        refine ⟨by rfl, ?_⟩
        go_wp2
        go_ret3
        refine ⟨_, by rw [HR.out]; rfl, ?_, (hb0.trans (hbn.mono (by omega))).drew, ?_⟩
        · rw [HR.out]; exact World.ownsRow_nil _ _ _ _
        · rw [HR.out]; simp
      · have HR : Hid (parseB g k ms s = (y.rules, y.at_, 0)) := by show _ = _; rw [hpe2.out, if_neg (by rw [hf]; decide)]
        rw [hf] at m8
        clear hpe2
        go_wp2_with fail
        refine Text.wp_text [] (by kernel_rfl) (by kernel_rfl) (fun Q' hQ' => ?_)
        go_wp2
        refine ⟨by rfl, ?_⟩
        go_wp2
        go_ret3
        refine ⟨_, by rw [HR.out]; rfl, ?_, (hb0.trans (hbn.mono (by omega))).drew, ?_⟩
        · rw [HR.out]; exact own_more hrun'.drew.ru (by rw [hCb]; omega)
        · rw [HR.out]; exact HYI.out.br
end Go.Proofs.Ytkgmdoiadhafeaa
