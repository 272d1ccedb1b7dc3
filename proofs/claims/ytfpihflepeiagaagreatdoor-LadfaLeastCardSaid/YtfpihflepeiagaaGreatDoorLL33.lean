/- Texts of this proof joined: Rf24c, Rf24d. -/
import Derived.Test.YtfpihflepeiagaaGreatDoorLL32
import Derived.Test.YtfpihflepeiagaaGreatDoorLL11
import Derived.BigQuiet
namespace Go.Proofs.YtfpihflepeiagaaGreatDoor
open Go.RowKit

theorem goR_cases (m : Mch) (s t : Nat) : (goR m s t = -1 ∧ goX m s t = m.length) ∨ (goR m s t = (goX m s t : Int) ∧ goX m s t < m.length) := by
  unfold goX goR
  split
  · cases h : stepI m s t with
    | none => exact .inl ⟨rfl, rfl⟩
    | some j => exact .inr ⟨rfl, step_lt h⟩
  · exact .inl ⟨rfl, rfl⟩
def apart0 (m : Mch) (i k : Nat) : Bool := outX m i != outX m k
theorem bl_of {M : List Bool} {L : Nat} {f : Nat → Bool} (hl : M.length = L + 1) (h : ∀ j < L + 1, atB M j = f j) : M = bl L f := by
  apply List.ext_getElem (by rw [bl_len, hl])
  intro j h1 h2
  rw [bl_at (by omega)]
  have := h j (by omega)
  rw [← this]
  unfold atB
  rw [List.getD_eq_getElem?_getD, List.getElem?_eq_getElem h1]
  rfl
theorem BoolsAt.blk {w : World} {x : Nat} {M : List Bool} {L : Nat} {f : Nat → Bool} (h : BoolsAt w x M) (hl : M.length = L + 1) (hf : ∀ j < L + 1, atB M j = f j) : BlkB w x L f := by
  have := bl_of hl hf
  subst this
  exact h
theorem roomF_put {n L : Nat} {F : Nat → Nat → Bool} {a p : Nat} (ha : a < n) (hp : p ≤ L) (h : F a p = false) : roomF n L (putO F a p) + 1 ≤ roomF n L F := by
  refine countP_lt _ (fun x _ hx => ?_) ⟨(a, p), mem_placesF ha hp, by simp [h], by simp [putO]⟩
  simp only [putO, Bool.not_or, Bool.and_eq_true] at hx
  exact hx.1
structure PassI (m : Mch) (tm : Nat) (F1 F : Nat → Nat → Bool) (more : Bool) (i k : Nat) : Prop where
  out : ∀ a ≤ m.length, ∀ b ≤ m.length, F a b = false → outX m a = outX m b
  room : roomF (m.length + 1) m.length F + more.toNat ≤ roomF (m.length + 1) m.length F1
  done : more = false → ∀ a ≤ m.length, ∀ b ≤ m.length, (a < i ∨ a = i ∧ b < k) → F a b = false → ∀ t < tm, F (goX m a t) (goX m b t) = false
def PassT (m : Mch) (F : Nat → Nat → Bool) (more : Bool) (i k t : Nat) : Prop := more = false → F i k = false → ∀ u < t, F (goX m i u) (goX m k u) = false
theorem PassI.start {m : Mch} {tm : Nat} {F : Nat → Nat → Bool} (h : ∀ a ≤ m.length, ∀ b ≤ m.length, F a b = false → outX m a = outX m b) : PassI m tm F F false 0 0 :=
  ⟨h, by simp, fun _ a _ b _ h2 => by omega⟩
theorem PassI.row {m : Mch} {tm : Nat} {F1 F : Nat → Nat → Bool} {more : Bool} {i : Nat} (h : PassI m tm F1 F more i (m.length + 1)) : PassI m tm F1 F more (i + 1) 0 :=
  ⟨h.out, h.room, fun hm a ha b hb h2 => h.done hm a ha b hb (by omega)⟩
theorem PassI.next {m : Mch} {tm : Nat} {F1 F : Nat → Nat → Bool} {more : Bool} {i k t : Nat} (h : PassI m tm F1 F more i k) (hT : PassT m F more i k t) (ht : F i k = true ∨ tm ≤ t) : PassI m tm F1 F more i (k + 1) :=
  ⟨h.out, h.room, fun hm a ha b hb h2 hf u hu => by
    by_cases e : a = i ∧ b = k
    · obtain ⟨rfl, rfl⟩ := e
      rcases ht with ht | ht
      · rw [ht] at hf; cases hf
      · exact hT hm hf u (by omega)
    · exact h.done hm a ha b hb (by omega) hf u hu⟩
theorem PassI.put {m : Mch} {tm : Nat} {F1 F : Nat → Nat → Bool} {more : Bool} {i k : Nat} (h : PassI m tm F1 F more i k) (hi : i ≤ m.length) (hk : k ≤ m.length) (hf : F i k = false) : PassI m tm F1 (putO F i k) true i k :=
  ⟨fun a ha b hb h2 => h.out a ha b hb (by unfold putO at h2; rw [Bool.or_eq_false_iff] at h2; exact h2.1), by
    have h1 := roomF_put (n := m.length + 1) (L := m.length) (F := F) (a := i) (p := k) (by omega) hk hf
    have h2 := h.room
    show _ + 1 ≤ _
    omega, fun hm => by cases hm⟩
theorem PassI.closed {m : Mch} {tm : Nat} {F1 F : Nat → Nat → Bool} (h : PassI m tm F1 F false (m.length + 1) 0) : ApartTo m m tm F :=
  ⟨h.out, fun i hi k hk hx t ht => h.done rfl i hi k hk (by omega) hx t (by omega)⟩
def ApTo (m : Mch) (tm : Nat) (w : World) (e : Ending) (w' : World) : Prop := ∃ A c fs F, e = .returned (.slice A (m.length + 1) c) ∧ m.length + 1 ≤ c ∧ c ≤ maxLen ∧ Sq w' w.heap.size (m.length + 1) m.length (.slice A (m.length + 1) c) fs F ∧ ApartTo m m tm F ∧ Below w.heap.size w w'
set_option maxRecDepth 100000 in
set_option maxHeartbeats 8000000 in
theorem apart24_any (A : Option Addr) (c tm : Nat) (m : Mach) (w : World) (hv : SlR eState w w.heap.size (.slice A m.length c) m) (hg : GoodM m) (hl : m.length ≤ 2199023255551) (htm : tm ≤ 4096) :
    Calls Tryz.prog 34 #[.slice A m.length c, .slice A m.length c, .int .i64 tm] w (ApTo m tm w) := by
  have hc1 := hv.n_le
  have HOUT := Lib.hid (fun (s : Nat) (w' : World) (hb : Below w.heap.size w w') => out24_any A c s m w' (hv.fut hb (Nat.le_refl _) hb.size))
  have HGO := Lib.hid (fun (s t : Nat) (w' : World) (hb : Below w.heap.size w w') => go24_any A c s t m w' (hv.fut hb (Nat.le_refl _) hb.size) hg)
  have HGX := Lib.hid (goX_le m)
  have HGC := Lib.hid (goR_cases m)
  clear hv hg
  obtain ⟨n, hn⟩ : ∃ n, n = m.length := ⟨_, rfl⟩
  have HN := Lib.hid hn
  rw [← hn] at hc1 hl HOUT HGO HGX HGC
  have HPOST := Lib.hid (show ∀ (A' : Option Addr) (c' : Nat) fs F w', n + 1 ≤ c' → c' ≤ maxLen → Sq w' w.heap.size (n + 1) n (.slice A' (n + 1) c') fs F → ApartTo m m tm F → Below w.heap.size w w' → ApTo m tm w (.returned (.slice A' (n + 1) c')) w' from fun A' c' fs F w' h1 h2 h3 h4 h5 => by rw [hn] at h1 h3 ⊢; exact ⟨A', c', fs, F, rfl, h1, h2, h3, h4, h5⟩)
  have HS0 := Lib.hid (show ∀ F, (∀ a ≤ n, ∀ b ≤ n, F a b = false → outX m a = outX m b) → PassI m tm F F false 0 0 from fun F h => PassI.start (by rw [← hn]; exact h))
  have HROW := Lib.hid (show ∀ F1 F more i, PassI m tm F1 F more i (n + 1) → PassI m tm F1 F more (i + 1) 0 from fun F1 F more i h => PassI.row (by rw [← hn]; exact h))
  have HPUT := Lib.hid (show ∀ F1 F more i k, PassI m tm F1 F more i k → i ≤ n → k ≤ n → F i k = false → PassI m tm F1 (putO F i k) true i k from fun F1 F more i k h h1 h2 h3 => h.put (by omega) (by omega) h3)
  have HCL := Lib.hid (show ∀ F1 F, PassI m tm F1 F false (n + 1) 0 → ApartTo m m tm F from fun F1 F h => PassI.closed (F1 := F1) (by rw [← hn]; exact h))
  have HROOM := Lib.hid (show ∀ F1 F more i k, PassI m tm F1 F more i k → roomF (n + 1) n F + more.toNat ≤ roomF (n + 1) n F1 from fun F1 F more i k h => by rw [hn]; exact h.room)
  have HOU := Lib.hid (show ∀ F1 F more i k, PassI m tm F1 F more i k → ∀ a ≤ n, ∀ b ≤ n, F a b = false → outX m a = outX m b from fun F1 F more i k h => by rw [hn]; exact h.out)
  rw [← hn]
  clear hn
  go_enter Tryz.func34, Tryz.ntmps34
  go_wp2_with fail
  go_loopg [8, 7] (n + 1) (fun left v8 v7 wr => ∃ (i : Nat) (fs : List Nat), i ≤ n + 1 ∧ n + 1 - i ≤ left ∧ v8 = .int .i64 i ∧ (∃ A c, v7 = .slice A i c ∧ i ≤ c ∧ c ≤ maxLen) ∧ Hid (Sq wr w.heap.size i n v7 fs (apart0 m)) ∧ Hid (Below w.heap.size w wr))
  case atStart => exact ⟨0, [], by omega, by omega, rfl, ⟨_, _, rfl, by omega, by unfold maxLen; omega⟩, ⟨rfl, World.ownsRow_nil _ _ _ _, fun a x hx => by simp at hx, by simp⟩, Below.refl _ _⟩
  case round =>
    obtain ⟨i, fs, hi, hleft, rfl, ⟨A7, c7, rfl, h71, h72⟩, HS, HB⟩ := hrel
    obtain ⟨gas, hgas⟩ : ∃ gas, gas = gk := ⟨_, rfl⟩
    rw [← hgas] at hleft
    have HGK := Lib.hid hgas
    clear hgas
    generalize wr = wo at *
    by_cases hin : i < n + 1
    · have hdi : decide ((i : Int) ≤ (n : Int)) = true := by rw [decide_eq_true_eq]; omega
      have hdi' : decide (i ≤ n) = true := by rw [decide_eq_true_eq]; omega
      have hmk : (Instr.makeSlice 60 (.int .i64 ((n : Int) + 1)) (.int .i64 ((n : Int) + 1))).run Tryz.prog wo = _ := bool_makeL (n + 1) (by omega) wo
      have HX0 := Lib.hid (show BoolsAt (wo.alloc (.cells ((List.replicate (n + 1) false).map Value.bool).toArray 4)) wo.heap.size (List.replicate (n + 1) false) from Go.heap_alloc_new wo _)
      have HB0 := Lib.hid (show Below wo.heap.size wo (wo.alloc (.cells ((List.replicate (n + 1) false).map Value.bool).toArray 4)) from (Below.refl _ _).alloc (Nat.le_refl _) _)
      have HM0 := Lib.hid (show (List.replicate (n + 1) false).length = n + 1 by simp)
      generalize wo.alloc (.cells ((List.replicate (n + 1) false).map Value.bool).toArray 4) = w1 at *
      generalize List.replicate (n + 1) false = M0 at *
      go_upto_region 6 with fail
      clear hmk
      go_wp2_with fail
      go_loopw [10] (fun v10 wt => ∃ (k : Nat) (M : List Bool), k ≤ n + 1 ∧ v10 = .int .i64 k ∧ Hid (BoolsAt wt wo.heap.size M) ∧ Hid (M.length = n + 1) ∧ Hid (∀ j < k, atB M j = apart0 m i j) ∧ Hid (Below wo.heap.size wo wt)) (fun v10 _ => n + 1 - (intOf v10).toNat)
      case atStart => exact ⟨0, M0, by omega, rfl, HX0.out, HM0.out, fun j hj => by omega, HB0.out⟩
      case round =>
        clear HX0 HB0 HM0
        obtain ⟨k, M, hk, rfl, HX, HML, HMA, HBK⟩ := hrel
        have HBA := Lib.hid (HB.out.trans (HBK.out.mono HB.out.size))
        by_cases hkn : k < n + 1
        · have hdk : decide ((k : Int) ≤ (n : Int)) = true := by rw [decide_eq_true_eq]; omega
          have hdk' : decide (k ≤ n) = true := by rw [decide_eq_true_eq]; omega
          obtain ⟨gk1, gf⟩ := HX.out.at_ (k := k) (by rw [HML.out]; exact hkn)
          have HBA2 := Lib.hid HBA.out.drew
          go_wp2_with fail
          refine (HOUT.out i wr HBA.out).mono ?_
          rintro e w2 ⟨rfl, rfl⟩
          go_wp2_with fail
          refine (HOUT.out k _ HBA.out).mono ?_
          rintro e w3 ⟨rfl, rfl⟩
          have HX2 := Lib.hid (HX.out.set k (outX m i != outX m k))
          have HBK2 := Lib.hid (HBK.out.setCell (p := ⟨wo.heap.size, k, none⟩) (Nat.le_refl _) (.bool (outX m i != outX m k)))
          have HMB := Lib.hid (show ∀ j < k + 1, atB (M.set k (outX m i != outX m k)) j = apart0 m i j from fun j hj => by
            rcases Nat.lt_or_ge j k with h | h
            · rw [← HMA.out j h]
              unfold atB
              rw [List.getD_eq_getElem?_getD, List.getD_eq_getElem?_getD, List.getElem?_set_ne (by omega)]
            · have : j = k := by omega
              subst this
              unfold atB
              rw [List.getD_eq_getElem?_getD, List.getElem?_set_self (by rw [HML.out]; omega)]
              rfl)
          generalize outX m i = oi at *
          generalize outX m k = ok at *
          go_wp2_with fail
          go_roundw
          case rel => exact ⟨k + 1, M.set k (oi != ok), by omega, by go_num, HX2.out, by show _ = _; rw [List.length_set]; exact HML.out, HMB.out, HBK2.out⟩
          case measure => simp [intOf]; omega
        · have hkn2 : k = n + 1 := by omega
          have hdk : decide ((k : Int) ≤ (n : Int)) = false := by rw [decide_eq_false_iff_not]; omega
          have hdk' : decide (k ≤ n) = false := by rw [decide_eq_false_iff_not]; omega
          have HBX := Lib.hid (show BlkB wr wo.heap.size n (apart0 m i) from HX.out.blk HML.out (by rw [← hkn2]; exact HMA.out))
          clear HX HML HMA
          subst hkn2
          have HOW := Lib.hid (own_below HS.out.own HBK.out)
          go_wp2_with (at_builtin; refine wpList_app (m := 1) (n := i) brow_app rfl rfl rfl rfl (HOW.out.alloc _) (Rd.row (B := wr.heap.size + 1) (Go.heap_alloc_new wr _) (by omega)) rfl (fun u hu => by simp at hu; subst hu; rfl) (by unfold maxLen; omega) (by omega) (by rw [World.size_alloc]; have := HBA.out.size; omega) ?_)
          intro v' w' ho hg _ _
          have hbb : Below wr.heap.size wr _ := (Below.refl wr.heap.size wr).alloc (Nat.le_refl _) (.cells #[.slice (some ⟨wo.heap.size, 0, none⟩) (n + 1) (n + 1)] 60)
          have HS2 := Lib.hid (HS.out.snoc (x := wo.heap.size) (HBK.out.trans (hbb.mono HBK.out.size)) ((heap_alloc_old _ _ (Array.getElem?_eq_some_iff.1 HBX.out).1).trans HBX.out) (Nat.le_refl _) HB.out.size ho hg)
          have HB2 := Lib.hid (grown_below (HBA.out.trans (hbb.mono HBA.out.size)) hg (HOW.out.alloc _) (Nat.le_refl _) (by rw [World.size_alloc]; have := HBA.out.size; omega))
          obtain ⟨A8, c8, rfl, h81, h82⟩ := own_form ho
          clear ho hg hbb
          go_wp2_with fail
          go_roundg (gas - 1)
          case measure => have := HGK.out; omega
          case rel => exact ⟨i + 1, fs ++ [wo.heap.size], by omega, by omega, by go_num, ⟨_, _, rfl, h81, h82⟩, HS2.out, HB2.out⟩
    · have hin2 : i = n + 1 := by omega
      have hdi : decide ((i : Int) ≤ (n : Int)) = false := by rw [decide_eq_false_iff_not]; omega
      have hdi' : decide (i ≤ n) = false := by rw [decide_eq_false_iff_not]; omega
      have hni : n < i := by omega
      have HI := Lib.hid hin2
      clear hin2 hin hleft
      obtain ⟨z, hz⟩ : ∃ z, z = i := ⟨_, rfl⟩
      subst hz
      have HO0 := Lib.hid (show ∀ a ≤ n, ∀ b ≤ n, apart0 m a b = false → outX m a = outX m b from fun a _ b _ h => by simpa [apart0] using h)
      have HWO := Lib.hid (show w.heap.size ≤ wo.heap.size from HB.out.size)
      go_wp2_with fail
      go_loopg [11] (roomF (n + 1) n (apart0 m) + 1) (fun left v11 wr => ∃ (more : Bool) (F : Nat → Nat → Bool), v11 = .bool more ∧ (more = true → roomF (n + 1) n F + 1 ≤ left) ∧ Hid (more = false → ApartTo m m tm F) ∧ Hid (Sq wr w.heap.size z n (.slice A7 z c7) fs F) ∧ Hid (∀ a ≤ n, ∀ b ≤ n, F a b = false → outX m a = outX m b) ∧ Hid (Below w.heap.size w wr))
      case atStart => exact ⟨true, apart0 m, rfl, fun _ => by omega, (fun h => by cases h), HS.out, HO0.out, HB.out⟩
      case round =>
        clear HS HO0 HB
        obtain ⟨more, F1, rfl, hmore, HEND, HS, HO1, HB⟩ := hrel
        obtain ⟨gas1, hgas1⟩ : ∃ gas1, gas1 = gk := ⟨_, rfl⟩
        rw [← hgas1] at hmore
        have HGK1 := Lib.hid hgas1
        clear hgas1
        cases more with
        | false =>
          have HE := Lib.hid (HEND.out rfl)
          clear hmore HEND
          go_wp2_with fail
          go_ret
          have hI := HI.out
          have hS := HS.out
          have hE := HE.out
          have hB := HB.out
          have hP := HPOST.out
          subst hI
          exact hP A7 c7 fs F1 _ h71 h72 hS hE hB
        | true =>
          have HR1 := Lib.hid (hmore rfl)
          have HP0 := Lib.hid (HS0.out F1 HO1.out)
          clear hmore HEND HO1
          generalize wr = w1 at *
          go_wp2_with fail
          go_loopg [12, 11] (n + 1) (fun left v12 v11 wr => ∃ (i : Nat) (more : Bool) (F : Nat → Nat → Bool), i ≤ n + 1 ∧ n + 1 - i ≤ left ∧ v12 = .int .i64 i ∧ v11 = .bool more ∧ Hid (PassI m tm F1 F more i 0) ∧ Hid (Sq wr w.heap.size z n (.slice A7 z c7) fs F) ∧ Hid (Below w.heap.size w wr))
          case atStart => exact ⟨0, false, F1, by omega, by omega, rfl, rfl, HP0.out, HS.out, HB.out⟩
          case round =>
            clear HS HP0 HB
            obtain ⟨i, more, F2, hi, hleft2, rfl, rfl, HP, HS, HB⟩ := hrel
            obtain ⟨gas2, hgas2⟩ : ∃ gas2, gas2 = gk := ⟨_, rfl⟩
            rw [← hgas2] at hleft2
            have HGK2 := Lib.hid hgas2
            clear hgas2
            by_cases hin : i < n + 1
            · have hdi : decide ((i : Int) ≤ (n : Int)) = true := by rw [decide_eq_true_eq]; omega
              have hdi' : decide (i ≤ n) = true := by rw [decide_eq_true_eq]; omega
              go_wp2_with fail
              go_loopg [13, 11] (n + 1) (fun left v13 v11 wr => ∃ (k : Nat) (more : Bool) (F : Nat → Nat → Bool), k ≤ n + 1 ∧ n + 1 - k ≤ left ∧ v13 = .int .i64 k ∧ v11 = .bool more ∧ Hid (PassI m tm F1 F more i k) ∧ Hid (Sq wr w.heap.size z n (.slice A7 z c7) fs F) ∧ Hid (Below w.heap.size w wr))
              case atStart => exact ⟨0, more, F2, by omega, by omega, rfl, rfl, HP.out, HS.out, HB.out⟩
              case round =>
                clear HS HP HB
                obtain ⟨k, more, F3, hk, hleft3, rfl, rfl, HP, HS, HB⟩ := hrel
                obtain ⟨gas3, hgas3⟩ : ∃ gas3, gas3 = gk := ⟨_, rfl⟩
                rw [← hgas3] at hleft3
                have HGK3 := Lib.hid hgas3
                clear hgas3
                by_cases hkn : k < n + 1
                · have hdk : decide ((k : Int) ≤ (n : Int)) = true := by rw [decide_eq_true_eq]; omega
                  have hdk' : decide (k ≤ n) = true := by rw [decide_eq_true_eq]; omega
                  go_wp2_with fail
                  go_loopg [14, 11] (tm + 1) (fun left v14 v11 wr => ∃ (t : Nat) (more : Bool) (F : Nat → Nat → Bool), t ≤ tm ∧ tm - t ≤ left ∧ v14 = .int .i64 t ∧ v11 = .bool more ∧ Hid (PassI m tm F1 F more i k) ∧ Hid (PassT m F more i k t) ∧ Hid (Sq wr w.heap.size z n (.slice A7 z c7) fs F) ∧ Hid (Below w.heap.size w wr))
                  case atStart => exact ⟨0, more, F3, by omega, by omega, rfl, rfl, HP.out, (fun _ _ u hu => by omega), HS.out, HB.out⟩
                  case round =>
                    clear HS HP HB
                    obtain ⟨t, more, F4, ht, hleft4, rfl, rfl, HP, HT, HS, HB⟩ := hrel
                    obtain ⟨b, xi, hA, e1, hxi, hbx, hBi, z1, z2, fz⟩ := HS.out.at_ (a := i) (p := k) (by omega) (by omega)
                    subst hA
                    obtain ⟨f, hf⟩ : ∃ f, f = F4 i k := ⟨_, rfl⟩
                    rw [← hf] at z2
                    have HF := Lib.hid hf
                    clear hf
                    by_cases htt : t < tm
                    · cases f with
                      | true =>
                        have HNX := Lib.hid (HP.out.next HT.out (.inl HF.out.symm))
                        clear hxi hbx hBi
                        go_wp2_with fail
                        go_roundg (gas3 - 1)
                        case measure => have := HGK3.out; omega
                        case rel => exact ⟨k + 1, more, F4, by omega, by omega, by go_num, rfl, HNX.out, HS.out, HB.out⟩
                      | false =>
                        go_wp2_with fail
                        refine (HGO.out i t wr HB.out).mono ?_
                        rintro e w2 ⟨rfl, rfl⟩
                        go_wp2_with fail
                        refine (HGO.out k t _ HB.out).mono ?_
                        rintro e w3 ⟨rfl, rfl⟩
                        have hgx := HGX.out i t
                        have hgy := HGX.out k t
                        obtain ⟨_, y1, hA, _, hx1, _, _, q1, q2, _⟩ := HS.out.at_ (a := goX m i t) (p := goX m k t) (by omega) hgy
                        injection hA with hA
                        injection hA with hA _ _
                        subst hA
                        have HTN := Lib.hid (show F4 (goX m i t) (goX m k t) = false → PassT m F4 more i k (t + 1) from fun h hm h2 u hu => by
                          rcases Nat.lt_or_ge u t with h3 | h3
                          · exact HT.out hm h2 u h3
                          · have : u = t := by omega
                            subst this
                            exact h)
                        have HPU := Lib.hid (HPUT.out F1 F4 more i k HP.out (by omega) (by omega) HF.out.symm)
                        have HPT := Lib.hid (show PassT m (putO F4 i k) true i k (t + 1) from fun h => by cases h)
                        have HSP := Lib.hid (HS.out.set (p := k) hxi)
                        have HBP := Lib.hid (Below.setCell (p := ⟨xi, k, none⟩) HB.out hbx (.bool true))
                        obtain ⟨g, hg⟩ : ∃ g, g = F4 (goX m i t) (goX m k t) := ⟨_, rfl⟩
                        rw [← hg] at q2 HTN
                        clear hg
                        have hci := HGC.out i t
                        have hck := HGC.out k t
                        generalize goX m i t = gx at *
                        generalize goX m k t = gy at *
                        generalize goR m i t = rx at *
                        generalize goR m k t = ry at *
                        clear hx1 hbx hBi hxi
                        rcases hci with ⟨hr1, hr2⟩ | ⟨hr1, hr2⟩ <;> rcases hck with ⟨hs1, hs2⟩ | ⟨hs1, hs2⟩ <;> subst hr1 <;> subst hs1 <;> cases g
                        all_goals (try subst hr2)
                        all_goals (try subst hs2)
                        all_goals
                          go_wp2_with fail
                          first
                            | (go_roundg (gk - 1)
                               case measure => omega
                               case rel => exact ⟨t + 1, true, putO F4 i k, by omega, by omega, by go_num, rfl, HPU.out, HPT.out, HSP.out, HBP.out⟩)
                            | (go_roundg (gk - 1)
                               case measure => omega
                               case rel => exact ⟨t + 1, more, F4, by omega, by omega, by go_num, rfl, HP.out, HTN.out (by trivial), HS.out, HB.out⟩)
                    · have HNX := Lib.hid (HP.out.next HT.out (.inr (by omega)))
                      have hdt : decide ((t : Int) < (tm : Int)) = false := by rw [decide_eq_false_iff_not]; omega
                      clear hxi hbx hBi
                      go_wp2_with fail
                      go_roundg (gas3 - 1)
                      case measure => have := HGK3.out; omega
                      case rel => exact ⟨k + 1, more, F4, by omega, by omega, by go_num, rfl, HNX.out, HS.out, HB.out⟩
                · have hdk : decide ((k : Int) ≤ (n : Int)) = false := by rw [decide_eq_false_iff_not]; omega
                  have hdk' : decide (k ≤ n) = false := by rw [decide_eq_false_iff_not]; omega
                  have hkn2 : k = n + 1 := by omega
                  subst hkn2
                  have HNX := Lib.hid (HROW.out F1 F3 more i HP.out)
                  go_wp2_with fail
                  go_roundg (gas2 - 1)
                  case measure => have := HGK2.out; omega
                  case rel => exact ⟨i + 1, more, F3, by omega, by omega, by go_num, rfl, HNX.out, HS.out, HB.out⟩
            · have hdi : decide ((i : Int) ≤ (n : Int)) = false := by rw [decide_eq_false_iff_not]; omega
              have hdi' : decide (i ≤ n) = false := by rw [decide_eq_false_iff_not]; omega
              have hin2 : i = n + 1 := by omega
              subst hin2
              have HRM := Lib.hid (HROOM.out _ _ _ _ _ HP.out)
              have HOF := Lib.hid (HOU.out _ _ _ _ _ HP.out)
              have HCE := Lib.hid (show more = false → ApartTo m m tm F2 from fun h => by have := HP.out; rw [h] at this; exact HCL.out F1 F2 this)
              go_wp2_with fail
              go_roundg (gas1 - 1)
              case measure => have := HGK1.out; have := HR1.out; omega
              case rel => exact ⟨more, F2, rfl, (fun h => by have h1 := HRM.out; have h2 := HR1.out; rw [h] at h1; change _ + 1 ≤ _ at h1; omega), HCE.out, HS.out, HOF.out, HB.out⟩
end Go.Proofs.YtfpihflepeiagaaGreatDoor
namespace Go.Proofs.YtfpihflepeiagaaGreatDoor
open Go.RowKit

theorem below_drewN24 {B : Nat} {w w' : World} (h : Below B w w') (n : Nat) : Below B w (w'.drewN n) := ⟨h.os, h.tape, h.output, h.size, h.block⟩
set_option maxRecDepth 100000 in
set_option maxHeartbeats 4000000 in
theorem valid24_any (A : Option Addr) (c tm : Nat) (m : Mach) (w : World) (hv : SlR eState w w.heap.size (.slice A m.length c) m) (hg : GoodM m) (ht : ∀ k < m.length, ∀ e ∈ edM m k, e.1 < (tm : Int)) :
    Calls Tryz.prog 15 #[.slice A m.length c, .int .i64 tm] w fun e w' => e = .returned (.bool true) ∧ Below w.heap.size w w' := by
  have hc1 := hv.n_le
  have HV := Lib.hid hv
  have HG := Lib.hid hg
  have HT := Lib.hid ht
  clear hv hg ht
  have hpos : 0 < m.length := List.length_pos_iff.2 HG.out.some
  have hz : ((m.length : Int) == 0) = false := by rw [beq_eq_false_iff_ne]; omega
  obtain ⟨n, hn⟩ : ∃ n, n = m.length := ⟨_, rfl⟩
  have HN := Lib.hid hn
  rw [← hn] at hc1 HV hpos hz ⊢
  clear hn
  go_enter Tryz.func15, Tryz.ntmps15
  go_wp2_with fail
  go_loopw [5] (fun v5 wr => ∃ i : Nat, i ≤ n ∧ v5 = .int .i64 i ∧ Hid (Below w.heap.size w wr)) (fun v5 _ => n - (intOf v5).toNat)
  case atStart => exact ⟨0, by omega, rfl, Below.refl _ _⟩
  case round =>
    obtain ⟨i, hi, rfl, HB⟩ := hrel
    by_cases hin : i < n
    · have him : i < m.length := by rw [← HN.out]; exact hin
      obtain ⟨b1, o1, cs, rfl, -, hb1, hrep, hcell⟩ := (HV.out.below HB.out).get him (by decide)
      obtain ⟨u, rfl, hu, hz1, hz2⟩ := eState_open hrep
      obtain ⟨A4, e4, rfl, he1, he2⟩ := hu.form
      unfold maxLen at he2
      have d0 := hcell 0 _ rfl
      have d1 := hcell 1 _ rfl
      clear hcell hrep
      simp only [show eState.size = 2 from rfl, Nat.add_zero, ← Nat.add_assoc] at d0 d1
      have hout := HG.out.out i him
      rw [outM_get him] at hout
      have HED := Lib.hid (edM_get him)
      have HTO := Lib.hid (HG.out.tos i him)
      have HTT := Lib.hid (HT.out i him)
      have HRI := Lib.hid (HG.out.rise i him)
      have HU := Lib.hid hu
      clear hu
      obtain ⟨so, se⟩ : ∃ so, so = m[i].1 := ⟨_, rfl⟩
      rw [← se] at d0 hout hz1 hz2
      clear se
      obtain ⟨se, hse⟩ : ∃ se, se = m[i].2 := ⟨_, rfl⟩
      rw [← hse] at d1 HED HU he1
      clear hse
      rw [HED.out] at HTO HTT HRI
      clear HED
      obtain ⟨q, hq⟩ : ∃ q, q = se.length := ⟨_, rfl⟩
      have HQ := Lib.hid hq
      rw [← hq] at d1 he1 HU
      clear hq
      have hd1 : decide (so < -1) = false := by rw [decide_eq_false_iff_not]; omega
      have HC1 := Lib.hid d1
      generalize wr = w1 at *
      go_wp2_with fail
      go_loopw [6] (fun v6 wt => ∃ k : Nat, k ≤ q ∧ v6 = .int .i64 k ∧ Hid (Below w1.heap.size w1 wt)) (fun v6 _ => q - (intOf v6).toNat)
      case atStart => exact ⟨0, by omega, rfl, Below.refl _ _⟩
      case round =>
        obtain ⟨k, hk, rfl, HB2⟩ := hrel
        have d1' := (HB2.out.cell (World.block_lt_of_cell? w1 _ HC1.out)).trans HC1.out
        clear d0 d1
        by_cases hkq : k < q
        · have hkl : k < se.length := by rw [← HQ.out]; exact hkq
          have hW : Below wr.heap.size wr wr := Below.refl _ _
          obtain ⟨b2, o2, cs, rfl, -, hb2, hrep, hcell⟩ := (HU.out.below (HB2.out.mono HB.out.size)).get hkl (by decide)
          obtain ⟨rfl, hy1, hy2, hy3, hy4⟩ := eEdge_open hrep
          have f0 := hcell 0 _ rfl
          have f1 := hcell 1 _ rfl
          clear hcell hrep
          simp only [show eEdge.size = 2 from rfl, Nat.add_zero, ← Nat.add_assoc] at f0 f1
          have hto := HTO.out _ (List.getElem_mem hkl)
          have htt := HTT.out _ (List.getElem_mem hkl)
          rw [← HN.out] at hto
          have HPREV : Hid (0 < k → ∃ p : Int, wr.cell? ⟨b2, o2 + (k - 1) * 2, none⟩ = some (.int .i64 p) ∧ p < se[k].1) := fun h0 => by
            have hkl2 : k - 1 < se.length := by omega
            obtain ⟨b3, o3, cs3, e3, -, hb3, hrep3, hcell3⟩ := (HU.out.below (HB2.out.mono HB.out.size)).get hkl2 (by decide)
            obtain ⟨rfl, -⟩ := eEdge_open hrep3
            have g0 := hcell3 0 _ rfl
            simp only [show eEdge.size = 2 from rfl, Nat.add_zero] at g0
            injection e3 with e3
            injection e3 with e31 e32 _
            subst e31 e32
            exact ⟨_, g0, (List.pairwise_iff_getElem.1 HRI.out) (k - 1) k hkl2 hkl (by omega)⟩
          obtain ⟨ed, hed⟩ : ∃ ed, ed = se[k] := ⟨_, rfl⟩
          rw [← hed] at f0 f1 hy1 hy2 hy3 hy4 hto htt HPREV
          clear hed
          obtain ⟨et, en⟩ := ed
          simp only at f0 f1 hy1 hy2 hy3 hy4 hto htt HPREV
          have hd2 : decide (et < 0) = false := by rw [decide_eq_false_iff_not]; omega
          have hd3 : decide ((tm : Int) ≤ et) = false := by rw [decide_eq_false_iff_not]; omega
          have hd4 : decide (en < 0) = false := by rw [decide_eq_false_iff_not]; omega
          have hd5 : decide ((n : Int) ≤ en) = false := by rw [decide_eq_false_iff_not]; omega
          have HBA := Lib.hid ((Below.refl wr.heap.size wr).alloc (Nat.le_refl _) (.cells #[.int .i64 et, .int .i64 en] 80))
          have HB3 := Lib.hid (HB2.out.trans (HBA.out.mono HB2.out.size))
          have d1'' := (HBA.out.cell (World.block_lt_of_cell? wr _ d1')).trans d1'
          by_cases h0 : 0 < k
          · obtain ⟨p, hp1, hp2⟩ := HPREV.out h0
            have hp1' := (HBA.out.cell (World.block_lt_of_cell? wr _ hp1)).trans hp1
            have hd6 : decide (et ≤ p) = false := by rw [decide_eq_false_iff_not]; omega
            have hk0 : decide (0 < (k : Int)) = true := by rw [decide_eq_true_eq]; omega
            have hk1 : decide (0 < k) = true := by rw [decide_eq_true_eq]; omega
            go_upto_region 12 with fail
            go_quiet (fail)
            go_wp2_with fail
            go_roundw
            case rel => exact ⟨k + 1, by omega, by go_num, below_drewN24 HB3.out _⟩
            case measure => simp [intOf]; omega
          · have hk0 : decide (0 < (k : Int)) = false := by rw [decide_eq_false_iff_not]; omega
            have hk1 : decide (0 < k) = false := by rw [decide_eq_false_iff_not]; omega
            go_upto_region 12 with fail
            go_quiet (fail)
            go_wp2_with fail
            go_roundw
            case rel => exact ⟨k + 1, by omega, by go_num, below_drewN24 HB3.out _⟩
            case measure => simp [intOf]; omega
        · have hkq2 : k = q := by omega
          have HB3 := Lib.hid (HB.out.trans (HB2.out.mono HB.out.size))
          go_wp2_with fail
          go_roundw
          case rel => exact ⟨i + 1, by omega, by go_num, HB3.out⟩
          case measure => simp [intOf]; omega
    · go_wp2_with fail
      go_ret
      exact ⟨rfl, HB.out⟩
def metM (m : Mch) (i k : Nat) : List (Int × Int) := ((m.take i).flatMap fun s => s.2) ++ (edM m i).take k
theorem metM_row (m : Mch) {i : Nat} (hi : i < m.length) : metM m i (edM m i).length = metM m (i + 1) 0 := by
  unfold metM
  rw [List.take_length, List.take_succ_eq_append_getElem hi, List.flatMap_append, edM_get hi]
  simp
theorem metM_succ (m : Mch) {i k : Nat} (hk : k < (edM m i).length) : metM m i (k + 1) = metM m i k ++ [(edM m i)[k]] := by
  unfold metM
  rw [List.take_succ_eq_append_getElem hk, List.append_assoc]
theorem metM_all (m : Mch) {i k : Nat} (hi : i < m.length) : ∃ R, (m.flatMap fun s => s.2) = metM m i k ++ R := by
  refine ⟨(edM m i).drop k ++ (m.drop (i + 1)).flatMap fun s => s.2, ?_⟩
  have h : m = m.take i ++ m[i] :: m.drop (i + 1) := by rw [← List.drop_eq_getElem_cons hi, List.take_append_drop]
  have h2 : (m.flatMap fun s => s.2) = ((m.take i ++ m[i] :: m.drop (i + 1)).flatMap fun s => s.2) := congrArg (fun l : Mch => l.flatMap fun s => s.2) h
  rw [h2]
  unfold metM
  rw [List.flatMap_append, List.flatMap_cons, ← edM_get hi]
  conv => lhs; rw [← List.take_append_drop k (edM m i)]
  simp only [List.append_assoc]
theorem ord_edge {m : Mch} (hl : ∃ x, ordE 1 (m.flatMap fun s => s.2) = some x) {i k next : Nat} (hi : i < m.length) (hk : k < (edM m i).length) (h : ordE 1 (metM m i k) = some next) :
    (edM m i)[k].2 ≤ (next : Int) ∧ ordE 1 (metM m i (k + 1)) = some (if (edM m i)[k].2 = (next : Int) then next + 1 else next) := by
  obtain ⟨x, hx⟩ := hl
  obtain ⟨R, hR⟩ := metM_all m (k := k + 1) hi
  rw [hR, metM_succ m hk, ordE_append, ordE_append, h] at hx
  rw [metM_succ m hk, ordE_append, h]
  simp only [Option.bind_some, ordE] at hx ⊢
  split at hx
  · cases hx
  · rename_i hn
    rw [if_neg hn]
    refine ⟨by omega, ?_⟩
    split <;> rfl
set_option maxRecDepth 100000 in
set_option maxHeartbeats 4000000 in
theorem ordered24_any (A : Option Addr) (c : Nat) (m : Mach) (w : World) (hv : SlR eState w w.heap.size (.slice A m.length c) m) (hg : GoodM m) (hord : ∀ k < m.length, ∃ i, ordE 1 ((m.take k).flatMap fun s => s.2) = some i ∧ k < i) (hordl : ∃ i, ordE 1 (m.flatMap fun s => s.2) = some i) :
    Calls Tryz.prog 16 #[.slice A m.length c] w fun e w' => e = .returned (.bool true) ∧ w' = w := by
  have hc1 := hv.n_le
  have HV := Lib.hid hv
  have HG := Lib.hid hg
  have HO := Lib.hid hord
  have HOE := Lib.hid (fun (i k next : Nat) => ord_edge hordl (i := i) (k := k) (next := next))
  clear hv hg hord hordl
  have hpos : 0 < m.length := List.length_pos_iff.2 HG.out.some
  obtain ⟨n, hn⟩ : ∃ n, n = m.length := ⟨_, rfl⟩
  have HN := Lib.hid hn
  rw [← hn] at hc1 HV hpos ⊢
  clear hn
  go_enter Tryz.func16, Tryz.ntmps16
  go_wp2_with fail
  go_loopw [4, 3] (fun v4 v3 wr => ∃ i next : Nat, i ≤ n ∧ v4 = .int .i64 i ∧ v3 = .int .i64 next ∧ next ≤ n ∧ Hid (ordE 1 (metM m i 0) = some next) ∧ w = wr) (fun v4 _ _ => n - (intOf v4).toNat)
  case atStart => exact ⟨0, 1, by omega, rfl, rfl, by omega, by show _ = _; simp [metM, ordE], rfl⟩
  case round =>
    obtain ⟨i, next, hi, rfl, rfl, hnx, HI, rfl⟩ := hrel
    by_cases hin : i < n
    · have him : i < m.length := by rw [← HN.out]; exact hin
      obtain ⟨b1, o1, cs, rfl, -, hb1, hrep, hcell⟩ := HV.out.get him (by decide)
      obtain ⟨u, rfl, hu, hz1, hz2⟩ := eState_open hrep
      obtain ⟨A4, e4, rfl, he1, he2⟩ := hu.form
      unfold maxLen at he2
      have d1 := hcell 1 _ rfl
      clear hcell hrep hz1 hz2
      simp only [show eState.size = 2 from rfl, ← Nat.add_assoc] at d1
      have hni : i < next := by
        obtain ⟨x, hx1, hx2⟩ := HO.out i him
        have := HI.out
        unfold metM at this
        rw [List.take_zero, List.append_nil, hx1] at this
        injection this with this
        omega
      have hd1 : decide ((next : Int) ≤ (i : Int)) = false := by rw [decide_eq_false_iff_not]; omega
      have hd1' : decide (next ≤ i) = false := by rw [decide_eq_false_iff_not]; omega
      have HED := Lib.hid (edM_get him)
      have HTO := Lib.hid (HG.out.tos i him)
      have HU := Lib.hid hu
      clear hu
      obtain ⟨se, hse⟩ : ∃ se, se = m[i].2 := ⟨_, rfl⟩
      rw [← hse] at d1 HED HU he1
      clear hse
      have HROW := Lib.hid (metM_row m him)
      have HSTEP := Lib.hid (fun (k next : Nat) (hk : k < se.length) (h : ordE 1 (metM m i k) = some next) => (show se[k].2 ≤ (next : Int) ∧ ordE 1 (metM m i (k + 1)) = some (if se[k].2 = (next : Int) then next + 1 else next) by
        have := HOE.out i k next him (by rw [HED.out]; exact hk) h
        simpa only [HED.out] using this))
      rw [HED.out] at HTO HROW
      clear HED
      obtain ⟨q, hq⟩ : ∃ q, q = se.length := ⟨_, rfl⟩
      have HQ := Lib.hid hq
      rw [← hq] at d1 he1 HU
      clear hq
      by_cases h0 : 0 < i
      all_goals
        go_wp2_with fail
        go_loopw [5, 3] (fun v5 v3 wt => ∃ k next : Nat, k ≤ q ∧ v5 = .int .i64 k ∧ v3 = .int .i64 next ∧ next ≤ n ∧ Hid (ordE 1 (metM m i k) = some next) ∧ w = wt) (fun v5 _ _ => q - (intOf v5).toNat)
        case atStart => exact ⟨0, next, by omega, rfl, rfl, hnx, HI.out, rfl⟩
        case round =>
          clear HI hni hd1 hd1' hnx
          obtain ⟨k, next, hk, rfl, rfl, hnx, HI, rfl⟩ := hrel
          by_cases hkq : k < q
          · have hkl : k < se.length := by rw [← HQ.out]; exact hkq
            obtain ⟨b2, o2, cs, rfl, -, hb2, hrep, hcell⟩ := HU.out.get hkl (by decide)
            obtain ⟨rfl, hy1, hy2, hy3, hy4⟩ := eEdge_open hrep
            have f1 := hcell 1 _ rfl
            clear hcell hrep hy1 hy2
            simp only [show eEdge.size = 2 from rfl, ← Nat.add_assoc] at f1
            obtain ⟨hto0, hto1, hto2⟩ := HTO.out _ (List.getElem_mem hkl)
            obtain ⟨hs1, hs2⟩ := HSTEP.out k next hkl HI.out
            have HS2 := Lib.hid hs2
            clear hs2 hto0
            rw [← HN.out] at hto2
            obtain ⟨en, hen⟩ : ∃ en, en = se[k].2 := ⟨_, rfl⟩
            rw [← hen] at f1 hy3 hy4 hto1 hto2 hs1 HS2
            clear hen
            have hd2 : decide ((next : Int) < en) = false := by rw [decide_eq_false_iff_not]; omega
            by_cases hee : en = (next : Int)
            · have hd3 : (en == (next : Int)) = true := by rw [beq_iff_eq]; exact hee
              have HS3 := Lib.hid (show ordE 1 (metM m i (k + 1)) = some (next + 1) by rw [HS2.out, if_pos hee])
              have hnx2 : next + 1 ≤ n := by omega
              have HEE := Lib.hid hee
              clear hee
              go_wp2_with fail
              go_roundw
              case rel => exact ⟨k + 1, next + 1, by omega, by go_num, by go_num, hnx2, HS3.out, trivial⟩
              case measure => simp [intOf]; omega
            · have hd3 : (en == (next : Int)) = false := by rw [beq_eq_false_iff_ne]; exact hee
              have HS3 := Lib.hid (show ordE 1 (metM m i (k + 1)) = some next by rw [HS2.out, if_neg hee])
              have HEE := Lib.hid hee
              clear hee
              go_wp2_with fail
              go_roundw
              case rel => exact ⟨k + 1, next, by omega, by go_num, rfl, hnx, HS3.out, trivial⟩
              case measure => simp [intOf]; omega
          · have hkq2 : k = q := by omega
            have HI2 := Lib.hid (show ordE 1 (metM m (i + 1) 0) = some next by rw [← HROW.out, ← HQ.out, ← hkq2]; exact HI.out)
            go_wp2_with fail
            go_roundw
            case rel => exact ⟨i + 1, next, by omega, by go_num, rfl, hnx, HI2.out, trivial⟩
            case measure => simp [intOf]; omega
    · go_wp2_with fail
      go_ret
      exact ⟨rfl, rfl⟩
set_option maxRecDepth 100000 in
set_option maxHeartbeats 4000000 in
theorem least24_any (A : Option Addr) (c tm : Nat) (m0 : Mch) (m : Mach) (w : World) (hv : SlR eState w w.heap.size (.slice A m.length c) m) (hL : LeastM m0 m) (hl : m.length ≤ 2199023255551) (htm : tm ≤ 4096) (ht : ∀ k < m.length, ∀ e ∈ edM m k, e.1 < (tm : Int)) :
    Calls Tryz.prog 14 #[.slice A m.length c, .int .i64 tm] w fun e w' => e = .returned (.bool true) ∧ Below w.heap.size w w' := by
  have hc1 := hv.n_le
  have HV := Lib.hid hv
  have HR := Lib.hid (reached24_any A c m w hv hL.good (by omega) hL.new)
  have HA := Lib.hid (fun (w' : World) (hb : Below w.heap.size w w') => apart24_any A c tm m w' (hv.fut hb (Nat.le_refl _) hb.size) hL.good hl htm)
  have HLX := Lib.hid (fun X (hx : ApartTo m m tm X) => least_apart hL ht hx)
  have hpos : 0 < m.length := List.length_pos_iff.2 hL.good.some
  obtain ⟨b1, o1, cs, rfl, -, hb1, hrep, hcell⟩ := hv.get hpos (by decide)
  obtain ⟨u, rfl, hu, hz1, hz2⟩ := eState_open hrep
  obtain ⟨A4, e4, rfl, he1, he2⟩ := hu.form
  unfold maxLen at he2
  have d1 := hcell 1 _ rfl
  clear hcell hrep hz1 hz2 hu
  simp only [show eState.size = 2 from rfl, Nat.zero_mul] at d1
  have HED := Lib.hid (edM_get hpos)
  obtain ⟨se, hse⟩ : ∃ se, se = m[0].2 := ⟨_, rfl⟩
  rw [← hse] at d1 HED he1
  clear hse hv hL ht
  obtain ⟨n, hn⟩ : ∃ n, n = m.length := ⟨_, rfl⟩
  have HN := Lib.hid hn
  have HLX2 := Lib.hid (show ∀ X, ApartTo m m tm X → (∀ i, 0 < i → i < n → X i n = true) ∧ (∀ i k, k < i → i < n → X i k = true) ∧ (0 < se.length → X 0 n = true) from fun X hx => by
    rw [hn]
    obtain ⟨h1, h2, h3⟩ := HLX.out X hx
    rw [HED.out] at h3
    exact ⟨h1, h2, h3⟩)
  have HA2 := Lib.hid (show ∀ (w' : World) (hb : Below w.heap.size w w'), Calls Tryz.prog 34 #[.slice (some ⟨b1, o1, none⟩) n c, .slice (some ⟨b1, o1, none⟩) n c, .int .i64 tm] w' (ApTo m tm w') from fun w' hb => by rw [hn]; exact HA.out w' hb)
  rw [← hn] at hc1 hpos HV HR ⊢
  have HAP := Lib.hid (show ∀ w1 e w2, ApTo m tm w1 e w2 → ∃ A c fs F, e = .returned (.slice A (n + 1) c) ∧ n + 1 ≤ c ∧ c ≤ maxLen ∧ Sq w2 w1.heap.size (n + 1) n (.slice A (n + 1) c) fs F ∧ ApartTo m m tm F ∧ Below w1.heap.size w1 w2 from fun w1 e w2 h => by rw [hn]; exact h)
  clear hn HLX HA
  go_enter Tryz.func14, Tryz.ntmps14
  go_wp2_with fail
  refine HR.out.mono ?_
  rintro e w1 ⟨x, M, rfl, hx, hml, hall, hxb, hb1'⟩
  have HB1 := Lib.hid hb1'
  have HX := Lib.hid hx
  have HM := Lib.hid hml
  have HALL := Lib.hid hall
  clear hx hml hall hxb hb1' HR
  go_wp2_with fail
  refine (HA2.out w1 HB1.out).mono ?_
  intro e w2 h
  obtain ⟨A5, c5, fs, F, rfl, h51, h52, hs, hF, hb⟩ := HAP.out _ _ _ h
  clear h
  obtain ⟨hF1, hF2, hF3⟩ := HLX2.out F hF
  have HF1 := Lib.hid hF1
  have HF2 := Lib.hid hF2
  have HF3 := Lib.hid hF3
  have HS := Lib.hid hs
  have HB2 := Lib.hid (HB1.out.trans (hb.mono HB1.out.size))
  have HX2 := Lib.hid (show BoolsAt w2 x M from (hb.block x (Array.getElem?_eq_some_iff.1 HX.out).1).trans HX.out)
  have d1' := (HB2.out.cell (World.block_lt_of_cell? w _ d1)).trans d1
  clear hs hF hF1 hF2 hF3 hb HX HA2 HAP HLX2 d1
  obtain ⟨b, x0, hA, _, _, _, _, q1, q2, _⟩ := HS.out.at_ (a := 0) (p := n) (by omega) (by omega)
  subst hA
  have hL0 : (F 0 n = true) ∨ (F 0 n = false ∧ se.length = 0) := by
    cases h : F 0 n with
    | true => exact .inl rfl
    | false =>
      right
      refine ⟨rfl, ?_⟩
      rcases Nat.eq_zero_or_pos se.length with h2 | h2
      · exact h2
      · rw [HF3.out h2] at h; cases h
  obtain ⟨q, hq⟩ : ∃ q, q = se.length := ⟨_, rfl⟩
  rw [← hq] at d1' hL0 he1
  clear hq HF3 HED
  obtain ⟨f, hf⟩ : ∃ f, f = F 0 n := ⟨_, rfl⟩
  rw [← hf] at q2 hL0
  clear hf
  have hdn : decide (0 < (n : Int)) = true := by rw [decide_eq_true_eq]; omega
  have hdn' : decide (0 < n) = true := by rw [decide_eq_true_eq]; omega
  rcases hL0 with rfl | ⟨rfl, rfl⟩
  all_goals
    go_wp2_with fail
    go_loopw [7] (fun v7 wr => ∃ i : Nat, i ≤ n ∧ v7 = .int .i64 i ∧ wr = w2) (fun v7 _ => n - (intOf v7).toNat)
    case atStart => exact ⟨0, by omega, rfl, rfl⟩
    case round =>
      obtain ⟨i, hi, rfl, hwr⟩ := hrel
      have hwr := hwr.symm
      subst hwr
      clear q1 q2
      by_cases hin : i < n
      · obtain ⟨b', x1, hA, _, _, _, _, z1, z2, _⟩ := HS.out.at_ (a := i) (p := n) (by omega) (by omega)
        injection hA with hA
        injection hA with hA _ _
        subst hA
        have r1 := (HX2.out.at_ (k := i) (by rw [HM.out]; exact hin)).1
        rw [HALL.out i hin] at r1
        have hzi : i = 0 ∨ (0 < i ∧ F i n = true) := by
          rcases Nat.eq_zero_or_pos i with h | h
          · exact .inl h
          · exact .inr ⟨h, HF1.out i h hin⟩
        obtain ⟨f1, hf1⟩ : ∃ f1, f1 = F i n := ⟨_, rfl⟩
        rw [← hf1] at z2 hzi
        clear hf1
        have hcase : (decide (0 < (i : Int)) = false ∧ decide (0 < i) = false) ∨ (decide (0 < (i : Int)) = true ∧ decide (0 < i) = true ∧ f1 = true) := by
          rcases hzi with h | ⟨h, h2⟩
          · left; constructor <;> rw [decide_eq_false_iff_not] <;> omega
          · right; refine ⟨?_, ?_, h2⟩ <;> rw [decide_eq_true_eq] <;> omega
        clear hzi
        rcases hcase with ⟨hd1, hd2⟩ | ⟨hd1, hd2, rfl⟩
        all_goals
          go_wp2_with fail
          go_loopw [8] (fun v8 wt => ∃ k : Nat, k ≤ i ∧ v8 = .int .i64 k ∧ wt = w2) (fun v8 _ => i - (intOf v8).toNat)
          case atStart => exact ⟨0, by omega, rfl, rfl⟩
          case round =>
            obtain ⟨k, hk, rfl, hwt⟩ := hrel
            have hwt := hwt.symm
            subst hwt
            clear z1 z2 r1
            by_cases hki : k < i
            · obtain ⟨b', x2, hA, _, _, _, _, y1, y2, _⟩ := HS.out.at_ (a := i) (p := k) (by omega) (by omega)
              injection hA with hA
              injection hA with hA _ _
              subst hA
              rw [HF2.out i k hki hin] at y2
              go_wp2_with fail
              go_roundw
              case rel => exact ⟨k + 1, by omega, by go_num, trivial⟩
              case measure => simp [intOf]; omega
            · go_wp2_with fail
              go_roundw
              case rel => exact ⟨i + 1, by omega, by go_num, trivial⟩
              case measure => simp [intOf]; omega
      · go_wp2_with fail
        go_ret
        exact ⟨rfl, HB2.out⟩
end Go.Proofs.YtfpihflepeiagaaGreatDoor
