/- The walk of the law HexParses. -/
import Derived.Test.YtjciimfihcmehaaHexLaw
namespace Go.Proofs.Ytjciimfihcmehaa
open Go.RowKit

def allDig (l : List UInt8) : Bool := l.all fun b => digValB b.toNat
theorem allDig_snoc (l : List UInt8) (k : Nat) (h : k < l.length) : allDig (l.take (k + 1)) = (allDig (l.take k) && digValB l[k].toNat) := by
  rw [List.take_succ_eq_append_getElem h, allDig, List.all_append]
  simp [allDig]
/-- a text is digits of bytes just if its length is even and all are digits; the bytes are half as many, and their text is the text -/
theorem hex_back (a b : UInt8) (ha : dB a = true) (hb : dB b = true) : hex2 (UInt8.ofNat (16 * dN a + dN b)) = [a, b] := by
  have h1 : ∀ a : Fin 256, dB (UInt8.ofNat a.val) = true → dN (UInt8.ofNat a.val) < 16 ∧ (digAt (dN (UInt8.ofNat a.val))).toNat.toUInt8 = UInt8.ofNat a.val := by decide +kernel
  have e : ∀ a : UInt8, UInt8.ofNat a.toNat = a := fun a => by simp
  have ga := h1 ⟨a.toNat, a.toNat_lt⟩
  have gb := h1 ⟨b.toNat, b.toNat_lt⟩
  simp only [e] at ga gb
  obtain ⟨a1, a2⟩ := ga ha
  obtain ⟨b1, b2⟩ := gb hb
  unfold hex2
  rw [UInt8.toNat_ofNat', Nat.mod_eq_of_lt (by omega), show (16 * dN a + dN b) / 16 = dN a by omega, show (16 * dN a + dN b) % 16 = dN b by omega, a2, b2]
theorem unhex_is : ∀ (l : List UInt8), (unhex l).isSome = (decide (l.length % 2 = 0) && allDig l)
  | [] => rfl
  | [_] => by simp [unhex]
  | a :: b :: r => by
    have ih := unhex_is r
    have hl : (a :: b :: r).length % 2 = r.length % 2 := by simp; omega
    rw [hl, unhex]
    have hd : allDig (a :: b :: r) = (dB a && dB b && allDig r) := by simp [allDig, dB, Bool.and_assoc]
    rw [hd]
    cases h : dB a && dB b
    · simp
    · rw [if_pos rfl, Option.isSome_map, ih]; simp
theorem unhex_text : ∀ (l t : List UInt8), unhex l = some t → hexOf t = l ∧ 2 * t.length = l.length
  | [], t, h => by simp [unhex] at h; subst h; exact ⟨rfl, rfl⟩
  | [_], t, h => by simp [unhex] at h
  | a :: b :: r, t, h => by
    rw [unhex] at h
    split at h
    · rename_i hd
      rw [Bool.and_eq_true] at hd
      rw [Option.map_eq_some_iff] at h
      obtain ⟨t', ht, rfl⟩ := h
      obtain ⟨h1, h2⟩ := unhex_text r t' ht
      refine ⟨?_, by simp; omega⟩
      rw [show hexOf (UInt8.ofNat (16 * dN a + dN b) :: t') = hex2 (UInt8.ofNat (16 * dN a + dN b)) ++ hexOf t' by simp [hexOf], hex_back a b hd.1 hd.2, h1]
      rfl
    · cases h

set_option maxHeartbeats 1000000 in
theorem hex_parses (s : ByteArray) (w : World) :
    Calls Try.prog 4 #[.string s] w fun e w' => e = .returned (.bool true) ∧ Below w.heap.size w w' := by
  have hbt := bat_get s
  by_cases h4 : 400 < s.size
  · go_enter Try.func4, Try.ntmps4
    go_wp2_with fail
    go_call law_awake _ as e w1 ⟨rfl, hb⟩
    go_wp2
    go_ret
    exact ⟨rfl, hb⟩
  · have hsz : s.size ≤ 1099511627776 := by omega
    go_enter Try.func4, Try.ntmps4
    go_wp2_with fail
    go_loop [3, 4] (fun v3 v4 => ∃ k : Nat, k ≤ s.size ∧ v4 = .int .i64 k ∧ v3 = .bool (decide (s.size % 2 = 0) && allDig (s.data.toList.take k))) (fun _ v4 => s.size - (intOf v4).toNat)
    case atStart => exact ⟨0, by omega, rfl, vbool (by rw [Bool.eq_iff_iff]; simp [allDig]; omega)⟩
    case round =>
      obtain ⟨k, hk, rfl, rfl⟩ := hrel
      by_cases hlt : k < s.size
      · have hlen : s.data.toList.length = s.size := by simp
        have hsn := Lib.hid (allDig_snoc s.data.toList k (by omega))
        have hbl := Lib.hid (bat_list s k (by omega))
        have hbd := bat_bd s k
        have hcase : bat s k < 48 ∨ (48 ≤ bat s k ∧ bat s k ≤ 57) ∨ (57 < bat s k ∧ bat s k < 97) ∨ (97 ≤ bat s k ∧ bat s k ≤ 102) ∨ 102 < bat s k := by omega
        have hdv : Hid (digValB (bat s k) = (decide (48 ≤ bat s k ∧ bat s k ≤ 57) || decide (97 ≤ bat s k ∧ bat s k ≤ 102))) := rfl
        rcases hcase with h | h | h | h | h
        · have hd2 : Hid (digValB (bat s k) = false) := by show _ = _; rw [hdv.out]; simp; omega
          go_wp2
          all_goals first
            | (exfalso; omega)
            | (exfalso; simp at *; omega)
            | (go_round
               case rel => exact ⟨k + 1, by omega, by go_num, vbool (by rw [hsn.out, ← hbl.out, hd2.out]; simp)⟩
               case measure => simp [intOf]; omega)
        · have hd2 : Hid (digValB (bat s k) = true) := by show _ = _; rw [hdv.out]; simp; omega
          go_wp2
          all_goals first
            | (exfalso; omega)
            | (exfalso; simp at *; omega)
            | (go_round
               case rel => exact ⟨k + 1, by omega, by go_num, vbool (by rw [hsn.out, ← hbl.out, hd2.out]; simp)⟩
               case measure => simp [intOf]; omega)
        · have hd2 : Hid (digValB (bat s k) = false) := by show _ = _; rw [hdv.out]; simp; omega
          go_wp2
          all_goals first
            | (exfalso; omega)
            | (exfalso; simp at *; omega)
            | (go_round
               case rel => exact ⟨k + 1, by omega, by go_num, vbool (by rw [hsn.out, ← hbl.out, hd2.out]; simp)⟩
               case measure => simp [intOf]; omega)
        · have hd2 : Hid (digValB (bat s k) = true) := by show _ = _; rw [hdv.out]; simp; omega
          go_wp2
          all_goals first
            | (exfalso; omega)
            | (exfalso; simp at *; omega)
            | (go_round
               case rel => exact ⟨k + 1, by omega, by go_num, vbool (by rw [hsn.out, ← hbl.out, hd2.out]; simp)⟩
               case measure => simp [intOf]; omega)
        · have hd2 : Hid (digValB (bat s k) = false) := by show _ = _; rw [hdv.out]; simp; omega
          go_wp2
          all_goals first
            | (exfalso; omega)
            | (exfalso; simp at *; omega)
            | (go_round
               case rel => exact ⟨k + 1, by omega, by go_num, vbool (by rw [hsn.out, ← hbl.out, hd2.out]; simp)⟩
               case measure => simp [intOf]; omega)
      · have hkl : k = s.size := by omega
        subst hkl
        rw [show s.data.toList.take s.size = s.data.toList from List.take_of_length_le (by simp)]
        rw [show (decide (s.size % 2 = 0) && allDig s.data.toList) = (unhex s.data.toList).isSome by rw [unhex_is]; simp]
        rcases hu : unhex s.data.toList with _ | t
        · have HU := Lib.hid hu
          clear hu
          go_wp2_with fail
          go_call hex_parse s _ hsz as e w1 hp
          rw [HU.out] at hp
          obtain ⟨rfl, hb1⟩ := hp
          go_wp2_with fail
          go_call hex_is s _ hsz as e w2 ⟨rfl, hb2⟩
          rw [HU.out]
          go_wp2_with fail
          go_call law_awake _ as e w3 ⟨rfl, hb3⟩
          go_wp2
          go_ret
          exact ⟨rfl, (hb1.trans (hb2.mono hb1.size)).trans (hb3.mono (Nat.le_trans hb1.size hb2.size))⟩
        · have HU := Lib.hid hu
          have ht := unhex_text _ _ hu
          have htl : 2 * t.length = s.size := by rw [ht.2]; simp
          have htt : Hid (hexOf t = s.data.toList) := ht.1
          have htl2 : ((2 : Int) * (t.length : Int) == (s.size : Int)) = true := by simp; omega
          have HTL := Lib.hid htl
          have htle : t.length ≤ 400 := by omega
          clear hu ht htl
          go_wp2_with fail
          go_call hex_parse s _ hsz as e w1 hp
          rw [HU.out] at hp
          obtain ⟨v1, rfl, hown1, hb1⟩ := hp
          obtain ⟨A1, c1, rfl, _, _⟩ := own_form hown1
          go_wp2_with fail
          go_call hex_is s _ hsz as e w2 ⟨rfl, hb2⟩
          rw [HU.out]
          have hown2 := own_below hown1 hb2
          go_wp2_with fail
          go_call hex_text t A1 c1 _ (Rd.of_own hown2) (by omega) as e w3 ⟨rfl, hb3⟩
          rw [htt.out]
          go_wp2_with fail
          go_call law_awake _ as e w4 ⟨rfl, hb4⟩
          go_wp2
          go_ret
          have hb12 := hb1.trans (hb2.mono hb1.size)
          have hb13 := hb12.trans (hb3.mono hb12.size)
          exact ⟨rfl, hb13.trans (hb4.mono hb13.size)⟩

end Go.Proofs.Ytjciimfihcmehaa
