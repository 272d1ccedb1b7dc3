/- Contracts of hex.Parse and hex.Is, for any string and every world. -/
import Derived.Test.YtfheocdciekfoaaDoorHexVal
import Derived.Test.YtfheocdciekfoaaDoorHexText
namespace Go.Proofs.YtfheocdciekfoaaDoor
open Go.RowKit

def dB (b : UInt8) : Bool := digValB b.toNat
def dN (b : UInt8) : Nat := (digValN b.toNat).toNat
/-- the bytes whose digits a text is -/
def unhex : List UInt8 → Option (List UInt8)
  | [] => some []
  | [_] => none
  | a :: b :: r => if dB a && dB b then (unhex r).map (fun t => UInt8.ofNat (16 * dN a + dN b) :: t) else none

theorem digValN_bd (c : Int) : 0 ≤ digValN c ∧ digValN c < 16 := by unfold digValN; split; omega; split <;> omega
theorem or_nibble (a b : Int) (ha : 0 ≤ a ∧ a < 16) (hb : 0 ≤ b ∧ b < 16) : bits .or .u8 ((a * 16)) b = 16 * a + b := by
  obtain ⟨x, rfl⟩ := Int.eq_ofNat_of_zero_le ha.1
  obtain ⟨y, rfl⟩ := Int.eq_ofNat_of_zero_le hb.1
  have hx : x < 16 := by omega
  have hy : y < 16 := by omega
  have h : ∀ (u v : Fin 16), bits .or .u8 (((u.val : Int) * 16)) (v.val : Int) = 16 * (u.val : Int) + v.val := by decide +kernel
  exact h ⟨x, hx⟩ ⟨y, hy⟩
theorem unhex_step (l : List UInt8) (k : Nat) (h : 2 * k + 1 < l.length) :
    unhex (l.drop (2 * k)) = if dB (l[2 * k]) && dB (l[2 * k + 1]) then (unhex (l.drop (2 * (k + 1)))).map (fun t => UInt8.ofNat (16 * dN l[2 * k] + dN l[2 * k + 1]) :: t) else none := by
  rw [List.drop_eq_getElem_cons (by omega), List.drop_eq_getElem_cons (i := 2 * k + 1) (by omega), unhex]
  rfl
theorem unhex_odd : ∀ (l : List UInt8), l.length % 2 ≠ 0 → unhex l = none
  | [], h => absurd rfl h
  | [_], _ => rfl
  | a :: b :: r, h => by
    have : unhex r = none := unhex_odd r (by simp at h; omega)
    rw [unhex, this]
    simp

def ParseRes (w : World) (r : Option (List UInt8)) (e : Ending) (w' : World) : Prop :=
  match r with
  | none => e = .returned (.tuple #[.slice none 0 0, .bool false]) ∧ Below w.heap.size w w'
  | some t => ∃ v, e = .returned (.tuple #[v, .bool true]) ∧ w'.ownsRow w.heap.size 5 1 v t.length (bcells t) ∧ Below w.heap.size w w'

set_option maxHeartbeats 800000 in
theorem hex_parse (s : ByteArray) (w : World) (hl : s.size ≤ 1099511627776) :
    Calls Tryd.prog 56 #[.string s] w (ParseRes w (unhex s.data.toList)) := by
  have hbt := bat_get s
  by_cases hodd : s.size % 2 = 0
  · have hodd2 : ((s.size : Int) % 2 != 0) = false := by simp; omega
    go_enter Tryd.func56, Tryd.ntmps56
    go_wp2
    go_loopw [4, 5, 6, 7, 8, 9] (fun v4 v5 v6 v7 v8 v9 wr => ∃ (k : Nat) (t : List UInt8), 2 * k ≤ s.size ∧ v5 = .int .i64 (2 * k : Nat) ∧ t.length = k ∧ Hid (unhex s.data.toList = (unhex (s.data.toList.drop (2 * k))).map (t ++ ·)) ∧
        wr.ownsRow w.heap.size 5 1 v4 k (bcells t) ∧ Below w.heap.size w wr) (fun _ v5 _ _ _ _ _ => s.size - (intOf v5).toNat)
    case atStart => exact ⟨0, [], by omega, rfl, rfl, by simp [Hid], World.ownsRow_nil _ _ _ _, Below.refl _ _⟩
    case round =>
      obtain ⟨k, t, hk, rfl, ht, hu, hown, hbr⟩ := hrel
      by_cases hlt : 2 * k < s.size
      · have hlen : s.data.toList.length = s.size := by simp
        have hl1 : 2 * k + 1 < s.data.toList.length := by omega
        have hus := Lib.hid (unhex_step s.data.toList k hl1)
        have e1 := bat_list s (2 * k) (by omega)
        have e2 := bat_list s (2 * k + 1) (by omega)
        have hus2 := Lib.hid (show unhex (s.data.toList.drop (2 * k)) = if digValB (bat s (2 * k)) && digValB (bat s (2 * k + 1)) then (unhex (s.data.toList.drop (2 * (k + 1)))).map (fun t => UInt8.ofNat (16 * (digValN (bat s (2 * k))).toNat + (digValN (bat s (2 * k + 1))).toNat) :: t) else none by rw [hus.out, e1, e2]; rfl)
        clear e1 e2 hus
        have d1 := digValN_bd (bat s (2 * k))
        have d2 := digValN_bd (bat s (2 * k + 1))
        have hor := Lib.hid (or_nibble _ _ d1 d2)
        rcases Bool.eq_false_or_eq_true (digValB (bat s (2 * k))) with g1 | g1 <;> rcases Bool.eq_false_or_eq_true (digValB (bat s (2 * k + 1))) with g2 | g2
        all_goals
          have G1 := Lib.hid g1
          have G2 := Lib.hid g2
          go_wp2_with fail
          go_call hex_value _ _ as e w1 ⟨rfl, hc1⟩
          go_wp2_with fail
          go_call hex_value _ _ as e w2 ⟨rfl, hc2⟩
          have hbw : Below w.heap.size w w2 := (hbr.trans (hc1.mono hbr.size)).trans (hc2.mono (Nat.le_trans hbr.size hc1.size))
          have hown2 := own_below (own_below hown hc1) hc2
        · go_wp2_with (at_builtin; refine wpList_app u8_app rfl rfl rfl rfl (hown2.alloc _) (Rd.row (B := w2.heap.size + 1) (Go.heap_alloc_new w2 _) (by omega)) rfl (by simp [Value.oneCell']) ?h63 ?hby ?hbase ?_)
          case h63 => simp only [maxLen]; omega
          case hby => omega
          case hbase => have := hbw.size; simp; omega
          intro v1 w3 hown3 hg3 _ _
          go_wp2
          go_roundw
          case rel =>
            refine ⟨k + 1, t ++ [UInt8.ofNat (16 * (digValN (bat s (2 * k))).toNat + (digValN (bat s (2 * k + 1))).toNat)], by omega, by go_num, by simp [ht], ?_, ?_, ?_⟩
            · show unhex s.data.toList = _
              rw [hu.out, hus2.out, G1.out, G2.out]
              simp [Option.map_map, Function.comp_def]
            · rw [bcells_append]
              refine (?_ : bcells [UInt8.ofNat (16 * (digValN (bat s (2 * k))).toNat + (digValN (bat s (2 * k + 1))).toNat)] = [Value.int .u8 (bits .or .u8 (digValN (bat s (2 * k)) * 16) (digValN (bat s (2 * k + 1))))]) ▸ hown3
              rw [hor.out]
              simp only [bcells, List.map_cons, List.map_nil, bcell, UInt8.toNat_ofNat']
              congr 2
              omega
            · exact grown_below (hbw.alloc hbw.size _) hg3 (hown2.alloc _) (Nat.le_refl _) (by have := hbw.size; simp; omega)
          case measure => simp [intOf]; omega
        all_goals
          go_wp2
          go_ret2
          have hnone : unhex s.data.toList = none := by rw [hu.out, hus2.out, G1.out, G2.out]; rfl
          rw [hnone]
          exact ⟨rfl, hbw⟩
      · have hk2 : s.data.toList.drop (2 * k) = [] := List.drop_eq_nil_of_le (by simp; omega)
        have hfin := Lib.hid (show unhex s.data.toList = some t by rw [hu.out, hk2]; simp [unhex])
        clear hk2
        go_wp2
        go_ret2
        rw [hfin.out]
        subst ht
        exact ⟨_, rfl, hown, hbr⟩
  · have hodd2 : ((s.size : Int) % 2 != 0) = true := by simp; omega
    go_enter Tryd.func56, Tryd.ntmps56
    go_wp2
    go_ret2
    rw [unhex_odd s.data.toList (by simpa using hodd)]
    exact ⟨rfl, Below.refl _ _⟩

end Go.Proofs.YtfheocdciekfoaaDoor
