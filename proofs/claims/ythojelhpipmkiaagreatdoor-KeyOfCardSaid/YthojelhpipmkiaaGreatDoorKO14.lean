/- Texts of this proof joined: Rec0, HexVal, HexParse, Cut, Key2, KeyParse, ShaMath. -/
import Derived.Test.YthojelhpipmkiaaGreatDoorKO08
import Derived.Test.YthojelhpipmkiaaGreatDoorKO13
import Derived.Test.YthojelhpipmkiaaGreatDoorChecked
import Derived.Test.YthojelhpipmkiaaGreatDoorKO01
import Derived.Test.YthojelhpipmkiaaGreatDoorKO04
import Derived.Lib.Bytealg
import Derived.Lib.IndexLaws
import Derived.Deep.QuietTactic
import Derived.BigQuiet
import Derived.WalkLawsBesides
import Derived.Laws.ResultCell
namespace Go.Proofs.YthojelhpipmkiaaGreatDoor
open Go.RowKit

section
variable {w : World} {g : Nat} {t : TypeId} {fr : Nat × Nat} {kind seq : Int} {kh mh : List UInt8} {kk ms : Int} {v : Value}
structure RecAt (w : World) (g : Nat) (t : TypeId) (kind seq : Int) (kh : List UInt8) (kk : Int) (mh : List UInt8) (ms : Int) (v : Value) : Prop where
 blk : w.heap[g]? = some (.cells (recCells kind seq kh kk mh ms v).toArray t (0, 0))
 hk : kh.length = 32
 hm : mh.length = 32
theorem rec_split1 : recCells kind seq kh kk mh ms v = [.int .i64 kind, .int .i64 seq] ++ (hkCells kh kk ++ (hkCells mh ms ++ [v])) := rfl
theorem RecAt.kind_ (h : RecAt w g t kind seq kh kk mh ms v) : w.cell? ⟨g, 0, none⟩ = some (.int .i64 kind) := by rw [cell_of_row _ _ _ _ _ _ h.blk]; rfl
theorem RecAt.key_ (h : RecAt w g t kind seq kh kk mh ms v) : ∀ j u, (hkCells kh kk)[j]? = some u → w.cell? ⟨g, 2 + j, none⟩ = some u := fun j u hu => cell_part h.blk (congrArg List.toArray rec_split1) j u hu
theorem RecAt.lt (h : RecAt w g t kind seq kh kk mh ms v) : g < w.heap.size := (Array.getElem?_eq_some_iff.1 h.blk).1
theorem RecAt.later {w' : World} (h : RecAt w g t kind seq kh kk mh ms v) (hb : Below w.heap.size w w') : RecAt w' g t kind seq kh kk mh ms v := ⟨(hb.block g h.lt).trans h.blk, h.hk, h.hm⟩
theorem RecAt.new (w : World) (hk : kh.length = 32) (hm : mh.length = 32) : RecAt (w.alloc (.cells (recCells kind seq kh kk mh ms v).toArray t)) w.heap.size t kind seq kh kk mh ms v := ⟨Go.heap_alloc_new w _, hk, hm⟩
end
theorem key_size (h : List UInt8) (k : Int) (hh : h.length = 32) : (Tryz.prog.info? 30).map (·.size) = some (hkCells h k).length := by rw [hkCells_length, hh]; kernel_rfl
theorem hkCells_one (l : List UInt8) (k : Int) : ∀ u ∈ hkCells l k, u.oneCell' = true := fun u hu => by
 rcases List.mem_append.1 hu with h | h
 ·exact bcells_one l u h
 ·rw [List.mem_singleton.1 h]; rfl
theorem zip_fold (off : Nat) : ∀ (vs : List Value) (k : Nat) (pre Z : List Value), pre.length = off + k → vs.length ≤ Z.length →
  (vs.zipIdx k).foldl (fun (cs : Array Value) (x : Value × Nat) => cs.setIfInBounds (off + x.2) x.1) (pre ++ Z).toArray = (pre ++ vs ++ Z.drop vs.length).toArray
 |[], k, pre, Z, _, _ => by simp
 |u :: vs, k, pre, [], _, h => by simp at h
 |u :: vs, k, pre, z :: Z, hp, h => by
  rw [List.zipIdx_cons, List.foldl_cons]
  have e : (pre ++ z :: Z).toArray.setIfInBounds (off + (u, k).2) (u, k).1 = ((pre ++ [u]) ++ Z).toArray := by
   simp only
   rw [List.setIfInBounds_toArray]
   congr 1
   rw [← hp, List.set_append_right _ _ (by omega)]
   simp
  rw [e, zip_fold off vs (k + 1) (pre ++ [u]) Z (by simp; omega) (by simpa using h)]
  simp
theorem fill_step {place : Nat → Option (Nat × Nat)} {i : Nat} {v : Value} {vs : List Value} {rest : List (Nat × Value)} {pre Z : List Value} (hv : v.cells = vs.toArray) (hp : place i = some (pre.length, vs.length)) (hl : vs.length ≤ Z.length) :
  Instr.fill place (pre ++ Z).toArray ((i, v) :: rest) = Instr.fill place ((pre ++ vs) ++ Z.drop vs.length).toArray rest := by
 rw [Instr.fill, hp]
 simp only [hv]
 rw [if_neg (by simp; omega)]
 congr 1
 have h := zip_fold pre.length vs 0 pre Z rfl hl
 rw [← h, ← Array.foldl_toList]
 simp

def z32 : List UInt8 := List.replicate 32 0
theorem z32_len : z32.length = 32 := rfl
theorem zero_key (w : World) : (zeroValue 30).run Tryz.prog w = .ok (hkv z32 0) w := by kernel_rfl
theorem fields_key (w : World) : ((Tryz.prog.fieldsOf 30).mapM fun (f : Field) => do pure (f.offset, ← sizeOf f.type)).run Tryz.prog w = .ok #[(0, 32), (32, 1)] w := by kernel_rfl
end Go.Proofs.YthojelhpipmkiaaGreatDoor
namespace Go.Proofs.YthojelhpipmkiaaGreatDoor
open Go.RowKit

def digValB (c : Int) : Bool := decide (48 ≤ c ∧ c ≤ 57) || decide (97 ≤ c ∧ c ≤ 102)
def digValN (c : Int) : Int := if 48 ≤ c ∧ c ≤ 57 then c - 48 else if 97 ≤ c ∧ c ≤ 102 then c - 87 else 0

theorem digVal_hit (k : Nat) (hk : k < 16) : digValB (digAt k) = true ∧ digValN (digAt k) = k := by
 unfold digValB digValN digAt
 split
 ·exact ⟨by simp; omega, by rw [if_pos (by omega)]; omega⟩
 ·exact ⟨by simp; omega, by rw [if_neg (by omega), if_pos (by omega)]; omega⟩
theorem digVal_miss (c : Int) (h : ∀ k : Nat, k < 16 → digAt k ≠ c) : digValB c = false ∧ digValN c = 0 := by
 have h1 : ¬ (48 ≤ c ∧ c ≤ 57) := fun hc => h (c - 48).toNat (by omega) (by unfold digAt; split <;> omega)
 have h2 : ¬ (97 ≤ c ∧ c ≤ 102) := fun hc => h (c - 87).toNat (by omega) (by unfold digAt; split <;> omega)
 unfold digValB digValN
 rw [if_neg h1, if_neg h2]
 simp [h1, h2]

set_option maxHeartbeats 400000 in
theorem hex_value (c : Int) (w : World) :
  Calls Tryz.prog 89 #[.int .u8 c] w fun e w' => e = .returned (.tuple #[.int .u8 (digValN c), .bool (digValB c)]) ∧ Below w.heap.size w w' := by
 go_enter Tryz.func89, Tryz.ntmps89
 go_wp2_with (go_call hex_digits _ as e w1 ⟨rfl, hb⟩)
 go_loop [7] (fun i => ∃ k : Nat, k ≤ 16 ∧ i = .int .i64 k ∧ Hid (∀ j : Nat, j < k → digAt j ≠ c)) (fun i => 16 - (intOf i).toNat)
 case atStart => exact ⟨0, by omega, rfl, fun j hj => by omega⟩
 case round =>
  obtain ⟨k, hk, rfl, hm⟩ := hrel
  by_cases hlt : k < 16
  ·have hix := fun w => dig_index k hlt w
   by_cases heq : digAt k = c
   ·have hv := Lib.hid (digVal_hit k hlt)
    subst heq
    go_wp2
    go_ret2
    exact ⟨rt2 (vint (by rw [hv.out.2])) (vbool hv.out.1.symm), hb⟩
   ·have hne : (digAt k == c) = false := by simpa using heq
    go_wp2
    go_round
    case rel => exact ⟨k + 1, by omega, by go_num, fun j hj => by by_cases e : j = k; (subst e; exact heq); exact hm.out j (by omega)⟩
    case measure => simp [intOf]; omega
  ·go_wp2
   go_ret2
   have hv := digVal_miss c (fun j hj => hm.out j (by omega))
   exact ⟨rt2 (vint hv.2.symm) (vbool hv.1.symm), hb⟩

end Go.Proofs.YthojelhpipmkiaaGreatDoor
namespace Go.Proofs.YthojelhpipmkiaaGreatDoor
open Go.RowKit

def dB (b : UInt8) : Bool := digValB b.toNat
def dN (b : UInt8) : Nat := (digValN b.toNat).toNat
def unhex : List UInt8 → Option (List UInt8)
 |[] => some []
 |[_] => none
 |a :: b :: r => if dB a && dB b then (unhex r).map (fun t => UInt8.ofNat (16 * dN a + dN b) :: t) else none

theorem digValN_bd (c : Int) : 0 ≤ digValN c ∧ digValN c < 16 := by unfold digValN; split; omega; split <;> omega
theorem or_nibble (a b : Int) (ha : 0 ≤ a ∧ a < 16) (hb : 0 ≤ b ∧ b < 16) : bits .or .u8 ((a * 16)) b = 16 * a + b := by
 obtain ⟨x, rfl⟩ := Int.eq_ofNat_of_zero_le ha.1
 obtain ⟨y, rfl⟩ := Int.eq_ofNat_of_zero_le hb.1
 have hx : x < 16 := by omega
 have hy : y < 16 := by omega
 have h : ∀ (u v : Fin 16), bits .or .u8 (((u.val : Int) * 16)) (v.val : Int) = 16 * (u.val : Int) + v.val := by decide +kernel
 exact h ⟨x, hx⟩ ⟨y, hy⟩
theorem unhex_step (l : List UInt8) (k : Nat) (h : 2 * k + 1 < l.length) :
  unhex (l.drop (2 * k)) = if dB (l[2 * k]) && dB (l[2 * k + 1]) then (unhex (l.drop (2 * (k + 1)))).map (fun t => UInt8.ofNat (16 * dN l[2 * k] + dN l[2 * k + 1]) :: t) else none := by
 rw [List.drop_eq_getElem_cons (by omega), List.drop_eq_getElem_cons (i := 2 * k + 1) (by omega), unhex]
 rfl
theorem unhex_odd : ∀ (l : List UInt8), l.length % 2 ≠ 0 → unhex l = none
 |[], h => absurd rfl h
 |[_], _ => rfl
 |a :: b :: r, h => by
  have : unhex r = none := unhex_odd r (by simp at h; omega)
  rw [unhex, this]
  simp

def ParseRes (w : World) (r : Option (List UInt8)) (e : Ending) (w' : World) : Prop :=
 match r with
 |none => e = .returned (.tuple #[.slice none 0 0, .bool false]) ∧ Below w.heap.size w w'
 |some t => ∃ v, e = .returned (.tuple #[v, .bool true]) ∧ w'.ownsRow w.heap.size 5 1 v t.length (bcells t) ∧ Below w.heap.size w w'

set_option maxHeartbeats 800000 in
theorem hex_parse (s : ByteArray) (w : World) (hl : s.size ≤ 1099511627776) :
  Calls Tryz.prog 47 #[.string s] w (ParseRes w (unhex s.data.toList)) := by
 have hbt := bat_get s
 by_cases hodd : s.size % 2 = 0
 ·have hodd2 : ((s.size : Int) % 2 != 0) = false := by simp; omega
  go_enter Tryz.func47, Tryz.ntmps47
  go_wp2
  go_loopw [4, 5, 6, 7, 8, 9] (fun v4 v5 v6 v7 v8 v9 wr => ∃ (k : Nat) (t : List UInt8), 2 * k ≤ s.size ∧ v5 = .int .i64 (2 * k : Nat) ∧ t.length = k ∧ Hid (unhex s.data.toList = (unhex (s.data.toList.drop (2 * k))).map (t ++ ·)) ∧
    wr.ownsRow w.heap.size 5 1 v4 k (bcells t) ∧ Below w.heap.size w wr) (fun _ v5 _ _ _ _ _ => s.size - (intOf v5).toNat)
  case atStart => exact ⟨0, [], by omega, rfl, rfl, by simp [Hid], World.ownsRow_nil _ _ _ _, Below.refl _ _⟩
  case round =>
   obtain ⟨k, t, hk, rfl, ht, hu, hown, hbr⟩ := hrel
   by_cases hlt : 2 * k < s.size
   ·have hlen : s.data.toList.length = s.size := by simp
    have hl1 : 2 * k + 1 < s.data.toList.length := by omega
    have hus := Lib.hid (unhex_step s.data.toList k hl1)
    have e1 := bat_list s (2 * k) (by omega)
    have e2 := bat_list s (2 * k + 1) (by omega)
    have hus2 := Lib.hid (show unhex (s.data.toList.drop (2 * k)) = if digValB (bat s (2 * k)) && digValB (bat s (2 * k + 1)) then (unhex (s.data.toList.drop (2 * (k + 1)))).map (fun t => UInt8.ofNat (16 * (digValN (bat s (2 * k))).toNat + (digValN (bat s (2 * k + 1))).toNat) :: t) else none by rw [hus.out, e1, e2]; rfl)
    clear e1 e2 hus
    have d1 := digValN_bd (bat s (2 * k))
    have d2 := digValN_bd (bat s (2 * k + 1))
    have hor := Lib.hid (or_nibble _ _ d1 d2)
    rcases Bool.eq_false_or_eq_true (digValB (bat s (2 * k))) with g1 | g1 <;> rcases Bool.eq_false_or_eq_true (digValB (bat s (2 * k + 1))) with g2 | g2
    all_goals
     have G1 := Lib.hid g1
     have G2 := Lib.hid g2
     go_wp2_with fail
     go_call hex_value _ _ as e w1 ⟨rfl, hc1⟩
     go_wp2_with fail
     go_call hex_value _ _ as e w2 ⟨rfl, hc2⟩
     have hbw : Below w.heap.size w w2 := (hbr.trans (hc1.mono hbr.size)).trans (hc2.mono (Nat.le_trans hbr.size hc1.size))
     have hown2 := own_below (own_below hown hc1) hc2
    ·go_wp2_with (at_builtin; refine wpList_app u8_app rfl rfl rfl rfl (hown2.alloc _) (Rd.row (B := w2.heap.size + 1) (Go.heap_alloc_new w2 _) (by omega)) rfl (by simp [Value.oneCell']) ?h63 ?hby ?hbase ?_)
     case h63 => simp only [maxLen]; omega
     case hby => omega
     case hbase => have := hbw.size; simp; omega
     intro v1 w3 hown3 hg3 _ _
     go_wp2
     go_roundw
     case rel =>
      refine ⟨k + 1, t ++ [UInt8.ofNat (16 * (digValN (bat s (2 * k))).toNat + (digValN (bat s (2 * k + 1))).toNat)], by omega, by go_num, by simp [ht], ?_, ?_, ?_⟩
      ·show unhex s.data.toList = _
       rw [hu.out, hus2.out, G1.out, G2.out]
       simp [Option.map_map, Function.comp_def]
      ·rw [bcells_append]
       refine (?_ : bcells [UInt8.ofNat (16 * (digValN (bat s (2 * k))).toNat + (digValN (bat s (2 * k + 1))).toNat)] = [Value.int .u8 (bits .or .u8 (digValN (bat s (2 * k)) * 16) (digValN (bat s (2 * k + 1))))]) ▸ hown3
       rw [hor.out]
       simp only [bcells, List.map_cons, List.map_nil, bcell, UInt8.toNat_ofNat']
       congr 2
       omega
      ·exact grown_below (hbw.alloc hbw.size _) hg3 (hown2.alloc _) (Nat.le_refl _) (by have := hbw.size; simp; omega)
     case measure => simp [intOf]; omega
    all_goals
     go_wp2
     go_ret2
     have hnone : unhex s.data.toList = none := by rw [hu.out, hus2.out, G1.out, G2.out]; rfl
     rw [hnone]
     exact ⟨rfl, hbw⟩
   ·have hk2 : s.data.toList.drop (2 * k) = [] := List.drop_eq_nil_of_le (by simp; omega)
    have hfin := Lib.hid (show unhex s.data.toList = some t by rw [hu.out, hk2]; simp [unhex])
    clear hk2
    go_wp2
    go_ret2
    rw [hfin.out]
    subst ht
    exact ⟨_, rfl, hown, hbr⟩
 ·have hodd2 : ((s.size : Int) % 2 != 0) = true := by simp; omega
  go_enter Tryz.func47, Tryz.ntmps47
  go_wp2
  go_ret2
  rw [unhex_odd s.data.toList (by simpa using hodd)]
  exact ⟨rfl, Below.refl _ _⟩

end Go.Proofs.YthojelhpipmkiaaGreatDoor
namespace Go.Proofs.YthojelhpipmkiaaGreatDoor
open Go.RowKit

set_option maxRecDepth 100000 in
theorem indexByte_any (s : ByteArray) (c : Int) (w : World) :
  Calls Tryz.prog 139 #[.string s, .int .u8 c] w fun e w' => e = .returned (.int .i64 (Lib.indexByte s.data.toList c.toNat.toUInt8)) ∧ w' = w := by
 go_enter Tryz.func139, Tryz.ntmps139
 go_wp2
 rw [run_callFunc_extern Tryz.func158 (by kernel_rfl) (by kernel_rfl) (by kernel_rfl) (e := Extern.BytealgIndexByte.indexByte) (by kernel_rfl), Lib.run_indexByteString]
 simp only [Result.andThen]
 rw [Oper.upon_value]
 go_wp2
 go_ret
 exact ⟨rfl, rfl⟩
theorem index1_any (s : ByteArray) (c : UInt8) (w : World) :
  Calls Tryz.prog 110 #[.string s, .string ⟨#[c]⟩] w fun e w' => e = .returned (.int .i64 (Lib.indexByte s.data.toList c)) ∧ Below w.heap.size w w' := by
 obtain ⟨sp, hsp⟩ : ∃ sp : ByteArray, sp = ⟨#[c]⟩ := ⟨_, rfl⟩
 have hss : sp.size = 1 := by rw [hsp]; rfl
 rw [← hsp]
 have HSP := Lib.hid hsp
 clear hsp
 go_enter Tryz.func110, Tryz.ntmps110
 go_wp2_with fail
 ·rename_i heq
  have he : sp.toList = s.toList := by simpa using heq
  rw [Lib.toList_data, Lib.toList_data, HSP.out] at he
  go_ret
  refine ⟨rt1 ?_, Below.refl _ _⟩
  rw [← he]
  simp [Lib.indexByte]
 ·have hc : sp[0].toNat = c.toNat := by
   have := HSP.out
   subst this
   rfl
  rw [hc]
  refine (indexByte_any s _ w).mono ?_
  rintro e w' ⟨rfl, rfl⟩
  go_wp2_with fail
  go_ret
  refine ⟨rt1 ?_, Below.refl _ _⟩
  simp
def cutL (l : List UInt8) (c : UInt8) : List UInt8 × List UInt8 × Bool :=
 if Lib.indexByte l c = -1 then (l, [], false) else (l.take (Lib.indexByte l c).toNat, l.drop ((Lib.indexByte l c).toNat + 1), true)
set_option maxRecDepth 100000 in
theorem cut0_any (l : List UInt8) (c : UInt8) (w : World) (hl : l.length ≤ 1099511627776) :
  Calls Tryz.prog 88 #[.string ⟨l.toArray⟩, .string ⟨#[c]⟩] w fun e w' =>
   e = .returned (.tuple #[.string ⟨(cutL l c).1.toArray⟩, .string ⟨(cutL l c).2.1.toArray⟩, .bool (cutL l c).2.2]) ∧ Below w.heap.size w w' := by
 obtain ⟨s, hs⟩ : ∃ s : ByteArray, s = ⟨l.toArray⟩ := ⟨_, rfl⟩
 obtain ⟨sp, hsp⟩ : ∃ sp : ByteArray, sp = ⟨#[c]⟩ := ⟨_, rfl⟩
 have hss : sp.size = 1 := by rw [hsp]; rfl
 have hsz : s.size = l.length := by rw [hs]; rfl
 rw [← hsp, ← hs]
 have HSP := Lib.hid hsp
 have HS := Lib.hid hs
 have HIX := Lib.hid (show Lib.indexByte s.data.toList c = Lib.indexByte l c by rw [hs])
 clear hsp hs
 have hge := Lib.indexByte_ge l c
 by_cases hm : Lib.indexByte l c = -1
 ·have HC := Lib.hid (show cutL l c = (l, [], false) by unfold cutL; rw [if_pos hm])
  have HM := Lib.hid hm
  clear hm hge
  go_enter Tryz.func88, Tryz.ntmps88
  go_wp2_with (go_at_call 110; rw [HSP.out]; refine (index1_any s c _).mono ?_; rintro e w1 ⟨rfl, hb1⟩; rw [HIX.out, HM.out, ← HSP.out])
  refine bodyPost_ret (results_tmp3 rfl _ _ _) rfl ?_
  refine ⟨?_, hb1⟩
  rw [HC.out]
  simp only
  rw [← HS.out]
  rfl
 ·obtain ⟨i, hi⟩ : ∃ i : Nat, Lib.indexByte l c = i := ⟨(Lib.indexByte l c).toNat, by omega⟩
  have hil : i < l.length := by
   have := (Lib.indexByte_some hi).1
   exact (List.getElem?_eq_some_iff.1 this).1
  have HC := Lib.hid (show cutL l c = (l.take i, l.drop (i + 1), true) by unfold cutL; rw [if_neg hm, hi]; rfl)
  have HM := Lib.hid hi
  clear hm hge hi
  go_enter Tryz.func88, Tryz.ntmps88
  go_wp2_with (go_at_call 110; rw [HSP.out]; refine (index1_any s c _).mono ?_; rintro e w1 ⟨rfl, hb1⟩; rw [HIX.out, HM.out, ← HSP.out])
  have HB1 := Lib.hid hb1
  clear hb1
  have c1 : (0 : Int) ≤ ↑i := by omega
  have c2 : (↑i : Int) ≤ ↑s.size := by omega
  have c3 : (0 : Int) ≤ ↑i + 1 := by omega
  have c4 : (↑i + 1 : Int) ≤ ↑s.size := by omega
  go_quiet (fail)
  go_wp2_with fail
  refine bodyPost_ret (results_tmp3 rfl _ _ _) rfl ?_
  refine ⟨?_, ⟨HB1.out.os, HB1.out.tape, HB1.out.output, HB1.out.size, HB1.out.block⟩⟩
  rw [HC.out]
  simp only
  have e1 : s.extract 0 i = ⟨(l.take i).toArray⟩ := by
   rw [HS.out]
   apply ByteArray.ext
   simp
  have e2 : s.extract (i + 1) l.length = ⟨(l.drop (i + 1)).toArray⟩ := by
   rw [HS.out]
   apply ByteArray.ext
   simp [List.extract_eq_take_drop]
   exact List.take_of_length_le (by simp)
  rw [e1, e2]
  rfl
set_option maxRecDepth 100000 in
theorem cut_str (l : List UInt8) (c : UInt8) (w : World) (hl : l.length ≤ 1099511627776) :
  Calls Tryz.prog 46 #[.string ⟨l.toArray⟩, .string ⟨#[c]⟩] w fun e w' =>
   e = .returned (.tuple #[.string ⟨(cutL l c).1.toArray⟩, .string ⟨(cutL l c).2.1.toArray⟩, .bool (cutL l c).2.2]) ∧ Below w.heap.size w w' := by
 go_enter Tryz.func46, Tryz.ntmps46
 go_wp2_with (go_at_call 88; refine (cut0_any l c _ hl).mono ?_; rintro e w1 ⟨rfl, hb1⟩)
 refine bodyPost_ret (results_tmp3 rfl _ _ _) rfl ?_
 exact ⟨rfl, hb1⟩
end Go.Proofs.YthojelhpipmkiaaGreatDoor
namespace Go.Proofs.YthojelhpipmkiaaGreatDoor
open Go.RowKit

end Go.Proofs.YthojelhpipmkiaaGreatDoor
namespace Go.Proofs.YthojelhpipmkiaaGreatDoor
open Go.RowKit

theorem wpList_copy_hash {w : World} {ops : Array Oper} {rest : List Oper} {o : Oper} {a : Act} {Q : Exit → Act → World → Prop} (hgd : o.guard = none) (d s : Operand)
  (ho : o.op = .call { callee := .builtin .copy, args := #[d, s], argTypes := #[45, 45] })
  {A : Option Addr} {g c c1 n : Nat} {h0 b : List UInt8} {k : Int} (hd : a.eval d = .slice (some ⟨g, 0, none⟩) 32 c) (hs : a.eval s = .slice A n c1) (hn : n = 32) (h0l : h0.length = 32) (hbl : b.length = 32) {t : TypeId}
  (hg : w.heap[g]? = some (.cells (hkCells h0 k).toArray t (0, 0))) {B : Nat} (hr : Rd w B A (bcells b)) {B0 : Nat} {w0 : World} (hb : Below B0 w0 w) (hBg : B0 ≤ g)
  (h : ∀ w', Hid (w'.heap[g]? = some (.cells (hkCells b k).toArray t (0, 0))) → Below B0 w0 w' → w'.heap.size = w.heap.size → wpList Tryz.prog ops Q rest (a.put o.dst (goInt 32)) w') :
  wpList Tryz.prog ops Q (o :: rest) a w := by
 subst hn
 have hlb : (bcells b).length = 32 := by rw [bcells_length, hbl]
 obtain ⟨ab, ao, rfl, hab, hcells⟩ := hr (by intro e; have := congrArg List.length e; rw [hlb] at this; simp at this)
 refine wpList_copy_own hgd d s 45 45 ho 5 Tryz.underlying45 (by kernel_rfl) g 0 32 c ⟨ab, ao, none⟩ 32 c1 hd hs (hkCells h0 k).toArray t hg (bcells b) (by rw [hlb]; rfl)
  (fun j v hv => by rw [Addr.add_lit]; exact hcells j v hv) (by rw [hlb]; simp [hkCells_length, h0l]) (bcells_one _) ?_
 rw [hlb]
 refine h _ ?_ (below_setRow hb hBg _) (by simp)
 show _ = _
 rw [setRow_heap w g (hkCells h0 k).toArray _ t _ hg]
 congr 2
 simp only [List.take_zero, List.nil_append, Nat.zero_add]
 unfold hkCells
 rw [List.drop_append_of_le_length (by rw [bcells_length, h0l]; exact Nat.le_refl _), List.drop_eq_nil_of_le (by rw [bcells_length, h0l]; exact Nat.le_refl _)]
 simp
noncomputable def keyTyD : TypeDesc := .struct (Tryz.prog.fieldsOf 30)
theorem keyTy_u : Tryz.prog.underlying 30 = some keyTyD := by kernel_rfl
theorem build_key0 (w : World) : (Instr.build 30 #[]).run Tryz.prog w = .ok (hkv z32 0) w := by
 unfold Instr.build
 simp only [Sem.run_bind, zero_key, Result.andThen_ok, hkv_cells, run_underlying keyTy_u, keyTyD, fields_key]
 rfl
theorem build_keyK (k : Int) (w : World) : (Instr.build 30 #[(1, .int .i64 k)]).run Tryz.prog w = .ok (hkv z32 k) w := by
 unfold Instr.build
 simp only [Sem.run_bind, zero_key, Result.andThen_ok, hkv_cells, run_underlying keyTy_u, keyTyD, fields_key]
 rfl
theorem store_row {P : Program} {w : World} {g : Nat} {ty : TypeId} {vs : List Value} {v : Value} (hv : v.cells = vs.toArray) (hi : (P.info? ty).map (·.size) = some vs.length) {cur : Array Value} {t : TypeId} (hg : w.heap[g]? = some (.cells cur t (0, 0)))
  (hl : vs.length = cur.size) (h1 : ∀ u ∈ vs, u.oneCell' = true) : (Instr.storeAt ty (.pointer (some ⟨g, 0, none⟩)) v).run P w = .ok () (w.setRow g vs.toArray) := by
 rw [store_agg hv hi hg (by omega) h1]
 congr 2
 simp [List.drop_eq_nil_of_le (show cur.toList.length ≤ vs.length by simp; omega)]
theorem ret_key {fn : Func} {p u : Tmp} {r : Value} {Q : Ending → World → Prop} (h : fn.results = #[.cell p 30, .tmp u]) {a : Act} {w : World} {g : Nat} {hh : List UInt8} {k : Int} {fr : Nat × Nat} {t : TypeId} (hl : hh.length = 32) (hd : a.defers = [])
  (hp : a.tmps.getD p undef = .pointer (some ⟨g, 0, none⟩)) (hu : a.tmps.getD u undef = r) (hg : w.heap[g]? = some (.cells (hkCells hh k).toArray t fr)) (hq : Q (.returned (.tuple #[hkv hh k, r])) w) : bodyPost Tryz.prog fn Q .ret a w := by
 refine bodyPost_ret (v := .tuple #[hkv hh k, r]) ?_ hd hq
 rw [results_cell_tmp h, hp, hu]
 simp [asAddr, Result.andThen, run_loadVar_row w g t 30 (hkCells hh k).toArray fr _ hg keyTy_u rfl (key_size hh k hl)]
def keyOf (l : List UInt8) : Option (List UInt8 × Int) :=
 match unhex (cutL l 45).1 with
 |none => none
 |some b => if (cutL l 45).2.2 = true ∧ b.length = 32 ∧ (cutL l 45).2.1.length = 1 ∧ kOk (((cutL l 45).2.1.getD 0 0).toNat - 48) = true then some (b, ((cutL l 45).2.1.getD 0 0).toNat - 48) else none
def KeyTo (w : World) (r : Option (List UInt8 × Int)) : Ending → World → Prop := fun e w' =>
 (match r with
  |none => e = .returned (.tuple #[hkv z32 0, .bool false])
  |some (b, k) => b.length = 32 ∧ e = .returned (.tuple #[hkv b k, .bool true])) ∧ Below w.heap.size w w'
theorem KeyTo.no {w w' : World} {r : Option (List UInt8 × Int)} (hr : r = none) (hb : Below w.heap.size w w') : KeyTo w r (.returned (.tuple #[hkv z32 0, .bool false])) w' := by subst hr; exact ⟨rfl, hb⟩
theorem KeyTo.yes {w w' : World} {r : Option (List UInt8 × Int)} {b : List UInt8} {k : Int} (hr : r = some (b, k)) (hl : b.length = 32) (hb : Below w.heap.size w w') : KeyTo w r (.returned (.tuple #[hkv b k, .bool true])) w' := by subst hr; exact ⟨⟨hl, rfl⟩, hb⟩
theorem cutL_len (l : List UInt8) (c : UInt8) : (cutL l c).1.length ≤ l.length ∧ (cutL l c).2.1.length ≤ l.length := by
 unfold cutL
 split
 ·simp
 ·simp only [List.length_take, List.length_drop]; omega
set_option maxRecDepth 100000 in
set_option maxHeartbeats 1000000 in
theorem keyParse_any (l : List UInt8) (w : World) (hl : l.length ≤ 1099511627776) :
  Calls Tryz.prog 20 #[.string ⟨l.toArray⟩] w (KeyTo w (keyOf l)) := by
 have hcl := cutL_len l 45
 obtain ⟨c1, c2, c3, hc⟩ : ∃ c1 c2 c3, cutL l 45 = (c1, c2, c3) := ⟨_, _, _, rfl⟩
 rw [hc] at hcl
 obtain ⟨l1, l2⟩ := hcl
 simp only at l1 l2
 obtain ⟨y, hy⟩ : ∃ y, y = c2.getD 0 0 := ⟨_, rfl⟩
 have HK := Lib.hid (show keyOf l = match unhex c1 with | none => none | some b => if c3 = true ∧ b.length = 32 ∧ c2.length = 1 ∧ kOk (y.toNat - 48) = true then some (b, (y.toNat - 48 : Int)) else none by unfold keyOf; rw [hc, hy])
 have HY := Lib.hid hy
 clear hy
 obtain ⟨s1, hs1⟩ : ∃ s1 : ByteArray, s1 = ⟨c1.toArray⟩ := ⟨_, rfl⟩
 obtain ⟨s2, hs2⟩ : ∃ s2 : ByteArray, s2 = ⟨c2.toArray⟩ := ⟨_, rfl⟩
 have z1 : s1.size ≤ 1099511627776 := by rw [hs1]; exact Nat.le_trans l1 hl
 have z2 : s2.size = c2.length := by rw [hs2]; rfl
 have HC := Lib.hid hc
 have HS1 := Lib.hid hs1
 have HS2 := Lib.hid hs2
 clear hc hs1 hs2 l1
 go_enter Tryz.func20, Tryz.ntmps20
 go_wp2_with (refine stop_at (some 2) rfl ?_)
 refine Stop.go (wpList_alloc rfl _ rfl zero_key rfl ?_)
 go_wp2_with fail
 refine (cut_str l 45 _ hl).mono ?_
 rintro e w1 ⟨rfl, hb1⟩
 rw [HC.out]
 simp only
 rw [← HS1.out, ← HS2.out]
 have HB1 := Lib.hid hb1
 clear hb1
 go_wp2_with fail
 refine (hex_parse s1 _ z1).mono ?_
 intro e w2 hp
 rw [show s1.data.toList = c1 by rw [HS1.out]] at hp
 cases hu : unhex c1 with
 |none =>
  rw [hu] at hp
  obtain ⟨rfl, hb2⟩ := hp
  have HB2 := Lib.hid ((((Below.refl _ _).alloc (Nat.le_refl _) _).trans (HB1.out.mono (Nat.le_of_lt (by show _ < (Array.push _ _).size; rw [Array.size_push]; exact Nat.lt_succ_self _)))).trans (hb2.mono (Nat.le_trans (Nat.le_of_lt (by show _ < (Array.push _ _).size; rw [Array.size_push]; exact Nat.lt_succ_self _)) HB1.out.size)) : Below w.heap.size w w2)
  have HG2 := Lib.hid ((hb2.block _ (Nat.lt_of_lt_of_le (by show _ < (Array.push _ _).size; rw [Array.size_push]; exact Nat.lt_succ_self _) HB1.out.size)).trans ((HB1.out.block _ (by show _ < (Array.push _ _).size; rw [Array.size_push]; exact Nat.lt_succ_self _)).trans (Go.heap_alloc_new w _)) : w2.heap[w.heap.size]? = some (.cells (hkCells z32 0).toArray 30 (0, 0)))
  have HN := Lib.hid (show keyOf l = none by rw [HK.out, hu])
  clear hu hb2
  cases c3
  all_goals
   go_wp2_with (refine stop_at (some 45) rfl ?_)
   refine Stop.go (wpList_build rfl 30 rfl (vs := #[]) (by rfl) (build_key0 _) ?_)
   refine wpList_store_agg rfl 30 rfl rfl rfl (store_row (hkv_cells _ _) (key_size _ _ z32_len) HG2.out (by simp [hkCells_length]) (hkCells_one _ _)) ?_
   go_wp2_with fail
   refine ret_key rfl z32_len rfl rfl rfl (setRow_heap _ _ _ _ _ _ HG2.out) ?_
   exact KeyTo.no HN.out (below_setRow HB2.out (Nat.le_refl _) _)
 |some b =>
  rw [hu] at hp
  obtain ⟨v, rfl, hown, hb2⟩ := hp
  obtain ⟨A, cc, rfl, q1, q2⟩ := own_form hown
  have HB2 := Lib.hid ((((Below.refl _ _).alloc (Nat.le_refl _) _).trans (HB1.out.mono (Nat.le_of_lt (by show _ < (Array.push _ _).size; rw [Array.size_push]; exact Nat.lt_succ_self _)))).trans (hb2.mono (Nat.le_trans (Nat.le_of_lt (by show _ < (Array.push _ _).size; rw [Array.size_push]; exact Nat.lt_succ_self _)) HB1.out.size)) : Below w.heap.size w w2)
  have HG2 := Lib.hid ((hb2.block _ (Nat.lt_of_lt_of_le (by show _ < (Array.push _ _).size; rw [Array.size_push]; exact Nat.lt_succ_self _) HB1.out.size)).trans ((HB1.out.block _ (by show _ < (Array.push _ _).size; rw [Array.size_push]; exact Nat.lt_succ_self _)).trans (Go.heap_alloc_new w _)) : w2.heap[w.heap.size]? = some (.cells (hkCells z32 0).toArray 30 (0, 0)))
  have HR := Lib.hid (Rd.of_own hown)
  have HU := Lib.hid hu
  clear hu hb2 hown
  by_cases h3 : c3 = true
  ·subst h3
   by_cases hbl : b.length = 32
   ·by_cases hc1 : c2.length = 1
    ·have z3 : s2.size = 1 := by omega
     have hp0 : 0 < s2.size := by omega
     have HS0 := Lib.hid (show s2[0] = y by
      have h2 : 0 < c2.length := by omega
      rw [HY.out, List.getD_eq_getElem?_getD, List.getElem?_eq_getElem h2]
      have := HS2.out
      subst this
      rfl)
     have hy8 : s2[0].toNat < 256 := UInt8.toNat_lt _
     clear z2
     cases hko : kOk (y.toNat - 48)
     ·have HN := Lib.hid (show keyOf l = none by rw [HK.out, HU.out]; simp [hko])
      have HKO := Lib.hid (show kOk (s2[0].toNat - 48) = false by rw [HS0.out]; exact hko)
      rw [hbl]
      clear hko hc1
      go_wp2_with (first | (go_at_call 11; refine (right_any _ _).mono ?_; rintro e w3 ⟨rfl, rfl⟩; rw [HKO.out]) | refine stop_at (some 45) rfl ?_)
      refine Stop.go (wpList_build rfl 30 rfl (vs := #[]) (by rfl) (build_key0 _) ?_)
      refine wpList_store_agg rfl 30 rfl rfl rfl (store_row (hkv_cells _ _) (key_size _ _ z32_len) HG2.out (by simp [hkCells_length]) (hkCells_one _ _)) ?_
      go_wp2_with fail
      refine ret_key rfl z32_len rfl rfl rfl (setRow_heap _ _ _ _ _ _ HG2.out) ?_
      exact KeyTo.no HN.out (below_setRow HB2.out (Nat.le_refl _) _)
     ·have HN := Lib.hid (show keyOf l = some (b, (y.toNat : Int) - 48) by rw [HK.out, HU.out]; simp [hko, hbl, hc1])
      have HKO := Lib.hid (show kOk (s2[0].toNat - 48) = true by rw [HS0.out]; exact hko)
      have HBL := Lib.hid hbl
      rw [hbl]
      clear hko hc1 hbl q1
      go_wp2_with (first | (go_at_call 11; refine (right_any _ _).mono ?_; rintro e w3 ⟨rfl, rfl⟩; rw [HKO.out]) | refine stop_at (some 47) rfl ?_)
      refine Stop.go (wpList_seg 3 _ _ _ (fun Q' hQ' => ?_))
      simp only [List.take_succ_cons, List.take_zero]
      go_wp2_with fail
      simp only [List.drop_succ_cons, List.drop_zero]
      refine Stop.go (wpList_build rfl 30 rfl (vs := #[(1, .int .i64 (s2[0].toNat - 48))]) (by rfl) (build_keyK _ _) ?_)
      refine wpList_alloc rfl 30 rfl zero_key rfl ?_
      refine wpList_store_agg rfl 30 rfl rfl rfl (store_new2 (g := w2.heap.size) rfl (hkv_cells _ _) (key_size _ _ z32_len) (by simp [hkCells_length]) (hkCells_one _ _)) ?_
      go_wp2_with (refine stop_at (some 51) rfl ?_)
      refine Stop.go (wpList_seg 3 _ _ _ (fun Q' hQ' => ?_))
      simp only [List.take_succ_cons, List.take_zero]
      go_wp2_with fail
      simp only [List.drop_succ_cons, List.drop_zero]
      have hnew : (w2.alloc (.cells (hkCells z32 ((s2[0].toNat : Int) - 48)).toArray 30)).heap[w2.heap.size]? = some (.cells (hkCells z32 ((s2[0].toNat : Int) - 48)).toArray 30 (0, 0)) := Go.heap_alloc_new w2 _
      have hbn : Below w2.heap.size w2 (w2.alloc (.cells (hkCells z32 ((s2[0].toNat : Int) - 48)).toArray 30)) := (Below.refl _ _).alloc (Nat.le_refl _) _
      refine Stop.go (wpList_copy_hash rfl _ _ rfl rfl rfl rfl z32_len HBL.out hnew (HR.out.below hbn) hbn (Nat.le_refl _) ?_)
      intro w4 hg4 hb4 hs4
      have HB4 := Lib.hid hb4
      clear hb4 hs4 hnew hbn
      go_wp2_with (refine stop_at (some 55) rfl ?_)
      refine Stop.go (wpList_load_agg rfl 30 rfl rfl keyTy.ut rfl (key_size b _ HBL.out) (row_cells hg4.out) ?_)
      have HG4 := Lib.hid ((HB4.out.block _ (Array.getElem?_eq_some_iff.1 HG2.out).1).trans HG2.out)
      have HB5 := Lib.hid (HB2.out.trans (HB4.out.mono HB2.out.size))
      refine wpList_store_agg rfl 30 rfl rfl rfl (store_row (hkv_cells _ _) (key_size _ _ HBL.out) HG4.out (by simp [hkCells_length, HBL.out, z32_len]) (hkCells_one _ _)) ?_
      go_wp2_with fail
      refine ret_key rfl HBL.out rfl rfl rfl (setRow_heap _ _ _ _ _ _ HG4.out) ?_
      rw [HS0.out]
      exact KeyTo.yes HN.out HBL.out (below_setRow HB5.out (Nat.le_refl _) _)
    ·have HN := Lib.hid (show keyOf l = none by rw [HK.out, HU.out]; simp [hc1])
     have hc2 : ((c2.length : Int) != 1) = true := by simp; omega
     rw [hbl]
     go_wp2_with (refine stop_at (some 45) rfl ?_)
     refine Stop.go (wpList_build rfl 30 rfl (vs := #[]) (by rfl) (build_key0 _) ?_)
     refine wpList_store_agg rfl 30 rfl rfl rfl (store_row (hkv_cells _ _) (key_size _ _ z32_len) HG2.out (by simp [hkCells_length]) (hkCells_one _ _)) ?_
     go_wp2_with fail
     refine ret_key rfl z32_len rfl rfl rfl (setRow_heap _ _ _ _ _ _ HG2.out) ?_
     exact KeyTo.no HN.out (below_setRow HB2.out (Nat.le_refl _) _)
   ·have HN := Lib.hid (show keyOf l = none by rw [HK.out, HU.out]; simp [hbl])
    have hb2 : ((b.length : Int) != 32) = true := by simp; omega
    go_wp2_with (refine stop_at (some 45) rfl ?_)
    refine Stop.go (wpList_build rfl 30 rfl (vs := #[]) (by rfl) (build_key0 _) ?_)
    refine wpList_store_agg rfl 30 rfl rfl rfl (store_row (hkv_cells _ _) (key_size _ _ z32_len) HG2.out (by simp [hkCells_length]) (hkCells_one _ _)) ?_
    go_wp2_with fail
    refine ret_key rfl z32_len rfl rfl rfl (setRow_heap _ _ _ _ _ _ HG2.out) ?_
    exact KeyTo.no HN.out (below_setRow HB2.out (Nat.le_refl _) _)
  ·have HN := Lib.hid (show keyOf l = none by rw [HK.out, HU.out]; simp [h3])
   obtain rfl : c3 = false := by simpa using h3
   clear h3
   go_wp2_with (refine stop_at (some 45) rfl ?_)
   refine Stop.go (wpList_build rfl 30 rfl (vs := #[]) (by rfl) (build_key0 _) ?_)
   refine wpList_store_agg rfl 30 rfl rfl rfl (store_row (hkv_cells _ _) (key_size _ _ z32_len) HG2.out (by simp [hkCells_length]) (hkCells_one _ _)) ?_
   go_wp2_with fail
   refine ret_key rfl z32_len rfl rfl rfl (setRow_heap _ _ _ _ _ _ HG2.out) ?_
   exact KeyTo.no HN.out (below_setRow HB2.out (Nat.le_refl _) _)
end Go.Proofs.YthojelhpipmkiaaGreatDoor
namespace Go.Proofs.YthojelhpipmkiaaGreatDoor

abbrev W32 := BitVec 32
structure St8 where
 (a b c d e f g h : W32)
deriving DecidableEq
def rotr (v : W32) (n : Nat) : W32 := v.rotateRight n
def sig0 (v : W32) : W32 := rotr v 7 ^^^ rotr v 18 ^^^ (v >>> 3)
def sig1 (v : W32) : W32 := rotr v 17 ^^^ rotr v 19 ^^^ (v >>> 10)
def be4 (x y z t : UInt8) : W32 := BitVec.ofNat 32 (((x.toNat * 256 + y.toNat) * 256 + z.toNat) * 256 + t.toNat)
def nextW (b : List UInt8) (l : List W32) : W32 :=
 let i := l.length
 if i < 16 then be4 (b.getD (4 * i) 0) (b.getD (4 * i + 1) 0) (b.getD (4 * i + 2) 0) (b.getD (4 * i + 3) 0)
 else l.getD (i - 16) 0 + sig0 (l.getD (i - 15) 0) + l.getD (i - 7) 0 + sig1 (l.getD (i - 2) 0)
def wordsN (b : List UInt8) : Nat → List W32
 |0 => []
 |n + 1 => wordsN b n ++ [nextW b (wordsN b n)]
def shaRoots : List Nat := [0x428a2f98, 0x71374491, 0xb5c0fbcf, 0xe9b5dba5, 0x3956c25b, 0x59f111f1, 0x923f82a4, 0xab1c5ed5,
 0xd807aa98, 0x12835b01, 0x243185be, 0x550c7dc3, 0x72be5d74, 0x80deb1fe, 0x9bdc06a7, 0xc19bf174,
 0xe49b69c1, 0xefbe4786, 0x0fc19dc6, 0x240ca1cc, 0x2de92c6f, 0x4a7484aa, 0x5cb0a9dc, 0x76f988da,
 0x983e5152, 0xa831c66d, 0xb00327c8, 0xbf597fc7, 0xc6e00bf3, 0xd5a79147, 0x06ca6351, 0x14292967,
 0x27b70a85, 0x2e1b2138, 0x4d2c6dfc, 0x53380d13, 0x650a7354, 0x766a0abb, 0x81c2c92e, 0x92722c85,
 0xa2bfe8a1, 0xa81a664b, 0xc24b8b70, 0xc76c51a3, 0xd192e819, 0xd6990624, 0xf40e3585, 0x106aa070,
 0x19a4c116, 0x1e376c08, 0x2748774c, 0x34b0bcb5, 0x391c0cb3, 0x4ed8aa4a, 0x5b9cca4f, 0x682e6ff3,
 0x748f82ee, 0x78a5636f, 0x84c87814, 0x8cc70208, 0x90befffa, 0xa4506ceb, 0xbef9a3f7, 0xc67178f2]
def rootAt (i : Nat) : W32 := BitVec.ofNat 32 (shaRoots.getD i 0)
def sha0 : St8 := ⟨0x6a09e667, 0xbb67ae85, 0x3c6ef372, 0xa54ff53a, 0x510e527f, 0x9b05688c, 0x1f83d9ab, 0x5be0cd19⟩
def sumX (s : St8) (r w : W32) : W32 := s.h + (rotr s.e 6 ^^^ rotr s.e 11 ^^^ rotr s.e 25) + (s.e &&& s.f ^^^ ~~~ s.e &&& s.g) + r + w
def sumY (s : St8) : W32 := (rotr s.a 2 ^^^ rotr s.a 13 ^^^ rotr s.a 22) + (s.a &&& s.b ^^^ s.a &&& s.c ^^^ s.b &&& s.c)
def stepS (s : St8) (r w : W32) : St8 := ⟨sumX s r w + sumY s, s.a, s.b, s.c, s.d + sumX s r w, s.e, s.f, s.g⟩
def stepsN (s : St8) (l : List W32) : Nat → St8
 |0 => s
 |n + 1 => stepS (stepsN s l n) (rootAt n) (l.getD n 0)
def addS (s t : St8) : St8 := ⟨s.a + t.a, s.b + t.b, s.c + t.c, s.d + t.d, s.e + t.e, s.f + t.f, s.g + t.g, s.h + t.h⟩
def blockS (s : St8) (b : List UInt8) : St8 := addS (stepsN s (wordsN b 64) 64) s
def blocksS (s : St8) (l : List UInt8) : St8 := if _h : 64 ≤ l.length then blocksS (blockS s (l.take 64)) (l.drop 64) else s
termination_by l.length
decreasing_by rw [List.length_drop]; omega
def leftS (l : List UInt8) : List UInt8 := l.drop (64 * (l.length / 64))
def zerosF (n : Nat) : Nat := (119 - n % 64) % 64
def lenBytes (n : Nat) : List UInt8 := (List.range 8).map fun i => UInt8.ofNat (n * 8 / 256 ^ (7 - i) % 256)
def fillS (n : Nat) : List UInt8 := 128 :: List.replicate (zerosF n) 0 ++ lenBytes n
def bytesW (v : W32) : List UInt8 := [UInt8.ofNat (v.toNat / 16777216), UInt8.ofNat (v.toNat / 65536), UInt8.ofNat (v.toNat / 256), UInt8.ofNat v.toNat]
def St8.list (s : St8) : List W32 := [s.a, s.b, s.c, s.d, s.e, s.f, s.g, s.h]
def bytesS (s : St8) : List UInt8 := s.list.flatMap bytesW
def shaL (l : List UInt8) : List UInt8 := bytesS (blocksS sha0 (l ++ fillS l.length))

theorem wordsN_len (b : List UInt8) : ∀ n, (wordsN b n).length = n
 |0 => rfl
 |n + 1 => by simp [wordsN, wordsN_len b n]
theorem blocksS_more {s : St8} {l : List UInt8} (h : 64 ≤ l.length) : blocksS s l = blocksS (blockS s (l.take 64)) (l.drop 64) := by
 rw [blocksS, dif_pos h]
theorem blocksS_end {s : St8} {l : List UInt8} (h : l.length < 64) : blocksS s l = s := by
 rw [blocksS, dif_neg (by omega)]
theorem blocksS_append : ∀ (n : Nat) (s : St8) (l m : List UInt8), l.length = 64 * n → blocksS s (l ++ m) = blocksS (blocksS s l) m
 |0, s, l, m, h => by
  have : l = [] := List.eq_nil_of_length_eq_zero (by omega)
  subst this
  rw [blocksS_end (l := []) (by simp)]
  rfl
 |n + 1, s, l, m, h => by
  rw [blocksS_more (l := l ++ m) (by simp; omega), blocksS_more (l := l) (by omega), List.take_append_of_le_length (by omega), List.drop_append_of_le_length (by omega)]
  exact blocksS_append n _ _ m (by rw [List.length_drop]; omega)
theorem leftS_lt (l : List UInt8) : (leftS l).length < 64 := by unfold leftS; rw [List.length_drop]; omega
theorem left_split (l : List UInt8) : ∃ x : List UInt8, l = x ++ leftS l ∧ x.length = 64 * (l.length / 64) := ⟨l.take (64 * (l.length / 64)), (List.take_append_drop _ _).symm, by rw [List.length_take]; omega⟩
theorem blocksS_two (s : St8) (l m : List UInt8) : blocksS s (l ++ m) = blocksS (blocksS s l) (leftS l ++ m) ∧ leftS (l ++ m) = leftS (leftS l ++ m) := by
 obtain ⟨x, hx, hl⟩ := left_split l
 have h1 : ∀ y, blocksS s (x ++ y) = blocksS (blocksS s x) y := fun y => blocksS_append _ s x y hl
 have h2 : blocksS s l = blocksS s x := by
  rw [hx, h1]
  exact blocksS_end (leftS_lt _)
 refine ⟨?_, ?_⟩
 ·rw [h2, ← h1, ← List.append_assoc, ← hx]
 ·have h3 : ∀ (n : Nat) (x y : List UInt8), x.length = 64 * n → leftS (x ++ y) = leftS y := by
   intro n x y h
   unfold leftS
   rw [List.length_append, h, show (64 * n + y.length) / 64 = n + y.length / 64 by omega, Nat.mul_add, List.drop_append, ← h, List.drop_of_length_le (by omega)]
   simp
  conv => lhs; rw [hx, List.append_assoc]
  exact h3 _ x _ hl
theorem fillS_len (n : Nat) : (n + (fillS n).length) % 64 = 0 := by
 unfold fillS lenBytes zerosF
 simp only [List.cons_append, List.length_cons, List.length_append, List.length_replicate, List.length_map, List.length_range]
 omega
theorem rotr_get (v : W32) {n : Nat} (hn : n < 32) (i : Nat) (hi : i < 32) : (rotr v n).getLsbD i = if i < 32 - n then v.getLsbD (i + n) else v.getLsbD (i - (32 - n)) := by
 unfold rotr
 rw [BitVec.getLsbD_rotateRight, Nat.mod_eq_of_lt hn]
 by_cases h : i < 32 - n
 ·rw [if_pos h, decide_eq_true h]
  show v.getLsbD (n + i) = _
  rw [Nat.add_comm]
 ·rw [if_neg h, decide_eq_false h, decide_eq_true hi]
  rfl
theorem rotr_or (v : W32) {n : Nat} (hn : n < 32) : v >>> n ||| v <<< (32 - n) = rotr v n := by
 unfold rotr
 rw [BitVec.rotateRight_def, Nat.mod_eq_of_lt hn]
def rot1 (v : W32) : W32 := rotr v 1
theorem rotr_succ (v : W32) {n : Nat} (hn : n + 1 < 32) : rot1 (rotr v n) = rotr v (n + 1) := by
 apply BitVec.eq_of_getLsbD_eq
 intro i hi
 unfold rot1
 rw [rotr_get _ (by omega) i hi, rotr_get v hn i hi]
 by_cases h : i < 31
 ·rw [if_pos (by omega), rotr_get v (by omega) _ (by omega)]
  by_cases h2 : i + 1 < 32 - n
  ·rw [if_pos h2, if_pos (by omega), Nat.add_assoc, Nat.add_comm 1 n]
  ·rw [if_neg h2, if_neg (by omega)]
   congr 1
   omega
 ·have : i = 31 := by omega
  subst this
  rw [if_neg (by omega), rotr_get v (by omega) _ (by omega)]
  by_cases h2 : n = 0
  ·subst h2
   rfl
  ·rw [if_pos (by omega), if_neg (by omega)]
   congr 1
   omega
theorem rot1_nat (v : W32) : (rot1 v).toNat = v.toNat / 2 + v.toNat % 2 * 2147483648 := by
 have h : rot1 v = v >>> 1 ||| v <<< 31 := (rotr_or v (by omega)).symm
 have hv := v.isLt
 have e : v >>> 1 ||| v <<< 31 = v >>> 1 + v <<< 31 := by
  rw [BitVec.add_eq_or_of_and_eq_zero]
  apply BitVec.eq_of_getLsbD_eq
  intro i hi
  simp only [BitVec.getLsbD_and, BitVec.getLsbD_ushiftRight, BitVec.getLsbD_shiftLeft]
  by_cases h31 : i = 31
  ·subst h31
   simp
  ·have : i < 31 := by omega
   simp [this]
 rw [h, e, BitVec.toNat_add, BitVec.toNat_ushiftRight, BitVec.toNat_shiftLeft, Nat.shiftRight_eq_div_pow, Nat.shiftLeft_eq]
 have : v.toNat * 2 ^ 31 % 2 ^ 32 = v.toNat % 2 * 2147483648 := by omega
 rw [this]
 omega
theorem rotr_zero (v : W32) : rotr v 0 = v := by
 apply BitVec.eq_of_getLsbD_eq
 intro i hi
 rw [rotr_get v (by omega) i hi, if_pos (by omega)]
 rfl
theorem maj_eq (a b c : W32) : (a &&& b) ||| (a &&& c) ||| (b &&& c) = (a &&& b) ^^^ (a &&& c) ^^^ (b &&& c) := by
 apply BitVec.eq_of_getLsbD_eq
 intro i hi
 simp only [BitVec.getLsbD_and, BitVec.getLsbD_or, BitVec.getLsbD_xor]
 cases a.getLsbD i <;> cases b.getLsbD i <;> cases c.getLsbD i <;> rfl
end Go.Proofs.YthojelhpipmkiaaGreatDoor
