/- Walks of lex.letter, goes, spells, run, sized, IsName, IsTerm. -/
import Derived.Test.YtkgmdoiadhafeaaChecked
import Derived.Test.YtkgmdoiadhafeaaRep
import Derived.Test.YtkgmdoiadhafeaaGrow2
namespace Go.Proofs.Ytkgmdoiadhafeaa
open Go.RowKit

def letterB (c : Int) : Bool := decide (97 ≤ c ∧ c ≤ 122) || decide (65 ≤ c ∧ c ≤ 90)
def goesB (c : Int) : Bool := letterB c || decide (48 ≤ c ∧ c ≤ 57) || decide (c = 95)
def spellsB (c : Int) : Bool := decide (32 ≤ c ∧ c ≤ 126) && decide (c ≠ 39) && decide (c ≠ 92)

theorem letter_any (c : Int) (w : World) : Calls Try.prog 33 #[.int .u8 c] w fun e w' => e = .returned (.bool (letterB c)) ∧ w = w' := by
  have hc : c < 65 ∨ (65 ≤ c ∧ c ≤ 90) ∨ (90 < c ∧ c < 97) ∨ (97 ≤ c ∧ c ≤ 122) ∨ 122 < c := by omega
  rcases hc with h | h | h | h | h
  all_goals
    go_enter Try.func33, Try.ntmps33
    go_wp2
    all_goals first
      | (exfalso; omega)
      | (exfalso; simp at *; omega)
      | (go_ret; exact ⟨rt1 (vbool (by rw [Bool.eq_iff_iff]; simp [letterB] <;> omega)), rfl⟩)
theorem goes_any (c : Int) (w : World) : Calls Try.prog 35 #[.int .u8 c] w fun e w' => e = .returned (.bool (goesB c)) ∧ w = w' := by
  rcases Bool.eq_false_or_eq_true (letterB c) with hl | hl
  · have HL := Lib.hid hl
    go_enter Try.func35, Try.ntmps35
    go_wp2_with (go_call letter_any c _ as e w1 ⟨rfl, rfl⟩)
    go_ret
    exact ⟨rt1 (vbool (by unfold goesB; rw [HL.out]; rfl)), rfl⟩
  · have HL := Lib.hid hl
    have hc : c < 48 ∨ (48 ≤ c ∧ c ≤ 57) ∨ (57 < c ∧ c < 95) ∨ (95 ≤ c ∧ c ≤ 95) ∨ 95 < c := by omega
    rcases hc with h | h | h | h | h
    all_goals
      go_enter Try.func35, Try.ntmps35
      go_wp2_with (go_call letter_any c _ as e w1 ⟨rfl, rfl⟩)
      all_goals first
        | (exfalso; omega)
        | (exfalso; simp at *; omega)
        | (go_ret; exact ⟨rt1 (vbool (by rw [Bool.eq_iff_iff]; simp [goesB, HL.out] <;> omega)), rfl⟩)
theorem spells_any (c : Int) (w : World) : Calls Try.prog 36 #[.int .u8 c] w fun e w' => e = .returned (.bool (spellsB c)) ∧ w = w' := by
  have hc : c < 32 ∨ (32 ≤ c ∧ c < 39) ∨ (39 ≤ c ∧ c ≤ 39) ∨ (39 < c ∧ c < 92) ∨ (92 ≤ c ∧ c ≤ 92) ∨ (92 < c ∧ c ≤ 126) ∨ 126 < c := by omega
  rcases hc with h | h | h | h | h | h | h
  all_goals
    go_enter Try.func36, Try.ntmps36
    go_wp2
    all_goals first
      | (exfalso; omega)
      | (exfalso; simp at *; omega)
      | (go_ret; exact ⟨rt1 (vbool (by rw [Bool.eq_iff_iff]; simp [spellsB] <;> omega)), rfl⟩)
theorem sized_any (s : ByteArray) (w : World) : Calls Try.prog 32 #[.string s] w fun e w' => e = .returned (.bool (decide (1 ≤ s.size ∧ s.size ≤ 32))) ∧ w = w' := by
  have hc : s.size < 1 ∨ (1 ≤ s.size ∧ s.size ≤ 32) ∨ 32 < s.size := by omega
  rcases hc with h | h | h
  all_goals
    go_enter Try.func32, Try.ntmps32
    go_wp2
    all_goals first
      | (exfalso; omega)
      | (exfalso; simp at *; omega)
      | (go_ret; exact ⟨rt1 (vbool (by rw [Bool.eq_iff_iff]; simp <;> omega)), rfl⟩)

/-- how many bytes at a text's beginning may stand there -/
def runN (may : Int → Bool) : List UInt8 → Nat
  | [] => 0
  | b :: r => if may (b.toNat : Int) then runN may r + 1 else 0
theorem runN_le (may : Int → Bool) : ∀ l, runN may l ≤ l.length
  | [] => Nat.le_refl _
  | b :: r => by unfold runN; split; (have := runN_le may r; simp; omega); omega
theorem runN_all (may : Int → Bool) : ∀ (l : List UInt8), (runN may l = l.length ↔ ∀ b ∈ l, may (b.toNat : Int) = true)
  | [] => by simp [runN]
  | b :: r => by
    unfold runN
    have := runN_all may r
    have h2 := runN_le may r
    split
    · rename_i hb; simp [hb, this]
    · rename_i hb; simp [hb]
set_option maxHeartbeats 800000 in
theorem run_any (F : FuncId) (may : Int → Bool) (hF : ∀ (args : Array Value) (w : World), (callFunc F args).run Try.prog w = .ok (.enter F args) w) (hmay : ∀ (c : Int) (w : World), Calls Try.prog F #[.int .u8 c] w fun e w' => e = .returned (.bool (may c)) ∧ w = w') (s : ByteArray) (w : World) (hs : s.size ≤ maxLen) :
    Calls Try.prog 34 #[.string s, .func (.func F) #[] #[]] w fun e w' => e = .returned (.int .i64 (runN may s.data.toList)) ∧ w = w' := by
  unfold maxLen at hs
  have hbt := bat_get s
  have HM := Lib.hid hmay
  clear hmay
  go_enter Try.func34, Try.ntmps34
  go_wp2_with fail
  go_loop [5] (fun v5 => ∃ k : Nat, k ≤ s.size ∧ v5 = .int .i64 k ∧ Hid (runN may s.data.toList = k + runN may (s.data.toList.drop k))) (fun v5 => s.size - (intOf v5).toNat)
  case atStart => exact ⟨0, by omega, rfl, by simp [Hid]⟩
  case round =>
    obtain ⟨k, hk, rfl, hr⟩ := hrel
    by_cases hlt : k < s.size
    · have hlen : s.data.toList.length = s.size := by simp
      have hd := Lib.hid (show runN may (s.data.toList.drop k) = if may (bat s k) then runN may (s.data.toList.drop (k + 1)) + 1 else 0 by
        rw [List.drop_eq_getElem_cons (by omega), runN, bat_list s k (by omega)])
      rcases Bool.eq_false_or_eq_true (may (bat s k)) with hm | hm
      · have HB := Lib.hid hm
        go_wp2_with fail
        refine (HM.out (bat s k) _).mono ?_
        rintro e w1 ⟨rfl, rfl⟩
        go_wp2
        go_round
        case rel => exact ⟨k + 1, by omega, by go_num, by show _ = _; rw [hr.out, hd.out, HB.out]; simp; omega⟩
        case measure => simp [intOf]; omega
      · have HB := Lib.hid hm
        go_wp2_with fail
        refine (HM.out (bat s k) _).mono ?_
        rintro e w1 ⟨rfl, rfl⟩
        go_wp2
        go_ret
        exact ⟨rt1 (vint (by rw [hr.out, hd.out, HB.out]; simp)), rfl⟩
    · have hz := Lib.hid (show runN may (s.data.toList.drop k) = 0 by rw [List.drop_eq_nil_of_le (by simp; omega)]; rfl)
      go_wp2
      go_ret
      exact ⟨rt1 (vint (by rw [hr.out, hz.out]; simp)), rfl⟩

def isNameB (l : List UInt8) : Bool := decide (1 ≤ l.length ∧ l.length ≤ 32) && letterB ((l.headD 0).toNat : Int) && l.all fun b => goesB (b.toNat : Int)
def isTermB (l : List UInt8) : Bool := decide (1 ≤ l.length ∧ l.length ≤ 32) && l.all fun b => spellsB (b.toNat : Int)
theorem runN_eq (may : Int → Bool) (l : List UInt8) : ((runN may l : Int) == (l.length : Int)) = l.all fun b => may (b.toNat : Int) := by
  rw [Bool.eq_iff_iff]
  simp only [beq_iff_eq, List.all_eq_true]
  rw [← runN_all]
  omega
theorem bat_head (s : ByteArray) (h : 1 ≤ s.size) : bat s 0 = ((s.data.toList.headD 0).toNat : Int) := by
  have h0 : 0 < s.data.toList.length := by simp; omega
  rw [bat_list s 0 h0, List.headD_eq_head?_getD, List.head?_eq_getElem?, List.getElem?_eq_getElem h0]
  rfl
set_option maxHeartbeats 800000 in
theorem isName_any (s : ByteArray) (w : World) (hs : s.size ≤ maxLen) : Calls Try.prog 26 #[.string s] w fun e w' => e = .returned (.bool (isNameB s.data.toList)) ∧ w = w' := by
  have hbt := bat_get s
  have hlen : s.data.toList.length = s.size := by simp
  have hrl := runN_le goesB s.data.toList
  have HR := Lib.hid (runN_eq goesB s.data.toList)
  have HDEF : Hid (isNameB s.data.toList = (decide (1 ≤ s.size ∧ s.size ≤ 32) && letterB ((s.data.toList.headD 0).toNat : Int) && s.data.toList.all fun b => goesB (b.toNat : Int))) := by
    show _ = _; unfold isNameB; rw [hlen]
  by_cases h1 : 1 ≤ s.size ∧ s.size ≤ 32
  · have hd : decide (1 ≤ s.size ∧ s.size ≤ 32) = true := by simpa using h1
    have HD := Lib.hid hd
    have hpos : 0 < s.size := by omega
    have HH := Lib.hid (bat_head s h1.1)
    rcases Bool.eq_false_or_eq_true (letterB (bat s 0)) with hb | hb
    · have HB := Lib.hid hb
      go_enter Try.func26, Try.ntmps26
      go_wp2_with fail
      go_call sized_any s _ as e w1 ⟨rfl, rfl⟩
      go_wp2_with fail
      go_call letter_any (bat s 0) _ as e w1 ⟨rfl, rfl⟩
      go_wp2_with fail
      go_call run_any 35 goesB (fun _ _ => by kernel_rfl) goes_any s _ hs as e w1 ⟨rfl, rfl⟩
      go_wp2
      go_ret
      exact ⟨rt1 (vbool (by rw [HDEF.out, HD.out, ← HH.out, HB.out, ← HR.out, hlen]; simp)), rfl⟩
    · have HB := Lib.hid hb
      go_enter Try.func26, Try.ntmps26
      go_wp2_with fail
      go_call sized_any s _ as e w1 ⟨rfl, rfl⟩
      go_wp2_with fail
      go_call letter_any (bat s 0) _ as e w1 ⟨rfl, rfl⟩
      go_wp2
      go_ret
      exact ⟨rt1 (vbool (by rw [HDEF.out, ← HH.out, HB.out]; simp)), rfl⟩
  · have hd : decide (1 ≤ s.size ∧ s.size ≤ 32) = false := by simpa using h1
    have HD := Lib.hid hd
    go_enter Try.func26, Try.ntmps26
    go_wp2_with fail
    go_call sized_any s _ as e w1 ⟨rfl, rfl⟩
    go_wp2
    go_ret
    exact ⟨rt1 (vbool (by rw [HDEF.out, HD.out]; simp)), rfl⟩
set_option maxHeartbeats 800000 in
theorem isTerm_any (s : ByteArray) (w : World) (hs : s.size ≤ maxLen) : Calls Try.prog 27 #[.string s] w fun e w' => e = .returned (.bool (isTermB s.data.toList)) ∧ w = w' := by
  have hlen : s.data.toList.length = s.size := by simp
  have hrl := runN_le spellsB s.data.toList
  have HR := Lib.hid (runN_eq spellsB s.data.toList)
  have HDEF : Hid (isTermB s.data.toList = (decide (1 ≤ s.size ∧ s.size ≤ 32) && s.data.toList.all fun b => spellsB (b.toNat : Int))) := by
    show _ = _; unfold isTermB; rw [hlen]
  by_cases h1 : 1 ≤ s.size ∧ s.size ≤ 32
  · have hd : decide (1 ≤ s.size ∧ s.size ≤ 32) = true := by simpa using h1
    have HD := Lib.hid hd
    go_enter Try.func27, Try.ntmps27
    go_wp2_with fail
    go_call sized_any s _ as e w1 ⟨rfl, rfl⟩
    go_wp2_with fail
    go_call run_any 36 spellsB (fun _ _ => by kernel_rfl) spells_any s _ hs as e w1 ⟨rfl, rfl⟩
    go_wp2
    go_ret
    exact ⟨rt1 (vbool (by rw [HDEF.out, HD.out, ← HR.out, hlen]; simp)), rfl⟩
  · have hd : decide (1 ≤ s.size ∧ s.size ≤ 32) = false := by simpa using h1
    have HD := Lib.hid hd
    go_enter Try.func27, Try.ntmps27
    go_wp2_with fail
    go_call sized_any s _ as e w1 ⟨rfl, rfl⟩
    go_wp2
    go_ret
    exact ⟨rt1 (vbool (by rw [HDEF.out, HD.out]; simp)), rfl⟩
end Go.Proofs.Ytkgmdoiadhafeaa
