/- Texts of this proof joined: FramePure, RecLaw, LineLaw, LostLaw. -/
import Derived.Test.YtplbcbamnjnhlaaGreatDoorMB08
import Derived.Test.YtplbcbamnjnhlaaGreatDoorMB18
import Derived.Test.YtplbcbamnjnhlaaGreatDoorMB16
namespace Go.Proofs.YtplbcbamnjnhlaaGreatDoor
open Go.RowKit

theorem vFrom_form (x : Nat) : ∀ (rest : List UInt8) (i v : Nat), i ≤ 8 → x < 128 ^ (9 - i) → (0 < i → 0 < x) → vFrom (vForm x ++ rest) i v = some (v + x * 128 ^ i, i + (vForm x).length) := by
  induction x using Nat.strongRecOn with
  | ind x ih =>
    intro rest i v hi hx h0
    by_cases h : x < 128
    · rw [vForm_lt h]
      have e : (UInt8.ofNat x).toNat = x := by simp; omega
      show vFrom (UInt8.ofNat x :: rest) i v = _
      rw [vFrom, e, if_neg (by omega), if_neg (by omega), if_pos h]
      rfl
    · rw [vForm_ge h, List.cons_append]
      have e : (UInt8.ofNat (x % 128 + 128)).toNat = x % 128 + 128 := by simp; omega
      have hp : (128 : Nat) ^ (9 - i) = 128 ^ (9 - (i + 1)) * 128 := by rw [← Nat.pow_succ]; congr 1; omega
      have hi7 : i ≤ 7 := by
        by_cases h8 : i = 8
        · subst h8
          have : x < 128 := by simpa using hx
          omega
        · omega
      have hd : x / 128 < 128 ^ (9 - (i + 1)) := by rw [Nat.div_lt_iff_lt_mul (by omega), ← hp]; exact hx
      rw [vFrom, e, if_neg (by omega), if_neg (by omega), if_neg (by omega), ih (x / 128) (by omega) rest (i + 1) _ (by omega) hd (fun _ => by omega), List.length_cons]
      congr 1
      have h3 : (x % 128 + 128) % 128 = x % 128 := by omega
      have h4 : x % 128 * 128 ^ i + x / 128 * 128 ^ (i + 1) = x * 128 ^ i := by
        rw [Nat.pow_succ, Nat.mul_comm (128 ^ i) 128, ← Nat.mul_assoc, ← Nat.add_mul]
        congr 1
        omega
      rw [h3, Nat.add_assoc, h4, Nat.add_assoc, Nat.add_comm 1]
theorem vFrom_spec : ∀ (l : List UInt8) (i v n m : Nat), vFrom l i v = some (n, m) → ∃ x, n = v + x * 128 ^ i ∧ i < m ∧ m - i ≤ l.length ∧ l.take (m - i) = vForm x ∧ (0 < i → 0 < x)
  | [], i, v, n, m, h => by simp [vFrom] at h
  | c :: r, i, v, n, m, h => by
    rw [vFrom] at h
    by_cases h1 : 10 ≤ i
    · rw [if_pos h1] at h; cases h
    rw [if_neg h1] at h
    by_cases h2 : (i = 9 ∧ 1 < c.toNat) ∨ (0 < i ∧ c.toNat = 0)
    · rw [if_pos h2] at h; cases h
    rw [if_neg h2] at h
    by_cases h3 : c.toNat < 128
    · rw [if_pos h3] at h
      injection h with h
      injection h with e1 e2
      refine ⟨c.toNat, e1.symm, by omega, by simp; omega, ?_, fun hi => by omega⟩
      rw [show m - i = 1 by omega, vForm_lt h3]
      simp
    · rw [if_neg h3] at h
      obtain ⟨x, hx, hm, hl, ht, h0⟩ := vFrom_spec r (i + 1) _ n m h
      have hx0 := h0 (by omega)
      have hc := c.toNat_lt
      refine ⟨c.toNat % 128 + 128 * x, ?_, by omega, by simp; omega, ?_, fun _ => by omega⟩
      · rw [hx, Nat.pow_succ, Nat.mul_comm (128 ^ i) 128, ← Nat.mul_assoc, Nat.add_assoc, ← Nat.add_mul, Nat.mul_comm x]
      · rw [vForm_ge (by omega), show m - i = (m - (i + 1)) + 1 by omega, List.take_succ_cons, ht]
        rw [show (c.toNat % 128 + 128 * x) % 128 + 128 = c.toNat by omega, show (c.toNat % 128 + 128 * x) / 128 = x by omega]
        simp
theorem frameOpen_seal (k : UInt8) (load : List UInt8) (h : load.length ≤ 1048576) : frameOpen (frameSeal k load) = some (k, load) := by
  have hb : frameSeal k load = k :: (vForm load.length ++ (load ++ crcTail (crcSum (frameBody k load)))) := by simp [frameSeal, frameBody]
  have hl := frameSeal_length k load
  have hv := vFrom_form load.length (load ++ crcTail (crcSum (frameBody k load))) 0 0 (by omega) (by simp; omega) (by omega)
  have e1 : 1 + (vForm load.length).length + load.length = (frameBody k load).length := by rw [frameBody_length]
  have ht : (frameSeal k load).take (1 + (vForm load.length).length + load.length) = frameBody k load := by rw [e1, frameSeal, List.take_left]
  have hd : (frameSeal k load).drop (1 + (vForm load.length).length + load.length) = crcTail (crcSum (frameBody k load)) := by rw [e1, frameSeal, List.drop_left]
  have hd2 : (frameSeal k load).drop (1 + (vForm load.length).length) = load ++ crcTail (crcSum (frameBody k load)) := by
    rw [hb, Nat.add_comm 1, List.drop_succ_cons, List.drop_left]
  unfold frameOpen
  have hp : frameParse (frameSeal k load) = some (k, load, (frameSeal k load).length) := by
    have e0 : frameSeal k load = k :: (frameSeal k load).tail := by rw [hb]; rfl
    rw [e0, frameParse_cons]
    have e2 : (frameSeal k load).tail = vForm load.length ++ (load ++ crcTail (crcSum (frameBody k load))) := by rw [hb]; rfl
    rw [e2, hv]
    simp only [Nat.zero_add, Nat.pow_zero, Nat.mul_one]
    rw [← e2, ← e0, ht, hd, hd2, if_pos ⟨h, by omega, by rw [List.take_of_length_le (by simp [crcTail])]⟩, List.take_left]
    rw [hl]
    congr 3
    omega
  rw [hp]
  simp
theorem frameOpen_some {b : List UInt8} {k : UInt8} {load : List UInt8} (h : frameOpen b = some (k, load)) : b = frameSeal k load ∧ load.length ≤ 1048576 := by
  unfold frameOpen at h
  cases b with
  | nil => simp [frameParse] at h
  | cons a r =>
    rw [frameParse_cons] at h
    cases hv : vFrom r 0 0 with
    | none => simp [hv] at h
    | some nm =>
      obtain ⟨n, m⟩ := nm
      simp only [hv] at h
      by_cases hc : n ≤ 1048576 ∧ 1 + m + n + 4 ≤ (a :: r).length ∧ (((a :: r).drop (1 + m + n)).take 4) = crcTail (crcSum ((a :: r).take (1 + m + n)))
      · rw [if_pos hc] at h
        simp only at h
        by_cases hl : 1 + m + n + 4 = (a :: r).length
        · rw [if_pos hl] at h
          injection h with h
          injection h with h1 h2
          subst h1
          obtain ⟨x, hx, hm, hml, ht, _⟩ := vFrom_spec r 0 0 n m hv
          have hx' : n = x := by simpa using hx
          subst hx'
          have ht' : r.take m = vForm n := by simpa using ht
          have e1 : (a :: r).drop (1 + m) = r.drop m := by rw [Nat.add_comm 1, List.drop_succ_cons]
          have hll : load.length = n := by
            rw [← h2, List.length_take, e1, List.length_drop]
            simp at hl
            omega
          refine ⟨?_, by omega⟩
          have hbody : (a :: r).take (1 + m + n) = frameBody a load := by
            rw [frameBody, hll, ← ht', ← h2, e1]
            rw [show 1 + m + n = (m + n) + 1 by omega, List.take_succ_cons, List.take_add]
          have hdl : ((a :: r).drop (1 + m + n)).length = 4 := by rw [List.length_drop]; omega
          have h4 := hc.2.2
          rw [List.take_of_length_le (by omega), hbody] at h4
          rw [frameSeal, ← h4, ← hbody, List.take_append_drop]
        · rw [if_neg hl] at h; cases h
      · rw [if_neg hc] at h; cases h
end Go.Proofs.YtplbcbamnjnhlaaGreatDoor
namespace Go.Proofs.YtplbcbamnjnhlaaGreatDoor
open Go.RowKit

theorem beVal_digs : ∀ (n x : Nat), beVal (beBytes n x) = x % 256 ^ n
  | 0, x => by simp [beBytes, bytesOfNat, digs, beVal, Nat.mod_one]
  | n + 1, x => by
    have ih := beVal_digs n (x / 256)
    have e : beBytes (n + 1) x = beBytes n (x / 256) ++ [UInt8.ofNat (x % 256)] := by simp [beBytes, bytesOfNat, digs]
    rw [e, beVal_snoc, ih]
    have h1 : (UInt8.ofNat (x % 256)).toNat = x % 256 := by simp
    rw [h1, Nat.pow_succ, Nat.mul_comm (256 ^ n) 256, Nat.mod_mul]
    omega
theorem beBytes_val (l : List UInt8) : beBytes l.length (beVal l) = l := by
  induction h : l.length generalizing l with
  | zero => rw [List.length_eq_zero_iff.1 h]; rfl
  | succ n ih =>
    have hn : l ≠ [] := by intro e; simp [e] at h
    have e := List.dropLast_concat_getLast hn
    have hl : l.dropLast.length = n := by rw [List.length_dropLast]; omega
    have e2 : ∀ x, beBytes (n + 1) x = beBytes n (x / 256) ++ [UInt8.ofNat (x % 256)] := fun x => by simp [beBytes, bytesOfNat, digs]
    have hc := (l.getLast hn).toNat_lt
    have hv : beVal l = beVal l.dropLast * 256 + (l.getLast hn).toNat := by conv => lhs; rw [← e, beVal_snoc]
    rw [e2, hv, show (beVal l.dropLast * 256 + (l.getLast hn).toNat) / 256 = beVal l.dropLast by omega, show (beVal l.dropLast * 256 + (l.getLast hn).toNat) % 256 = (l.getLast hn).toNat by omega, ih l.dropLast hl]
    simp [e]
theorem ofNat_val (c : UInt8) : UInt8.ofNat (beVal [c]) = c := by simp [beVal]
theorem keyAt_drop (l : List UInt8) (a b : Nat) : keyAt (l.drop a) b = keyAt l (a + b) := by simp [keyAt, Nat.add_assoc]
theorem keyAt_keyB (k : KeyD) (post : List UInt8) (h : k.1.length = 32) (h0 : 0 ≤ k.2) (h1 : k.2 < 256) : keyAt (keyB k ++ post) 0 = k := by
  obtain ⟨hh, n⟩ := k
  simp only at h h0 h1
  have e : keyB (hh, n) ++ post = hh ++ ([UInt8.ofNat n.toNat] ++ post) := by simp [keyB]
  unfold keyAt
  rw [e, List.drop_zero, ← h, List.take_left, Nat.zero_add, List.drop_left]
  have hn : (UInt8.ofNat n.toNat).toNat = n.toNat := by simp; omega
  rw [List.singleton_append, List.take_succ_cons, List.take_zero]
  refine Prod.ext rfl ?_
  simp only [beVal, List.foldl_cons, List.foldl_nil, hn]
  omega
theorem keyB_keyAt (l : List UInt8) (a : Nat) (h : a + 33 ≤ l.length) : keyB (keyAt l a) = (l.drop a).take 33 := by
  unfold keyB keyAt
  have h1 : ((l.drop (a + 32)).take 1) = [l[a + 32]] := by rw [List.drop_eq_getElem_cons (by omega), List.take_succ_cons, List.take_zero]
  have e : (((beVal [l[a + 32]] : Nat) : Int)).toNat = beVal [l[a + 32]] := rfl
  simp only [h1, e, ofNat_val]
  rw [show 33 = 32 + 1 from rfl, List.take_add, List.drop_drop, h1]
theorem keyAt_len (l : List UInt8) (a : Nat) (h : a + 33 ≤ l.length) : (keyAt l a).1.length = 32 := by
  simp [keyAt]
  omega
def GoodK (k : KeyD) : Prop := k.1.length = 32 ∧ 0 ≤ k.2 ∧ k.2 < 256
theorem keys_dec : ∀ (ks : List KeyD), (∀ k ∈ ks, GoodK k) → (List.range ks.length).map (fun i => keyAt (ks.flatMap keyB) (33 * i)) = ks
  | [], _ => rfl
  | k :: r, h => by
    have hk := h k (by simp)
    have ih := keys_dec r fun x hx => h x (by simp [hx])
    rw [List.length_cons, List.range_succ_eq_map, List.map_cons, List.map_map, List.flatMap_cons, Nat.mul_zero, keyAt_keyB k _ hk.1 hk.2.1 hk.2.2]
    congr 1
    refine Eq.trans ?_ ih
    apply List.map_congr_left
    intro i _
    show keyAt (keyB k ++ r.flatMap keyB) (33 * (i + 1)) = keyAt (r.flatMap keyB) (33 * i)
    have e : r.flatMap keyB = (keyB k ++ r.flatMap keyB).drop 33 := by rw [← keyB_length k hk.1, List.drop_left]
    conv => rhs; rw [e]
    rw [keyAt_drop, Nat.mul_add, Nat.add_comm]
theorem keys_enc : ∀ (n : Nat) (l : List UInt8), l.length = 33 * n → ((List.range n).map fun i => keyAt l (33 * i)).flatMap keyB = l
  | 0, l, h => by rw [List.length_eq_zero_iff.1 (by omega : l.length = 0)]; rfl
  | n + 1, l, h => by
    have ih := keys_enc n (l.drop 33) (by rw [List.length_drop]; omega)
    rw [List.range_succ_eq_map, List.map_cons, List.map_map, List.flatMap_cons, keyB_keyAt l _ (by omega)]
    have e : (List.range n).map ((fun i => keyAt l (33 * i)) ∘ Nat.succ) = (List.range n).map (fun i => keyAt (l.drop 33) (33 * i)) := by
      apply List.map_congr_left
      intro i _
      show keyAt l (33 * (i + 1)) = _
      rw [keyAt_drop, Nat.mul_add, Nat.add_comm]
    rw [e, ih, Nat.mul_zero, List.drop_zero, List.take_append_drop]
theorem keys_dec_good (n : Nat) (l : List UInt8) (h : l.length = 33 * n) : ∀ k ∈ (List.range n).map (fun i => keyAt l (33 * i)), k.1.length = 32 := by
  intro k hk
  obtain ⟨i, hi, rfl⟩ := List.mem_map.1 hk
  have := List.mem_range.1 hi
  exact keyAt_len l _ (by omega)
def GoodR (r : RecD) : Prop := rightB r = true ∧ Hs r ∧ ∀ k ∈ r.keys, k.1.length = 32
theorem kOk_bd {k : Int} (h : kOk k = true) : 0 ≤ k ∧ k < 256 := by unfold kOk at h; simp at h; omega
theorem good_keys {r : RecD} (h : GoodR r) : ∀ k ∈ r.keys, GoodK k := by
  intro k hk
  refine ⟨h.2.2 k hk, ?_⟩
  by_cases h7 : r.kind = 7
  · obtain ⟨kind, seq, kh, kk, mh, ms, keys⟩ := r
    simp only at h7
    subst h7
    obtain ⟨i, hi, rfl⟩ := List.getElem_of_mem hk
    exact kOk_bd ((rising_ok (right_7 h.1).2).2 i hi)
  · have h1 := h.1
    unfold rightB at h1
    simp only [h7, if_false, Bool.and_eq_true, decide_eq_true_eq] at h1
    rw [h1.2] at hk
    exact nomatch hk
theorem dec2 (l1 l2 l3 l4 : List UInt8) (n : Int) (h1 : l1.length = 6) (h2 : l2.length = 32) (h3 : l3.length = 32) (h4 : l4.length = 3) (hn : 0 ≤ n ∧ n < 256) :
    decR 2 (l1 ++ (keyB (l2, n) ++ (l3 ++ l4))) = ⟨2, (beVal l1 : Nat), l2, n, l3, (beVal l4 : Nat), []⟩ := by
  have e0 : (l1 ++ (keyB (l2, n) ++ (l3 ++ l4))).take 6 = l1 := by rw [← h1, List.take_left]
  have ek : keyAt (l1 ++ (keyB (l2, n) ++ (l3 ++ l4))) 6 = (l2, n) := by
    have := keyAt_drop (l1 ++ (keyB (l2, n) ++ (l3 ++ l4))) 6 0
    rw [← this, ← h1, List.drop_left]
    exact keyAt_keyB (l2, n) _ h2 hn.1 hn.2
  have e1 : (l1 ++ (keyB (l2, n) ++ (l3 ++ l4))).drop 39 = l3 ++ l4 := by
    rw [← List.append_assoc, show 39 = (l1 ++ keyB (l2, n)).length by rw [List.length_append, h1, keyB_length _ h2], List.drop_left]
  have e2 : (l1 ++ (keyB (l2, n) ++ (l3 ++ l4))).drop 71 = l4 := by
    rw [show 71 = 39 + 32 from rfl, ← List.drop_drop, e1, ← h3, List.drop_left]
  unfold decR
  rw [if_pos rfl, e0, ek, e1, e2, ← h3, List.take_left, List.take_of_length_le (by omega)]
theorem dec4 (l2 l3 l4 : List UInt8) (n : Int) (h2 : l2.length = 32) (h3 : l3.length = 32) (h4 : l4.length = 3) (hn : 0 ≤ n ∧ n < 256) :
    decR 4 (keyB (l2, n) ++ (l3 ++ l4)) = ⟨4, 0, l2, n, l3, (beVal l4 : Nat), []⟩ := by
  have ek : keyAt (keyB (l2, n) ++ (l3 ++ l4)) 0 = (l2, n) := keyAt_keyB (l2, n) _ h2 hn.1 hn.2
  have e1 : (keyB (l2, n) ++ (l3 ++ l4)).drop 33 = l3 ++ l4 := by
    rw [show 33 = (keyB (l2, n)).length by rw [keyB_length _ h2], List.drop_left]
  have e2 : (keyB (l2, n) ++ (l3 ++ l4)).drop 65 = l4 := by
    rw [show 65 = 33 + 32 from rfl, ← List.drop_drop, e1, ← h3, List.drop_left]
  unfold decR
  rw [if_neg (by decide), if_neg (by decide), if_pos rfl, ek, e1, e2, ← h3, List.take_left, List.take_of_length_le (by omega)]
theorem be_back (n : Nat) (x : Int) (h0 : 0 ≤ x) (h1 : x.toNat < 256 ^ n) : ((beVal (beBytes n x.toNat) : Nat) : Int) = x := by
  rw [beVal_digs, Nat.mod_eq_of_lt h1]
  omega
theorem load_dec {r : RecD} (h : GoodR r) : okT r.kind (loadL r) = true ∧ decR r.kind (loadL r) = r := by
  have hg := good_keys h
  obtain ⟨hR, ⟨hh, hm⟩, hks⟩ := h
  have hk := right_kind hR
  have key : lenT r.kind (loadL r) = true ∧ decR r.kind (loadL r) = r := by
    have hR2 := hR
    obtain ⟨kind, seq, kh, kk, mh, ms, keys⟩ := r
    simp only at hk hh hm hg hks
    unfold rightB at hR2
    rcases hk with rfl | rfl | rfl | rfl | rfl | rfl | rfl
    · simp at hR2
      obtain ⟨⟨⟨rfl, rfl, rfl⟩, rfl, rfl⟩, rfl⟩ := hR2
      exact ⟨rfl, rfl⟩
    · simp [seqOk, markOk] at hR2
      obtain ⟨⟨⟨h1, h2⟩, h3, h4, h5⟩, rfl⟩ := hR2
      have e : loadL ⟨2, seq, kh, kk, mh, ms, []⟩ = beBytes 6 seq.toNat ++ (keyB (kh, kk) ++ (mh ++ beBytes 3 ms.toNat)) := by simp [loadL]
      have hb := kOk_bd h3
      rw [e]
      refine ⟨?_, ?_⟩
      · simp [lenT, beBytes_length, keyB_length _ (show (kh, kk).1.length = 32 from hh), hm]
      · rw [dec2 _ _ _ _ _ (beBytes_length _ _) hh hm (beBytes_length _ _) hb, be_back 6 seq h1 (by omega), be_back 3 ms h4 (by omega)]
    · simp [seqOk] at hR2
      obtain ⟨⟨⟨⟨h1, h2⟩, rfl, rfl⟩, rfl, rfl⟩, rfl⟩ := hR2
      have e : loadL ⟨3, seq, z32, 0, z32, 0, []⟩ = beBytes 6 seq.toNat := by simp [loadL]
      rw [e]
      refine ⟨by simp [lenT, beBytes_length], ?_⟩
      have e2 : decR 3 (beBytes 6 seq.toNat) = ⟨3, (beVal ((beBytes 6 seq.toNat).take 6) : Nat), z32, 0, z32, 0, []⟩ := rfl
      rw [e2, List.take_of_length_le (by rw [beBytes_length]; omega), be_back 6 seq h1 (by omega)]
    · simp [markOk] at hR2
      obtain ⟨⟨rfl, h3, h4, h5⟩, rfl⟩ := hR2
      have e : loadL ⟨4, 0, kh, kk, mh, ms, []⟩ = keyB (kh, kk) ++ (mh ++ beBytes 3 ms.toNat) := by simp [loadL]
      have hb := kOk_bd h3
      rw [e]
      refine ⟨?_, ?_⟩
      · simp [lenT, beBytes_length, keyB_length _ (show (kh, kk).1.length = 32 from hh), hm]
      · rw [dec4 _ _ _ _ hh hm (beBytes_length _ _) hb, be_back 3 ms h4 (by omega)]
    · simp at hR2
      obtain ⟨⟨⟨rfl, rfl, rfl⟩, h3⟩, rfl⟩ := hR2
      have hb := kOk_bd h3
      have e : loadL ⟨5, 0, kh, kk, z32, 0, []⟩ = keyB (kh, kk) := by simp [loadL]
      rw [e]
      refine ⟨by simp [lenT, keyB_length _ (show (kh, kk).1.length = 32 from hh)], ?_⟩
      have ek : keyAt (keyB (kh, kk)) 0 = (kh, kk) := by have := keyAt_keyB (kh, kk) [] hh hb.1 hb.2; rwa [List.append_nil] at this
      have e2 : decR 5 (keyB (kh, kk)) = ⟨5, 0, (keyAt (keyB (kh, kk)) 0).1, (keyAt (keyB (kh, kk)) 0).2, z32, 0, []⟩ := rfl
      rw [e2, ek]
    · simp at hR2
      obtain ⟨⟨⟨rfl, rfl, rfl⟩, h3⟩, rfl⟩ := hR2
      have hb := kOk_bd h3
      have e : loadL ⟨6, 0, kh, kk, z32, 0, []⟩ = keyB (kh, kk) := by simp [loadL]
      rw [e]
      refine ⟨by simp [lenT, keyB_length _ (show (kh, kk).1.length = 32 from hh)], ?_⟩
      have ek : keyAt (keyB (kh, kk)) 0 = (kh, kk) := by have := keyAt_keyB (kh, kk) [] hh hb.1 hb.2; rwa [List.append_nil] at this
      have e2 : decR 6 (keyB (kh, kk)) = ⟨6, 0, (keyAt (keyB (kh, kk)) 0).1, (keyAt (keyB (kh, kk)) 0).2, z32, 0, []⟩ := rfl
      rw [e2, ek]
    · simp at hR2
      obtain ⟨⟨⟨rfl, rfl, rfl⟩, rfl, rfl⟩, _⟩ := hR2
      have e : loadL ⟨7, 0, z32, 0, z32, 0, keys⟩ = keys.flatMap keyB := by simp [loadL]
      have hl := flat_keys_length keys hks
      rw [e]
      refine ⟨by simp [lenT, hl], ?_⟩
      have e2 : ∀ l, decR 7 l = ⟨7, 0, z32, 0, z32, 0, (List.range (l.length / 33)).map fun i => keyAt l (33 * i)⟩ := fun l => rfl
      rw [e2, hl, Nat.mul_div_cancel_left _ (by omega), keys_dec keys hg]
  refine ⟨?_, key.2⟩
  unfold okT
  rw [key.1, key.2, hR]
  rfl
theorem dec_load {k : Int} {l : List UInt8} (h : okT k l = true) : GoodR (decR k l) ∧ loadL (decR k l) = l ∧ (decR k l).kind = k := by
  unfold okT at h
  rw [Bool.and_eq_true] at h
  obtain ⟨hL, hR⟩ := h
  have hkk : (decR k l).kind = k := by
    unfold decR
    repeat' split
    all_goals first | rfl | (subst_vars; rfl) | skip
  have hk := right_kind hR
  rw [hkk] at hk
  rcases hk with rfl | rfl | rfl | rfl | rfl | rfl | rfl
  · have : l = [1] := by simpa [lenT] using hL
    subst this
    exact ⟨⟨hR, ⟨rfl, rfl⟩, fun _ h => nomatch h⟩, rfl, hkk⟩
  · have hl : l.length = 74 := by simpa [lenT] using hL
    have e : decR 2 l = ⟨2, (beVal (l.take 6) : Nat), (keyAt l 6).1, (keyAt l 6).2, (l.drop 39).take 32, (beVal ((l.drop 71).take 3) : Nat), []⟩ := rfl
    refine ⟨⟨hR, ⟨keyAt_len l 6 (by omega), by rw [e]; simp; omega⟩, fun _ h => nomatch h⟩, ?_, hkk⟩
    rw [e]
    simp only [loadL]
    simp
    have e1 := beBytes_val (l.take 6)
    rw [show (l.take 6).length = 6 by simp; omega] at e1
    have e2 := beBytes_val ((l.drop 71).take 3)
    rw [show ((l.drop 71).take 3).length = 3 by simp; omega] at e2
    have e3 := keyB_keyAt l 6 (by omega)
    rw [e1, e2, e3]
    have s1 : l = l.take 6 ++ l.drop 6 := (List.take_append_drop 6 l).symm
    have s2 : l.drop 6 = (l.drop 6).take 33 ++ l.drop 39 := by conv => lhs; rw [← List.take_append_drop 33 (l.drop 6), List.drop_drop]
    have s3 : l.drop 39 = (l.drop 39).take 32 ++ l.drop 71 := by conv => lhs; rw [← List.take_append_drop 32 (l.drop 39), List.drop_drop]
    have s4 : (l.drop 71).take 3 = l.drop 71 := List.take_of_length_le (by simp; omega)
    rw [s4, ← s3, ← s2, ← s1]
  · have hl : l.length = 6 := by simpa [lenT] using hL
    have e : decR 3 l = ⟨3, (beVal (l.take 6) : Nat), z32, 0, z32, 0, []⟩ := rfl
    refine ⟨⟨hR, ⟨rfl, rfl⟩, fun _ h => nomatch h⟩, ?_, hkk⟩
    rw [e]
    simp only [loadL]
    simp
    have e1 := beBytes_val (l.take 6)
    rw [show (l.take 6).length = 6 by simp; omega] at e1
    rw [e1, List.take_of_length_le (by omega)]
  · have hl : l.length = 68 := by simpa [lenT] using hL
    have e : decR 4 l = ⟨4, 0, (keyAt l 0).1, (keyAt l 0).2, (l.drop 33).take 32, (beVal ((l.drop 65).take 3) : Nat), []⟩ := rfl
    refine ⟨⟨hR, ⟨keyAt_len l 0 (by omega), by rw [e]; simp; omega⟩, fun _ h => nomatch h⟩, ?_, hkk⟩
    rw [e]
    simp only [loadL]
    simp
    have e2 := beBytes_val ((l.drop 65).take 3)
    rw [show ((l.drop 65).take 3).length = 3 by simp; omega] at e2
    have e3 := keyB_keyAt l 0 (by omega)
    rw [e2, e3]
    have s2 : l = (l.drop 0).take 33 ++ l.drop 33 := (List.take_append_drop 33 l).symm
    have s3 : l.drop 33 = (l.drop 33).take 32 ++ l.drop 65 := by conv => lhs; rw [← List.take_append_drop 32 (l.drop 33), List.drop_drop]
    have s4 : (l.drop 65).take 3 = l.drop 65 := List.take_of_length_le (by simp; omega)
    rw [s4, ← s3, ← s2]
  · have hl : l.length = 33 := by simpa [lenT] using hL
    have e : decR 5 l = ⟨5, 0, (keyAt l 0).1, (keyAt l 0).2, z32, 0, []⟩ := rfl
    refine ⟨⟨hR, ⟨keyAt_len l 0 (by omega), rfl⟩, fun _ h => nomatch h⟩, ?_, hkk⟩
    rw [e]
    simp only [loadL]
    simp
    rw [keyB_keyAt l 0 (by omega), List.drop_zero, List.take_of_length_le (by omega)]
  · have hl : l.length = 33 := by simpa [lenT] using hL
    have e : decR 6 l = ⟨6, 0, (keyAt l 0).1, (keyAt l 0).2, z32, 0, []⟩ := rfl
    refine ⟨⟨hR, ⟨keyAt_len l 0 (by omega), rfl⟩, fun _ h => nomatch h⟩, ?_, hkk⟩
    rw [e]
    simp only [loadL]
    simp
    rw [keyB_keyAt l 0 (by omega), List.drop_zero, List.take_of_length_le (by omega)]
  · have hl : l.length % 33 = 0 := by simpa [lenT] using hL
    have hl2 : l.length = 33 * (l.length / 33) := by omega
    have e : decR 7 l = ⟨7, 0, z32, 0, z32, 0, (List.range (l.length / 33)).map fun i => keyAt l (33 * i)⟩ := rfl
    refine ⟨⟨hR, ⟨rfl, rfl⟩, ?_⟩, ?_, hkk⟩
    · rw [e]
      exact keys_dec_good _ l hl2
    · rw [e]
      simp only [loadL]
      simp
      exact keys_enc _ l hl2
end Go.Proofs.YtplbcbamnjnhlaaGreatDoor
namespace Go.Proofs.YtplbcbamnjnhlaaGreatDoor
open Go.RowKit

def bodyL (x : List UInt8) : Option RecD := match sevUnpack x with
  | none => none
  | some b => match frameOpen b with
    | none => none
    | some (k, load) => if okT (k.toNat : Nat) load = true then some (decR (k.toNat : Nat) load) else none
def parseL (l : List UInt8) : Option RecD := if 1 ≤ l.length ∧ l.getD (l.length - 1) 0 = 10 then bodyL (l.take (l.length - 1)) else none
def frameR (r : RecD) : List UInt8 := frameSeal (UInt8.ofNat r.kind.toNat) (loadL r)
theorem lineL_eq (r : RecD) : lineL r = sevPack (frameR r) ++ [10] := rfl
theorem kind_u8 {r : RecD} (h : GoodR r) : (((UInt8.ofNat r.kind.toNat).toNat : Nat) : Int) = r.kind := by
  have hk := right_kind h.1
  simp
  omega
theorem bodyL_line {r : RecD} (h : GoodR r) : bodyL (sevPack (frameR r)) = some r := by
  have hl := loadL_le r h.2.1 h.2.2 h.1
  have hd := load_dec h
  unfold bodyL
  rw [sevUnpack_pack]
  simp only
  rw [frameR, frameOpen_seal _ _ (by omega)]
  simp only
  rw [kind_u8 h, if_pos hd.1, hd.2]
theorem parseL_line {r : RecD} (h : GoodR r) : parseL (lineL r) = some r := by
  unfold parseL
  rw [lineL_eq, List.length_append, List.length_singleton, Nat.add_sub_cancel, List.take_left]
  have : (sevPack (frameR r) ++ [(10 : UInt8)]).getD (sevPack (frameR r)).length 0 = 10 := by simp [List.getD_eq_getElem?_getD]
  rw [this, if_pos ⟨by omega, rfl⟩, bodyL_line h]
theorem bodyL_some {x : List UInt8} {r : RecD} (h : bodyL x = some r) : GoodR r ∧ x = sevPack (frameR r) := by
  unfold bodyL at h
  cases hb : sevUnpack x with
  | none => rw [hb] at h; cases h
  | some b =>
    rw [hb] at h
    simp only at h
    cases hf : frameOpen b with
    | none => rw [hf] at h; cases h
    | some kl =>
      obtain ⟨k, load⟩ := kl
      rw [hf] at h
      simp only at h
      by_cases ho : okT (k.toNat : Nat) load = true
      · rw [if_pos ho] at h
        injection h with h
        subst h
        obtain ⟨h1, h2, h3⟩ := dec_load ho
        obtain ⟨h4, _⟩ := frameOpen_some hf
        refine ⟨h1, ?_⟩
        rw [sevPack_unpack hb, frameR, h2, h3, h4]
        congr 2
        have : ((k.toNat : Int)).toNat = k.toNat := rfl
        rw [this]
        simp
      · rw [if_neg ho] at h; cases h
theorem parseL_some {l : List UInt8} {r : RecD} (h : parseL l = some r) : GoodR r ∧ l = lineL r := by
  unfold parseL at h
  by_cases hc : 1 ≤ l.length ∧ l.getD (l.length - 1) 0 = 10
  · rw [if_pos hc] at h
    obtain ⟨h1, h2⟩ := bodyL_some h
    refine ⟨h1, ?_⟩
    rw [lineL_eq, ← h2]
    have hl : l.length - 1 < l.length := by omega
    have e : l[l.length - 1] = 10 := by have := hc.2; rwa [List.getD_eq_getElem?_getD, List.getElem?_eq_getElem hl] at this
    have e2 := List.take_append_getElem hl
    rw [e] at e2
    rw [e2, Nat.sub_add_cancel hc.1, List.take_length]
  · rw [if_neg hc] at h; cases h
theorem sev_high (x : List UInt8) : ∀ c ∈ sevPack x, 128 ≤ c.toNat := by
  intro c hc
  have := List.all_eq_true.1 (highB_sevOf ((8 * x.length + 6) / 7) (v256 x)) c hc
  simpa using this
theorem line_get {r : RecD} {j : Nat} (h : j < (sevPack (frameR r)).length) (h' : j < (lineL r).length) : 128 ≤ ((lineL r)[j]'h').toNat := by
  simp only [lineL_eq, List.getElem_append_left h]
  exact sev_high _ _ (List.getElem_mem _)
theorem line_len (r : RecD) : (lineL r).length = (sevPack (frameR r)).length + 1 := by rw [lineL_eq, List.length_append]; rfl
theorem line_last (r : RecD) (h : (sevPack (frameR r)).length < (lineL r).length) : (lineL r)[(sevPack (frameR r)).length]'h = 10 := by
  simp [lineL_eq]
def FeedAt (c : List UInt8) (n : Nat) : Prop := c[n]? = some 10 ∧ ∀ j, j < n → c[j]? ≠ some 10
theorem FeedAt.one {c : List UInt8} {n m : Nat} (h1 : FeedAt c n) (h2 : FeedAt c m) : n = m := by
  rcases Nat.lt_trichotomy n m with h | h | h
  · exact absurd h1.1 (h2.2 n h)
  · exact h
  · exact absurd h2.1 (h1.2 m h)
theorem feed_line (r : RecD) (c : List UInt8) : FeedAt (lineL r ++ c) ((lineL r).length - 1) := by
  have hl := line_len r
  refine ⟨?_, fun j hj he => ?_⟩
  · rw [List.getElem?_append_left (by omega)]
    rw [List.getElem?_eq_getElem (by omega)]
    congr 1
    have := line_last r (by omega)
    simpa [hl] using this
  · rw [List.getElem?_append_left (by omega), List.getElem?_eq_getElem (by omega)] at he
    injection he with he
    have := line_get (r := r) (j := j) (by omega) (by omega)
    rw [he] at this
    exact absurd this (by decide)
def Stuck (c : List UInt8) : Prop := ∀ n, FeedAt c n → parseL (c.take (n + 1)) = none
theorem not_stuck {r : RecD} (h : GoodR r) (c : List UInt8) : ¬ Stuck (lineL r ++ c) := by
  intro hs
  have := hs _ (feed_line r c)
  have hl := line_len r
  rw [Nat.sub_add_cancel (by omega), List.take_left, parseL_line h] at this
  cases this
theorem line_inj {r r' : RecD} {c c' : List UInt8} (h : GoodR r) (h' : GoodR r') (he : lineL r ++ c = lineL r' ++ c') : r = r' ∧ c = c' := by
  have h1 := feed_line r c
  have h2 := feed_line r' c'
  rw [he] at h1
  have hl := line_len r
  have hl' := line_len r'
  have hn := h1.one h2
  have hll : (lineL r).length = (lineL r').length := by omega
  obtain ⟨h3, h4⟩ := List.append_inj he hll
  refine ⟨?_, h4⟩
  have := parseL_line h
  rw [h3, parseL_line h'] at this
  injection this with this
  exact this.symm
structure AllTo (b : List UInt8) (rs : List RecD) (n : Nat) : Prop where
  le : n ≤ b.length
  lines : b.take n = rs.flatMap lineL
  good : ∀ r ∈ rs, GoodR r
  stuck : Stuck (b.drop n)
theorem all_nil_cons {r : RecD} {rs' : List RecD} {b : List UInt8} {n n' : Nat} (h : AllTo b [] n) (h' : AllTo b (r :: rs') n') : False := by
  have h1 := congrArg List.length h.lines
  have := h.le
  rw [List.length_take] at h1
  simp only [List.flatMap_nil, List.length_nil] at h1
  have e : b = lineL r ++ (rs'.flatMap lineL ++ b.drop n') := by
    conv => lhs; rw [← List.take_append_drop n' b, h'.lines, List.flatMap_cons, List.append_assoc]
  have hl := line_len r
  have hbl := congrArg List.length e
  rw [List.length_append] at hbl
  have hn0 : n = 0 := by omega
  subst hn0
  have hs := h.stuck
  rw [List.drop_zero, e] at hs
  exact not_stuck (h'.good r (by simp)) _ hs
theorem all_one : ∀ {rs rs' : List RecD} {b : List UInt8} {n n' : Nat}, AllTo b rs n → AllTo b rs' n' → rs = rs' ∧ n = n'
  | [], [], b, n, n', h, h' => by
    have h1 := congrArg List.length h.lines
    have h2 := congrArg List.length h'.lines
    have := h.le
    have := h'.le
    rw [List.length_take] at h1 h2
    simp only [List.flatMap_nil, List.length_nil] at h1 h2
    exact ⟨rfl, by omega⟩
  | [], r :: rs', b, n, n', h, h' => (all_nil_cons h h').elim
  | r :: rs, [], b, n, n', h, h' => (all_nil_cons h' h).elim
  | r :: rs, r' :: rs', b, n, n', h, h' => by
    have e : b = lineL r ++ (rs.flatMap lineL ++ b.drop n) := by
      conv => lhs; rw [← List.take_append_drop n b, h.lines, List.flatMap_cons, List.append_assoc]
    have e' : b = lineL r' ++ (rs'.flatMap lineL ++ b.drop n') := by
      conv => lhs; rw [← List.take_append_drop n' b, h'.lines, List.flatMap_cons, List.append_assoc]
    obtain ⟨rfl, ec⟩ := line_inj (h.good r (by simp)) (h'.good r' (by simp)) (e.symm.trans e')
    have lenL := congrArg List.length h.lines
    have lenL' := congrArg List.length h'.lines
    have hle := h.le
    have hle' := h'.le
    rw [List.length_take, List.flatMap_cons, List.length_append] at lenL lenL'
    have t : AllTo (rs.flatMap lineL ++ b.drop n) rs (n - (lineL r).length) := by
      refine ⟨?_, ?_, fun x hx => h.good x (by simp [hx]), ?_⟩
      · rw [List.length_append]; omega
      · rw [show n - (lineL r).length = (rs.flatMap lineL).length by omega, List.take_left]
      · rw [show n - (lineL r).length = (rs.flatMap lineL).length by omega, List.drop_left]
        exact h.stuck
    have t' : AllTo (rs.flatMap lineL ++ b.drop n) rs' (n' - (lineL r).length) := by
      rw [ec]
      refine ⟨?_, ?_, fun x hx => h'.good x (by simp [hx]), ?_⟩
      · rw [List.length_append]; omega
      · rw [show n' - (lineL r).length = (rs'.flatMap lineL).length by omega, List.take_left]
      · rw [show n' - (lineL r).length = (rs'.flatMap lineL).length by omega, List.drop_left]
        exact h'.stuck
    obtain ⟨rfl, hn⟩ := all_one t t'
    exact ⟨rfl, by omega⟩
end Go.Proofs.YtplbcbamnjnhlaaGreatDoor
namespace Go.Proofs.YtplbcbamnjnhlaaGreatDoor
open Go.RowKit

theorem AllTo.cons {r : RecD} {c : List UInt8} {rs : List RecD} {n : Nat} (h : AllTo c rs n) (hr : GoodR r) : AllTo (lineL r ++ c) (r :: rs) ((lineL r).length + n) := by
  refine ⟨?_, ?_, ?_, ?_⟩
  · have := h.le
    rw [List.length_append]; omega
  · rw [List.take_length_add_append, h.lines, List.flatMap_cons]
  · intro x hx
    rcases List.mem_cons.1 hx with rfl | hx
    · exact hr
    · exact h.good x hx
  · rw [List.drop_length_add_append]
    exact h.stuck
theorem AllTo.nil {c : List UInt8} (h : Stuck c) : AllTo c [] 0 := ⟨Nat.zero_le _, rfl, (fun _ h => nomatch h), h⟩
end Go.Proofs.YtplbcbamnjnhlaaGreatDoor
