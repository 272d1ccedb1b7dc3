/- Texts of this proof joined: Names, Seg2, Rising. -/
import Derived.Test.YtplbcbamnjnhlaaDoorMP14
import Derived.Lib.Strings
import Derived.Test.YtplbcbamnjnhlaaDoorMP06
/- The plain law of names: what key.Write and key.Read compute; a name is read as what it names, and what is read names the text. -/
namespace Go.Proofs.YtplbcbamnjnhlaaDoor
open Go.RowKit

/-- a name: its kind, its key, its number -/
structure NmD where
  kind : Int
  h : List UInt8
  k : Int
  n : Int
def jour : List UInt8 := [106, 111, 117, 114, 110, 97, 108]
def jnew : List UInt8 := [106, 111, 117, 114, 110, 97, 108, 46, 110, 101, 119]
def frontL (k : Int) : List UInt8 := if k = 1 then [111, 45] else if k = 2 then [116, 45] else if k = 3 then [113, 45] else if k = 4 then jour else jnew
def nameL (x : NmD) : List UInt8 :=
  if x.kind = 1 then (if kOk x.k then [111, 45] ++ keyText x.h x.k else [])
  else if x.kind = 2 ∨ x.kind = 3 then (if 0 ≤ x.n ∧ x.n ≤ 1000000000 then frontL x.kind ++ Lib.itoa x.n else [])
  else if x.kind = 4 then jour else if x.kind = 5 then jnew else []
def candL (k : Int) (t : List UInt8) : NmD :=
  if k = 1 then (match keyOf t with | some (b, kk) => ⟨1, b, kk, 0⟩ | none => ⟨1, z32, 0, 0⟩) else ⟨k, z32, 0, atoiV t⟩
def tryL (k : Int) (s : List UInt8) : Option NmD :=
  if Lib.hasPrefix s (frontL k) then (if nameL (candL k (Lib.trimPrefix s (frontL k))) = s then some (candL k (Lib.trimPrefix s (frontL k))) else none) else none
def noName : NmD := ⟨0, z32, 0, 0⟩
def readL (s : List UInt8) : NmD :=
  if s = jour then ⟨4, z32, 0, 0⟩ else if s = jnew then ⟨5, z32, 0, 0⟩ else
    match tryL 1 s with
    | some x => x
    | none => match tryL 2 s with
      | some x => x
      | none => match tryL 3 s with
        | some x => x
        | none => noName
theorem keyText_len (h : List UInt8) (k : Int) (hh : h.length = 32) (hk : kOk k = true) : (keyText h k).length = 66 := by
  unfold keyText
  rw [if_pos hk, List.length_append, hexOf_length, hh]
  rfl
theorem keyText_ne (h : List UInt8) (k : Int) : keyText h k = [] ↔ kOk k = false := by
  unfold keyText
  cases kOk k <;> simp
/-- a key's text is read as the key -/
theorem keyOf_text (h : List UInt8) (k : Int) (hh : h.length = 32) : keyOf (keyText h k) = if kOk k then some (h, k) else none := by
  rw [keyOf_eq]
  cases hk : kOk k
  · rw [(keyText_ne h k).2 hk]
    rfl
  · have hl : (hexOf h).length = 64 := by rw [hexOf_length, hh]
    have hb : 1 ≤ k ∧ k ≤ 4 := by unfold kOk at hk; simpa using hk
    have ht : keyText h k = hexOf h ++ [45, UInt8.ofNat (48 + k.toNat)] := by unfold keyText; rw [if_pos hk]
    have h64 : (keyText h k).getD 64 0 = 45 := by
      rw [ht, List.getD_eq_getElem?_getD, List.getElem?_append_right (by omega), hl]
      rfl
    have h65 : (keyText h k).getD 65 0 = UInt8.ofNat (48 + k.toNat) := by
      rw [ht, List.getD_eq_getElem?_getD, List.getElem?_append_right (by omega), hl]
      rfl
    have hn : (UInt8.ofNat (48 + k.toNat)).toNat = 48 + k.toNat := by rw [UInt8.toNat_ofNat']; omega
    have htk : (keyText h k).take 64 = hexOf h := by rw [ht, List.take_append_of_le_length (by omega), List.take_of_length_le (by omega)]
    unfold parse17
    rw [h64, h65, htk, hn, unhex_hexOf, keyText_len h k hh hk, if_pos ⟨rfl, rfl, by omega, by omega⟩, if_pos rfl]
    simp only [Option.map_some]
    congr 2
    omega
/-- what is read as a key is the key's text -/
theorem text_keyOf (l b : List UInt8) (k : Int) (h : keyOf l = some (b, k)) : keyText b k = l ∧ b.length = 32 ∧ kOk k = true := by
  rw [keyOf_eq] at h
  unfold parse17 at h
  split at h
  · rename_i hc
    obtain ⟨h66, h45, h49, h52⟩ := hc
    cases hu : unhex (l.take 64) with
    | none => rw [hu] at h; cases h
    | some t =>
      rw [hu] at h
      simp only [Option.map_some, Option.some.injEq, Prod.mk.injEq] at h
      obtain ⟨rfl, rfl⟩ := h
      obtain ⟨h1, h2⟩ := unhex_text _ _ hu
      have h3 : t.length = 32 := by rw [List.length_take] at h2; omega
      have hk : kOk (((l.getD 65 0).toNat : Int) - 48) = true := by unfold kOk; exact decide_eq_true (by omega)
      refine ⟨?_, h3, hk⟩
      unfold keyText
      rw [if_pos hk, h1]
      have e1 : UInt8.ofNat (48 + (((l.getD 65 0).toNat : Int) - 48).toNat) = l.getD 65 0 := by
        rw [show 48 + (((l.getD 65 0).toNat : Int) - 48).toNat = (l.getD 65 0).toNat by omega]
        simp
      rw [e1, ← h45]
      have e2 : l.drop 64 = [l.getD 64 0, l.getD 65 0] := by
        rw [List.drop_eq_getElem_cons (by omega), List.drop_eq_getElem_cons (by omega), List.drop_eq_nil_of_le (by omega), List.getD_eq_getElem?_getD, List.getD_eq_getElem?_getD, List.getElem?_eq_getElem (by omega), List.getElem?_eq_getElem (by omega)]
        rfl
      rw [← e2, List.take_append_drop]
  · cases h
theorem hasPrefix_app (p t : List UInt8) : Lib.hasPrefix (p ++ t) p = true := by
  unfold Lib.hasPrefix
  rw [List.isPrefixOf_iff_prefix]
  exact List.prefix_append p t
theorem trimPrefix_app (p t : List UInt8) : Lib.trimPrefix (p ++ t) p = t := by
  unfold Lib.trimPrefix
  rw [hasPrefix_app, if_pos rfl]
  simp
theorem hasPrefix_two (a b c d : UInt8) (t : List UInt8) : Lib.hasPrefix (a :: b :: t) [c, d] = (c == a && (d == b)) := by
  simp [Lib.hasPrefix, List.isPrefixOf]
theorem tryL_name (k : Int) (s : List UInt8) (x : NmD) (h : tryL k s = some x) : nameL x = s ∧ x.kind = k := by
  unfold tryL at h
  split at h
  · split at h
    · rename_i hn
      cases h
      refine ⟨hn, ?_⟩
      unfold candL
      split
      · rename_i hk
        subst hk
        split <;> rfl
      · rfl
    · cases h
  · cases h
/-- what is read names the text, or it is no name -/
theorem read_name (s : List UInt8) : nameL (readL s) = s ∧ (readL s).kind ≠ 0 ∨ readL s = noName ∧ s ≠ jour ∧ s ≠ jnew ∧ tryL 1 s = none := by
  unfold readL
  split
  · rename_i h; subst h; exact .inl ⟨rfl, by decide⟩
  split
  · rename_i h; subst h; exact .inl ⟨rfl, by decide⟩
  rename_i h1 h2
  cases e1 : tryL 1 s with
  | some x => obtain ⟨p, q⟩ := tryL_name _ _ _ e1; exact .inl ⟨p, by rw [q]; decide⟩
  | none =>
    cases e2 : tryL 2 s with
    | some x => obtain ⟨p, q⟩ := tryL_name _ _ _ e2; exact .inl ⟨p, by rw [q]; decide⟩
    | none =>
      cases e3 : tryL 3 s with
      | some x => obtain ⟨p, q⟩ := tryL_name _ _ _ e3; exact .inl ⟨p, by rw [q]; decide⟩
      | none => exact .inr ⟨rfl, h1, h2, rfl⟩
/-- where no name is read, no key stands behind the first front -/
theorem read_nokey (t : List UInt8) (h : tryL 1 ([111, 45] ++ t) = none) : keyOf t = none := by
  unfold tryL at h
  rw [show frontL 1 = [111, 45] from rfl, hasPrefix_app, if_pos rfl, trimPrefix_app] at h
  cases hk : keyOf t with
  | none => rfl
  | some p =>
    obtain ⟨b, k⟩ := p
    exfalso
    have hc : candL 1 t = ⟨1, b, k, 0⟩ := by unfold candL; rw [if_pos rfl, hk]
    obtain ⟨h1, _, h3⟩ := text_keyOf t b k hk
    rw [hc, show nameL ⟨1, b, k, 0⟩ = [111, 45] ++ t by unfold nameL; rw [if_pos rfl, if_pos h3, h1], if_pos rfl] at h
    cases h
theorem tryL_other (k : Int) (a : UInt8) (t : List UInt8) (c : UInt8) (hf : frontL k = [c, 45]) (hne : c ≠ a) : tryL k (a :: 45 :: t) = none := by
  unfold tryL
  rw [hf, hasPrefix_two, show (c == a) = false by rw [beq_eq_false_iff_ne]; exact hne]
  rfl
/-- a name is read as what it names -/
theorem read_write (x : NmD) (hh : x.h.length = 32) (hn : nameL x ≠ []) :
    readL (nameL x) = ⟨x.kind, if x.kind = 1 then x.h else z32, if x.kind = 1 then x.k else 0, if x.kind = 2 ∨ x.kind = 3 then x.n else 0⟩ := by
  obtain ⟨kind, h, k, n⟩ := x
  simp only at hh ⊢
  by_cases h1 : kind = 1
  · subst h1
    cases hk : kOk k
    · exfalso
      apply hn
      unfold nameL
      rw [if_pos rfl]
      simp [hk]
    · have hs : nameL ⟨1, h, k, n⟩ = [111, 45] ++ keyText h k := by unfold nameL; rw [if_pos rfl, if_pos hk]
      rw [hs]
      have n1 : ¬ ([111, 45] ++ keyText h k = jour) := fun he => by have := congrArg List.head? he; simp [jour] at this
      have n2 : ¬ ([111, 45] ++ keyText h k = jnew) := fun he => by have := congrArg List.head? he; simp [jnew] at this
      have ht : tryL 1 ([111, 45] ++ keyText h k) = some ⟨1, h, k, 0⟩ := by
        unfold tryL
        have hc : candL 1 (keyText h k) = ⟨1, h, k, 0⟩ := by unfold candL; rw [if_pos rfl, keyOf_text h k hh, if_pos hk]
        rw [show frontL 1 = [111, 45] from rfl, hasPrefix_app, if_pos rfl, trimPrefix_app, hc, show nameL ⟨1, h, k, 0⟩ = [111, 45] ++ keyText h k by unfold nameL; rw [if_pos rfl, if_pos hk], if_pos rfl]
      unfold readL
      rw [if_neg n1, if_neg n2, ht]
      simp
  by_cases h23 : kind = 2 ∨ kind = 3
  · by_cases hr : 0 ≤ n ∧ n ≤ 1000000000
    · have hs : nameL ⟨kind, h, k, n⟩ = frontL kind ++ Lib.itoa n := by unfold nameL; rw [if_neg h1, if_pos h23, if_pos hr]
      have hs2 : nameL ⟨kind, z32, 0, n⟩ = frontL kind ++ Lib.itoa n := by unfold nameL; rw [if_neg h1, if_pos h23, if_pos hr]
      rw [hs]
      have ht : tryL kind (frontL kind ++ Lib.itoa n) = some ⟨kind, z32, 0, n⟩ := by
        unfold tryL
        have hc : candL kind (Lib.itoa n) = ⟨kind, z32, 0, n⟩ := by unfold candL; rw [if_neg h1, atoiV_itoa n hr.1 hr.2]
        rw [hasPrefix_app, if_pos rfl, trimPrefix_app, hc, hs2, if_pos rfl]
      rcases h23 with rfl | rfl
      · have n1 : ¬ (frontL 2 ++ Lib.itoa n = jour) := fun he => by have := congrArg List.head? he; simp [jour, frontL] at this
        have n2 : ¬ (frontL 2 ++ Lib.itoa n = jnew) := fun he => by have := congrArg List.head? he; simp [jnew, frontL] at this
        have t1 : tryL 1 (frontL 2 ++ Lib.itoa n) = none := tryL_other 1 116 (Lib.itoa n) 111 rfl (by decide)
        unfold readL
        rw [if_neg n1, if_neg n2, t1, ht]
        simp
      · have n1 : ¬ (frontL 3 ++ Lib.itoa n = jour) := fun he => by have := congrArg List.head? he; simp [jour, frontL] at this
        have n2 : ¬ (frontL 3 ++ Lib.itoa n = jnew) := fun he => by have := congrArg List.head? he; simp [jnew, frontL] at this
        have t1 : tryL 1 (frontL 3 ++ Lib.itoa n) = none := tryL_other 1 113 (Lib.itoa n) 111 rfl (by decide)
        have t2 : tryL 2 (frontL 3 ++ Lib.itoa n) = none := tryL_other 2 113 (Lib.itoa n) 116 rfl (by decide)
        unfold readL
        rw [if_neg n1, if_neg n2, t1, t2, ht]
        simp
    · exfalso
      apply hn
      unfold nameL
      rw [if_neg h1, if_pos h23, if_neg hr]
  by_cases h4 : kind = 4
  · subst h4
    rfl
  by_cases h5 : kind = 5
  · subst h5
    rfl
  exfalso
  apply hn
  unfold nameL
  rw [if_neg h1, if_neg h23, if_neg h4, if_neg h5]
/-- chapter 17's example -/
theorem read_t7 : readL [116, 45, 55] = ⟨2, z32, 0, 7⟩ := by
  have := read_write ⟨2, z32, 0, 7⟩ rfl (by simp [nameL, frontL])
  rw [show nameL ⟨2, z32, 0, 7⟩ = [116, 45, 55] by simp [nameL, frontL, Lib.itoa, Lib.decDigits]] at this
  simpa using this
theorem read_t07 : readL [116, 45, 48, 55] = noName := by
  rcases read_name [116, 45, 48, 55] with ⟨h1, h2⟩ | ⟨h, _⟩
  · exfalso
    obtain ⟨x, hx⟩ : ∃ x, x = readL [116, 45, 48, 55] := ⟨_, rfl⟩
    rw [← hx] at h1 h2
    have hh : x.kind ≠ 1 → (x.kind = 2 ∨ x.kind = 3) → False := by
      intro n1 n2
      unfold nameL at h1
      rw [if_neg n1, if_pos n2] at h1
      split at h1
      · rename_i hr
        obtain ⟨u, hu⟩ : ∃ u : Nat, x.n = u := ⟨x.n.toNat, by omega⟩
        rw [hu, Lib.itoa_nonneg] at h1
        have hd : Lib.decDigits u = [48, 55] := by
          rcases n2 with e | e <;> rw [e] at h1 <;> simp [frontL] at h1 ⊢ <;> exact h1
        have h7 := decFrom_digits u
        rw [hd] at h7
        have : Lib.decFrom 0 [48, 55] = some 7 := by decide
        rw [this] at h7
        cases h7
        have : Lib.decDigits 7 = [55] := by simp [Lib.decDigits]
        rw [this] at hd
        cases hd
      · cases h1
    by_cases k1 : x.kind = 1
    · unfold nameL at h1
      rw [if_pos k1] at h1
      split at h1
      · have := congrArg List.head? h1
        simp at this
      · cases h1
    by_cases k23 : x.kind = 2 ∨ x.kind = 3
    · exact hh k1 k23
    unfold nameL at h1
    rw [if_neg k1, if_neg k23] at h1
    split at h1
    · cases h1
    split at h1
    · cases h1
    · cases h1
  · exact h
end Go.Proofs.YtplbcbamnjnhlaaDoor
/- Guarded operations walked once for both values of the guard. No program is named here. -/
namespace Go.Proofs.YtplbcbamnjnhlaaDoor
open Go.RowKit

section
variable {P : Program} {ops : Array Oper} {Q : Exit → Act → World → Prop} {a : Act} {w : World} {rest : List Oper} {o : Oper}
theorem wpList_gd {b : Bool} {v : Value} (hw : Region.wanted o (yielded ops a.tmps) = b) (hrun : b = true → (execOp a.eval o).run P w = .ok (.value v) w) (h : wpList P ops Q rest (a.put o.dst (if b then v else undef)) w) :
    wpList P ops Q (o :: rest) a w := by
  cases b
  · exact wpList_skip hw (by simpa using h)
  · refine wpList_want hw fun K hK => ?_
    unfold Oper.wp
    rw [hrun rfl]
    exact hK _ _ (by simpa using h)
theorem wpList_nil (h : Q .normal a w) : wpList P ops Q [] a w := by simpa [wpList] using h
theorem wpList_valG (hw : Region.wanted o (yielded ops a.tmps) = true) {v : Value} (hrun : (execOp a.eval o).run P w = .ok (.value v) w) (h : wpList P ops Q rest (a.put o.dst v) w) : wpList P ops Q (o :: rest) a w := by
  refine wpList_want hw fun K hK => ?_
  unfold Oper.wp
  rw [hrun]
  exact hK _ _ h
theorem load_int {ty : TypeId} {k : IntKind} {p : Addr} {z : Int} (hu : P.underlying ty = some (.int k)) (hc : w.cell? p = some (.int k z)) : (Instr.loadAt ty (.pointer (some p))).run P w = .ok (.int k z) w := by
  have hagg : (isAgg ty).run P w = .ok false w := by
    unfold isAgg
    rw [Sem.run_bind, run_underlying hu w]
    rfl
  simp [Instr.loadAt, Instr.sureAddr, loadVar, Sem.run_bind, hagg, hc]
theorem exec_load {ty : TypeId} {x : Operand} {v p : Value} (ho : o.op = .load ty x) (hx : a.eval x = p) (h : (Instr.loadAt ty p).run P w = .ok v w) : (execOp a.eval o).run P w = .ok (.value v) w := by
  unfold execOp
  simp only [ho, hx, Sem.run_bind, h, Result.andThen_ok, Sem.run_pure]
end
section
variable {P : Program} {ops : Array Oper} {w0 : World} {G : List Nat}
/-! the steps of a drawn region behind 'Stop': nothing unfolds them by itself -/
theorem wpT_seg {Q : Act → World → Prop} (n : Nat) {k : Nat} {l : List Oper} {a : Act} {w : World} (hG : (List.range' k n).all (fun i => !G.contains i) = true)
    (h : ∀ Q' : Exit → Act → World → Prop, (∀ a w, Stop (Text.wpS P ops w0 G Q (k + n) (l.drop n) a w) → Q' .normal a w) → wpList P ops Q' (l.take n) a w) : Stop (Text.wpS P ops w0 G Q k l a w) :=
  ⟨Text.wpS_seg n k l a w hG fun Q' hQ' => h Q' fun a w hh => hQ' a w hh.out⟩
theorem wpT_one {Q : Act → World → Prop} {k : Nat} {o : Oper} {r : List Oper} {a : Act} {w : World}
    (h : ∀ Q' : Exit → Act → World → Prop, (∀ a' w', Below w0.heap.size w0 w' ∧ Stop (Text.wpS P ops w0 G Q (k + 1) r a' w') → Q' .normal a' w') → wpList P ops Q' [o] a w) : Stop (Text.wpS P ops w0 G Q k (o :: r) a w) :=
  ⟨Text.wpS_one fun Q' hQ' => h Q' fun a w hh => hQ' a w ⟨hh.1, hh.2.out⟩⟩
theorem wpT_skip {Q : Act → World → Prop} {k : Nat} {o : Oper} {r : List Oper} {a : Act} {w : World} (hg : Region.wanted o (yielded ops a.tmps) = false) (h : Stop (Text.wpS P ops w0 G Q (k + 1) r (a.put o.dst undef) w)) : Stop (Text.wpS P ops w0 G Q k (o :: r) a w) :=
  ⟨Text.wpS_skip hg h.out⟩
theorem wpT_end {Q : Act → World → Prop} {k : Nat} {a : Act} {w : World} (h : Q a w) : Stop (Text.wpS P ops w0 G Q k [] a w) := ⟨h⟩
theorem wpT_grow {id : Nat} {Q : Exit → Act → World → Prop} {a : Act} {w : World} {l : List Oper} (G LD ex : List Nat) (hm : P.follows .mixedOrders = true) (hB : Text.growB P l.toArray G LD ex = true)
    (h : Stop (Text.wpS P l.toArray w.drew G (fun a' w' => Text.chk l.toArray ex a' = true ∧ Text.oldAll P l.toArray w.drew a' LD ∧ Q .normal a' w') 0 l a w.drew)) : (Code.region id l.toArray true).wp P Q a w :=
  Text.wp_grow G LD ex hm hB h.out
end
end Go.Proofs.YtplbcbamnjnhlaaDoor
/- Contracts of rec.keyed, rec.rising and the reference's rising. -/
namespace Go.Proofs.YtplbcbamnjnhlaaDoor
open Go.RowKit

set_option maxRecDepth 100000 in
theorem keyed_any (h : List UInt8) (k : Int) (w : World) (hh : h.length = 32) :
    Calls Tryd.prog 58 #[hkv h k] w fun e w' => e = .returned (.bool (kOk k)) ∧ Below w.heap.size w w' := by
  have HH := Lib.hid hh
  clear hh
  obtain ⟨S, hS⟩ : ∃ S : ByteArray, S = ⟨(keyText h k).toArray⟩ := ⟨_, rfl⟩
  have hz : S.toList.isEmpty = !kOk k := by
    rw [hS]
    have := keyText_ne h k
    cases hk : kOk k <;> rw [hk] at this <;> simpa using this
  have HS := Lib.hid hS
  clear hS
  have HB := Lib.hid ((Below.refl _ _).alloc (Nat.le_refl _) (.cells (hkCells h k).toArray 26) : Below w.heap.size w _)
  have HG := Lib.hid (Go.heap_alloc_new w (.cells (hkCells h k).toArray 26))
  go_enter Tryd.func58, Tryd.ntmps58
  go_wp2_with (refine stop_at (some 1) rfl ?_)
  refine Stop.go (wpList_box rfl _ rfl rfl (hkv_cells h k) ?_)
  generalize w.alloc (.cells (hkCells h k).toArray 26) = w1 at *
  go_wp2_with (refine stop_at (some 3) rfl ?_)
  refine Stop.go (wpList_load_agg rfl 26 rfl rfl keyTy.ut rfl (key_size h k HH.out) (row_cells HG.out) ?_)
  go_wp2_with (go_at_call 68; refine (text_any h k _ HH.out).mono ?_; rw [← HS.out]; rintro e w2 ⟨rfl, hb2⟩)
  go_ret
  exact ⟨rt1 (vbool (by simp)), HB.out.trans (hb2.mono HB.out.size)⟩
/-- key i may be, and stands behind the one ahead of it -/
def stepOk (xs : List KeyD) (i : Nat) : Bool := kOk (xs.getD i (z32, 0)).2 && (i == 0 || keyLess (xs.getD (i - 1) (z32, 0)).1 (xs.getD (i - 1) (z32, 0)).2 (xs.getD i (z32, 0)).1 (xs.getD i (z32, 0)).2)
def stepsOk (xs : List KeyD) (i : Nat) : Bool := (List.range i).all (stepOk xs)
def risingB (xs : List KeyD) : Bool := stepsOk xs xs.length && decide (1 ≤ xs.length ∧ xs.length ≤ 256)
theorem stepsOk_succ (xs : List KeyD) (i : Nat) : stepsOk xs (i + 1) = (stepsOk xs i && stepOk xs i) := by
  unfold stepsOk
  rw [List.range_succ, List.all_append]
  simp
theorem stepsOk_no (xs : List KeyD) (i n : Nat) (hi : i < n) (h : stepOk xs i = false) : stepsOk xs n = false := by
  unfold stepsOk
  rw [List.all_eq_false]
  exact ⟨i, List.mem_range.2 hi, by simp [h]⟩
theorem getD_at (xs : List KeyD) (i : Nat) (h : i < xs.length) : xs.getD i (z32, 0) = xs[i] := by rw [List.getD_eq_getElem?_getD, List.getElem?_eq_getElem h]; rfl
theorem stepOk_at (xs : List KeyD) (i : Nat) (h : i < xs.length) : stepOk xs i = (kOk xs[i].2 && (i == 0 || keyLess xs[i - 1].1 xs[i - 1].2 xs[i].1 xs[i].2)) := by
  unfold stepOk
  rw [getD_at xs i h, getD_at xs (i - 1) (by omega)]
set_option maxRecDepth 100000 in
set_option maxHeartbeats 1000000 in
theorem rising_any (A : Option Addr) (c B n : Nat) (xs : List KeyD) (w : World) (h1 : SlR eKey w B (.slice A n c) xs) (hB : B ≤ w.heap.size) :
    Calls Tryd.prog 59 #[.slice A n c] w fun e w' => e = .returned (.bool (risingB xs)) ∧ Below w.heap.size w w' := by
  have N1 := Lib.hid h1.n_eq
  have hc1 := h1.n_le
  have H1 := Lib.hid h1
  have HBW := Lib.hid hB
  clear h1 hB
  go_enter Tryd.func59, Tryd.ntmps59
  go_wp2_with fail
  go_loopw [7] (fun v7 wr => ∃ i : Nat, i ≤ n ∧ v7 = .int .i64 i ∧ Hid (stepsOk xs i = true) ∧ Hid (Below w.heap.size w wr)) (fun v7 _ => n - (intOf v7).toNat)
  case atStart => exact ⟨0, by omega, rfl, rfl, Below.refl _ _⟩
  case round =>
    obtain ⟨i, hi, rfl, HP, HB⟩ := hrel
    by_cases hlt : i < n
    · have hlt1 : i < xs.length := by have := N1.out; omega
      have HR := Lib.hid (H1.out.below (HB.out.mono HBW.out))
      obtain ⟨b1, o1, rfl, _, hb1, l1, e1⟩ := keys_at HR.out hlt1
      obtain ⟨x1, x2, hx⟩ : ∃ x1 x2, xs[i] = (x1, x2) := ⟨_, _, rfl⟩
      rw [hx] at l1 e1
      simp only at l1 e1
      have HX := Lib.hid hx
      have E1 := Lib.hid e1
      have L1 := Lib.hid l1
      clear e1 hx l1
      go_wp2_with (refine stop_at (some 10) rfl ?_)
      refine Stop.go (wpList_seg 1 _ _ _ (fun Q' hQ' => ?_))
      simp only [List.take_succ_cons, List.take_zero]
      go_wp2_with fail
      try simp only [List.drop_succ_cons, List.drop_zero]
      refine Stop.go (wpList_load_agg rfl 26 rfl rfl keyTy.ut rfl (key_size x1 x2 L1.out) E1.out ?_)
      refine wpList_alloc rfl 26 rfl zero_key rfl ?_
      refine wpList_seg 1 _ _ _ (fun Q' hQ' => ?_)
      simp only [List.take_succ_cons, List.take_zero]
      go_wp2_with fail
      try simp only [List.drop_succ_cons, List.drop_zero]
      refine Stop.go (wpList_store_agg rfl 26 rfl rfl rfl (store_new2 (g := wr.heap.size) rfl (hkv_cells _ _) (key_size _ _ L1.out) (by rw [List.size_toArray, hkCells_length, hkCells_length, L1.out]; rfl) (hkCells_one _ _)) ?_)
      have hb2 : Below wr.heap.size wr (wr.alloc (.cells (hkCells x1 x2).toArray 26)) := (Below.refl _ _).alloc (Nat.le_refl _) _
      have HG := Lib.hid (Go.heap_alloc_new wr (.cells (hkCells x1 x2).toArray 26))
      have HB2 := Lib.hid (HB.out.trans (hb2.mono HB.out.size))
      have HR2 := Lib.hid (H1.out.below (HB2.out.mono HBW.out))
      have HLT := Lib.hid (Nat.lt_of_lt_of_le hb1 (Nat.le_trans HBW.out HB.out.size))
      clear hb2 E1 HR hb1
      generalize wr.alloc (.cells (hkCells x1 x2).toArray 26) = w2 at *
      generalize wr.heap.size = m2 at *
      go_wp2_with fail
      refine wpT_grow [1, 13] [0, 11, 12] [] (by kernel_rfl) (by kernel_rfl) ?_
      refine wpT_seg 1 (by decide) (fun Q' hQ' => ?_)
      simp only [List.take_succ_cons, List.take_zero]
      refine wpList_load_agg rfl 26 rfl rfl keyTy.ut rfl (key_size x1 x2 L1.out) (row_cells HG.out) ?_
      refine hQ' _ _ ?_
      simp only [List.drop_succ_cons, List.drop_zero]
      generalize hac : Act.put _ _ _ = a9
      simp [Act.put] at hac
      subst hac
      refine wpT_one (fun Q1 hQ1 => ?_)
      go_wp2_with fail
      refine (keyed_any x1 x2 _ L1.out).mono ?_
      rintro e w3 ⟨rfl, hb3⟩
      have HB3 := Lib.hid hb3
      clear hb3
      cases hk : kOk x2
      · have HF := Lib.hid (show risingB xs = false by unfold risingB; rw [stepsOk_no xs i xs.length hlt1 (by rw [stepOk_at xs i hlt1, HX.out]; simp [hk])]; rfl)
        clear hk
        go_wp2_with fail
        refine ⟨HB3.out, ?_⟩
        refine wpT_seg 11 (by decide) (fun Q2 hQ2 => ?_)
        simp only [List.take_succ_cons, List.take_zero]
        go_wp2_with fail
        try simp only [List.drop_succ_cons, List.drop_zero]
        refine wpT_one (fun Q3 hQ3 => ?_)
        go_wp2_with fail
        refine ⟨HB3.out, ?_⟩
        refine wpT_seg 3 (by decide) (fun Q2 hQ2 => ?_)
        simp only [List.take_succ_cons, List.take_zero]
        go_wp2_with fail
        try simp only [List.drop_succ_cons, List.drop_zero]
        refine wpT_end ⟨by rfl, ⟨(fun _ => ⟨_, _, rfl, row_cells HG.out 0 _ (List.getElem?_eq_getElem (by rw [hkCells_length]; omega))⟩), Text.no_want rfl, Text.no_want rfl, trivial⟩, ?_⟩
        go_wp2_with fail
        go_ret
        exact ⟨rt1 (vbool HF.out.symm), HB2.out.trans ((below_drew HB3.out).mono HB2.out.size)⟩
      · have HRT := Lib.hid (HR2.out.below (show Below B w2 w3 from (below_drew HB3.out).mono (Nat.le_trans HBW.out HB2.out.size)))
        have HBT := Lib.hid (HB2.out.trans ((below_drew HB3.out).mono HB2.out.size))
        by_cases hi0 : i = 0
        · subst hi0
          have HS1 := Lib.hid (show stepsOk xs (0 + 1) = true by rw [stepsOk_succ, HP.out, stepOk_at xs 0 hlt1, HX.out]; simp [hk])
          clear hk
          go_wp2_with fail
          refine ⟨HB3.out, ?_⟩
          refine wpT_seg 11 (by decide) (fun Q2 hQ2 => ?_)
          simp only [List.take_succ_cons, List.take_zero]
          go_wp2_with fail
          try simp only [List.drop_succ_cons, List.drop_zero]
          refine wpT_one (fun Q3 hQ3 => ?_)
          go_wp2_with fail
          refine ⟨HB3.out, ?_⟩
          refine wpT_seg 3 (by decide) (fun Q2 hQ2 => ?_)
          simp only [List.take_succ_cons, List.take_zero]
          go_wp2_with fail
          try simp only [List.drop_succ_cons, List.drop_zero]
          refine wpT_end ⟨by rfl, ⟨(fun _ => ⟨_, _, rfl, row_cells HG.out 0 _ (List.getElem?_eq_getElem (by rw [hkCells_length]; omega))⟩), Text.no_want rfl, Text.no_want rfl, trivial⟩, ?_⟩
          go_wp2_with fail
          refine ⟨⟨1, by omega, rfl, HS1, HBT⟩, ?_⟩
          simp [intOf]; omega
        · obtain ⟨j, rfl⟩ : ∃ j, i = j + 1 := ⟨i - 1, by omega⟩
          have hj : j < xs.length := by omega
          obtain ⟨b2, o2, hA2, _, hb2, l2, e2⟩ := keys_at HR2.out hj
          injection hA2 with hA2
          injection hA2 with hA2 hA3
          subst hA2 hA3
          obtain ⟨y1, y2, hy⟩ : ∃ y1 y2, xs[j] = (y1, y2) := ⟨_, _, rfl⟩
          rw [hy] at l2 e2
          simp only at l2 e2
          have HY := Lib.hid hy
          have E2 := Lib.hid e2
          have L2 := Lib.hid l2
          have E3 := Lib.hid (fun (q : Nat) (u : Value) (hu : (hkCells y1 y2)[q]? = some u) => ((below_drew HB3.out).cell (p := ⟨b1, o1 + j * 33 + q, none⟩) (Nat.lt_of_lt_of_le hb2 (Nat.le_trans HBW.out HB2.out.size))).trans (e2 q u hu))
          have HG3 := Lib.hid (((below_drew HB3.out).block _ (Array.getElem?_eq_some_iff.1 HG.out).1).trans HG.out)
          clear e2 hy l2 hi0
          have HST := Lib.hid (show stepsOk xs (j + 1 + 1) = keyLess y1 y2 x1 x2 by rw [stepsOk_succ, HP.out, stepOk_at xs (j + 1) hlt1, HX.out]; simp only [Nat.add_sub_cancel, HY.out, hk]; simp)
          have HNO := Lib.hid (show keyLess y1 y2 x1 x2 = false → risingB xs = false from fun hL => by unfold risingB; rw [stepsOk_no xs (j + 1) xs.length hlt1 (by rw [stepOk_at xs (j + 1) hlt1, HX.out]; simp only [Nat.add_sub_cancel, HY.out, hL]; simp)]; rfl)
          clear hk
          obtain ⟨Lb, hLb⟩ : ∃ Lb, Lb = keyLess y1 y2 x1 x2 := ⟨_, rfl⟩
          rw [← hLb] at HST HNO
          have HLB := Lib.hid hLb
          clear hLb
          go_wp2_with fail
          refine ⟨HB3.out, ?_⟩
          refine wpT_seg 9 (by decide) (fun Q2 hQ2 => ?_)
          simp only [List.take_succ_cons, List.take_zero]
          go_wp2_with fail
          try simp only [List.drop_succ_cons, List.drop_zero]
          refine wpT_seg 2 (by decide) (fun Q2 hQ2 => ?_)
          simp only [List.take_succ_cons, List.take_zero]
          refine wpList_load_aggG (by rfl) 26 rfl rfl keyTy.ut rfl (key_size y1 y2 L2.out) E3.out ?_
          refine wpList_load_aggG (by rfl) 26 rfl rfl keyTy.ut rfl (key_size x1 x2 L1.out) (row_cells HG3.out) ?_
          refine hQ2 _ _ ?_
          simp only [List.drop_succ_cons, List.drop_zero]
          generalize hac : Act.put _ _ _ = a9
          simp [Act.put] at hac
          subst hac
          refine wpT_one (fun Q3 hQ3 => ?_)
          go_wp2_with fail
          refine (keyLess_any y1 x1 y2 x2 _ L2.out L1.out).mono ?_
          rw [← HLB.out]
          rintro e w4 ⟨rfl, hb4⟩
          have HB4 := Lib.hid (HB3.out.trans (hb4.mono HB3.out.size))
          clear hb4
          cases Lb
          · have HF := Lib.hid (HNO.out rfl)
            go_wp2_with fail
            refine ⟨HB4.out, ?_⟩
            refine wpT_seg 3 (by decide) (fun Q2 hQ2 => ?_)
            simp only [List.take_succ_cons, List.take_zero]
            go_wp2_with fail
            try simp only [List.drop_succ_cons, List.drop_zero]
            refine wpT_end ⟨by rfl, ⟨(fun _ => ⟨_, _, rfl, row_cells HG.out 0 _ (List.getElem?_eq_getElem (by rw [hkCells_length]; omega))⟩), (fun _ => ⟨_, _, rfl, E2.out 0 _ (List.getElem?_eq_getElem (by rw [hkCells_length]; omega))⟩), (fun _ => ⟨_, _, rfl, row_cells HG.out 0 _ (List.getElem?_eq_getElem (by rw [hkCells_length]; omega))⟩), trivial⟩, ?_⟩
            go_wp2_with fail
            go_ret
            exact ⟨rt1 (vbool HF.out.symm), HB2.out.trans ((below_drew HB4.out).mono HB2.out.size)⟩
          · have HBT4 := Lib.hid (HB2.out.trans ((below_drew HB4.out).mono HB2.out.size))
            go_wp2_with fail
            refine ⟨HB4.out, ?_⟩
            refine wpT_seg 3 (by decide) (fun Q2 hQ2 => ?_)
            simp only [List.take_succ_cons, List.take_zero]
            go_wp2_with fail
            try simp only [List.drop_succ_cons, List.drop_zero]
            refine wpT_end ⟨by rfl, ⟨(fun _ => ⟨_, _, rfl, row_cells HG.out 0 _ (List.getElem?_eq_getElem (by rw [hkCells_length]; omega))⟩), (fun _ => ⟨_, _, rfl, E2.out 0 _ (List.getElem?_eq_getElem (by rw [hkCells_length]; omega))⟩), (fun _ => ⟨_, _, rfl, row_cells HG.out 0 _ (List.getElem?_eq_getElem (by rw [hkCells_length]; omega))⟩), trivial⟩, ?_⟩
            go_wp2_with fail
            refine ⟨⟨j + 1 + 1, by omega, by simp, HST, HBT4⟩, ?_⟩
            simp [intOf]; omega
    · obtain rfl : i = n := by omega
      have HS := Lib.hid (show stepsOk xs xs.length = true by have := HP.out; rwa [N1.out] at this)
      have HZ := Lib.hid (show risingB xs = decide (1 ≤ i ∧ i ≤ 256) by unfold risingB; rw [HS.out, N1.out]; simp)
      by_cases h1 : 1 ≤ i
      · by_cases h2 : i ≤ 256
        · have HF := Lib.hid (show risingB xs = true by rw [HZ.out]; exact decide_eq_true ⟨h1, h2⟩)
          go_wp2_with fail
          go_ret
          exact ⟨rt1 (vbool (by rw [HF.out]; exact decide_eq_true (by omega))), HB.out⟩
        · have HF := Lib.hid (show risingB xs = false by rw [HZ.out]; exact decide_eq_false (fun h => h2 h.2))
          go_wp2_with fail
          go_ret
          exact ⟨rt1 (vbool (by rw [HF.out]; exact decide_eq_false (by omega))), HB.out⟩
      · have HF := Lib.hid (show risingB xs = false by rw [HZ.out]; exact decide_eq_false (fun h => h1 h.1))
        go_wp2_with fail
        go_ret
        exact ⟨rt1 (vbool HF.out.symm), HB.out⟩
end Go.Proofs.YtplbcbamnjnhlaaDoor
