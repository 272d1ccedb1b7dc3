/- Texts of this proof joined: Text, Text2, Text3. -/
import Derived.Orders
import Derived.Tactics
namespace Go.Proofs.YthojelhpipmkiaaGreatDoor.Text
open Go

def Pur (P : Program) {α : Type} (s : Sem α) : Prop := ∀ w a w', s.run P w = .ok a w' → w' = w ∧ ∀ w2, s.run P w2 = .ok a w2
def Rdr (P : Program) {α : Type} (s : Sem α) : Prop := ∀ w a w', s.run P w = .ok a w' → w' = w
def NoOk (P : Program) {α : Type} (s : Sem α) : Prop := ∀ w a w', s.run P w ≠ .ok a w'

variable {P : Program}
section
variable {α β : Type}
theorem Pur.rdr {s : Sem α} (h : Pur P s) : Rdr P s := fun w a w' hr => (h w a w' hr).1
theorem pur_pure (a : α) : Pur P (pure a : Sem α) := fun w b w' h => by
 simp only [Sem.run_pure] at h
 injection h with h1 h2
 subst h1 h2
 exact ⟨rfl, fun w2 => rfl⟩
theorem noOk_halt (h : Halt) : NoOk P (Sem.halt h : Sem α) := fun w a w' hr => by
 unfold Sem.run at hr; cases hr
theorem noOk_pur {s : Sem α} (h : NoOk P s) : Pur P s := fun w a w' hr => absurd hr (h w a w')
theorem noOk_stuck (m : String) : NoOk P (stuck m : Sem α) := noOk_halt _
theorem noOk_unsupported (u : Unsupported) : NoOk P (unsupported u : Sem α) := noOk_halt _
theorem noOk_goPanic (v : Value) : NoOk P (goPanic v : Sem α) := noOk_halt _
theorem ok_bind {s : Sem α} {f : α → Sem β} {w w' : World} {b : β} (h : (s >>= f).run P w = .ok b w') : ∃ a w1, s.run P w = .ok a w1 ∧ (f a).run P w1 = .ok b w' := by
 rw [Sem.run_bind] at h
 cases hs : s.run P w with
 |ok a w1 => rw [hs] at h; exact ⟨a, w1, rfl, h⟩
 |halt x w1 => rw [hs] at h; cases h
theorem noOk_bind {s : Sem α} {f : α → Sem β} (h : ∀ a, NoOk P (f a)) : NoOk P (s >>= f) := fun w b w' hr => by
 obtain ⟨a, w1, _, h2⟩ := ok_bind hr
 exact h a w1 b w' h2
theorem pur_bind {s : Sem α} {f : α → Sem β} (h : Pur P s) (hf : ∀ a, Pur P (f a)) : Pur P (s >>= f) := fun w b w' hr => by
 obtain ⟨a, w1, h1, h2⟩ := ok_bind hr
 obtain ⟨e1, g1⟩ := h w a w1 h1
 subst e1
 obtain ⟨e2, g2⟩ := hf a w1 b w' h2
 subst e2
 refine ⟨rfl, fun w2 => ?_⟩
 rw [Sem.run_bind, g1 w2]
 exact g2 w2
theorem pur_bind_w {s : Sem α} {f : α → Sem β} (h : Pur P s) (hf : ∀ a w w', s.run P w = .ok a w' → Pur P (f a)) : Pur P (s >>= f) := fun w b w' hr => by
 obtain ⟨a, w1, h1, h2⟩ := ok_bind hr
 obtain ⟨e1, g1⟩ := h w a w1 h1
 subst e1
 obtain ⟨e2, g2⟩ := hf a _ _ h1 w1 b w' h2
 subst e2
 refine ⟨rfl, fun w2 => ?_⟩
 rw [Sem.run_bind, g1 w2]
 exact g2 w2
theorem rdr_bind {s : Sem α} {f : α → Sem β} (h : Rdr P s) (hf : ∀ a, Rdr P (f a)) : Rdr P (s >>= f) := fun w b w' hr => by
 obtain ⟨a, w1, h1, h2⟩ := ok_bind hr
 have e1 := h w a w1 h1
 subst e1
 exact hf a w1 b w' h2
theorem pur_program : Pur P program := fun w a w' h => by
 simp only [program, Sem.run] at h
 injection h with h1 h2
 subst h1 h2
 exact ⟨rfl, fun w2 => rfl⟩
theorem rdr_load (a : Addr) (m : Mode) : Rdr P (load a m) := fun w v w' h => by
 simp only [load, Sem.run] at h
 split at h
 ·injection h with _ h2; exact h2.symm
 ·split at h
  ·injection h with _ h2; exact h2.symm
  ·cases h
end

theorem pur_underlying (t : TypeId) : Pur P (underlying t) := by
 unfold underlying
 refine pur_bind pur_program fun p => ?_
 split
 ·exact pur_pure _
 ·exact noOk_pur (noOk_stuck _)
theorem pur_typeInfo (t : TypeId) : Pur P (typeInfo t) := by
 unfold typeInfo
 refine pur_bind pur_program fun p => ?_
 split
 ·exact pur_pure _
 ·exact noOk_pur (noOk_stuck _)
theorem pur_sizeOf (t : TypeId) : Pur P (sizeOf t) := pur_bind (pur_typeInfo t) fun _ => pur_pure _
theorem pur_isAgg (t : TypeId) : Pur P (isAgg t) := by
 unfold isAgg
 refine pur_bind (pur_underlying t) fun d => ?_
 split <;> exact pur_pure _
theorem pur_zeroValue (t : TypeId) : Pur P (zeroValue t) := by
 unfold zeroValue
 refine pur_bind (pur_typeInfo t) fun d => ?_
 split
 ·exact pur_pure _
 ·exact noOk_pur (noOk_unsupported _)
theorem pur_asIntOf (v : Value) : Pur P (asIntOf v) := by
 unfold asIntOf
 split
 ·exact pur_pure _
 ·exact noOk_pur (noOk_unsupported _)
 ·exact noOk_pur (noOk_stuck _)
theorem pur_asBool (v : Value) : Pur P (asBool v) := by
 unfold asBool
 split
 ·exact pur_pure _
 ·exact noOk_pur (noOk_stuck _)
theorem pur_asAgg (v : Value) : Pur P (asAgg v) := by
 unfold asAgg
 split
 ·exact pur_pure _
 ·exact noOk_pur (noOk_stuck _)
theorem noOk_runtimePanic {α : Type} (e : RuntimeError) : NoOk P (runtimePanic e : Sem α) := by
 unfold runtimePanic
 refine noOk_bind fun p => ?_
 cases e <;> first | exact noOk_goPanic _ | exact noOk_bind fun _ => noOk_goPanic _ | exact noOk_bind fun _ => noOk_bind fun _ => noOk_goPanic _
theorem noOk_boundsPanic {α : Type} (k : IntKind) (x y : Int) (code : BoundsCode) : NoOk P (boundsPanic k x y code : Sem α) := by
 unfold boundsPanic
 dsimp only
 split <;> exact noOk_bind fun _ => noOk_runtimePanic _
theorem pur_part (t : TypeId) (cs : Array Value) (off : Nat) : Pur P (part t cs off) := by
 unfold part
 refine pur_bind (pur_isAgg t) fun b => ?_
 split
 ·exact pur_bind (pur_sizeOf t) fun _ => pur_pure _
 ·split
  ·exact pur_pure _
  ·exact noOk_pur (noOk_stuck _)
theorem pur_sureAddr (v : Value) : Pur P (Instr.sureAddr v) := by
 unfold Instr.sureAddr
 split
 ·exact pur_pure _
 ·exact noOk_pur (noOk_stuck _)
theorem pur_asAddr (v : Value) : Pur P (asAddr v) := by
 unfold asAddr
 split
 ·exact pur_pure _
 ·exact noOk_pur (noOk_runtimePanic _)
 ·exact noOk_pur (noOk_stuck _)
theorem pur_index (t : TypeId) (x i : Value) : Pur P (Instr.index t x i) := by
 unfold Instr.index
 refine pur_bind (pur_asIntOf i) fun ki => pur_bind (pur_underlying t) fun d => ?_
 split
 ·split
  ·exact pur_bind (pur_sizeOf _) fun _ => pur_part _ _ _
  ·exact noOk_pur (noOk_boundsPanic _ _ _ _)
 ·split
  ·exact pur_pure _
  ·exact noOk_pur (noOk_boundsPanic _ _ _ _)
 ·exact noOk_pur (noOk_stuck _)
theorem pur_sliceBound (x : Value) (y : Nat) (c : BoundsCode) : Pur P (Instr.sliceBound x y c) := by
 unfold Instr.sliceBound
 repeat' (first
  |exact pur_pure _ | exact noOk_pur (noOk_stuck _) | exact noOk_pur (noOk_unsupported _) | exact noOk_pur (noOk_runtimePanic _) | exact noOk_pur (noOk_boundsPanic _ _ _ _)
  |exact pur_sizeOf _ | exact pur_underlying _ | exact pur_typeInfo _ | exact pur_isAgg _ | exact pur_zeroValue _ | exact pur_asIntOf _ | exact pur_asBool _ | exact pur_asAgg _ | exact pur_asAddr _ | exact pur_part _ _ _ | exact pur_sureAddr _ | exact pur_program
  |(refine pur_bind ?_ fun _ => ?_) | split | dsimp only)
theorem pur_sliceBounds (b : Bool) (l c : Nat) (lo hi mx : Option Value) : Pur P (Instr.sliceBounds b l c lo hi mx) := by
 unfold Instr.sliceBounds
 repeat' (first
  |exact pur_pure _ | exact noOk_pur (noOk_stuck _) | exact noOk_pur (noOk_unsupported _) | exact noOk_pur (noOk_runtimePanic _) | exact noOk_pur (noOk_boundsPanic _ _ _ _)
  |exact pur_sizeOf _ | exact pur_underlying _ | exact pur_typeInfo _ | exact pur_isAgg _ | exact pur_zeroValue _ | exact pur_asIntOf _ | exact pur_asBool _ | exact pur_asAgg _ | exact pur_asAddr _ | exact pur_part _ _ _ | exact pur_sureAddr _ | exact pur_program | exact pur_sliceBound _ _ _
  |(refine pur_bind ?_ fun _ => ?_) | split | dsimp only)
theorem pur_indexAt (t : TypeId) (x i : Value) : Pur P (Instr.indexAt t x i) := by
 unfold Instr.indexAt
 repeat' (first
  |exact pur_pure _ | exact noOk_pur (noOk_stuck _) | exact noOk_pur (noOk_unsupported _) | exact noOk_pur (noOk_runtimePanic _) | exact noOk_pur (noOk_boundsPanic _ _ _ _)
  |exact pur_sizeOf _ | exact pur_underlying _ | exact pur_typeInfo _ | exact pur_isAgg _ | exact pur_zeroValue _ | exact pur_asIntOf _ | exact pur_asBool _ | exact pur_asAgg _ | exact pur_asAddr _ | exact pur_part _ _ _ | exact pur_sureAddr _ | exact pur_program
  |(refine pur_bind ?_ fun _ => ?_) | split | dsimp only)
theorem pur_slice (t : TypeId) (x : Value) (lo hi mx : Option Value) : Pur P (Instr.slice t x lo hi mx) := by
 unfold Instr.slice
 repeat' (first
  |exact pur_pure _ | exact noOk_pur (noOk_stuck _) | exact noOk_pur (noOk_unsupported _) | exact noOk_pur (noOk_runtimePanic _) | exact noOk_pur (noOk_boundsPanic _ _ _ _)
  |exact pur_sizeOf _ | exact pur_underlying _ | exact pur_typeInfo _ | exact pur_isAgg _ | exact pur_zeroValue _ | exact pur_asIntOf _ | exact pur_asBool _ | exact pur_asAgg _ | exact pur_asAddr _ | exact pur_part _ _ _ | exact pur_sureAddr _ | exact pur_program | exact pur_sliceBounds _ _ _ _ _ _
  |(refine pur_bind ?_ fun _ => ?_) | split | dsimp only)
theorem pur_sliceAt (t : TypeId) (x : Value) (lo hi mx : Option Value) : Pur P (Instr.sliceAt t x lo hi mx) := by
 unfold Instr.sliceAt
 repeat' (first
  |exact pur_pure _ | exact noOk_pur (noOk_stuck _) | exact noOk_pur (noOk_unsupported _) | exact noOk_pur (noOk_runtimePanic _) | exact noOk_pur (noOk_boundsPanic _ _ _ _)
  |exact pur_sizeOf _ | exact pur_underlying _ | exact pur_typeInfo _ | exact pur_isAgg _ | exact pur_zeroValue _ | exact pur_asIntOf _ | exact pur_asBool _ | exact pur_asAgg _ | exact pur_asAddr _ | exact pur_part _ _ _ | exact pur_sureAddr _ | exact pur_program | exact pur_sliceBounds _ _ _ _ _ _ | exact pur_slice _ _ _ _ _
  |(refine pur_bind ?_ fun _ => ?_) | split | dsimp only)
theorem pur_field (t : TypeId) (x : Value) (f : Nat) : Pur P (Instr.field t x f) := by
 unfold Instr.field
 repeat' (first
  |exact pur_pure _ | exact noOk_pur (noOk_stuck _) | exact noOk_pur (noOk_unsupported _) | exact noOk_pur (noOk_runtimePanic _) | exact noOk_pur (noOk_boundsPanic _ _ _ _)
  |exact pur_sizeOf _ | exact pur_underlying _ | exact pur_typeInfo _ | exact pur_isAgg _ | exact pur_zeroValue _ | exact pur_asIntOf _ | exact pur_asBool _ | exact pur_asAgg _ | exact pur_asAddr _ | exact pur_part _ _ _ | exact pur_sureAddr _ | exact pur_program
  |(refine pur_bind ?_ fun _ => ?_) | split | dsimp only)
def fieldOk (P : Program) (t : TypeId) (f : Nat) : Bool :=
 match P.underlying t with
 |some (.struct fs) => match fs[f]? with
  |some fd => match P.info? fd.type with
   |some i => i.size != 0
   |none => true
  |none => true
 |_ => true
theorem pur_fieldAt (t : TypeId) (x : Value) (f : Nat) (hok : fieldOk P t f = true) : Pur P (Instr.fieldAt t x f) := by
 have hu : ∀ w d w', (underlying t).run P w = .ok d w' → P.underlying t = some d := by
  intro w d w' h
  cases hd : P.underlying t with
  |none => simp [underlying, hd, program, Sem.run, stuck, bind, Sem.bind] at h
  |some d' => rw [run_underlying hd] at h; injection h with h1 _; rw [h1]
 have hi : ∀ (e : TypeId) w n w', (sizeOf e).run P w = .ok n w' → ∃ i, P.info? e = some i ∧ i.size = n := by
  intro e w n w' h
  cases hd : P.info? e with
  |none => simp [sizeOf, typeInfo, hd, program, Sem.run, stuck, bind, Sem.bind] at h
  |some i => simp [sizeOf, typeInfo, hd, program, Sem.run, bind, Sem.bind, pure] at h; exact ⟨i, rfl, h.1⟩
 unfold Instr.fieldAt
 refine pur_bind_w (pur_underlying t) fun d w w' hd => ?_
 have hd' := hu _ _ _ hd
 split
 ·rename_i fs
  split
  ·rename_i fd hfd
   refine pur_bind (pur_sureAddr _) fun ad => pur_bind ?_ fun _ => pur_pure _
   unfold fieldPlace
   refine pur_bind_w (pur_sizeOf _) fun n w1 w1' hn => ?_
   obtain ⟨i, hi1, hi2⟩ := hi _ _ _ _ hn
   unfold fieldOk at hok
   rw [hd'] at hok
   simp only [hfd, hi1] at hok
   rw [if_neg (by subst hi2; simpa using hok)]
   exact pur_pure _
  ·exact noOk_pur (noOk_stuck _)
 ·exact noOk_pur (noOk_stuck _)
theorem pur_extract (x : Value) (f : Nat) : Pur P (Instr.extract x f) := by
 unfold Instr.extract
 repeat' (first
  |exact pur_pure _ | exact noOk_pur (noOk_stuck _) | exact noOk_pur (noOk_unsupported _) | exact noOk_pur (noOk_runtimePanic _) | exact noOk_pur (noOk_boundsPanic _ _ _ _)
  |exact pur_sizeOf _ | exact pur_underlying _ | exact pur_typeInfo _ | exact pur_isAgg _ | exact pur_zeroValue _ | exact pur_asIntOf _ | exact pur_asBool _ | exact pur_asAgg _ | exact pur_asAddr _ | exact pur_part _ _ _ | exact pur_sureAddr _ | exact pur_program
  |(refine pur_bind ?_ fun _ => ?_) | split | dsimp only)
theorem pur_intArith (op : BinOp) (k : IntKind) (x y : Int) : Pur P (Op.intArith op k x y) := by
 unfold Op.intArith
 repeat' (first
  |exact pur_pure _ | exact noOk_pur (noOk_stuck _) | exact noOk_pur (noOk_unsupported _) | exact noOk_pur (noOk_runtimePanic _) | exact noOk_pur (noOk_boundsPanic _ _ _ _)
  |exact pur_sizeOf _ | exact pur_underlying _ | exact pur_typeInfo _ | exact pur_isAgg _ | exact pur_zeroValue _ | exact pur_asIntOf _ | exact pur_asBool _ | exact pur_asAgg _ | exact pur_asAddr _ | exact pur_part _ _ _ | exact pur_sureAddr _ | exact pur_program
  |(refine pur_bind ?_ fun _ => ?_) | split | dsimp only)
theorem pur_intDiv (op : BinOp) (k : IntKind) (x y : Int) : Pur P (Op.intDiv op k x y) := by
 unfold Op.intDiv
 repeat' (first
  |exact pur_pure _ | exact noOk_pur (noOk_stuck _) | exact noOk_pur (noOk_unsupported _) | exact noOk_pur (noOk_runtimePanic _) | exact noOk_pur (noOk_boundsPanic _ _ _ _)
  |exact pur_sizeOf _ | exact pur_underlying _ | exact pur_typeInfo _ | exact pur_isAgg _ | exact pur_zeroValue _ | exact pur_asIntOf _ | exact pur_asBool _ | exact pur_asAgg _ | exact pur_asAddr _ | exact pur_part _ _ _ | exact pur_sureAddr _ | exact pur_program
  |(refine pur_bind ?_ fun _ => ?_) | split | dsimp only)
theorem pur_intBits (op : BinOp) (k : IntKind) (x y : Int) : Pur P (Op.intBits op k x y) := by
 unfold Op.intBits
 repeat' (first
  |exact pur_pure _ | exact noOk_pur (noOk_stuck _) | exact noOk_pur (noOk_unsupported _) | exact noOk_pur (noOk_runtimePanic _) | exact noOk_pur (noOk_boundsPanic _ _ _ _)
  |exact pur_sizeOf _ | exact pur_underlying _ | exact pur_typeInfo _ | exact pur_isAgg _ | exact pur_zeroValue _ | exact pur_asIntOf _ | exact pur_asBool _ | exact pur_asAgg _ | exact pur_asAddr _ | exact pur_part _ _ _ | exact pur_sureAddr _ | exact pur_program
  |(refine pur_bind ?_ fun _ => ?_) | split | dsimp only)
theorem pur_intCmp (op : BinOp) (x y : Int) : Pur P (Op.intCmp op x y) := by
 unfold Op.intCmp
 repeat' (first
  |exact pur_pure _ | exact noOk_pur (noOk_stuck _) | exact noOk_pur (noOk_unsupported _) | exact noOk_pur (noOk_runtimePanic _) | exact noOk_pur (noOk_boundsPanic _ _ _ _)
  |exact pur_sizeOf _ | exact pur_underlying _ | exact pur_typeInfo _ | exact pur_isAgg _ | exact pur_zeroValue _ | exact pur_asIntOf _ | exact pur_asBool _ | exact pur_asAgg _ | exact pur_asAddr _ | exact pur_part _ _ _ | exact pur_sureAddr _ | exact pur_program
  |(refine pur_bind ?_ fun _ => ?_) | split | dsimp only)
theorem pur_shift (op : BinOp) (k : IntKind) (x : Int) (yk : IntKind) (y : Int) : Pur P (Op.shift op k x yk y) := by
 unfold Op.shift
 repeat' (first
  |exact pur_pure _ | exact noOk_pur (noOk_stuck _) | exact noOk_pur (noOk_unsupported _) | exact noOk_pur (noOk_runtimePanic _) | exact noOk_pur (noOk_boundsPanic _ _ _ _)
  |exact pur_sizeOf _ | exact pur_underlying _ | exact pur_typeInfo _ | exact pur_isAgg _ | exact pur_zeroValue _ | exact pur_asIntOf _ | exact pur_asBool _ | exact pur_asAgg _ | exact pur_asAddr _ | exact pur_part _ _ _ | exact pur_sureAddr _ | exact pur_program
  |(refine pur_bind ?_ fun _ => ?_) | split | dsimp only)
theorem pur_stringOp (op : BinOp) (x y : ByteArray) : Pur P (Op.stringOp op x y) := by
 unfold Op.stringOp
 repeat' (first
  |exact pur_pure _ | exact noOk_pur (noOk_stuck _) | exact noOk_pur (noOk_unsupported _) | exact noOk_pur (noOk_runtimePanic _) | exact noOk_pur (noOk_boundsPanic _ _ _ _)
  |exact pur_sizeOf _ | exact pur_underlying _ | exact pur_typeInfo _ | exact pur_isAgg _ | exact pur_zeroValue _ | exact pur_asIntOf _ | exact pur_asBool _ | exact pur_asAgg _ | exact pur_asAddr _ | exact pur_part _ _ _ | exact pur_sureAddr _ | exact pur_program
  |(refine pur_bind ?_ fun _ => ?_) | split | dsimp only)
theorem rdr_loadCellsFrom (a : Addr) : ∀ (n i : Nat) (acc : Array Value), Rdr P (loadCellsFrom a i n acc)
 |0, i, acc => (pur_pure _).rdr
 |n + 1, i, acc => by
  unfold loadCellsFrom
  exact rdr_bind (rdr_load _ _) fun v => rdr_loadCellsFrom a n (i + 1) _
theorem rdr_loadVar (t : TypeId) (a : Addr) : Rdr P (loadVar t a) := by
 unfold loadVar
 refine rdr_bind (pur_isAgg t).rdr fun b => ?_
 split
 ·exact rdr_bind (pur_sizeOf t).rdr fun n => rdr_bind (rdr_loadCellsFrom _ _ _ _) fun _ => (pur_pure _).rdr
 ·exact rdr_load _ _
theorem rdr_loadAt (t : TypeId) (v : Value) : Rdr P (Instr.loadAt t v) := rdr_bind (pur_sureAddr v).rdr fun a => rdr_loadVar t a

def Value.flat : Value → Bool
 |.int _ _ | .bool _ | .string _ => true
 |_ => false
def Value.isInt : Value → Bool
 |.int _ _ => true
 |_ => false
def Value.isPtr : Value → Bool
 |.pointer _ => true
 |_ => false
def Value.hasLen : Value → Bool
 |.string _ | .slice _ _ _ => true
 |_ => false
theorem pur_eqGuard_flat (op : BinOp) (t : TypeId) (x y : Operand) (a b : Value) (ha : Value.flat a = true) : Pur P (eqGuard op t x y a b) := by
 have h : eqGuard op t x y a b = pure () := by
  cases a <;> simp [Value.flat] at ha
  ·exact eqGuard_at_bool op t x y b _
  ·exact eqGuard_at_int op t x y b _ _
  ·exact eqGuard_at_string op t x y b _
 rw [h]
 exact pur_pure _
theorem pur_equalIn_flat (d : Nat) (t : TypeId) (a b : Value) (ha : Value.flat a = true) (hb : Value.flat b = true) : Pur P (Op.equalIn (d + 1) t a b) := by
 unfold Op.equalIn
 refine pur_bind (pur_underlying t) fun u => ?_
 cases a <;> simp only [Value.flat, Bool.false_eq_true] at ha <;> cases b <;> simp only [Value.flat, Bool.false_eq_true] at hb <;> cases u <;> dsimp only <;>
  first | exact pur_pure _ | exact noOk_pur (noOk_stuck _) | (split <;> first | exact pur_pure _ | exact noOk_pur (noOk_stuck _))
theorem pur_binOp_flat (op : BinOp) (t : TypeId) (a b : Value) (ha : Value.flat a = true) (hb : Value.flat b = true) : Pur P (binOp op t a b) := by
 have heq : Pur P (Op.equal t a b) := pur_equalIn_flat 9999 t a b ha hb
 cases a <;> simp only [Value.flat, Bool.false_eq_true] at ha <;> cases b <;> simp only [Value.flat, Bool.false_eq_true] at hb <;> cases op <;> simp only [binOp] <;>
  first
  |exact noOk_pur (noOk_stuck _) | exact pur_stringOp _ _ _ | exact pur_shift _ _ _ _ _
  |exact pur_bind heq fun _ => pur_pure _
  |(split <;> first | exact noOk_pur (noOk_stuck _) | exact pur_intArith _ _ _ _ | exact pur_intDiv _ _ _ _ | exact pur_intBits _ _ _ _ | exact pur_intCmp _ _ _)
end Go.Proofs.YthojelhpipmkiaaGreatDoor.Text
namespace Go.Proofs.YthojelhpipmkiaaGreatDoor.Text
open Go
variable {P : Program}

def isLen (c : Call) : Bool := match c.callee with | .builtin .len => true | _ => false
def clsOf (P : Program) (o : Oper) : Nat :=
 match o.op with
 |.move _ | .assign _ | .pick .. | .extract .. | .field .. | .index .. | .indexAddr .. | .slice .. | .binOp .. | .unOp .. | .nilCheck _ => 0
 |.fieldAddr s _ f => if fieldOk P s f then 0 else 2
 |.convert _ dst _ => match P.underlying dst with
  |some (.int _) => 0
  |_ => 2
 |.load .. => 1
 |.call c => if isLen c then 0 else 2
 |_ => 2
def dynOk (ρ : Operand → Value) (o : Oper) : Bool :=
 match o.op with
 |.binOp _ _ x y _ => Value.flat (ρ x) && Value.flat (ρ y)
 |.unOp _ _ x => Value.flat (ρ x)
 |.nilCheck x => Value.isPtr (ρ x)
 |.convert _ _ x => Value.isInt (ρ x)
 |.call c => match c.args.toList with
  |[x] => !isLen c || Value.hasLen (ρ x)
  |_ => !isLen c
 |_ => true
def needsDyn (o : Oper) : Bool :=
 match o.op with
 |.binOp .. | .unOp .. | .nilCheck _ | .convert .. | .call _ => true
 |_ => false

def PurV (P : Program) (s : Sem Next) : Prop := ∀ w n w', s.run P w = .ok n w' → w' = w ∧ ∃ v, n = .value v ∧ ∀ w2, s.run P w2 = .ok (.value v) w2
def RdrV (P : Program) (s : Sem Next) : Prop := ∀ w n w', s.run P w = .ok n w' → w' = w ∧ ∃ v, n = .value v

theorem purV_of {s : Sem Value} (h : Pur P s) : PurV P (do pure (.value (← s))) := fun w n w' hr => by
 obtain ⟨v, w1, h1, h2⟩ := ok_bind hr
 obtain ⟨e, g⟩ := h w v w1 h1
 subst e
 simp only [Sem.run_pure] at h2
 injection h2 with h3 h4
 subst h3 h4
 refine ⟨rfl, v, rfl, fun w2 => ?_⟩
 rw [Sem.run_bind, g w2]
 rfl
theorem rdrV_of {s : Sem Value} (h : Rdr P s) : RdrV P (do pure (.value (← s))) := fun w n w' hr => by
 obtain ⟨v, w1, h1, h2⟩ := ok_bind hr
 have e := h w v w1 h1
 subst e
 simp only [Sem.run_pure] at h2
 injection h2 with h3 h4
 subst h3 h4
 exact ⟨rfl, v, rfl⟩
theorem purV_pure (v : Value) : PurV P (pure (.value v)) := fun w n w' hr => by
 simp only [Sem.run_pure] at hr
 injection hr with h3 h4
 subst h3 h4
 exact ⟨rfl, v, rfl, fun _ => rfl⟩
theorem pur_unary_flat (op : UnOp) (x : Value) (h : Value.flat x = true) : Pur P (Op.unary op x) := by
 cases x <;> simp only [Value.flat, Bool.false_eq_true] at h <;> cases op <;> simp only [Op.unary] <;>
  first | exact pur_pure _ | exact pur_intArith _ _ _ _ | exact pur_intBits _ _ _ _ | exact noOk_pur (noOk_stuck _)

theorem cls_zero {ρ : Operand → Value} {o : Oper} (h : clsOf P o = 0) (hd : dynOk ρ o = true) : PurV P (execOp ρ o) := by
 obtain ⟨dst, op, type, pos, after, guard⟩ := o
 cases op <;> simp only [clsOf] at h <;> simp only [execOp] <;> try (exact absurd h (by decide))
 case move x => exact purV_pure _
 case assign x => exact purV_pure _
 case pick c a b =>
  intro w n w' hr
  obtain ⟨v, w1, h1, h2⟩ := ok_bind hr
  obtain ⟨e, g⟩ := pur_asBool (P := P) _ w v w1 h1
  subst e
  simp only [Sem.run_pure] at h2
  injection h2 with h3 h4
  subst h3 h4
  refine ⟨rfl, _, rfl, fun w2 => ?_⟩
  rw [Sem.run_bind, g w2]
  rfl
 case nilCheck x =>
  simp only [dynOk] at hd
  cases hx : ρ x <;> rw [hx] at hd <;> simp only [Value.isPtr, Bool.false_eq_true] at hd
  rename_i a
  cases a with
  |none => exact fun w n w' hr => absurd hr (noOk_runtimePanic _ w n w')
  |some a => exact purV_pure _
 case binOp op t x y yt =>
  simp only [dynOk, Bool.and_eq_true] at hd
  exact purV_of (pur_bind (pur_eqGuard_flat _ _ _ _ _ _ hd.1) fun _ => pur_binOp_flat _ _ _ _ hd.1 hd.2)
 case unOp op t x => exact purV_of (pur_unary_flat _ _ hd)
 case convert src dst x =>
  simp only [dynOk] at hd
  cases hx : ρ x <;> rw [hx] at hd <;> simp only [Value.isInt, Bool.false_eq_true] at hd
  rename_i k n
  refine purV_of ?_
  cases hu : P.underlying dst with
  |none => rw [hu] at h; exact absurd h (by decide)
  |some d =>
   rw [hu] at h
   have hd2 : ∃ kd, d = .int kd := by cases d <;> first | exact ⟨_, rfl⟩ | (exfalso; simp at h)
   obtain ⟨kd, rfl⟩ := hd2
   unfold convert
   refine pur_bind (pur_underlying src) fun ds => pur_bind_w (pur_underlying dst) fun dd w w' hdd => ?_
   rw [run_underlying hu] at hdd
   injection hdd with h1 _
   subst h1
   exact pur_pure _
 case field t x f => exact purV_of (pur_field _ _ _)
 case fieldAddr t x f =>
  by_cases hok : fieldOk P t f = true
  ·exact purV_of (pur_fieldAt _ _ _ hok)
  ·rw [if_neg hok] at h; exact absurd h (by decide)
 case index t x i => exact purV_of (pur_index _ _ _)
 case indexAddr t x i => exact purV_of (pur_indexAt _ _ _)
 case slice t x lo hi mx => exact purV_of (pur_sliceAt _ _ _ _ _)
 case extract x i => exact purV_of (pur_extract _ _)
 case call c =>
  have hc : isLen c = true := by
   rcases Bool.eq_false_or_eq_true (isLen c) with hc | hc
   ·exact hc
   ·rw [hc] at h; exact absurd h (by decide)
  obtain ⟨callee, args, argTypes⟩ := c
  have hcal : callee = .builtin .len := by
   unfold isLen at hc
   dsimp only at hc
   split at hc
   ·rfl
   ·cases hc
  subst hcal
  simp only [dynOk, hc, Bool.not_true, Bool.false_or] at hd
  obtain ⟨l⟩ := args
  match l, hd with
  |[x], hd =>
   simp only at hd
   have hl : Pur P (Builtin.len_ argTypes type #[ρ x]) := by
    unfold Builtin.len_
    cases hx : ρ x <;> rw [hx] at hd <;> simp only [Value.hasLen, Bool.false_eq_true] at hd <;>
     repeat' (first
      |exact pur_pure _ | exact noOk_pur (noOk_stuck _) | exact pur_underlying _
      |(exfalso; rename_i heq; simp at heq; done)
      |(refine pur_bind ?_ fun _ => ?_) | split | dsimp only)
   have he : (do let d ← resolve ρ { callee := .builtin .len, args := [x].toArray, argTypes := argTypes } type; invoke d.target d.args : Sem Next) = (do pure (.value (← Builtin.len_ argTypes type #[ρ x]))) := by
    simp [resolve, invoke, builtin]
   rw [he]
   exact purV_of hl
end Go.Proofs.YthojelhpipmkiaaGreatDoor.Text
namespace Go.Proofs.YthojelhpipmkiaaGreatDoor.Text
open Go
variable {P : Program} {ops : Array Oper}

def Same (a a' : Act) (d : Option Tmp) : Prop := ∃ u ds, a' = ({ a with defers := ds } : Act).put d u
theorem same_put (a : Act) (d : Option Tmp) (u : Value) : Same a (a.put d u) d := ⟨u, a.defers, rfl⟩
theorem put_defers (a : Act) (d : Option Tmp) (v : Value) (ds : List Deferred) : ({ a.put d v with defers := ds } : Act) = ({ a with defers := ds } : Act).put d v := by cases d <;> rfl

def Y1 (P : Program) (ops : Array Oper) (o : Oper) (v : Value) (a : Act) (w : World) : Prop :=
 (Region.wanted o (yielded ops a.tmps) = true ∧ (execOp a.eval o).run P w = .ok (.value v) w) ∨ (Region.wanted o (yielded ops a.tmps) = false ∧ v = undef)
def NoQ : Exit → Act → World → Prop := fun _ _ _ => False

def stT (P : Program) (ops : Array Oper) (c : Nat) (o : Oper) (K : Act → World → Prop) (a : Act) (w : World) : Prop :=
 match c with
 |0 => ∃ v, Yields P ops o v a ∧ K (a.put o.dst v) w
 |1 => ∃ v, Y1 P ops o v a w ∧ K (a.put o.dst v) w
 |_ => if Region.wanted o (yielded ops a.tmps) = true then o.wp P a w K NoQ else K (a.put o.dst undef) w

theorem upon_some {o : Oper} {a : Act} {w : World} {K : Act → World → Prop} {Q : Exit → Act → World → Prop} (hQ : ∀ e a w, e ≠ .normal → ¬ Q e a w) (h : o.wp P a w K Q) : ∃ a' w', Same a a' o.dst ∧ K a' w' := by
 unfold Oper.wp at h
 generalize (execOp a.eval o).run P w = r at h
 cases r with
 |ok n w' =>
  cases n <;> simp only [Oper.upon] at h
  case value v => exact ⟨_, w', same_put _ _ _, h⟩
  case skip => exact ⟨_, w', same_put _ _ _, h⟩
  case defer d => exact ⟨_, w', ⟨undef, _, rfl⟩, h⟩
  case enter f args =>
   obtain ⟨e, w'', fr, he, _⟩ := h []
   cases e with
   |returned v => exact ⟨_, w'', same_put _ _ _, he⟩
   |panicked c => exact absurd he (hQ _ _ _ (by simp))
   |outgrown => obtain ⟨a2, w2, h2⟩ := (he : LetsOut Q); exact absurd h2 (hQ _ _ _ (by simp))
  case row row args =>
   obtain ⟨v, w'', he, _⟩ := h default []
   exact ⟨_, w'', same_put _ _ _, he⟩
 |halt x w' =>
  cases x <;> simp only [Oper.upon] at h
  case panic v => exact absurd h (hQ _ _ _ (by simp))

theorem noQ_not : ∀ (e : Exit) (a : Act) (w : World), e ≠ .normal → ¬ NoQ e a w := fun _ _ _ _ h => h
theorem not_letsOut : ¬ LetsOut NoQ := fun ⟨_, _, h⟩ => h

theorem upon_mono {o : Oper} {a : Act} {w : World} {K K' : Act → World → Prop} {dst : Option Tmp} {v : Value}
  (hsel : ∀ cs b, o.op ≠ .select cs b) (h1 : ∀ d, dst = some d → d ∉ o.looksAt ops) (h2 : ∀ d, dst = some d → o.dst ≠ some d)
  (hK : ∀ a' w', Same a a' o.dst → K a' w' → K' (a'.put dst v) w') (h : o.wp P a w K NoQ) : o.wp P (a.put dst v) w K' NoQ := by
 unfold Oper.wp at *
 rw [execOp_put (ops := ops) o hsel a dst v h1]
 generalize (execOp a.eval o).run P w = r at *
 cases r with
 |ok n w' =>
  cases n <;> simp only [Oper.upon] at h ⊢
  case value u => rw [Act.put_comm a v u h2]; exact hK _ _ (same_put _ _ _) h
  case skip => rw [Act.put_comm a v undef h2]; exact hK _ _ (same_put _ _ _) h
  case defer d =>
   rw [Act.put_defers, Act.put_comm _ v undef h2]
   exact hK _ _ ⟨undef, _, rfl⟩ h
  case enter f args =>
   refine Calls.mono h fun e w'' he => ?_
   cases e with
   |returned u => simp only at he ⊢; rw [Act.put_comm a v u h2]; exact hK _ _ (same_put _ _ _) he
   |panicked c => exact he
   |outgrown => exact he
  case row row args => exact Rows.mono h fun u w'' he => by rw [Act.put_comm a v u h2]; exact hK _ _ (same_put _ _ _) he
 |halt x w' => cases x <;> simp only [Oper.upon] at h ⊢ <;> exact h
theorem upon_unput {o : Oper} {a : Act} {w : World} {K K' : Act → World → Prop} {dst : Option Tmp} {v : Value}
  (hsel : ∀ cs b, o.op ≠ .select cs b) (h1 : ∀ d, dst = some d → d ∉ o.looksAt ops) (h2 : ∀ d, dst = some d → o.dst ≠ some d)
  (hK : ∀ a' w', Same a a' o.dst → K (a'.put dst v) w' → K' a' w') (h : o.wp P (a.put dst v) w K NoQ) : o.wp P a w K' NoQ := by
 unfold Oper.wp at *
 rw [execOp_put (ops := ops) o hsel a dst v h1] at h
 generalize (execOp a.eval o).run P w = r at *
 cases r with
 |ok n w' =>
  cases n <;> simp only [Oper.upon] at h ⊢
  case value u => rw [Act.put_comm a v u h2] at h; exact hK _ _ (same_put _ _ _) h
  case skip => rw [Act.put_comm a v undef h2] at h; exact hK _ _ (same_put _ _ _) h
  case defer d =>
   rw [Act.put_defers, Act.put_comm _ v undef h2] at h
   exact hK _ _ ⟨undef, _, rfl⟩ h
  case enter f args =>
   refine Calls.mono h fun e w'' he => ?_
   cases e with
   |returned u => simp only at he ⊢; rw [Act.put_comm a v u h2] at he; exact hK _ _ (same_put _ _ _) he
   |panicked c => exact he
   |outgrown => exact he
  case row row args => exact Rows.mono h fun u w'' he => by rw [Act.put_comm a v u h2] at he; exact hK _ _ (same_put _ _ _) he
 |halt x w' => cases x <;> simp only [Oper.upon] at h ⊢ <;> exact h

theorem yields_keep {o : Oper} {v : Value} {a a' : Act} {d : Option Tmp} (hsel : ∀ cs b, o.op ≠ .select cs b) (h1 : ∀ t, d = some t → t ∉ o.looksAt ops) (hs : Same a a' d) :
  Yields P ops o v a ↔ Yields P ops o v a' := by
 obtain ⟨u, ds, rfl⟩ := hs
 have e1 : execOp (({ a with defers := ds } : Act).put d u).eval o = execOp a.eval o := (execOp_put (ops := ops) o hsel _ d u h1).trans rfl
 have e2 : Region.wanted o (yielded ops (({ a with defers := ds } : Act).put d u).tmps) = Region.wanted o (yielded ops a.tmps) := wanted_put o _ d u h1
 exact ⟨fun h => h.of_same e1 e2, fun h => h.of_same e1.symm e2.symm⟩
theorem yields_one {o : Oper} {v v' : Value} {a : Act} (w : World) (h : Yields P ops o v a) (h' : Yields P ops o v' a) : v = v' := by
 rcases h with ⟨hw, h⟩ | ⟨hw, rfl⟩ <;> rcases h' with ⟨hw', h'⟩ | ⟨hw', rfl⟩
 ·have := (h w).symm.trans (h' w)
  injection this with h1 _
  injection h1
 ·rw [hw] at hw'; cases hw'
 ·rw [hw] at hw'; cases hw'
 ·rfl
theorem y1_put {o : Oper} {v : Value} {a : Act} {w : World} {d : Option Tmp} {u : Value} (hsel : ∀ cs b, o.op ≠ .select cs b) (h1 : ∀ t, d = some t → t ∉ o.looksAt ops) :
  Y1 P ops o v (a.put d u) w ↔ Y1 P ops o v a w := by
 unfold Y1
 rw [execOp_put (ops := ops) o hsel a d u h1, wanted_put o a d u h1]

theorem stT_mono {c : Nat} {o : Oper} {K K' : Act → World → Prop} {a : Act} {w : World} (h : ∀ a w, K a w → K' a w) (hh : stT P ops c o K a w) : stT P ops c o K' a w := by
 unfold stT at *
 split at hh
 ·obtain ⟨v, h1, h2⟩ := hh; exact ⟨v, h1, h _ _ h2⟩
 ·obtain ⟨v, h1, h2⟩ := hh; exact ⟨v, h1, h _ _ h2⟩
 ·split at hh
  ·rename_i hw; rw [if_pos hw]; exact Oper.wp_mono h hh
  ·rename_i hw; rw [if_neg hw]; exact h _ _ hh
theorem stT_some {c : Nat} {o : Oper} {K : Act → World → Prop} {a : Act} {w : World} (hh : stT P ops c o K a w) : ∃ a' w', Same a a' o.dst ∧ K a' w' := by
 unfold stT at hh
 split at hh
 ·obtain ⟨v, _, h⟩ := hh; exact ⟨_, _, same_put _ _ _, h⟩
 ·obtain ⟨v, _, h⟩ := hh; exact ⟨_, _, same_put _ _ _, h⟩
 ·split at hh
  ·exact upon_some noQ_not hh
  ·exact ⟨_, _, same_put _ _ _, hh⟩
theorem stT_put {c : Nat} {o : Oper} {K K' : Act → World → Prop} {a : Act} {w : World} {dst : Option Tmp} {v : Value}
  (hsel : ∀ cs b, o.op ≠ .select cs b) (h1 : ∀ d, dst = some d → d ∉ o.looksAt ops) (h2 : ∀ d, dst = some d → o.dst ≠ some d)
  (hK : ∀ a' w', Same a a' o.dst → K a' w' → K' (a'.put dst v) w') (hh : stT P ops c o K a w) : stT P ops c o K' (a.put dst v) w := by
 unfold stT at *
 split at hh
 ·obtain ⟨u, hy, h⟩ := hh
  refine ⟨u, (yields_keep hsel h1 (same_put a dst v)).1 hy, ?_⟩
  rw [Act.put_comm a v u h2]
  exact hK _ _ (same_put _ _ _) h
 ·obtain ⟨u, hy, h⟩ := hh
  refine ⟨u, (y1_put hsel h1).2 hy, ?_⟩
  rw [Act.put_comm a v u h2]
  exact hK _ _ (same_put _ _ _) h
 ·rw [wanted_put o a dst v h1]
  split at hh
  ·rename_i hw; rw [if_pos hw]; exact upon_mono hsel h1 h2 hK hh
  ·rename_i hw; rw [if_neg hw, Act.put_comm a v undef h2]; exact hK _ _ (same_put _ _ _) hh
theorem stT_unput {c : Nat} {o : Oper} {K K' : Act → World → Prop} {a : Act} {w : World} {dst : Option Tmp} {v : Value}
  (hsel : ∀ cs b, o.op ≠ .select cs b) (h1 : ∀ d, dst = some d → d ∉ o.looksAt ops) (h2 : ∀ d, dst = some d → o.dst ≠ some d)
  (hK : ∀ a' w', Same a a' o.dst → K (a'.put dst v) w' → K' a' w') (hh : stT P ops c o K (a.put dst v) w) : stT P ops c o K' a w := by
 unfold stT at *
 split at hh
 ·obtain ⟨u, hy, h⟩ := hh
  refine ⟨u, (yields_keep hsel h1 (same_put a dst v)).2 hy, ?_⟩
  rw [Act.put_comm a v u h2] at h
  exact hK _ _ (same_put _ _ _) h
 ·obtain ⟨u, hy, h⟩ := hh
  refine ⟨u, (y1_put hsel h1).1 hy, ?_⟩
  rw [Act.put_comm a v u h2] at h
  exact hK _ _ (same_put _ _ _) h
 ·rw [wanted_put o a dst v h1] at hh
  split at hh
  ·rename_i hw; rw [if_pos hw]; exact upon_unput hsel h1 h2 hK hh
  ·rename_i hw; rw [if_neg hw]; rw [Act.put_comm a v undef h2] at hh; exact hK _ _ (same_put _ _ _) hh

theorem swap {cx cy : Nat} {x y : Oper} {K : Act → World → Prop} {a : Act} {w : World} (hsx : ∀ cs b, x.op ≠ .select cs b) (hsy : ∀ cs b, y.op ≠ .select cs b)
  (hap : x.apart ops y = true) (hc : cx = 0 ∨ cy = 0 ∨ (cx = 1 ∧ cy = 1)) (h : stT P ops cx x (stT P ops cy y K) a w) : stT P ops cy y (stT P ops cx x K) a w := by
 obtain ⟨p1, p2, p3⟩ := Oper.apart_spec hap
 have p2' : ∀ d, y.dst = some d → x.dst ≠ some d := fun d hd hx => p2 d hx hd
 rcases hc with rfl | rfl | ⟨rfl, rfl⟩
 ·obtain ⟨v, hy, h2⟩ := h
  exact stT_unput hsy p1 p2 (fun a' w' hs hk => ⟨v, (yields_keep hsx p3 hs).1 hy, hk⟩) h2
 ·obtain ⟨a1, w1, hs, v, hy, _⟩ := stT_some h
  have hy0 := (yields_keep hsy p1 hs).2 hy
  refine ⟨v, hy0, stT_put hsx p3 p2' (fun a' w' hs' hk => ?_) h⟩
  obtain ⟨v', hy', hk⟩ := hk
  have := yields_one w' hy' ((yields_keep hsy p1 hs').1 hy0)
  subst this
  exact hk
 ·obtain ⟨v, hy, u, hu, hk⟩ := h
  refine ⟨u, (y1_put hsy p1).1 hu, v, (y1_put hsx p3).2 hy, ?_⟩
  rw [← Act.put_comm a v u p2]
  exact hk

def wpT (P : Program) (ops : Array Oper) (cl : Nat → Nat) (Q : Act → World → Prop) : List Nat → Act → World → Prop
 |[], a, w => Q a w
 |i :: r, a, w => match ops[i]? with
  |none => wpT P ops cl Q r a w
  |some o => stT P ops (cl i) o (wpT P ops cl Q r) a w
def compat (ops : Array Oper) (cl : Nat → Nat) (i j : Nat) : Bool :=
 match ops[i]?, ops[j]? with
 |some x, some y => x.apart ops y && (cl i == 0 || cl j == 0 || (cl i == 1 && cl j == 1))
 |_, _ => true
theorem front {cl : Nat → Nat} {Q : Act → World → Prop} (hsel : Region.noSelect ops = true) (i : Nat) (l2 : List Nat) : ∀ (l1 : List Nat) (a : Act) (w : World), (∀ x ∈ l1, compat ops cl x i = true) →
  wpT P ops cl Q (l1 ++ i :: l2) a w → wpT P ops cl Q (i :: (l1 ++ l2)) a w
 |[], _, _, _, h => h
 |x :: l1, a, w, hc, h => by
  have hx := hc x (by simp)
  have ih := fun a w => front (cl := cl) (Q := Q) hsel i l2 l1 a w (fun y hy => hc y (by simp [hy]))
  cases hox : ops[x]? with
  |none =>
   have h' : wpT P ops cl Q (l1 ++ i :: l2) a w := by simpa [wpT, hox] using h
   have := ih a w h'
   unfold wpT at this ⊢
   split at this
   ·simpa [wpT, hox] using this
   ·exact stT_mono (fun a w hh => by simpa [wpT, hox] using hh) this
  |some ox =>
   have h1 : stT P ops (cl x) ox (wpT P ops cl Q (l1 ++ i :: l2)) a w := by simpa [wpT, hox] using h
   have h2 := stT_mono ih h1
   cases hoi : ops[i]? with
   |none => simpa [wpT, hox, hoi] using h2
   |some oi =>
    simp only [compat, hox, hoi, Bool.and_eq_true, Bool.or_eq_true, beq_iff_eq] at hx
    have h3 : stT P ops (cl x) ox (stT P ops (cl i) oi (wpT P ops cl Q (l1 ++ l2))) a w := by simpa [wpT, hoi] using h2
    have h4 := swap (fun cs b => Region.noSelect_spec hsel x ox cs b hox) (fun cs b => Region.noSelect_spec hsel i oi cs b hoi) hx.1 (by rcases hx.2 with (h | h) | h; exact .inl h; exact .inr (.inl h); exact .inr (.inr h)) h3
    have h5 : stT P ops (cl i) oi (wpT P ops cl Q (x :: (l1 ++ l2))) a w := stT_mono (fun a w hh => by simpa [wpT, hox] using hh) h4
    simpa [wpT, hoi] using h5
end Go.Proofs.YthojelhpipmkiaaGreatDoor.Text
