/- A region that draws its order may be walked in the order of its text (second part: the theorem). No program is named here. -/
import Derived.Test.YtfheocdciekfoaaDoorText
namespace Go.Proofs.YtfheocdciekfoaaDoor.Text
open Go
variable {P : Program}

def isLen (c : Call) : Bool := match c.callee with | .builtin .len => true | _ => false
/-- 0: looks into no memory (if the operands are as 'dynOk' says); 1: reads memory; 2: anything -/
def clsOf (P : Program) (o : Oper) : Nat :=
  match o.op with
  | .move _ | .assign _ | .pick .. | .extract .. | .field .. | .index .. | .indexAddr .. | .slice .. | .binOp .. | .unOp .. | .nilCheck _ => 0
  | .fieldAddr s _ f => if fieldOk P s f then 0 else 2
  | .convert _ dst _ => match P.underlying dst with
    | some (.int _) => 0
    | _ => 2
  | .load .. => 1
  | .call c => if isLen c then 0 else 2
  | _ => 2
def dynOk (ρ : Operand → Value) (o : Oper) : Bool :=
  match o.op with
  | .binOp _ _ x y _ => Value.flat (ρ x) && Value.flat (ρ y)
  | .unOp _ _ x => Value.flat (ρ x)
  | .nilCheck x => Value.isPtr (ρ x)
  | .convert _ _ x => Value.isInt (ρ x)
  | .call c => match c.args.toList with
    | [x] => !isLen c || Value.hasLen (ρ x)
    | _ => !isLen c
  | _ => true
def needsDyn (o : Oper) : Bool :=
  match o.op with
  | .binOp .. | .unOp .. | .nilCheck _ | .convert .. | .call _ => true
  | _ => false

def PurV (P : Program) (s : Sem Next) : Prop := ∀ w n w', s.run P w = .ok n w' → w' = w ∧ ∃ v, n = .value v ∧ ∀ w2, s.run P w2 = .ok (.value v) w2
def RdrV (P : Program) (s : Sem Next) : Prop := ∀ w n w', s.run P w = .ok n w' → w' = w ∧ ∃ v, n = .value v

theorem purV_of {s : Sem Value} (h : Pur P s) : PurV P (do pure (.value (← s))) := fun w n w' hr => by
  obtain ⟨v, w1, h1, h2⟩ := ok_bind hr
  obtain ⟨e, g⟩ := h w v w1 h1
  subst e
  simp only [Sem.run_pure] at h2
  injection h2 with h3 h4
  subst h3 h4
  refine ⟨rfl, v, rfl, fun w2 => ?_⟩
  rw [Sem.run_bind, g w2]
  rfl
theorem rdrV_of {s : Sem Value} (h : Rdr P s) : RdrV P (do pure (.value (← s))) := fun w n w' hr => by
  obtain ⟨v, w1, h1, h2⟩ := ok_bind hr
  have e := h w v w1 h1
  subst e
  simp only [Sem.run_pure] at h2
  injection h2 with h3 h4
  subst h3 h4
  exact ⟨rfl, v, rfl⟩
theorem purV_pure (v : Value) : PurV P (pure (.value v)) := fun w n w' hr => by
  simp only [Sem.run_pure] at hr
  injection hr with h3 h4
  subst h3 h4
  exact ⟨rfl, v, rfl, fun _ => rfl⟩
theorem pur_unary_flat (op : UnOp) (x : Value) (h : Value.flat x = true) : Pur P (Op.unary op x) := by
  cases x <;> simp only [Value.flat, Bool.false_eq_true] at h <;> cases op <;> simp only [Op.unary] <;>
    first | exact pur_pure _ | exact pur_intArith _ _ _ _ | exact pur_intBits _ _ _ _ | exact noOk_pur (noOk_stuck _)

theorem cls_zero {ρ : Operand → Value} {o : Oper} (h : clsOf P o = 0) (hd : dynOk ρ o = true) : PurV P (execOp ρ o) := by
  obtain ⟨dst, op, type, pos, after, guard⟩ := o
  cases op <;> simp only [clsOf] at h <;> simp only [execOp] <;> try (exact absurd h (by decide))
  case move x => exact purV_pure _
  case assign x => exact purV_pure _
  case pick c a b =>
    intro w n w' hr
    obtain ⟨v, w1, h1, h2⟩ := ok_bind hr
    obtain ⟨e, g⟩ := pur_asBool (P := P) _ w v w1 h1
    subst e
    simp only [Sem.run_pure] at h2
    injection h2 with h3 h4
    subst h3 h4
    refine ⟨rfl, _, rfl, fun w2 => ?_⟩
    rw [Sem.run_bind, g w2]
    rfl
  case nilCheck x =>
    simp only [dynOk] at hd
    cases hx : ρ x <;> rw [hx] at hd <;> simp only [Value.isPtr, Bool.false_eq_true] at hd
    rename_i a
    cases a with
    | none => exact fun w n w' hr => absurd hr (noOk_runtimePanic _ w n w')
    | some a => exact purV_pure _
  case binOp op t x y yt =>
    simp only [dynOk, Bool.and_eq_true] at hd
    exact purV_of (pur_bind (pur_eqGuard_flat _ _ _ _ _ _ hd.1) fun _ => pur_binOp_flat _ _ _ _ hd.1 hd.2)
  case unOp op t x => exact purV_of (pur_unary_flat _ _ hd)
  case convert src dst x =>
    simp only [dynOk] at hd
    cases hx : ρ x <;> rw [hx] at hd <;> simp only [Value.isInt, Bool.false_eq_true] at hd
    rename_i k n
    refine purV_of ?_
    cases hu : P.underlying dst with
    | none => rw [hu] at h; exact absurd h (by decide)
    | some d =>
      rw [hu] at h
      have hd2 : ∃ kd, d = .int kd := by cases d <;> first | exact ⟨_, rfl⟩ | (exfalso; simp at h)
      obtain ⟨kd, rfl⟩ := hd2
      unfold convert
      refine pur_bind (pur_underlying src) fun ds => pur_bind_w (pur_underlying dst) fun dd w w' hdd => ?_
      rw [run_underlying hu] at hdd
      injection hdd with h1 _
      subst h1
      exact pur_pure _
  case field t x f => exact purV_of (pur_field _ _ _)
  case fieldAddr t x f =>
    by_cases hok : fieldOk P t f = true
    · exact purV_of (pur_fieldAt _ _ _ hok)
    · rw [if_neg hok] at h; exact absurd h (by decide)
  case index t x i => exact purV_of (pur_index _ _ _)
  case indexAddr t x i => exact purV_of (pur_indexAt _ _ _)
  case slice t x lo hi mx => exact purV_of (pur_sliceAt _ _ _ _ _)
  case extract x i => exact purV_of (pur_extract _ _)
  case call c =>
    have hc : isLen c = true := by
      rcases Bool.eq_false_or_eq_true (isLen c) with hc | hc
      · exact hc
      · rw [hc] at h; exact absurd h (by decide)
    obtain ⟨callee, args, argTypes⟩ := c
    have hcal : callee = .builtin .len := by
      unfold isLen at hc
      dsimp only at hc
      split at hc
      · rfl
      · cases hc
    subst hcal
    simp only [dynOk, hc, Bool.not_true, Bool.false_or] at hd
    obtain ⟨l⟩ := args
    match l, hd with
    | [x], hd =>
      simp only at hd
      have hl : Pur P (Builtin.len_ argTypes type #[ρ x]) := by
        unfold Builtin.len_
        cases hx : ρ x <;> rw [hx] at hd <;> simp only [Value.hasLen, Bool.false_eq_true] at hd <;>
          repeat' (first
            | exact pur_pure _ | exact noOk_pur (noOk_stuck _) | exact pur_underlying _
            | (exfalso; rename_i heq; simp at heq; done)
            | (refine pur_bind ?_ fun _ => ?_) | split | dsimp only)
      have he : (do let d ← resolve ρ { callee := .builtin .len, args := [x].toArray, argTypes := argTypes } type; invoke d.target d.args : Sem Next) = (do pure (.value (← Builtin.len_ argTypes type #[ρ x]))) := by
        simp [resolve, invoke, builtin]
      rw [he]
      exact purV_of hl
end Go.Proofs.YtfheocdciekfoaaDoor.Text
