import Derived.Test.YtkedmiememnmjaaGreatRows
import Derived.Test.YtkedmiememnmjaaGreatTA01
import Derived.Test.YtkedmiememnmjaaGreatTA12
import Derived.Test.YtkedmiememnmjaaGreatTA06
import Derived.Carry
namespace Go.Proofs.YtkedmiememnmjaaGreat
open Go.ChangeMaps (open_string)
open Go.ChangeShapes Go.WideShapes Go.ChangeAt Go.RowKit

theorem own : ownKnob Tryz.prog.godebug = none := by kernel_rfl
theorem laidOut : laidOutB Tryz.prog = true := by kernel_rfl
section
variable {H : Type} {enc : TypeId × Value → H}
theorem opens_strs : Opens enc Tryz.prog (eSl eStr) 22 := opens_sl (opens_str Tryz.underlying9) Tryz.underlying22 (by kernel_rfl) (by decide)
theorem opens_ints : Opens enc Tryz.prog (eSl eInt) 40 := opens_sl (opens_int Tryz.underlying3) Tryz.underlying40 (by kernel_rfl) (by decide)
theorem opens_rule : Opens enc Tryz.prog eRule 48 := opens_two Tryz.underlying48 (opens_int Tryz.underlying3) opens_ints (by kernel_rfl) (by kernel_rfl) rfl rfl (by kernel_rfl)
theorem opens_rules : Opens enc Tryz.prog (eSl eRule) 23 := opens_sl opens_rule Tryz.underlying23 (by kernel_rfl) (by decide)
def eGram : Elt Gram := eProd (eSl eStr) (eProd (eSl eStr) (eSl eRule))
theorem opens_gram : Opens enc Tryz.prog eGram 25 := opens_three Tryz.underlying25 opens_strs opens_strs opens_rules (by kernel_rfl) (by kernel_rfl) (by kernel_rfl) rfl rfl rfl (by kernel_rfl)
theorem opens_word : Opens enc Tryz.prog eW 9 := opens_map (opens_str Tryz.underlying9) (fun b => b.data.toList) (fun b => by cases b; rfl)
theorem opens_row : Opens enc Tryz.prog eRow 54 := opens_three Tryz.underlying54 (opens_int Tryz.underlying3) opens_word (opens_int Tryz.underlying3) (by kernel_rfl) (by kernel_rfl) (by kernel_rfl) rfl rfl rfl (by kernel_rfl)
theorem opens_rows : Opens enc Tryz.prog (eSl eRow) 28 := opens_sl opens_row Tryz.underlying28 (by kernel_rfl) (by decide)
theorem trodAll_five {P : Program} {w : World} {base : Nat} {spare : Nat → Bool} {held : Bool} {t t' t'' t3 t4 : TypeId} {args : Array Value} {ds : List (DataW H)} {ps : List MemPlace} (h : DataW.TrodAll enc P w base spare held [t, t', t'', t3, t4] args.toList ds ps) :
    ∃ v v' v'' v3 v4 d d' d'' d3 d4 p p' p'' p3 p4, args = #[v, v', v'', v3, v4] ∧ ds = [d, d', d'', d3, d4] ∧ ps = p ++ p' ++ p'' ++ p3 ++ p4 ∧ DataW.Trod enc P w base spare held t v d p ∧ DataW.Trod enc P w base spare held t' v' d' p' ∧ DataW.Trod enc P w base spare held t'' v'' d'' p'' ∧ DataW.Trod enc P w base spare held t3 v3 d3 p3 ∧ DataW.Trod enc P w base spare held t4 v4 d4 p4 := by
  obtain ⟨v, vs, d, ds', p, q, hargs, rfl, rfl, hd, hrest⟩ := trodAll_cons h
  obtain ⟨v', vs', d', ds'', p', q', rfl, rfl, rfl, hd', hrest'⟩ := trodAll_cons hrest
  obtain ⟨v'', vs'', d'', ds''', p'', q'', rfl, rfl, rfl, hd'', hrest''⟩ := trodAll_cons hrest'
  obtain ⟨v3, vs3, d3, ds3, p3, q3, rfl, rfl, rfl, hd3, hrest3⟩ := trodAll_cons hrest''
  obtain ⟨v4, vs4, d4, ds4, p4, q4, rfl, rfl, rfl, hd4, hrest4⟩ := trodAll_cons hrest3
  obtain ⟨rfl, rfl, rfl⟩ := trodAll_nil hrest4
  exact ⟨v, v', v'', v3, v4, d, d', d'', d3, d4, p, p', p'', p3, p4, by cases args; simp_all, rfl, by simp, hd, hd', hd'', hd3, hd4⟩
end
end Go.Proofs.YtkedmiememnmjaaGreat
