import Derived.Test.YtkedmiememnmjaaGreatRows
import Derived.Test.YtkedmiememnmjaaGreatTB01
import Derived.Test.YtkedmiememnmjaaGreatTB22
import Derived.Test.YtkedmiememnmjaaGreatTB06
import Derived.Carry
namespace Go.Proofs.YtkedmiememnmjaaGreat
open Go.ChangeMaps (open_string)
open Go.ChangeShapes Go.WideShapes Go.ChangeAt Go.RowKit

theorem own : ownKnob Tryz.prog.godebug = none := by kernel_rfl
theorem laidOut : laidOutB Tryz.prog = true := by kernel_rfl
section
variable {H : Type} {enc : TypeId × Value → H}
theorem opens_strs : Opens enc Tryz.prog (eSl eStr) 22 := opens_sl (opens_str Tryz.underlying9) Tryz.underlying22 (by kernel_rfl) (by decide)
theorem opens_ints : Opens enc Tryz.prog (eSl eInt) 40 := opens_sl (opens_int Tryz.underlying3) Tryz.underlying40 (by kernel_rfl) (by decide)
theorem opens_rule : Opens enc Tryz.prog eRule 48 := opens_two Tryz.underlying48 (opens_int Tryz.underlying3) opens_ints (by kernel_rfl) (by kernel_rfl) rfl rfl (by kernel_rfl)
theorem opens_rules : Opens enc Tryz.prog (eSl eRule) 23 := opens_sl opens_rule Tryz.underlying23 (by kernel_rfl) (by decide)
def eGram : Elt Gram := eProd (eSl eStr) (eProd (eSl eStr) (eSl eRule))
theorem opens_gram : Opens enc Tryz.prog eGram 25 := opens_three Tryz.underlying25 opens_strs opens_strs opens_rules (by kernel_rfl) (by kernel_rfl) (by kernel_rfl) rfl rfl rfl (by kernel_rfl)
end
end Go.Proofs.YtkedmiememnmjaaGreat
