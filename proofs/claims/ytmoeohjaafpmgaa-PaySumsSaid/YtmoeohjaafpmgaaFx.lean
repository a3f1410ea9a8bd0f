/- No package variable is known. -/
import Derived.Test.YtmoeohjaafpmgaaRvP
namespace Go.Rv.Try
open Go Go.Rv
instance fxNone : Fx := ⟨fun _ => False, fun _ => True, fun _ _ _ _ => trivial, fun _ _ _ h => h.elim⟩
end Go.Rv.Try
