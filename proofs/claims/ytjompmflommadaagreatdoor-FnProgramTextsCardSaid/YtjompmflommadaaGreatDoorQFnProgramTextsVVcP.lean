import Derived.Test.YtjompmflommadaaGreatDoorQFnProgramTextsVVcK
import Derived.Test.YtjompmflommadaaGreatDoorQFnProgramTextsVVcL
set_option linter.unusedSimpArgs false
set_option linter.unusedVariables false
namespace Go.Vc
open Go
variable {P : Program} {w : World} {s n : Nat} {v : Value} {xs : List Value} {t e ty : TypeId} {z z' : Value} {b b' : Nat} {d : TypeDesc}
def pf (p : Nat × Nat) : List Value := [.float .f32 p.1, .float .f32 p.2]
def pfs (l : List (Nat × Nat)) : List Value := l.flatMap pf
end Go.Vc
