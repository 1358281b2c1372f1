/- Games, as the calculus sees them. -/
import Derived.Test.YtgminhedbeblpaaTab
import Derived.Test.YtgminhedbeblpaaAls
set_option linter.unusedVariables false
set_option linter.unusedSimpArgs false
namespace Go.Proofs.Ytgminhedbeblpaa.Cal
open Go

structure Gm where
  own : List Int
  pri : List Int
  nxt : List (List Int)
def gmA (g : Gm) : AV := .agg (.cons (.roI g.own) (.cons (.roI g.pri) (.cons (.roII g.nxt) .nil)))

theorem noSp : SpOK Try.prog (fun _ => none) := fun f S h => by cases h

end Go.Proofs.Ytgminhedbeblpaa.Cal
