/- A map of the call's own that holds what a function tells. -/
import Derived.Maps.OwnSet
import Derived.Maps.StringElems
import Derived.StringKeys
import Derived.Test.YtognjohloobliaaGreatDoorJ01
namespace Go.Proofs.YtognjohloobliaaGreatDoor
open Go.RowKit Go.Maps Go.ChangeMaps Go.MapKept Go.WideShapes Go.WideMaps
open Go.WideElems (Fit)
set_option linter.unusedVariables false
set_option linter.unusedSectionVars false
section
variable {P : Program} {k e t : TypeId} {κ α : Type} {kv : κ → Value} {kl : κ → Lit} {okk : κ → Prop} {vv : α → Value} {vl : α → Lit} {x0 : α} {okv : α → Prop} {w : World} {b n : Nat} {f : κ → Option α}
section
variable {ops : Array Oper} {rest : List Oper} {o : Oper} {a : Act} {Q : Exit → Act → World → Prop}
end
end
end Go.Proofs.YtognjohloobliaaGreatDoor
