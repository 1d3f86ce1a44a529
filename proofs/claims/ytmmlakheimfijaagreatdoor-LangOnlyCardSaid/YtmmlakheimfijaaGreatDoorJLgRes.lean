/-
  What First and Finite answer: plain words. Conditions: none.
-/
import Derived.Test.YtmmlakheimfijaaGreatDoorJLgStr
namespace Go.Proofs.YtmmlakheimfijaaGreatDoor

noncomputable def firstRes (D : DfaI) : OT := if rightD D = true then firstD D else none
noncomputable def firstV (D : DfaI) : Value := .tuple #[.string (bsT ((firstRes D).getD [])), .bool (firstRes D).isSome]
def finiteD (D : DfaI) : Bool := !rightD D || refFin D.aut
end Go.Proofs.YtmmlakheimfijaaGreatDoor
