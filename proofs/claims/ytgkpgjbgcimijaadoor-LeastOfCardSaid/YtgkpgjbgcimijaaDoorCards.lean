/-
  DERIVED. GIVEN WITH THE SEED: THE CARDS: each row of YtgkpgjbgcimijaaDoorRows.lean that lists a variable, with what it lists TIED to the program's text (the seventh form; the later family's looks); each row that meets fmt, with fmt's text TOLD by the authors' own Lean function (tested against real Go, not proved from fmt's source: count such statements apart). THE CARD IS WHAT COUNTS. Prove the row's statement (the work); the ties are given (YtgkpgjbgcimijaaDoorTie.lean); close each card by the builder's one call (the guide's Derived/Test/ToyasCard.lean, 'card_holds'). Laid BY PROGRAM, IN A SANDBOX (cutbox-door.mjs). By AI agents, Wed Nov 11 2026. No macro, syntax, notation, axiom, sorry.
-/
import Derived.Test.YtgkpgjbgcimijaaDoorRows
import GoSem.ClaimSeven
namespace Go.Proofs.YtgkpgjbgcimijaaDoor
namespace Rows

/-- THE TIED CARD OF 'porterlaw19.LeastOf'. -/
def leastOfCard : Claim7 := { stood := { row := leastOfRow, standIns := [], harness := (true, "5b9bdac43e74c24c2188f1b615ae790549379229a69d7b1f5b317149bd7f1746"), looks := false }, kinds := [], alts := [], laidByText := true, laidKinds := [.data, .data, .data], laidTests := true, laidLooks := .later }
def LeastOfCardSaid : Prop := Claim7.holds Tryd.pinned (.plain (OpenSpec.ofChange leastOfSpec)) leastOfCard

/-- THE TIED CARD OF 'porterlaw19.LeastTakes'. -/
def leastTakesCard : Claim7 := { stood := { row := leastTakesRow, standIns := [], harness := (true, "5b9bdac43e74c24c2188f1b615ae790549379229a69d7b1f5b317149bd7f1746"), looks := false }, kinds := [], alts := [], laidByText := true, laidKinds := [.data, .data, .data], laidTests := true, laidLooks := .later }
def LeastTakesCardSaid : Prop := Claim7.holds Tryd.pinned (.plain (OpenSpec.ofChange leastTakesSpec)) leastTakesCard

/-- THE TIED CARD OF 'porterlaw19.LeastOne'. -/
def leastOneCard : Claim7 := { stood := { row := leastOneRow, standIns := [], harness := (true, "5b9bdac43e74c24c2188f1b615ae790549379229a69d7b1f5b317149bd7f1746"), looks := false }, kinds := [], alts := [], laidByText := true, laidKinds := [.data, .data, .data], laidTests := true, laidLooks := .later }
def LeastOneCardSaid : Prop := Claim7.holds Tryd.pinned (.plain (OpenSpec.ofChange leastOneSpec)) leastOneCard

/-- THE SECOND FORM's CARD OF 'porterlaw19.LeastOf'. -/
def leastOfUptoCard : Claim7 := { stood := { row := leastOfUptoRow, standIns := [], harness := (true, "5b9bdac43e74c24c2188f1b615ae790549379229a69d7b1f5b317149bd7f1746"), looks := false }, kinds := [], alts := [], laidByText := true, laidKinds := [.data, .data, .data], laidTests := true, laidLooks := .later }
def LeastOfUptoCardSaid : Prop := Claim7.holds Tryd.pinned (.plain (OpenSpec.upto leastOfSpec)) leastOfUptoCard

/-- THE SECOND FORM's CARD OF 'porterlaw19.LeastTakes'. -/
def leastTakesUptoCard : Claim7 := { stood := { row := leastTakesUptoRow, standIns := [], harness := (true, "5b9bdac43e74c24c2188f1b615ae790549379229a69d7b1f5b317149bd7f1746"), looks := false }, kinds := [], alts := [], laidByText := true, laidKinds := [.data, .data, .data], laidTests := true, laidLooks := .later }
def LeastTakesUptoCardSaid : Prop := Claim7.holds Tryd.pinned (.plain (OpenSpec.upto leastTakesSpec)) leastTakesUptoCard

/-- THE SECOND FORM's CARD OF 'porterlaw19.LeastOne'. -/
def leastOneUptoCard : Claim7 := { stood := { row := leastOneUptoRow, standIns := [], harness := (true, "5b9bdac43e74c24c2188f1b615ae790549379229a69d7b1f5b317149bd7f1746"), looks := false }, kinds := [], alts := [], laidByText := true, laidKinds := [.data, .data, .data], laidTests := true, laidLooks := .later }
def LeastOneUptoCardSaid : Prop := Claim7.holds Tryd.pinned (.plain (OpenSpec.upto leastOneSpec)) leastOneUptoCard
end Rows
end Go.Proofs.YtgkpgjbgcimijaaDoor
