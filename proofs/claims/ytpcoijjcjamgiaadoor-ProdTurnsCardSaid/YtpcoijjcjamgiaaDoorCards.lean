/-
  DERIVED. GIVEN WITH THE SEED: THE CARDS: each row of YtpcoijjcjamgiaaDoorRows.lean that lists a variable, with what it lists TIED to the program's text (the seventh form; the later family's looks); each row that meets fmt, with fmt's text TOLD by the authors' own Lean function (tested against real Go, not proved from fmt's source: count such statements apart). THE CARD IS WHAT COUNTS. Prove the row's statement (the work); the ties are given (YtpcoijjcjamgiaaDoorTie.lean); close each card by the builder's one call (the guide's Derived/Test/ToyasCard.lean, 'card_holds'). Laid BY PROGRAM, IN A SANDBOX (cutbox-door.mjs). By AI agents, Wed Nov 11 2026. No macro, syntax, notation, axiom, sorry.
-/
import Derived.Test.YtpcoijjcjamgiaaDoorRows
import GoSem.ClaimSeven
namespace Go.Proofs.YtpcoijjcjamgiaaDoor
namespace Rows

/-- THE TIED CARD OF 'porterlaw20.ProdPairs'. -/
def prodPairsCard : Claim7 := { stood := { row := prodPairsRow, standIns := [], harness := (true, "b00427901f6e8b5e92850f6d37df2e23994fa6853190579314878f96dd4a129f"), looks := false }, kinds := [], alts := [], laidByText := true, laidKinds := [.data, .data, .data], laidTests := true, laidLooks := .later }
def ProdPairsCardSaid : Prop := Claim7.holds Tryd.pinned (.plain (OpenSpec.ofChange prodPairsSpec)) prodPairsCard

/-- THE TIED CARD OF 'porterlaw20.ProdMany'. -/
def prodManyCard : Claim7 := { stood := { row := prodManyRow, standIns := [], harness := (true, "b00427901f6e8b5e92850f6d37df2e23994fa6853190579314878f96dd4a129f"), looks := false }, kinds := [], alts := [], laidByText := true, laidKinds := [.data, .data, .data], laidTests := true, laidLooks := .later }
def ProdManyCardSaid : Prop := Claim7.holds Tryd.pinned (.plain (OpenSpec.ofChange prodManySpec)) prodManyCard

/-- THE TIED CARD OF 'porterlaw20.ProdTurns'. -/
def prodTurnsCard : Claim7 := { stood := { row := prodTurnsRow, standIns := [], harness := (true, "b00427901f6e8b5e92850f6d37df2e23994fa6853190579314878f96dd4a129f"), looks := false }, kinds := [], alts := [], laidByText := true, laidKinds := [.data, .data, .data], laidTests := true, laidLooks := .later }
def ProdTurnsCardSaid : Prop := Claim7.holds Tryd.pinned (.plain (OpenSpec.ofChange prodTurnsSpec)) prodTurnsCard

/-- THE SECOND FORM's CARD OF 'porterlaw20.ProdPairs'. -/
def prodPairsUptoCard : Claim7 := { stood := { row := prodPairsUptoRow, standIns := [], harness := (true, "b00427901f6e8b5e92850f6d37df2e23994fa6853190579314878f96dd4a129f"), looks := false }, kinds := [], alts := [], laidByText := true, laidKinds := [.data, .data, .data], laidTests := true, laidLooks := .later }
def ProdPairsUptoCardSaid : Prop := Claim7.holds Tryd.pinned (.plain (OpenSpec.upto prodPairsSpec)) prodPairsUptoCard

/-- THE SECOND FORM's CARD OF 'porterlaw20.ProdMany'. -/
def prodManyUptoCard : Claim7 := { stood := { row := prodManyUptoRow, standIns := [], harness := (true, "b00427901f6e8b5e92850f6d37df2e23994fa6853190579314878f96dd4a129f"), looks := false }, kinds := [], alts := [], laidByText := true, laidKinds := [.data, .data, .data], laidTests := true, laidLooks := .later }
def ProdManyUptoCardSaid : Prop := Claim7.holds Tryd.pinned (.plain (OpenSpec.upto prodManySpec)) prodManyUptoCard

/-- THE SECOND FORM's CARD OF 'porterlaw20.ProdTurns'. -/
def prodTurnsUptoCard : Claim7 := { stood := { row := prodTurnsUptoRow, standIns := [], harness := (true, "b00427901f6e8b5e92850f6d37df2e23994fa6853190579314878f96dd4a129f"), looks := false }, kinds := [], alts := [], laidByText := true, laidKinds := [.data, .data, .data], laidTests := true, laidLooks := .later }
def ProdTurnsUptoCardSaid : Prop := Claim7.holds Tryd.pinned (.plain (OpenSpec.upto prodTurnsSpec)) prodTurnsUptoCard
end Rows
end Go.Proofs.YtpcoijjcjamgiaaDoor
