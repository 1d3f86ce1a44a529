/-
  DERIVED. GIVEN WITH THE SEED: THE CARDS: each row of YtmmlakheimfijaaGreatDoorRows.lean that lists a variable, with what it lists TIED to the program's text (the seventh form; the later family's looks); each row that meets fmt, with fmt's text TOLD by the authors' own Lean function (tested against real Go, not proved from fmt's source: count such statements apart). THE CARD IS WHAT COUNTS. Prove the row's statement (the work); the ties are given (YtmmlakheimfijaaGreatDoorTie.lean); close each card by the builder's one call (the guide's Derived/Test/ToyasCard.lean, 'card_holds'). Laid BY PROGRAM, IN A SANDBOX (cutbox-door.mjs). By AI agents, Wed Nov 11 2026. No macro, syntax, notation, axiom, sorry.
-/
import Derived.Test.YtmmlakheimfijaaGreatDoorRows
import GoSem.ClaimSeven
namespace Go.Proofs.YtmmlakheimfijaaGreatDoor
namespace Rows

/-- THE TIED CARD OF 'porterlaw21.LangFirst'. -/
def langFirstCard : Claim7 := { stood := { row := langFirstRow, standIns := [], harness := (true, "75fbb5992ea0ce446086bbbcae45f72a8654494090626b7a0d72350c694c6ba1"), looks := false }, kinds := [], alts := [], laidByText := true, laidKinds := [.data, .data, .data], laidTests := true, laidLooks := .later }
def LangFirstCardSaid : Prop := Claim7.holds Tryz.pinned (.plain (OpenSpec.ofChange langFirstSpec)) langFirstCard

/-- THE TIED CARD OF 'porterlaw21.LangMany'. -/
def langManyCard : Claim7 := { stood := { row := langManyRow, standIns := [], harness := (true, "75fbb5992ea0ce446086bbbcae45f72a8654494090626b7a0d72350c694c6ba1"), looks := false }, kinds := [], alts := [], laidByText := true, laidKinds := [.data, .data, .data], laidTests := true, laidLooks := .later }
def LangManyCardSaid : Prop := Claim7.holds Tryz.pinned (.plain (OpenSpec.ofChange langManySpec)) langManyCard

/-- THE TIED CARD OF 'porterlaw21.LangOnly'. -/
def langOnlyCard : Claim7 := { stood := { row := langOnlyRow, standIns := [], harness := (true, "75fbb5992ea0ce446086bbbcae45f72a8654494090626b7a0d72350c694c6ba1"), looks := false }, kinds := [], alts := [], laidByText := true, laidKinds := [.data, .data, .data], laidTests := true, laidLooks := .later }
def LangOnlyCardSaid : Prop := Claim7.holds Tryz.pinned (.plain (OpenSpec.ofChange langOnlySpec)) langOnlyCard

/-- THE TIED CARD OF 'porterlaw21.LangInside'. -/
def langInsideCard : Claim7 := { stood := { row := langInsideRow, standIns := [], harness := (true, "75fbb5992ea0ce446086bbbcae45f72a8654494090626b7a0d72350c694c6ba1"), looks := false }, kinds := [], alts := [], laidByText := true, laidKinds := [.data, .data, .data], laidTests := true, laidLooks := .later }
def LangInsideCardSaid : Prop := Claim7.holds Tryz.pinned (.plain (OpenSpec.ofChange langInsideSpec)) langInsideCard

/-- THE SECOND FORM's CARD OF 'porterlaw21.LangFirst'. -/
def langFirstUptoCard : Claim7 := { stood := { row := langFirstUptoRow, standIns := [], harness := (true, "75fbb5992ea0ce446086bbbcae45f72a8654494090626b7a0d72350c694c6ba1"), looks := false }, kinds := [], alts := [], laidByText := true, laidKinds := [.data, .data, .data], laidTests := true, laidLooks := .later }
def LangFirstUptoCardSaid : Prop := Claim7.holds Tryz.pinned (.plain (OpenSpec.upto langFirstSpec)) langFirstUptoCard

/-- THE SECOND FORM's CARD OF 'porterlaw21.LangMany'. -/
def langManyUptoCard : Claim7 := { stood := { row := langManyUptoRow, standIns := [], harness := (true, "75fbb5992ea0ce446086bbbcae45f72a8654494090626b7a0d72350c694c6ba1"), looks := false }, kinds := [], alts := [], laidByText := true, laidKinds := [.data, .data, .data], laidTests := true, laidLooks := .later }
def LangManyUptoCardSaid : Prop := Claim7.holds Tryz.pinned (.plain (OpenSpec.upto langManySpec)) langManyUptoCard

/-- THE SECOND FORM's CARD OF 'porterlaw21.LangOnly'. -/
def langOnlyUptoCard : Claim7 := { stood := { row := langOnlyUptoRow, standIns := [], harness := (true, "75fbb5992ea0ce446086bbbcae45f72a8654494090626b7a0d72350c694c6ba1"), looks := false }, kinds := [], alts := [], laidByText := true, laidKinds := [.data, .data, .data], laidTests := true, laidLooks := .later }
def LangOnlyUptoCardSaid : Prop := Claim7.holds Tryz.pinned (.plain (OpenSpec.upto langOnlySpec)) langOnlyUptoCard

/-- THE SECOND FORM's CARD OF 'porterlaw21.LangInside'. -/
def langInsideUptoCard : Claim7 := { stood := { row := langInsideUptoRow, standIns := [], harness := (true, "75fbb5992ea0ce446086bbbcae45f72a8654494090626b7a0d72350c694c6ba1"), looks := false }, kinds := [], alts := [], laidByText := true, laidKinds := [.data, .data, .data], laidTests := true, laidLooks := .later }
def LangInsideUptoCardSaid : Prop := Claim7.holds Tryz.pinned (.plain (OpenSpec.upto langInsideSpec)) langInsideUptoCard
end Rows
end Go.Proofs.YtmmlakheimfijaaGreatDoor
