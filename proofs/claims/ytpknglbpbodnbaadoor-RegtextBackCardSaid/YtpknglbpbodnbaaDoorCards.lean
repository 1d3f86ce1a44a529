/-
  DERIVED. GIVEN WITH THE SEED: THE CARDS: each row of YtpknglbpbodnbaaDoorRows.lean that lists a variable, with what it lists TIED to the program's text (the seventh form; the later family's looks); each row that meets fmt, with fmt's text TOLD by the authors' own Lean function (tested against real Go, not proved from fmt's source: count such statements apart). THE CARD IS WHAT COUNTS. Prove the row's statement (the work); the ties are given (YtpknglbpbodnbaaDoorTie.lean); close each card by the builder's one call (the guide's Derived/Test/ToyasCard.lean, 'card_holds'). Laid BY PROGRAM, IN A SANDBOX (cutbox-door.mjs). By AI agents, Wed Nov 11 2026. No macro, syntax, notation, axiom, sorry.
-/
import Derived.Test.YtpknglbpbodnbaaDoorRows
import GoSem.ClaimSeven
namespace Go.Proofs.YtpknglbpbodnbaaDoor
namespace Rows

/-- THE TIED CARD OF 'porterlaw14.RegtextTells'. -/
def regtextTellsCard : Claim7 := { stood := { row := regtextTellsRow, standIns := [], harness := (true, "2cec69f0e9573e5b1377d9d5f37b127cb3b2f8f5e9202b5d5767c4eb5266ebf8"), looks := true }, kinds := [], alts := [], laidByText := true, laidKinds := [.data, .data, .data, .data], laidTests := true, laidLooks := .later }
def RegtextTellsCardSaid : Prop := Claim7.holds Tryd.pinned (.plain (OpenSpec.ofChange regtextTellsSpec)) regtextTellsCard

/-- THE TIED CARD OF 'porterlaw14.RegtextBack'. -/
def regtextBackCard : Claim7 := { stood := { row := regtextBackRow, standIns := [], harness := (true, "2cec69f0e9573e5b1377d9d5f37b127cb3b2f8f5e9202b5d5767c4eb5266ebf8"), looks := true }, kinds := [], alts := [], laidByText := true, laidKinds := [.data, .data, .data, .data], laidTests := true, laidLooks := .later }
def RegtextBackCardSaid : Prop := Claim7.holds Tryd.pinned (.plain (OpenSpec.ofChange regtextBackSpec)) regtextBackCard

/-- THE TIED CARD OF 'porterlaw14.RegtextAgain'. -/
def regtextAgainCard : Claim7 := { stood := { row := regtextAgainRow, standIns := [], harness := (true, "2cec69f0e9573e5b1377d9d5f37b127cb3b2f8f5e9202b5d5767c4eb5266ebf8"), looks := true }, kinds := [], alts := [], laidByText := true, laidKinds := [.data, .data, .data, .data], laidTests := true, laidLooks := .later }
def RegtextAgainCardSaid : Prop := Claim7.holds Tryd.pinned (.plain (OpenSpec.ofChange regtextAgainSpec)) regtextAgainCard

/-- THE SECOND FORM's CARD OF 'porterlaw14.RegtextTells'. -/
def regtextTellsUptoCard : Claim7 := { stood := { row := regtextTellsUptoRow, standIns := [], harness := (true, "2cec69f0e9573e5b1377d9d5f37b127cb3b2f8f5e9202b5d5767c4eb5266ebf8"), looks := true }, kinds := [], alts := [], laidByText := true, laidKinds := [.data, .data, .data, .data], laidTests := true, laidLooks := .later }
def RegtextTellsUptoCardSaid : Prop := Claim7.holds Tryd.pinned (.plain (OpenSpec.upto regtextTellsSpec)) regtextTellsUptoCard

/-- THE SECOND FORM's CARD OF 'porterlaw14.RegtextBack'. -/
def regtextBackUptoCard : Claim7 := { stood := { row := regtextBackUptoRow, standIns := [], harness := (true, "2cec69f0e9573e5b1377d9d5f37b127cb3b2f8f5e9202b5d5767c4eb5266ebf8"), looks := true }, kinds := [], alts := [], laidByText := true, laidKinds := [.data, .data, .data, .data], laidTests := true, laidLooks := .later }
def RegtextBackUptoCardSaid : Prop := Claim7.holds Tryd.pinned (.plain (OpenSpec.upto regtextBackSpec)) regtextBackUptoCard

/-- THE SECOND FORM's CARD OF 'porterlaw14.RegtextAgain'. -/
def regtextAgainUptoCard : Claim7 := { stood := { row := regtextAgainUptoRow, standIns := [], harness := (true, "2cec69f0e9573e5b1377d9d5f37b127cb3b2f8f5e9202b5d5767c4eb5266ebf8"), looks := true }, kinds := [], alts := [], laidByText := true, laidKinds := [.data, .data, .data, .data], laidTests := true, laidLooks := .later }
def RegtextAgainUptoCardSaid : Prop := Claim7.holds Tryd.pinned (.plain (OpenSpec.upto regtextAgainSpec)) regtextAgainUptoCard
end Rows
end Go.Proofs.YtpknglbpbodnbaaDoor
