/-
  No cell of these rows narrows 'for every input' (looked for: loops, veiled, ifaces, maps, wideKeys, modest, calm, conditions, laid).
  DERIVED. THE GIVEN ROWS OF THIS SEAT. 9 by the template 'for every input the law returns true; each argument reads behind the call as it read before'; 0 by the template 'total and deterministic' (their statements: YtikpbhfjmlfooaaTotals.lean).
  GIVEN WITH THE SEED: the statements are not yours to turn. If you find one false, say at which input.
  Laid BY PROGRAM, IN A SANDBOX (cutbox-rows.mjs): the forced cells as the released guide's own fill.sh prints them over the translation 2a57ab6d6a02a3d0… (all of the seat's roots in one cut). By AI agents, Wed Nov 11 2026. No macro, syntax, notation, axiom, sorry.
-/
import Derived.Test.YtikpbhfjmlfooaaChecked
import GoSem.Claim
import GoSem.ClaimJoined
import GoSem.ClaimMapViews
import Derived.JoinedTies
import Derived.KernelRfl
namespace Go.Proofs.Ytikpbhfjmlfooaa
/- THE CELL 'sum', in the pinned program and in every row, IS THE sha256 OF THE DUMP (.gsa) THAT YtikpbhfjmlfooaaProg.lean LOADS. Nothing in Lean hashes anything: it is a label: what it is worth is what the hold of that sum in a sandbox is worth. -/
noncomputable def Try.pinned : Pinned := { name := "ytikpbhfjmlfooaa", sum := "2a57ab6d6a02a3d0d243b833d20571d4c4fb422859f25ca89847dab7891910cf", checked := Try.checked }
namespace Rows
def none {H : Type} : Left H := { results := [], args := [] }

/-- 'porterlaw45.BucketTells': WHATEVER THE INPUT: true; the input reads as it did. -/
def bucketTellsSpec : ChangeSpec := { name := "bucketTells", fn := fun _ => fun
  | [d1, d2] => { results := [.lit (.bool true)], args := [d1, d2] }
  | _ => none }
def bucketTellsRow : OpenClaim := { program := "ytikpbhfjmlfooaa", sum := "2a57ab6d6a02a3d0d243b833d20571d4c4fb422859f25ca89847dab7891910cf", func := "porter/porterlaw45.BucketTells", spec := "bucketTells", plainKeys := false, apart := false }
def BucketTellsSaid : Prop := bucketTellsRow.holds Try.pinned (OpenSpec.ofChange bucketTellsSpec)

/-- ITS FALSE NEIGHBOUR: 'it returns false'. Refute it at one input. -/
def bucketTellsWrong : ChangeSpec := { name := "bucketTells", fn := fun _ => fun
  | [d1, d2] => { results := [.lit (.bool false)], args := [d1, d2] }
  | _ => none }
def BucketTellsWrongFalsely : Prop := bucketTellsRow.holds Try.pinned (OpenSpec.ofChange bucketTellsWrong)

/-- 'porterlaw45.BucketWindow': WHATEVER THE INPUT: true; the input reads as it did. -/
def bucketWindowSpec : ChangeSpec := { name := "bucketWindow", fn := fun _ => fun
  | [d1, d2, d3] => { results := [.lit (.bool true)], args := [d1, d2, d3] }
  | _ => none }
def bucketWindowRow : OpenClaim := { program := "ytikpbhfjmlfooaa", sum := "2a57ab6d6a02a3d0d243b833d20571d4c4fb422859f25ca89847dab7891910cf", func := "porter/porterlaw45.BucketWindow", spec := "bucketWindow", plainKeys := false, apart := false }
def BucketWindowSaid : Prop := bucketWindowRow.holds Try.pinned (OpenSpec.ofChange bucketWindowSpec)

/-- ITS FALSE NEIGHBOUR: 'it returns false'. Refute it at one input. -/
def bucketWindowWrong : ChangeSpec := { name := "bucketWindow", fn := fun _ => fun
  | [d1, d2, d3] => { results := [.lit (.bool false)], args := [d1, d2, d3] }
  | _ => none }
def BucketWindowWrongFalsely : Prop := bucketWindowRow.holds Try.pinned (OpenSpec.ofChange bucketWindowWrong)

/-- 'porterlaw01.SatParts': WHATEVER THE INPUT: true; the input reads as it did. -/
def satPartsSpec : ChangeSpec := { name := "satParts", fn := fun _ => fun
  | [d1, d2, d3] => { results := [.lit (.bool true)], args := [d1, d2, d3] }
  | _ => none }
def satPartsRow : OpenClaim := { program := "ytikpbhfjmlfooaa", sum := "2a57ab6d6a02a3d0d243b833d20571d4c4fb422859f25ca89847dab7891910cf", func := "porter/porterlaw01.SatParts", spec := "satParts", plainKeys := false, apart := false }
def SatPartsSaid : Prop := satPartsRow.holds Try.pinned (OpenSpec.ofChange satPartsSpec)

/-- ITS FALSE NEIGHBOUR: 'it returns false'. Refute it at one input. -/
def satPartsWrong : ChangeSpec := { name := "satParts", fn := fun _ => fun
  | [d1, d2, d3] => { results := [.lit (.bool false)], args := [d1, d2, d3] }
  | _ => none }
def SatPartsWrongFalsely : Prop := satPartsRow.holds Try.pinned (OpenSpec.ofChange satPartsWrong)

/-- 'porterlaw01.SatSums': WHATEVER THE INPUT: true; the input reads as it did. -/
def satSumsSpec : ChangeSpec := { name := "satSums", fn := fun _ => fun
  | [d1, d2] => { results := [.lit (.bool true)], args := [d1, d2] }
  | _ => none }
def satSumsRow : OpenClaim := { program := "ytikpbhfjmlfooaa", sum := "2a57ab6d6a02a3d0d243b833d20571d4c4fb422859f25ca89847dab7891910cf", func := "porter/porterlaw01.SatSums", spec := "satSums", plainKeys := false, apart := false }
def SatSumsSaid : Prop := satSumsRow.holds Try.pinned (OpenSpec.ofChange satSumsSpec)

/-- ITS FALSE NEIGHBOUR: 'it returns false'. Refute it at one input. -/
def satSumsWrong : ChangeSpec := { name := "satSums", fn := fun _ => fun
  | [d1, d2] => { results := [.lit (.bool false)], args := [d1, d2] }
  | _ => none }
def SatSumsWrongFalsely : Prop := satSumsRow.holds Try.pinned (OpenSpec.ofChange satSumsWrong)

/-- 'porterlaw01.SatOrder': WHATEVER THE INPUT: true; the input reads as it did. -/
def satOrderSpec : ChangeSpec := { name := "satOrder", fn := fun _ => fun
  | [d1, d2, d3] => { results := [.lit (.bool true)], args := [d1, d2, d3] }
  | _ => none }
def satOrderRow : OpenClaim := { program := "ytikpbhfjmlfooaa", sum := "2a57ab6d6a02a3d0d243b833d20571d4c4fb422859f25ca89847dab7891910cf", func := "porter/porterlaw01.SatOrder", spec := "satOrder", plainKeys := false, apart := false }
def SatOrderSaid : Prop := satOrderRow.holds Try.pinned (OpenSpec.ofChange satOrderSpec)

/-- ITS FALSE NEIGHBOUR: 'it returns false'. Refute it at one input. -/
def satOrderWrong : ChangeSpec := { name := "satOrder", fn := fun _ => fun
  | [d1, d2, d3] => { results := [.lit (.bool false)], args := [d1, d2, d3] }
  | _ => none }
def SatOrderWrongFalsely : Prop := satOrderRow.holds Try.pinned (OpenSpec.ofChange satOrderWrong)

/-- 'porterlaw01.SatBack': WHATEVER THE INPUT: true; the input reads as it did. -/
def satBackSpec : ChangeSpec := { name := "satBack", fn := fun _ => fun
  | [d1, d2] => { results := [.lit (.bool true)], args := [d1, d2] }
  | _ => none }
def satBackRow : OpenClaim := { program := "ytikpbhfjmlfooaa", sum := "2a57ab6d6a02a3d0d243b833d20571d4c4fb422859f25ca89847dab7891910cf", func := "porter/porterlaw01.SatBack", spec := "satBack", plainKeys := false, apart := false }
def SatBackSaid : Prop := satBackRow.holds Try.pinned (OpenSpec.ofChange satBackSpec)

/-- ITS FALSE NEIGHBOUR: 'it returns false'. Refute it at one input. -/
def satBackWrong : ChangeSpec := { name := "satBack", fn := fun _ => fun
  | [d1, d2] => { results := [.lit (.bool false)], args := [d1, d2] }
  | _ => none }
def SatBackWrongFalsely : Prop := satBackRow.holds Try.pinned (OpenSpec.ofChange satBackWrong)

/-- 'porterlaw46.RatePlays': WHATEVER THE INPUT: true; the input reads as it did. -/
def ratePlaysSpec : ChangeSpec := { name := "ratePlays", fn := fun _ => fun
  | [d1, d2, d3] => { results := [.lit (.bool true)], args := [d1, d2, d3] }
  | _ => none }
def ratePlaysRow : OpenClaim := { program := "ytikpbhfjmlfooaa", sum := "2a57ab6d6a02a3d0d243b833d20571d4c4fb422859f25ca89847dab7891910cf", func := "porter/porterlaw46.RatePlays", spec := "ratePlays", unfollowed := true, recurses := true, plainKeys := false, apart := false }
def RatePlaysSaid : Prop := ratePlaysRow.holds Try.pinned (OpenSpec.ofChange ratePlaysSpec)

/-- ITS FALSE NEIGHBOUR: 'it returns false'. Refute it at one input. -/
def ratePlaysWrong : ChangeSpec := { name := "ratePlays", fn := fun _ => fun
  | [d1, d2, d3] => { results := [.lit (.bool false)], args := [d1, d2, d3] }
  | _ => none }
def RatePlaysWrongFalsely : Prop := ratePlaysRow.holds Try.pinned (OpenSpec.ofChange ratePlaysWrong)

/-- 'porterlaw46.RateWindow': WHATEVER THE INPUT: true; the input reads as it did. -/
def rateWindowSpec : ChangeSpec := { name := "rateWindow", fn := fun _ => fun
  | [d1, d2, d3] => { results := [.lit (.bool true)], args := [d1, d2, d3] }
  | _ => none }
def rateWindowRow : OpenClaim := { program := "ytikpbhfjmlfooaa", sum := "2a57ab6d6a02a3d0d243b833d20571d4c4fb422859f25ca89847dab7891910cf", func := "porter/porterlaw46.RateWindow", spec := "rateWindow", unfollowed := true, recurses := true, plainKeys := false, apart := false }
def RateWindowSaid : Prop := rateWindowRow.holds Try.pinned (OpenSpec.ofChange rateWindowSpec)

/-- ITS FALSE NEIGHBOUR: 'it returns false'. Refute it at one input. -/
def rateWindowWrong : ChangeSpec := { name := "rateWindow", fn := fun _ => fun
  | [d1, d2, d3] => { results := [.lit (.bool false)], args := [d1, d2, d3] }
  | _ => none }
def RateWindowWrongFalsely : Prop := rateWindowRow.holds Try.pinned (OpenSpec.ofChange rateWindowWrong)

/-- 'porterlaw46.RateNone': WHATEVER THE INPUT: true; the input reads as it did. -/
def rateNoneSpec : ChangeSpec := { name := "rateNone", fn := fun _ => fun
  | [d1, d2, d3] => { results := [.lit (.bool true)], args := [d1, d2, d3] }
  | _ => none }
def rateNoneRow : OpenClaim := { program := "ytikpbhfjmlfooaa", sum := "2a57ab6d6a02a3d0d243b833d20571d4c4fb422859f25ca89847dab7891910cf", func := "porter/porterlaw46.RateNone", spec := "rateNone", unfollowed := true, recurses := true, plainKeys := false, apart := false }
def RateNoneSaid : Prop := rateNoneRow.holds Try.pinned (OpenSpec.ofChange rateNoneSpec)

/-- ITS FALSE NEIGHBOUR: 'it returns false'. Refute it at one input. -/
def rateNoneWrong : ChangeSpec := { name := "rateNone", fn := fun _ => fun
  | [d1, d2, d3] => { results := [.lit (.bool false)], args := [d1, d2, d3] }
  | _ => none }
def RateNoneWrongFalsely : Prop := rateNoneRow.holds Try.pinned (OpenSpec.ofChange rateNoneWrong)

/- THE SECOND FORM. 'bulk': how many values and letters a reading holds, each counted each time it is reached (what is shared counts as often as it is met; a slice's spare places count too). A statement '..UptoSaid' is the law's where the arguments, and the package variables that the reading takes, are together of bulk at most 1048576: NARROWER than '..Said'. Prove '..Said' where nothing that the law and all that it calls make is longer than what came in: it says more and counts as full. Else prove '..UptoSaid'. A law counts once. -/
mutual
def uptoBulk {H : Type} : DataW H → Nat
  | .lit (.string bytes) => bytes.length + 1
  | .lit _ => 1
  | .nil => 1
  | .ptr d => uptoBulk d + 1
  | .slice elems spare => uptoBulkAll elems + uptoBulkAll spare + 1
  | .agg parts => uptoBulkAll parts + 1
  | .iface _ d => uptoBulk d + 1
  | .map entries => uptoBulkEntries entries + 1
  | .held _ => 1
def uptoBulkAll {H : Type} : List (DataW H) → Nat
  | [] => 0
  | d :: r => uptoBulk d + uptoBulkAll r
def uptoBulkEntries {H : Type} : List (Lit × DataW H) → Nat
  | [] => 0
  | x :: r => uptoBulkEntry x + uptoBulkEntries r
def uptoBulkEntry {H : Type} : Lit × DataW H → Nat
  | (.string bytes, d) => bytes.length + uptoBulk d + 1
  | (_, d) => uptoBulk d + 1
 end
def uptoSmall : (H : Type) → List (DataW H) → Bool := fun _ ds => decide (uptoBulkAll ds ≤ 1048576)
def OpenSpec.upto (s : _root_.Go.ChangeSpec) : _root_.Go.OpenSpec := { _root_.Go.OpenSpec.ofChange s with cond := some uptoSmall }

/-- 'porterlaw45.BucketTells', WHERE WHAT IT READS IS OF BULK AT MOST 1048576: true; the input reads as it did. -/
def bucketTellsUptoRow : OpenClaim := { program := "ytikpbhfjmlfooaa", sum := "2a57ab6d6a02a3d0d243b833d20571d4c4fb422859f25ca89847dab7891910cf", func := "porter/porterlaw45.BucketTells", spec := "bucketTells", plainKeys := false, apart := false, narrowed := true }
def BucketTellsUptoSaid : Prop := bucketTellsUptoRow.holds Try.pinned (OpenSpec.upto bucketTellsSpec)

/-- 'porterlaw45.BucketWindow', WHERE WHAT IT READS IS OF BULK AT MOST 1048576: true; the input reads as it did. -/
def bucketWindowUptoRow : OpenClaim := { program := "ytikpbhfjmlfooaa", sum := "2a57ab6d6a02a3d0d243b833d20571d4c4fb422859f25ca89847dab7891910cf", func := "porter/porterlaw45.BucketWindow", spec := "bucketWindow", plainKeys := false, apart := false, narrowed := true }
def BucketWindowUptoSaid : Prop := bucketWindowUptoRow.holds Try.pinned (OpenSpec.upto bucketWindowSpec)

/-- 'porterlaw01.SatParts', WHERE WHAT IT READS IS OF BULK AT MOST 1048576: true; the input reads as it did. -/
def satPartsUptoRow : OpenClaim := { program := "ytikpbhfjmlfooaa", sum := "2a57ab6d6a02a3d0d243b833d20571d4c4fb422859f25ca89847dab7891910cf", func := "porter/porterlaw01.SatParts", spec := "satParts", plainKeys := false, apart := false, narrowed := true }
def SatPartsUptoSaid : Prop := satPartsUptoRow.holds Try.pinned (OpenSpec.upto satPartsSpec)

/-- 'porterlaw01.SatSums', WHERE WHAT IT READS IS OF BULK AT MOST 1048576: true; the input reads as it did. -/
def satSumsUptoRow : OpenClaim := { program := "ytikpbhfjmlfooaa", sum := "2a57ab6d6a02a3d0d243b833d20571d4c4fb422859f25ca89847dab7891910cf", func := "porter/porterlaw01.SatSums", spec := "satSums", plainKeys := false, apart := false, narrowed := true }
def SatSumsUptoSaid : Prop := satSumsUptoRow.holds Try.pinned (OpenSpec.upto satSumsSpec)

/-- 'porterlaw01.SatOrder', WHERE WHAT IT READS IS OF BULK AT MOST 1048576: true; the input reads as it did. -/
def satOrderUptoRow : OpenClaim := { program := "ytikpbhfjmlfooaa", sum := "2a57ab6d6a02a3d0d243b833d20571d4c4fb422859f25ca89847dab7891910cf", func := "porter/porterlaw01.SatOrder", spec := "satOrder", plainKeys := false, apart := false, narrowed := true }
def SatOrderUptoSaid : Prop := satOrderUptoRow.holds Try.pinned (OpenSpec.upto satOrderSpec)

/-- 'porterlaw01.SatBack', WHERE WHAT IT READS IS OF BULK AT MOST 1048576: true; the input reads as it did. -/
def satBackUptoRow : OpenClaim := { program := "ytikpbhfjmlfooaa", sum := "2a57ab6d6a02a3d0d243b833d20571d4c4fb422859f25ca89847dab7891910cf", func := "porter/porterlaw01.SatBack", spec := "satBack", plainKeys := false, apart := false, narrowed := true }
def SatBackUptoSaid : Prop := satBackUptoRow.holds Try.pinned (OpenSpec.upto satBackSpec)

/-- 'porterlaw46.RatePlays', WHERE WHAT IT READS IS OF BULK AT MOST 1048576: true; the input reads as it did. -/
def ratePlaysUptoRow : OpenClaim := { program := "ytikpbhfjmlfooaa", sum := "2a57ab6d6a02a3d0d243b833d20571d4c4fb422859f25ca89847dab7891910cf", func := "porter/porterlaw46.RatePlays", spec := "ratePlays", unfollowed := true, recurses := true, plainKeys := false, apart := false, narrowed := true }
def RatePlaysUptoSaid : Prop := ratePlaysUptoRow.holds Try.pinned (OpenSpec.upto ratePlaysSpec)

/-- 'porterlaw46.RateWindow', WHERE WHAT IT READS IS OF BULK AT MOST 1048576: true; the input reads as it did. -/
def rateWindowUptoRow : OpenClaim := { program := "ytikpbhfjmlfooaa", sum := "2a57ab6d6a02a3d0d243b833d20571d4c4fb422859f25ca89847dab7891910cf", func := "porter/porterlaw46.RateWindow", spec := "rateWindow", unfollowed := true, recurses := true, plainKeys := false, apart := false, narrowed := true }
def RateWindowUptoSaid : Prop := rateWindowUptoRow.holds Try.pinned (OpenSpec.upto rateWindowSpec)

/-- 'porterlaw46.RateNone', WHERE WHAT IT READS IS OF BULK AT MOST 1048576: true; the input reads as it did. -/
def rateNoneUptoRow : OpenClaim := { program := "ytikpbhfjmlfooaa", sum := "2a57ab6d6a02a3d0d243b833d20571d4c4fb422859f25ca89847dab7891910cf", func := "porter/porterlaw46.RateNone", spec := "rateNone", unfollowed := true, recurses := true, plainKeys := false, apart := false, narrowed := true }
def RateNoneUptoSaid : Prop := rateNoneUptoRow.holds Try.pinned (OpenSpec.upto rateNoneSpec)

end Rows
end Go.Proofs.Ytikpbhfjmlfooaa
