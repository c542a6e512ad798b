/-
  No cell of these rows narrows 'for every input' (looked for: loops, veiled, ifaces, maps, wideKeys, modest, calm, conditions, laid).
  DERIVED. THE GIVEN ROWS OF THIS SEAT. 9 by the template 'for every input the law returns true; each argument reads behind the call as it read before'; 0 by the template 'total and deterministic' (their statements: YtpgflnjpohmldaaTotals.lean).
  GIVEN WITH THE SEED: the statements are not yours to turn. If you find one false, say at which input.
  Laid BY PROGRAM, IN A SANDBOX (cutbox-rows.mjs): the forced cells as the released guide's own fill.sh prints them over the translation 73fd4bfe36bf125b… (all of the seat's roots in one cut). By AI agents, Wed Nov 11 2026. No macro, syntax, notation, axiom, sorry.
-/
import Derived.Test.YtpgflnjpohmldaaChecked
import GoSem.Claim
import GoSem.ClaimJoined
import GoSem.ClaimMapViews
import Derived.JoinedTies
import Derived.KernelRfl
namespace Go.Proofs.Ytpgflnjpohmldaa
/- THE CELL 'sum', in the pinned program and in every row, IS THE sha256 OF THE DUMP (.gsa) THAT YtpgflnjpohmldaaProg.lean LOADS. Nothing in Lean hashes anything: it is a label: what it is worth is what the hold of that sum in a sandbox is worth. -/
noncomputable def Try.pinned : Pinned := { name := "ytpgflnjpohmldaa", sum := "73fd4bfe36bf125bd3884205d2357a88a811ea1a8c5c46e8e94a5a45fa69ef26", checked := Try.checked }
namespace Rows
def none {H : Type} : Left H := { results := [], args := [] }

/-- 'annalslaw25.MeterNames': WHATEVER THE INPUT: true; the input reads as it did. -/
def meterNamesSpec : ChangeSpec := { name := "meterNames", fn := fun _ => fun
  | [] => { results := [.lit (.bool true)], args := [] }
  | _ => none }
def meterNamesRow : OpenClaim := { program := "ytpgflnjpohmldaa", sum := "73fd4bfe36bf125bd3884205d2357a88a811ea1a8c5c46e8e94a5a45fa69ef26", func := "annals/annalslaw25.MeterNames", spec := "meterNames", apart := false }
def MeterNamesSaid : Prop := meterNamesRow.holds Try.pinned (OpenSpec.ofChange meterNamesSpec)

/-- ITS FALSE NEIGHBOUR: 'it returns false'. Refute it at one input. -/
def meterNamesWrong : ChangeSpec := { name := "meterNames", fn := fun _ => fun
  | [] => { results := [.lit (.bool false)], args := [] }
  | _ => none }
def MeterNamesWrongFalsely : Prop := meterNamesRow.holds Try.pinned (OpenSpec.ofChange meterNamesWrong)

/-- 'annalslaw25.MeterRises': WHATEVER THE INPUT: true; the input reads as it did. -/
def meterRisesSpec : ChangeSpec := { name := "meterRises", fn := fun _ => fun
  | [d1, d2] => { results := [.lit (.bool true)], args := [d1, d2] }
  | _ => none }
def meterRisesRow : OpenClaim := { program := "ytpgflnjpohmldaa", sum := "73fd4bfe36bf125bd3884205d2357a88a811ea1a8c5c46e8e94a5a45fa69ef26", func := "annals/annalslaw25.MeterRises", spec := "meterRises", inPlace := ["math.Float64bits"], apart := false }
def MeterRisesSaid : Prop := meterRisesRow.holds Try.pinned (OpenSpec.ofChange meterRisesSpec)

/-- ITS FALSE NEIGHBOUR: 'it returns false'. Refute it at one input. -/
def meterRisesWrong : ChangeSpec := { name := "meterRises", fn := fun _ => fun
  | [d1, d2] => { results := [.lit (.bool false)], args := [d1, d2] }
  | _ => none }
def MeterRisesWrongFalsely : Prop := meterRisesRow.holds Try.pinned (OpenSpec.ofChange meterRisesWrong)

/-- 'annalslaw25.MeterNumbers': WHATEVER THE INPUT: true; the input reads as it did. -/
def meterNumbersSpec : ChangeSpec := { name := "meterNumbers", fn := fun _ => fun
  | [d1, d2] => { results := [.lit (.bool true)], args := [d1, d2] }
  | _ => none }
def meterNumbersRow : OpenClaim := { program := "ytpgflnjpohmldaa", sum := "73fd4bfe36bf125bd3884205d2357a88a811ea1a8c5c46e8e94a5a45fa69ef26", func := "annals/annalslaw25.MeterNumbers", spec := "meterNumbers", inPlace := ["math.Float64bits"], apart := false }
def MeterNumbersSaid : Prop := meterNumbersRow.holds Try.pinned (OpenSpec.ofChange meterNumbersSpec)

/-- ITS FALSE NEIGHBOUR: 'it returns false'. Refute it at one input. -/
def meterNumbersWrong : ChangeSpec := { name := "meterNumbers", fn := fun _ => fun
  | [d1, d2] => { results := [.lit (.bool false)], args := [d1, d2] }
  | _ => none }
def MeterNumbersWrongFalsely : Prop := meterNumbersRow.holds Try.pinned (OpenSpec.ofChange meterNumbersWrong)

/-- 'annalslaw25.MeterSums': WHATEVER THE INPUT: true; the input reads as it did. -/
def meterSumsSpec : ChangeSpec := { name := "meterSums", fn := fun _ => fun
  | [d1, d2, d3, d4] => { results := [.lit (.bool true)], args := [d1, d2, d3, d4] }
  | _ => none }
def meterSumsRow : OpenClaim := { program := "ytpgflnjpohmldaa", sum := "73fd4bfe36bf125bd3884205d2357a88a811ea1a8c5c46e8e94a5a45fa69ef26", func := "annals/annalslaw25.MeterSums", spec := "meterSums", inPlace := ["math.Float64frombits", "math.Float64bits"], apart := false }
def MeterSumsSaid : Prop := meterSumsRow.holds Try.pinned (OpenSpec.ofChange meterSumsSpec)

/-- ITS FALSE NEIGHBOUR: 'it returns false'. Refute it at one input. -/
def meterSumsWrong : ChangeSpec := { name := "meterSums", fn := fun _ => fun
  | [d1, d2, d3, d4] => { results := [.lit (.bool false)], args := [d1, d2, d3, d4] }
  | _ => none }
def MeterSumsWrongFalsely : Prop := meterSumsRow.holds Try.pinned (OpenSpec.ofChange meterSumsWrong)

/-- 'annalslaw25.MeterFloats': WHATEVER THE INPUT: true; the input reads as it did. -/
def meterFloatsSpec : ChangeSpec := { name := "meterFloats", fn := fun _ => fun
  | [d1, d2] => { results := [.lit (.bool true)], args := [d1, d2] }
  | _ => none }
def meterFloatsRow : OpenClaim := { program := "ytpgflnjpohmldaa", sum := "73fd4bfe36bf125bd3884205d2357a88a811ea1a8c5c46e8e94a5a45fa69ef26", func := "annals/annalslaw25.MeterFloats", spec := "meterFloats", inPlace := ["math.Float64frombits", "math.Float64bits"], apart := false }
def MeterFloatsSaid : Prop := meterFloatsRow.holds Try.pinned (OpenSpec.ofChange meterFloatsSpec)

/-- ITS FALSE NEIGHBOUR: 'it returns false'. Refute it at one input. -/
def meterFloatsWrong : ChangeSpec := { name := "meterFloats", fn := fun _ => fun
  | [d1, d2] => { results := [.lit (.bool false)], args := [d1, d2] }
  | _ => none }
def MeterFloatsWrongFalsely : Prop := meterFloatsRow.holds Try.pinned (OpenSpec.ofChange meterFloatsWrong)

/-- 'annalslaw25.MeterText': WHATEVER THE INPUT: true; the input reads as it did. -/
def meterTextSpec : ChangeSpec := { name := "meterText", fn := fun _ => fun
  | [d1, d2] => { results := [.lit (.bool true)], args := [d1, d2] }
  | _ => none }
def meterTextRow : OpenClaim := { program := "ytpgflnjpohmldaa", sum := "73fd4bfe36bf125bd3884205d2357a88a811ea1a8c5c46e8e94a5a45fa69ef26", func := "annals/annalslaw25.MeterText", spec := "meterText", inPlace := ["math.Float64frombits", "math.Float64bits"], apart := false }
def MeterTextSaid : Prop := meterTextRow.holds Try.pinned (OpenSpec.ofChange meterTextSpec)

/-- ITS FALSE NEIGHBOUR: 'it returns false'. Refute it at one input. -/
def meterTextWrong : ChangeSpec := { name := "meterText", fn := fun _ => fun
  | [d1, d2] => { results := [.lit (.bool false)], args := [d1, d2] }
  | _ => none }
def MeterTextWrongFalsely : Prop := meterTextRow.holds Try.pinned (OpenSpec.ofChange meterTextWrong)

/-- 'annalslaw25.MeterWholeBack': WHATEVER THE INPUT: true; the input reads as it did. -/
def meterWholeBackSpec : ChangeSpec := { name := "meterWholeBack", fn := fun _ => fun
  | [d1, d2] => { results := [.lit (.bool true)], args := [d1, d2] }
  | _ => none }
def meterWholeBackRow : OpenClaim := { program := "ytpgflnjpohmldaa", sum := "73fd4bfe36bf125bd3884205d2357a88a811ea1a8c5c46e8e94a5a45fa69ef26", func := "annals/annalslaw25.MeterWholeBack", spec := "meterWholeBack", inPlace := ["math.Float64bits", "math.Float64frombits"], apart := false }
def MeterWholeBackSaid : Prop := meterWholeBackRow.holds Try.pinned (OpenSpec.ofChange meterWholeBackSpec)

/-- ITS FALSE NEIGHBOUR: 'it returns false'. Refute it at one input. -/
def meterWholeBackWrong : ChangeSpec := { name := "meterWholeBack", fn := fun _ => fun
  | [d1, d2] => { results := [.lit (.bool false)], args := [d1, d2] }
  | _ => none }
def MeterWholeBackWrongFalsely : Prop := meterWholeBackRow.holds Try.pinned (OpenSpec.ofChange meterWholeBackWrong)

/-- 'annalslaw25.MeterRanks': WHATEVER THE INPUT: true; the input reads as it did. -/
def meterRanksSpec : ChangeSpec := { name := "meterRanks", fn := fun _ => fun
  | [d1, d2, d3] => { results := [.lit (.bool true)], args := [d1, d2, d3] }
  | _ => none }
def meterRanksRow : OpenClaim := { program := "ytpgflnjpohmldaa", sum := "73fd4bfe36bf125bd3884205d2357a88a811ea1a8c5c46e8e94a5a45fa69ef26", func := "annals/annalslaw25.MeterRanks", spec := "meterRanks", recurses := true, apart := false }
def MeterRanksSaid : Prop := meterRanksRow.holds Try.pinned (OpenSpec.ofChange meterRanksSpec)

/-- ITS FALSE NEIGHBOUR: 'it returns false'. Refute it at one input. -/
def meterRanksWrong : ChangeSpec := { name := "meterRanks", fn := fun _ => fun
  | [d1, d2, d3] => { results := [.lit (.bool false)], args := [d1, d2, d3] }
  | _ => none }
def MeterRanksWrongFalsely : Prop := meterRanksRow.holds Try.pinned (OpenSpec.ofChange meterRanksWrong)

/-- 'annalslaw25.MeterSamples': WHATEVER THE INPUT: true; the input reads as it did. -/
def meterSamplesSpec : ChangeSpec := { name := "meterSamples", fn := fun _ => fun
  | [d1, d2, d3] => { results := [.lit (.bool true)], args := [d1, d2, d3] }
  | _ => none }
def meterSamplesRow : OpenClaim := { program := "ytpgflnjpohmldaa", sum := "73fd4bfe36bf125bd3884205d2357a88a811ea1a8c5c46e8e94a5a45fa69ef26", func := "annals/annalslaw25.MeterSamples", spec := "meterSamples", inPlace := ["math.Float64bits"], unfollowed := true, recurses := true, apart := false }
def MeterSamplesSaid : Prop := meterSamplesRow.holds Try.pinned (OpenSpec.ofChange meterSamplesSpec)

/-- ITS FALSE NEIGHBOUR: 'it returns false'. Refute it at one input. -/
def meterSamplesWrong : ChangeSpec := { name := "meterSamples", fn := fun _ => fun
  | [d1, d2, d3] => { results := [.lit (.bool false)], args := [d1, d2, d3] }
  | _ => none }
def MeterSamplesWrongFalsely : Prop := meterSamplesRow.holds Try.pinned (OpenSpec.ofChange meterSamplesWrong)

/- THE SECOND FORM. 'bulk': how many values and letters a reading holds, each counted each time it is reached (what is shared counts as often as it is met; a slice's spare places count too). A statement '..UptoSaid' is the law's where the arguments, and the package variables that the reading takes, are together of bulk at most 1048576: NARROWER than '..Said'. Prove '..Said' where nothing that the law and all that it calls make is longer than what came in: it says more and counts as full. Else prove '..UptoSaid'. A law counts once. -/
mutual
def uptoBulk {H : Type} : DataW H → Nat
  | .lit (.string bytes) => bytes.length + 1
  | .lit _ => 1
  | .nil => 1
  | .ptr d => uptoBulk d + 1
  | .slice elems spare => uptoBulkAll elems + uptoBulkAll spare + 1
  | .agg parts => uptoBulkAll parts + 1
  | .iface _ d => uptoBulk d + 1
  | .map entries => uptoBulkEntries entries + 1
  | .held _ => 1
def uptoBulkAll {H : Type} : List (DataW H) → Nat
  | [] => 0
  | d :: r => uptoBulk d + uptoBulkAll r
def uptoBulkEntries {H : Type} : List (Lit × DataW H) → Nat
  | [] => 0
  | x :: r => uptoBulkEntry x + uptoBulkEntries r
def uptoBulkEntry {H : Type} : Lit × DataW H → Nat
  | (.string bytes, d) => bytes.length + uptoBulk d + 1
  | (_, d) => uptoBulk d + 1
 end
def uptoSmall : (H : Type) → List (DataW H) → Bool := fun _ ds => decide (uptoBulkAll ds ≤ 1048576)
def OpenSpec.upto (s : _root_.Go.ChangeSpec) : _root_.Go.OpenSpec := { _root_.Go.OpenSpec.ofChange s with cond := some uptoSmall }

/-- 'annalslaw25.MeterNames', WHERE WHAT IT READS IS OF BULK AT MOST 1048576: true; the input reads as it did. -/
def meterNamesUptoRow : OpenClaim := { program := "ytpgflnjpohmldaa", sum := "73fd4bfe36bf125bd3884205d2357a88a811ea1a8c5c46e8e94a5a45fa69ef26", func := "annals/annalslaw25.MeterNames", spec := "meterNames", apart := false, narrowed := true }
def MeterNamesUptoSaid : Prop := meterNamesUptoRow.holds Try.pinned (OpenSpec.upto meterNamesSpec)

/-- 'annalslaw25.MeterRises', WHERE WHAT IT READS IS OF BULK AT MOST 1048576: true; the input reads as it did. -/
def meterRisesUptoRow : OpenClaim := { program := "ytpgflnjpohmldaa", sum := "73fd4bfe36bf125bd3884205d2357a88a811ea1a8c5c46e8e94a5a45fa69ef26", func := "annals/annalslaw25.MeterRises", spec := "meterRises", inPlace := ["math.Float64bits"], apart := false, narrowed := true }
def MeterRisesUptoSaid : Prop := meterRisesUptoRow.holds Try.pinned (OpenSpec.upto meterRisesSpec)

/-- 'annalslaw25.MeterNumbers', WHERE WHAT IT READS IS OF BULK AT MOST 1048576: true; the input reads as it did. -/
def meterNumbersUptoRow : OpenClaim := { program := "ytpgflnjpohmldaa", sum := "73fd4bfe36bf125bd3884205d2357a88a811ea1a8c5c46e8e94a5a45fa69ef26", func := "annals/annalslaw25.MeterNumbers", spec := "meterNumbers", inPlace := ["math.Float64bits"], apart := false, narrowed := true }
def MeterNumbersUptoSaid : Prop := meterNumbersUptoRow.holds Try.pinned (OpenSpec.upto meterNumbersSpec)

/-- 'annalslaw25.MeterSums', WHERE WHAT IT READS IS OF BULK AT MOST 1048576: true; the input reads as it did. -/
def meterSumsUptoRow : OpenClaim := { program := "ytpgflnjpohmldaa", sum := "73fd4bfe36bf125bd3884205d2357a88a811ea1a8c5c46e8e94a5a45fa69ef26", func := "annals/annalslaw25.MeterSums", spec := "meterSums", inPlace := ["math.Float64frombits", "math.Float64bits"], apart := false, narrowed := true }
def MeterSumsUptoSaid : Prop := meterSumsUptoRow.holds Try.pinned (OpenSpec.upto meterSumsSpec)

/-- 'annalslaw25.MeterFloats', WHERE WHAT IT READS IS OF BULK AT MOST 1048576: true; the input reads as it did. -/
def meterFloatsUptoRow : OpenClaim := { program := "ytpgflnjpohmldaa", sum := "73fd4bfe36bf125bd3884205d2357a88a811ea1a8c5c46e8e94a5a45fa69ef26", func := "annals/annalslaw25.MeterFloats", spec := "meterFloats", inPlace := ["math.Float64frombits", "math.Float64bits"], apart := false, narrowed := true }
def MeterFloatsUptoSaid : Prop := meterFloatsUptoRow.holds Try.pinned (OpenSpec.upto meterFloatsSpec)

/-- 'annalslaw25.MeterText', WHERE WHAT IT READS IS OF BULK AT MOST 1048576: true; the input reads as it did. -/
def meterTextUptoRow : OpenClaim := { program := "ytpgflnjpohmldaa", sum := "73fd4bfe36bf125bd3884205d2357a88a811ea1a8c5c46e8e94a5a45fa69ef26", func := "annals/annalslaw25.MeterText", spec := "meterText", inPlace := ["math.Float64frombits", "math.Float64bits"], apart := false, narrowed := true }
def MeterTextUptoSaid : Prop := meterTextUptoRow.holds Try.pinned (OpenSpec.upto meterTextSpec)

/-- 'annalslaw25.MeterWholeBack', WHERE WHAT IT READS IS OF BULK AT MOST 1048576: true; the input reads as it did. -/
def meterWholeBackUptoRow : OpenClaim := { program := "ytpgflnjpohmldaa", sum := "73fd4bfe36bf125bd3884205d2357a88a811ea1a8c5c46e8e94a5a45fa69ef26", func := "annals/annalslaw25.MeterWholeBack", spec := "meterWholeBack", inPlace := ["math.Float64bits", "math.Float64frombits"], apart := false, narrowed := true }
def MeterWholeBackUptoSaid : Prop := meterWholeBackUptoRow.holds Try.pinned (OpenSpec.upto meterWholeBackSpec)

/-- 'annalslaw25.MeterRanks', WHERE WHAT IT READS IS OF BULK AT MOST 1048576: true; the input reads as it did. -/
def meterRanksUptoRow : OpenClaim := { program := "ytpgflnjpohmldaa", sum := "73fd4bfe36bf125bd3884205d2357a88a811ea1a8c5c46e8e94a5a45fa69ef26", func := "annals/annalslaw25.MeterRanks", spec := "meterRanks", recurses := true, apart := false, narrowed := true }
def MeterRanksUptoSaid : Prop := meterRanksUptoRow.holds Try.pinned (OpenSpec.upto meterRanksSpec)

/-- 'annalslaw25.MeterSamples', WHERE WHAT IT READS IS OF BULK AT MOST 1048576: true; the input reads as it did. -/
def meterSamplesUptoRow : OpenClaim := { program := "ytpgflnjpohmldaa", sum := "73fd4bfe36bf125bd3884205d2357a88a811ea1a8c5c46e8e94a5a45fa69ef26", func := "annals/annalslaw25.MeterSamples", spec := "meterSamples", inPlace := ["math.Float64bits"], unfollowed := true, recurses := true, apart := false, narrowed := true }
def MeterSamplesUptoSaid : Prop := meterSamplesUptoRow.holds Try.pinned (OpenSpec.upto meterSamplesSpec)

end Rows
end Go.Proofs.Ytpgflnjpohmldaa
