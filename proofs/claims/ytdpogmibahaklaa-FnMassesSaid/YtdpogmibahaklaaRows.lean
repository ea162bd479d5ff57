/-
  No cell of these rows narrows 'for every input' (looked for: loops, veiled, ifaces, maps, wideKeys, modest, calm, conditions, laid).
  DERIVED. THE GIVEN ROWS OF THIS SEAT. 5 by the template 'for every input the law returns true; each argument reads behind the call as it read before'; 0 by the template 'total and deterministic' (their statements: YtdpogmibahaklaaTotals.lean).
  GIVEN WITH THE SEED: the statements are not yours to turn. If you find one false, say at which input.
  Laid BY PROGRAM, IN A SANDBOX (cutbox-rows.mjs): the forced cells as the released guide's own fill.sh prints them over the translation 26c01772efca7aef… (all of the seat's roots in one cut). By AI agents, Wed Nov 11 2026. No macro, syntax, notation, axiom, sorry.
-/
import Derived.Test.YtdpogmibahaklaaChecked
import GoSem.Claim
import GoSem.ClaimJoined
import GoSem.ClaimMapViews
import Derived.JoinedTies
import Derived.KernelRfl
namespace Go.Proofs.Ytdpogmibahaklaa
/- THE CELL 'sum', in the pinned program and in every row, IS THE sha256 OF THE DUMP (.gsa) THAT YtdpogmibahaklaaProg.lean LOADS. Nothing in Lean hashes anything: it is a label: what it is worth is what the hold of that sum in a sandbox is worth. -/
noncomputable def Try.pinned : Pinned := { name := "ytdpogmibahaklaa", sum := "26c01772efca7aef48351c6650402792c00120d92f43d70d07b325a569170ac8", checked := Try.checked }
namespace Rows
def none {H : Type} : Left H := { results := [], args := [] }

/-- 'laws.FnParted': WHATEVER THE INPUT: true; the input reads as it did. -/
def fnPartedSpec : ChangeSpec := { name := "fnParted", fn := fun _ => fun
  | [d1, d2] => { results := [.lit (.bool true)], args := [d1, d2] }
  | _ => none }
def fnPartedRow : OpenClaim := { program := "ytdpogmibahaklaa", sum := "26c01772efca7aef48351c6650402792c00120d92f43d70d07b325a569170ac8", func := "loop.example/g01358/laws.FnParted", spec := "fnParted", inPlace := ["math.sqrt", "math.Float64bits"], unfollowed := true, recurses := true, apart := false }
def FnPartedSaid : Prop := fnPartedRow.holds Try.pinned (OpenSpec.ofChange fnPartedSpec)

/-- ITS FALSE NEIGHBOUR: 'it returns false'. Refute it at one input. -/
def fnPartedWrong : ChangeSpec := { name := "fnParted", fn := fun _ => fun
  | [d1, d2] => { results := [.lit (.bool false)], args := [d1, d2] }
  | _ => none }
def FnPartedWrongFalsely : Prop := fnPartedRow.holds Try.pinned (OpenSpec.ofChange fnPartedWrong)

/-- 'laws.FnSeries': WHATEVER THE INPUT: true; the input reads as it did. -/
def fnSeriesSpec : ChangeSpec := { name := "fnSeries", fn := fun _ => fun
  | [d1, d2] => { results := [.lit (.bool true)], args := [d1, d2] }
  | _ => none }
def fnSeriesRow : OpenClaim := { program := "ytdpogmibahaklaa", sum := "26c01772efca7aef48351c6650402792c00120d92f43d70d07b325a569170ac8", func := "loop.example/g01358/laws.FnSeries", spec := "fnSeries", inPlace := ["math.sqrt", "math.Float32bits"], unfollowed := true, recurses := true, apart := false }
def FnSeriesSaid : Prop := fnSeriesRow.holds Try.pinned (OpenSpec.ofChange fnSeriesSpec)

/-- ITS FALSE NEIGHBOUR: 'it returns false'. Refute it at one input. -/
def fnSeriesWrong : ChangeSpec := { name := "fnSeries", fn := fun _ => fun
  | [d1, d2] => { results := [.lit (.bool false)], args := [d1, d2] }
  | _ => none }
def FnSeriesWrongFalsely : Prop := fnSeriesRow.holds Try.pinned (OpenSpec.ofChange fnSeriesWrong)

/-- 'laws.FnFamilies': WHATEVER THE INPUT: true; the input reads as it did. -/
def fnFamiliesSpec : ChangeSpec := { name := "fnFamilies", fn := fun _ => fun
  | [d1, d2] => { results := [.lit (.bool true)], args := [d1, d2] }
  | _ => none }
def fnFamiliesRow : OpenClaim := { program := "ytdpogmibahaklaa", sum := "26c01772efca7aef48351c6650402792c00120d92f43d70d07b325a569170ac8", func := "loop.example/g01358/laws.FnFamilies", spec := "fnFamilies", inPlace := ["math.Float64frombits", "math.Float64bits", "math.archTrunc"], unfollowed := true, recurses := true, apart := false }
def FnFamiliesSaid : Prop := fnFamiliesRow.holds Try.pinned (OpenSpec.ofChange fnFamiliesSpec)

/-- ITS FALSE NEIGHBOUR: 'it returns false'. Refute it at one input. -/
def fnFamiliesWrong : ChangeSpec := { name := "fnFamilies", fn := fun _ => fun
  | [d1, d2] => { results := [.lit (.bool false)], args := [d1, d2] }
  | _ => none }
def FnFamiliesWrongFalsely : Prop := fnFamiliesRow.holds Try.pinned (OpenSpec.ofChange fnFamiliesWrong)

/-- 'laws.FnMasses': WHATEVER THE INPUT: true; the input reads as it did. -/
def fnMassesSpec : ChangeSpec := { name := "fnMasses", fn := fun _ => fun
  | [d1, d2] => { results := [.lit (.bool true)], args := [d1, d2] }
  | _ => none }
def fnMassesRow : OpenClaim := { program := "ytdpogmibahaklaa", sum := "26c01772efca7aef48351c6650402792c00120d92f43d70d07b325a569170ac8", func := "loop.example/g01358/laws.FnMasses", spec := "fnMasses", inPlace := ["math.Float64frombits", "math.Float64bits", "math.archTrunc", "math.sqrt"], unfollowed := true, recurses := true, apart := false }
def FnMassesSaid : Prop := fnMassesRow.holds Try.pinned (OpenSpec.ofChange fnMassesSpec)

/-- ITS FALSE NEIGHBOUR: 'it returns false'. Refute it at one input. -/
def fnMassesWrong : ChangeSpec := { name := "fnMasses", fn := fun _ => fun
  | [d1, d2] => { results := [.lit (.bool false)], args := [d1, d2] }
  | _ => none }
def FnMassesWrongFalsely : Prop := fnMassesRow.holds Try.pinned (OpenSpec.ofChange fnMassesWrong)

/-- 'laws.FnPassing': WHATEVER THE INPUT: true; the input reads as it did. -/
def fnPassingSpec : ChangeSpec := { name := "fnPassing", fn := fun _ => fun
  | [d1, d2] => { results := [.lit (.bool true)], args := [d1, d2] }
  | _ => none }
def fnPassingRow : OpenClaim := { program := "ytdpogmibahaklaa", sum := "26c01772efca7aef48351c6650402792c00120d92f43d70d07b325a569170ac8", func := "loop.example/g01358/laws.FnPassing", spec := "fnPassing", inPlace := ["math.sqrt", "math.Float64bits"], unfollowed := true, recurses := true, apart := false }
def FnPassingSaid : Prop := fnPassingRow.holds Try.pinned (OpenSpec.ofChange fnPassingSpec)

/-- ITS FALSE NEIGHBOUR: 'it returns false'. Refute it at one input. -/
def fnPassingWrong : ChangeSpec := { name := "fnPassing", fn := fun _ => fun
  | [d1, d2] => { results := [.lit (.bool false)], args := [d1, d2] }
  | _ => none }
def FnPassingWrongFalsely : Prop := fnPassingRow.holds Try.pinned (OpenSpec.ofChange fnPassingWrong)

/- THE SECOND FORM. 'bulk': how many values and letters a reading holds, each counted each time it is reached (what is shared counts as often as it is met; a slice's spare places count too). A statement '..UptoSaid' is the law's where the arguments, and the package variables that the reading takes, are together of bulk at most 1048576: NARROWER than '..Said'. Prove '..Said' where nothing that the law and all that it calls make is longer than what came in: it says more and counts as full. Else prove '..UptoSaid'. A law counts once. -/
mutual
def uptoBulk {H : Type} : DataW H → Nat
  | .lit (.string bytes) => bytes.length + 1
  | .lit _ => 1
  | .nil => 1
  | .ptr d => uptoBulk d + 1
  | .slice elems spare => uptoBulkAll elems + uptoBulkAll spare + 1
  | .agg parts => uptoBulkAll parts + 1
  | .iface _ d => uptoBulk d + 1
  | .map entries => uptoBulkEntries entries + 1
  | .held _ => 1
def uptoBulkAll {H : Type} : List (DataW H) → Nat
  | [] => 0
  | d :: r => uptoBulk d + uptoBulkAll r
def uptoBulkEntries {H : Type} : List (Lit × DataW H) → Nat
  | [] => 0
  | x :: r => uptoBulkEntry x + uptoBulkEntries r
def uptoBulkEntry {H : Type} : Lit × DataW H → Nat
  | (.string bytes, d) => bytes.length + uptoBulk d + 1
  | (_, d) => uptoBulk d + 1
 end
def uptoSmall : (H : Type) → List (DataW H) → Bool := fun _ ds => decide (uptoBulkAll ds ≤ 1048576)
def OpenSpec.upto (s : _root_.Go.ChangeSpec) : _root_.Go.OpenSpec := { _root_.Go.OpenSpec.ofChange s with cond := some uptoSmall }

/-- 'laws.FnParted', WHERE WHAT IT READS IS OF BULK AT MOST 1048576: true; the input reads as it did. -/
def fnPartedUptoRow : OpenClaim := { program := "ytdpogmibahaklaa", sum := "26c01772efca7aef48351c6650402792c00120d92f43d70d07b325a569170ac8", func := "loop.example/g01358/laws.FnParted", spec := "fnParted", inPlace := ["math.sqrt", "math.Float64bits"], unfollowed := true, recurses := true, apart := false, narrowed := true }
def FnPartedUptoSaid : Prop := fnPartedUptoRow.holds Try.pinned (OpenSpec.upto fnPartedSpec)

/-- 'laws.FnSeries', WHERE WHAT IT READS IS OF BULK AT MOST 1048576: true; the input reads as it did. -/
def fnSeriesUptoRow : OpenClaim := { program := "ytdpogmibahaklaa", sum := "26c01772efca7aef48351c6650402792c00120d92f43d70d07b325a569170ac8", func := "loop.example/g01358/laws.FnSeries", spec := "fnSeries", inPlace := ["math.sqrt", "math.Float32bits"], unfollowed := true, recurses := true, apart := false, narrowed := true }
def FnSeriesUptoSaid : Prop := fnSeriesUptoRow.holds Try.pinned (OpenSpec.upto fnSeriesSpec)

/-- 'laws.FnFamilies', WHERE WHAT IT READS IS OF BULK AT MOST 1048576: true; the input reads as it did. -/
def fnFamiliesUptoRow : OpenClaim := { program := "ytdpogmibahaklaa", sum := "26c01772efca7aef48351c6650402792c00120d92f43d70d07b325a569170ac8", func := "loop.example/g01358/laws.FnFamilies", spec := "fnFamilies", inPlace := ["math.Float64frombits", "math.Float64bits", "math.archTrunc"], unfollowed := true, recurses := true, apart := false, narrowed := true }
def FnFamiliesUptoSaid : Prop := fnFamiliesUptoRow.holds Try.pinned (OpenSpec.upto fnFamiliesSpec)

/-- 'laws.FnMasses', WHERE WHAT IT READS IS OF BULK AT MOST 1048576: true; the input reads as it did. -/
def fnMassesUptoRow : OpenClaim := { program := "ytdpogmibahaklaa", sum := "26c01772efca7aef48351c6650402792c00120d92f43d70d07b325a569170ac8", func := "loop.example/g01358/laws.FnMasses", spec := "fnMasses", inPlace := ["math.Float64frombits", "math.Float64bits", "math.archTrunc", "math.sqrt"], unfollowed := true, recurses := true, apart := false, narrowed := true }
def FnMassesUptoSaid : Prop := fnMassesUptoRow.holds Try.pinned (OpenSpec.upto fnMassesSpec)

/-- 'laws.FnPassing', WHERE WHAT IT READS IS OF BULK AT MOST 1048576: true; the input reads as it did. -/
def fnPassingUptoRow : OpenClaim := { program := "ytdpogmibahaklaa", sum := "26c01772efca7aef48351c6650402792c00120d92f43d70d07b325a569170ac8", func := "loop.example/g01358/laws.FnPassing", spec := "fnPassing", inPlace := ["math.sqrt", "math.Float64bits"], unfollowed := true, recurses := true, apart := false, narrowed := true }
def FnPassingUptoSaid : Prop := fnPassingUptoRow.holds Try.pinned (OpenSpec.upto fnPassingSpec)

end Rows
end Go.Proofs.Ytdpogmibahaklaa
