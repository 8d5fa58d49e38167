/-
  No cell of these rows narrows 'for every input' (looked for: loops, veiled, ifaces, maps, wideKeys, modest, calm, conditions, laid).
  DERIVED. THE GIVEN ROWS OF THIS SEAT. 13 by the template 'for every input the law returns true; each argument reads behind the call as it read before'; 0 by the template 'total and deterministic' (their statements: YtdlalmbnkcadfaaTotals.lean).
  GIVEN WITH THE SEED: the statements are not yours to turn. If you find one false, say at which input.
  Laid BY PROGRAM, IN A SANDBOX (cutbox-rows.mjs): the forced cells as the released guide's own fill.sh prints them over the translation 83ce44d115cdae2c… (all of the seat's roots in one cut). By AI agents, Wed Nov 11 2026. No macro, syntax, notation, axiom, sorry.
-/
import Derived.Test.YtdlalmbnkcadfaaChecked
import GoSem.Claim
import GoSem.ClaimJoined
import GoSem.ClaimMapViews
import Derived.JoinedTies
import Derived.KernelRfl
namespace Go.Proofs.Ytdlalmbnkcadfaa
/- THE CELL 'sum', in the pinned program and in every row, IS THE sha256 OF THE DUMP (.gsa) THAT YtdlalmbnkcadfaaProg.lean LOADS. Nothing in Lean hashes anything: it is a label: what it is worth is what the hold of that sum in a sandbox is worth. -/
noncomputable def Try.pinned : Pinned := { name := "ytdlalmbnkcadfaa", sum := "83ce44d115cdae2c878b222feaa33fb7e1cd07c157e2d5802a9fa4ccfbed7775", checked := Try.checked }
namespace Rows
def none {H : Type} : Left H := { results := [], args := [] }

/-- 'lodelaw19.DeviceNews': WHATEVER THE INPUT: true; the input reads as it did. -/
def deviceNewsSpec : ChangeSpec := { name := "deviceNews", fn := fun _ => fun
  | [d] => { results := [.lit (.bool true)], args := [d] }
  | _ => none }
def deviceNewsRow : OpenClaim := { program := "ytdlalmbnkcadfaa", sum := "83ce44d115cdae2c878b222feaa33fb7e1cd07c157e2d5802a9fa4ccfbed7775", func := "lode/lodelaw19.DeviceNews", spec := "deviceNews", unfollowed := true, recurses := true, plainKeys := false, apart := false }
def DeviceNewsSaid : Prop := deviceNewsRow.holds Try.pinned (OpenSpec.ofChange deviceNewsSpec)

/-- ITS FALSE NEIGHBOUR: 'it returns false'. Refute it at one input. -/
def deviceNewsWrong : ChangeSpec := { name := "deviceNews", fn := fun _ => fun
  | [d] => { results := [.lit (.bool false)], args := [d] }
  | _ => none }
def DeviceNewsWrongFalsely : Prop := deviceNewsRow.holds Try.pinned (OpenSpec.ofChange deviceNewsWrong)

/-- 'lodelaw19.DeviceFits': WHATEVER THE INPUT: true; the input reads as it did. -/
def deviceFitsSpec : ChangeSpec := { name := "deviceFits", fn := fun _ => fun
  | [d1, d2] => { results := [.lit (.bool true)], args := [d1, d2] }
  | _ => none }
def deviceFitsRow : OpenClaim := { program := "ytdlalmbnkcadfaa", sum := "83ce44d115cdae2c878b222feaa33fb7e1cd07c157e2d5802a9fa4ccfbed7775", func := "lode/lodelaw19.DeviceFits", spec := "deviceFits", unfollowed := true, recurses := true, plainKeys := false, apart := false }
def DeviceFitsSaid : Prop := deviceFitsRow.holds Try.pinned (OpenSpec.ofChange deviceFitsSpec)

/-- ITS FALSE NEIGHBOUR: 'it returns false'. Refute it at one input. -/
def deviceFitsWrong : ChangeSpec := { name := "deviceFits", fn := fun _ => fun
  | [d1, d2] => { results := [.lit (.bool false)], args := [d1, d2] }
  | _ => none }
def DeviceFitsWrongFalsely : Prop := deviceFitsRow.holds Try.pinned (OpenSpec.ofChange deviceFitsWrong)

/-- 'lodelaw19.DeviceCrashes': WHATEVER THE INPUT: true; the input reads as it did. -/
def deviceCrashesSpec : ChangeSpec := { name := "deviceCrashes", fn := fun _ => fun
  | [d1, d2] => { results := [.lit (.bool true)], args := [d1, d2] }
  | _ => none }
def deviceCrashesRow : OpenClaim := { program := "ytdlalmbnkcadfaa", sum := "83ce44d115cdae2c878b222feaa33fb7e1cd07c157e2d5802a9fa4ccfbed7775", func := "lode/lodelaw19.DeviceCrashes", spec := "deviceCrashes", unfollowed := true, recurses := true, plainKeys := false, apart := false }
def DeviceCrashesSaid : Prop := deviceCrashesRow.holds Try.pinned (OpenSpec.ofChange deviceCrashesSpec)

/-- ITS FALSE NEIGHBOUR: 'it returns false'. Refute it at one input. -/
def deviceCrashesWrong : ChangeSpec := { name := "deviceCrashes", fn := fun _ => fun
  | [d1, d2] => { results := [.lit (.bool false)], args := [d1, d2] }
  | _ => none }
def DeviceCrashesWrongFalsely : Prop := deviceCrashesRow.holds Try.pinned (OpenSpec.ofChange deviceCrashesWrong)

/-- 'lodelaw19.DevicePossible': WHATEVER THE INPUT: true; the input reads as it did. -/
def devicePossibleSpec : ChangeSpec := { name := "devicePossible", fn := fun _ => fun
  | [d1, d2] => { results := [.lit (.bool true)], args := [d1, d2] }
  | _ => none }
def devicePossibleRow : OpenClaim := { program := "ytdlalmbnkcadfaa", sum := "83ce44d115cdae2c878b222feaa33fb7e1cd07c157e2d5802a9fa4ccfbed7775", func := "lode/lodelaw19.DevicePossible", spec := "devicePossible", unfollowed := true, recurses := true, plainKeys := false, apart := false }
def DevicePossibleSaid : Prop := devicePossibleRow.holds Try.pinned (OpenSpec.ofChange devicePossibleSpec)

/-- ITS FALSE NEIGHBOUR: 'it returns false'. Refute it at one input. -/
def devicePossibleWrong : ChangeSpec := { name := "devicePossible", fn := fun _ => fun
  | [d1, d2] => { results := [.lit (.bool false)], args := [d1, d2] }
  | _ => none }
def DevicePossibleWrongFalsely : Prop := devicePossibleRow.holds Try.pinned (OpenSpec.ofChange devicePossibleWrong)

/-- 'lodelaw19.DevicePuts': WHATEVER THE INPUT: true; the input reads as it did. -/
def devicePutsSpec : ChangeSpec := { name := "devicePuts", fn := fun _ => fun
  | [d1, d2] => { results := [.lit (.bool true)], args := [d1, d2] }
  | _ => none }
def devicePutsRow : OpenClaim := { program := "ytdlalmbnkcadfaa", sum := "83ce44d115cdae2c878b222feaa33fb7e1cd07c157e2d5802a9fa4ccfbed7775", func := "lode/lodelaw19.DevicePuts", spec := "devicePuts", unfollowed := true, recurses := true, plainKeys := false, apart := false }
def DevicePutsSaid : Prop := devicePutsRow.holds Try.pinned (OpenSpec.ofChange devicePutsSpec)

/-- ITS FALSE NEIGHBOUR: 'it returns false'. Refute it at one input. -/
def devicePutsWrong : ChangeSpec := { name := "devicePuts", fn := fun _ => fun
  | [d1, d2] => { results := [.lit (.bool false)], args := [d1, d2] }
  | _ => none }
def DevicePutsWrongFalsely : Prop := devicePutsRow.holds Try.pinned (OpenSpec.ofChange devicePutsWrong)

/-- 'lodelaw19.DeviceBytes': WHATEVER THE INPUT: true; the input reads as it did. -/
def deviceBytesSpec : ChangeSpec := { name := "deviceBytes", fn := fun _ => fun
  | [d1, d2] => { results := [.lit (.bool true)], args := [d1, d2] }
  | _ => none }
def deviceBytesRow : OpenClaim := { program := "ytdlalmbnkcadfaa", sum := "83ce44d115cdae2c878b222feaa33fb7e1cd07c157e2d5802a9fa4ccfbed7775", func := "lode/lodelaw19.DeviceBytes", spec := "deviceBytes", unfollowed := true, recurses := true, plainKeys := false, apart := false }
def DeviceBytesSaid : Prop := deviceBytesRow.holds Try.pinned (OpenSpec.ofChange deviceBytesSpec)

/-- ITS FALSE NEIGHBOUR: 'it returns false'. Refute it at one input. -/
def deviceBytesWrong : ChangeSpec := { name := "deviceBytes", fn := fun _ => fun
  | [d1, d2] => { results := [.lit (.bool false)], args := [d1, d2] }
  | _ => none }
def DeviceBytesWrongFalsely : Prop := deviceBytesRow.holds Try.pinned (OpenSpec.ofChange deviceBytesWrong)

/-- 'lodelaw19.DeviceWhole': WHATEVER THE INPUT: true; the input reads as it did. -/
def deviceWholeSpec : ChangeSpec := { name := "deviceWhole", fn := fun _ => fun
  | [d] => { results := [.lit (.bool true)], args := [d] }
  | _ => none }
def deviceWholeRow : OpenClaim := { program := "ytdlalmbnkcadfaa", sum := "83ce44d115cdae2c878b222feaa33fb7e1cd07c157e2d5802a9fa4ccfbed7775", func := "lode/lodelaw19.DeviceWhole", spec := "deviceWhole", unfollowed := true, recurses := true, plainKeys := false, apart := false }
def DeviceWholeSaid : Prop := deviceWholeRow.holds Try.pinned (OpenSpec.ofChange deviceWholeSpec)

/-- ITS FALSE NEIGHBOUR: 'it returns false'. Refute it at one input. -/
def deviceWholeWrong : ChangeSpec := { name := "deviceWhole", fn := fun _ => fun
  | [d] => { results := [.lit (.bool false)], args := [d] }
  | _ => none }
def DeviceWholeWrongFalsely : Prop := deviceWholeRow.holds Try.pinned (OpenSpec.ofChange deviceWholeWrong)

/-- 'lodelaw19.DeviceCan': WHATEVER THE INPUT: true; the input reads as it did. -/
def deviceCanSpec : ChangeSpec := { name := "deviceCan", fn := fun _ => fun
  | [d1, d2, d3] => { results := [.lit (.bool true)], args := [d1, d2, d3] }
  | _ => none }
def deviceCanRow : OpenClaim := { program := "ytdlalmbnkcadfaa", sum := "83ce44d115cdae2c878b222feaa33fb7e1cd07c157e2d5802a9fa4ccfbed7775", func := "lode/lodelaw19.DeviceCan", spec := "deviceCan", unfollowed := true, recurses := true, plainKeys := false, apart := false }
def DeviceCanSaid : Prop := deviceCanRow.holds Try.pinned (OpenSpec.ofChange deviceCanSpec)

/-- ITS FALSE NEIGHBOUR: 'it returns false'. Refute it at one input. -/
def deviceCanWrong : ChangeSpec := { name := "deviceCan", fn := fun _ => fun
  | [d1, d2, d3] => { results := [.lit (.bool false)], args := [d1, d2, d3] }
  | _ => none }
def DeviceCanWrongFalsely : Prop := deviceCanRow.holds Try.pinned (OpenSpec.ofChange deviceCanWrong)

/-- 'lodelaw19.DeviceReads': WHATEVER THE INPUT: true; the input reads as it did. -/
def deviceReadsSpec : ChangeSpec := { name := "deviceReads", fn := fun _ => fun
  | [d1, d2] => { results := [.lit (.bool true)], args := [d1, d2] }
  | _ => none }
def deviceReadsRow : OpenClaim := { program := "ytdlalmbnkcadfaa", sum := "83ce44d115cdae2c878b222feaa33fb7e1cd07c157e2d5802a9fa4ccfbed7775", func := "lode/lodelaw19.DeviceReads", spec := "deviceReads", unfollowed := true, recurses := true, plainKeys := false, apart := false }
def DeviceReadsSaid : Prop := deviceReadsRow.holds Try.pinned (OpenSpec.ofChange deviceReadsSpec)

/-- ITS FALSE NEIGHBOUR: 'it returns false'. Refute it at one input. -/
def deviceReadsWrong : ChangeSpec := { name := "deviceReads", fn := fun _ => fun
  | [d1, d2] => { results := [.lit (.bool false)], args := [d1, d2] }
  | _ => none }
def DeviceReadsWrongFalsely : Prop := deviceReadsRow.holds Try.pinned (OpenSpec.ofChange deviceReadsWrong)

/-- 'lodelaw19.DeviceRuns': WHATEVER THE INPUT: true; the input reads as it did. -/
def deviceRunsSpec : ChangeSpec := { name := "deviceRuns", fn := fun _ => fun
  | [d1, d2] => { results := [.lit (.bool true)], args := [d1, d2] }
  | _ => none }
def deviceRunsRow : OpenClaim := { program := "ytdlalmbnkcadfaa", sum := "83ce44d115cdae2c878b222feaa33fb7e1cd07c157e2d5802a9fa4ccfbed7775", func := "lode/lodelaw19.DeviceRuns", spec := "deviceRuns", unfollowed := true, recurses := true, plainKeys := false, apart := false }
def DeviceRunsSaid : Prop := deviceRunsRow.holds Try.pinned (OpenSpec.ofChange deviceRunsSpec)

/-- ITS FALSE NEIGHBOUR: 'it returns false'. Refute it at one input. -/
def deviceRunsWrong : ChangeSpec := { name := "deviceRuns", fn := fun _ => fun
  | [d1, d2] => { results := [.lit (.bool false)], args := [d1, d2] }
  | _ => none }
def DeviceRunsWrongFalsely : Prop := deviceRunsRow.holds Try.pinned (OpenSpec.ofChange deviceRunsWrong)

/-- 'lodelaw19.DeviceApart': WHATEVER THE INPUT: true; the input reads as it did. -/
def deviceApartSpec : ChangeSpec := { name := "deviceApart", fn := fun _ => fun
  | [d1, d2, d3] => { results := [.lit (.bool true)], args := [d1, d2, d3] }
  | _ => none }
def deviceApartRow : OpenClaim := { program := "ytdlalmbnkcadfaa", sum := "83ce44d115cdae2c878b222feaa33fb7e1cd07c157e2d5802a9fa4ccfbed7775", func := "lode/lodelaw19.DeviceApart", spec := "deviceApart", unfollowed := true, recurses := true, plainKeys := false, apart := false }
def DeviceApartSaid : Prop := deviceApartRow.holds Try.pinned (OpenSpec.ofChange deviceApartSpec)

/-- ITS FALSE NEIGHBOUR: 'it returns false'. Refute it at one input. -/
def deviceApartWrong : ChangeSpec := { name := "deviceApart", fn := fun _ => fun
  | [d1, d2, d3] => { results := [.lit (.bool false)], args := [d1, d2, d3] }
  | _ => none }
def DeviceApartWrongFalsely : Prop := deviceApartRow.holds Try.pinned (OpenSpec.ofChange deviceApartWrong)

/-- 'lodelaw19.DeviceDiffers': WHATEVER THE INPUT: true; the input reads as it did. -/
def deviceDiffersSpec : ChangeSpec := { name := "deviceDiffers", fn := fun _ => fun
  | [d1, d2] => { results := [.lit (.bool true)], args := [d1, d2] }
  | _ => none }
def deviceDiffersRow : OpenClaim := { program := "ytdlalmbnkcadfaa", sum := "83ce44d115cdae2c878b222feaa33fb7e1cd07c157e2d5802a9fa4ccfbed7775", func := "lode/lodelaw19.DeviceDiffers", spec := "deviceDiffers", unfollowed := true, recurses := true, plainKeys := false, apart := false }
def DeviceDiffersSaid : Prop := deviceDiffersRow.holds Try.pinned (OpenSpec.ofChange deviceDiffersSpec)

/-- ITS FALSE NEIGHBOUR: 'it returns false'. Refute it at one input. -/
def deviceDiffersWrong : ChangeSpec := { name := "deviceDiffers", fn := fun _ => fun
  | [d1, d2] => { results := [.lit (.bool false)], args := [d1, d2] }
  | _ => none }
def DeviceDiffersWrongFalsely : Prop := deviceDiffersRow.holds Try.pinned (OpenSpec.ofChange deviceDiffersWrong)

/-- 'lodelaw19.DeviceSees': WHATEVER THE INPUT: true; the input reads as it did. -/
def deviceSeesSpec : ChangeSpec := { name := "deviceSees", fn := fun _ => fun
  | [d1, d2, d3] => { results := [.lit (.bool true)], args := [d1, d2, d3] }
  | _ => none }
def deviceSeesRow : OpenClaim := { program := "ytdlalmbnkcadfaa", sum := "83ce44d115cdae2c878b222feaa33fb7e1cd07c157e2d5802a9fa4ccfbed7775", func := "lode/lodelaw19.DeviceSees", spec := "deviceSees", unfollowed := true, recurses := true, plainKeys := false, apart := false }
def DeviceSeesSaid : Prop := deviceSeesRow.holds Try.pinned (OpenSpec.ofChange deviceSeesSpec)

/-- ITS FALSE NEIGHBOUR: 'it returns false'. Refute it at one input. -/
def deviceSeesWrong : ChangeSpec := { name := "deviceSees", fn := fun _ => fun
  | [d1, d2, d3] => { results := [.lit (.bool false)], args := [d1, d2, d3] }
  | _ => none }
def DeviceSeesWrongFalsely : Prop := deviceSeesRow.holds Try.pinned (OpenSpec.ofChange deviceSeesWrong)

/- THE SECOND FORM. 'bulk': how many values and letters a reading holds, each counted each time it is reached (what is shared counts as often as it is met; a slice's spare places count too). A statement '..UptoSaid' is the law's where the arguments, and the package variables that the reading takes, are together of bulk at most 1048576: NARROWER than '..Said'. Prove '..Said' where nothing that the law and all that it calls make is longer than what came in: it says more and counts as full. Else prove '..UptoSaid'. A law counts once. -/
mutual
def uptoBulk {H : Type} : DataW H → Nat
  | .lit (.string bytes) => bytes.length + 1
  | .lit _ => 1
  | .nil => 1
  | .ptr d => uptoBulk d + 1
  | .slice elems spare => uptoBulkAll elems + uptoBulkAll spare + 1
  | .agg parts => uptoBulkAll parts + 1
  | .iface _ d => uptoBulk d + 1
  | .map entries => uptoBulkEntries entries + 1
  | .held _ => 1
def uptoBulkAll {H : Type} : List (DataW H) → Nat
  | [] => 0
  | d :: r => uptoBulk d + uptoBulkAll r
def uptoBulkEntries {H : Type} : List (Lit × DataW H) → Nat
  | [] => 0
  | x :: r => uptoBulkEntry x + uptoBulkEntries r
def uptoBulkEntry {H : Type} : Lit × DataW H → Nat
  | (.string bytes, d) => bytes.length + uptoBulk d + 1
  | (_, d) => uptoBulk d + 1
 end
def uptoSmall : (H : Type) → List (DataW H) → Bool := fun _ ds => decide (uptoBulkAll ds ≤ 1048576)
def OpenSpec.upto (s : _root_.Go.ChangeSpec) : _root_.Go.OpenSpec := { _root_.Go.OpenSpec.ofChange s with cond := some uptoSmall }

/-- 'lodelaw19.DeviceNews', WHERE WHAT IT READS IS OF BULK AT MOST 1048576: true; the input reads as it did. -/
def deviceNewsUptoRow : OpenClaim := { program := "ytdlalmbnkcadfaa", sum := "83ce44d115cdae2c878b222feaa33fb7e1cd07c157e2d5802a9fa4ccfbed7775", func := "lode/lodelaw19.DeviceNews", spec := "deviceNews", unfollowed := true, recurses := true, plainKeys := false, apart := false, narrowed := true }
def DeviceNewsUptoSaid : Prop := deviceNewsUptoRow.holds Try.pinned (OpenSpec.upto deviceNewsSpec)

/-- 'lodelaw19.DeviceFits', WHERE WHAT IT READS IS OF BULK AT MOST 1048576: true; the input reads as it did. -/
def deviceFitsUptoRow : OpenClaim := { program := "ytdlalmbnkcadfaa", sum := "83ce44d115cdae2c878b222feaa33fb7e1cd07c157e2d5802a9fa4ccfbed7775", func := "lode/lodelaw19.DeviceFits", spec := "deviceFits", unfollowed := true, recurses := true, plainKeys := false, apart := false, narrowed := true }
def DeviceFitsUptoSaid : Prop := deviceFitsUptoRow.holds Try.pinned (OpenSpec.upto deviceFitsSpec)

/-- 'lodelaw19.DeviceCrashes', WHERE WHAT IT READS IS OF BULK AT MOST 1048576: true; the input reads as it did. -/
def deviceCrashesUptoRow : OpenClaim := { program := "ytdlalmbnkcadfaa", sum := "83ce44d115cdae2c878b222feaa33fb7e1cd07c157e2d5802a9fa4ccfbed7775", func := "lode/lodelaw19.DeviceCrashes", spec := "deviceCrashes", unfollowed := true, recurses := true, plainKeys := false, apart := false, narrowed := true }
def DeviceCrashesUptoSaid : Prop := deviceCrashesUptoRow.holds Try.pinned (OpenSpec.upto deviceCrashesSpec)

/-- 'lodelaw19.DevicePossible', WHERE WHAT IT READS IS OF BULK AT MOST 1048576: true; the input reads as it did. -/
def devicePossibleUptoRow : OpenClaim := { program := "ytdlalmbnkcadfaa", sum := "83ce44d115cdae2c878b222feaa33fb7e1cd07c157e2d5802a9fa4ccfbed7775", func := "lode/lodelaw19.DevicePossible", spec := "devicePossible", unfollowed := true, recurses := true, plainKeys := false, apart := false, narrowed := true }
def DevicePossibleUptoSaid : Prop := devicePossibleUptoRow.holds Try.pinned (OpenSpec.upto devicePossibleSpec)

/-- 'lodelaw19.DevicePuts', WHERE WHAT IT READS IS OF BULK AT MOST 1048576: true; the input reads as it did. -/
def devicePutsUptoRow : OpenClaim := { program := "ytdlalmbnkcadfaa", sum := "83ce44d115cdae2c878b222feaa33fb7e1cd07c157e2d5802a9fa4ccfbed7775", func := "lode/lodelaw19.DevicePuts", spec := "devicePuts", unfollowed := true, recurses := true, plainKeys := false, apart := false, narrowed := true }
def DevicePutsUptoSaid : Prop := devicePutsUptoRow.holds Try.pinned (OpenSpec.upto devicePutsSpec)

/-- 'lodelaw19.DeviceBytes', WHERE WHAT IT READS IS OF BULK AT MOST 1048576: true; the input reads as it did. -/
def deviceBytesUptoRow : OpenClaim := { program := "ytdlalmbnkcadfaa", sum := "83ce44d115cdae2c878b222feaa33fb7e1cd07c157e2d5802a9fa4ccfbed7775", func := "lode/lodelaw19.DeviceBytes", spec := "deviceBytes", unfollowed := true, recurses := true, plainKeys := false, apart := false, narrowed := true }
def DeviceBytesUptoSaid : Prop := deviceBytesUptoRow.holds Try.pinned (OpenSpec.upto deviceBytesSpec)

/-- 'lodelaw19.DeviceWhole', WHERE WHAT IT READS IS OF BULK AT MOST 1048576: true; the input reads as it did. -/
def deviceWholeUptoRow : OpenClaim := { program := "ytdlalmbnkcadfaa", sum := "83ce44d115cdae2c878b222feaa33fb7e1cd07c157e2d5802a9fa4ccfbed7775", func := "lode/lodelaw19.DeviceWhole", spec := "deviceWhole", unfollowed := true, recurses := true, plainKeys := false, apart := false, narrowed := true }
def DeviceWholeUptoSaid : Prop := deviceWholeUptoRow.holds Try.pinned (OpenSpec.upto deviceWholeSpec)

/-- 'lodelaw19.DeviceCan', WHERE WHAT IT READS IS OF BULK AT MOST 1048576: true; the input reads as it did. -/
def deviceCanUptoRow : OpenClaim := { program := "ytdlalmbnkcadfaa", sum := "83ce44d115cdae2c878b222feaa33fb7e1cd07c157e2d5802a9fa4ccfbed7775", func := "lode/lodelaw19.DeviceCan", spec := "deviceCan", unfollowed := true, recurses := true, plainKeys := false, apart := false, narrowed := true }
def DeviceCanUptoSaid : Prop := deviceCanUptoRow.holds Try.pinned (OpenSpec.upto deviceCanSpec)

/-- 'lodelaw19.DeviceReads', WHERE WHAT IT READS IS OF BULK AT MOST 1048576: true; the input reads as it did. -/
def deviceReadsUptoRow : OpenClaim := { program := "ytdlalmbnkcadfaa", sum := "83ce44d115cdae2c878b222feaa33fb7e1cd07c157e2d5802a9fa4ccfbed7775", func := "lode/lodelaw19.DeviceReads", spec := "deviceReads", unfollowed := true, recurses := true, plainKeys := false, apart := false, narrowed := true }
def DeviceReadsUptoSaid : Prop := deviceReadsUptoRow.holds Try.pinned (OpenSpec.upto deviceReadsSpec)

/-- 'lodelaw19.DeviceRuns', WHERE WHAT IT READS IS OF BULK AT MOST 1048576: true; the input reads as it did. -/
def deviceRunsUptoRow : OpenClaim := { program := "ytdlalmbnkcadfaa", sum := "83ce44d115cdae2c878b222feaa33fb7e1cd07c157e2d5802a9fa4ccfbed7775", func := "lode/lodelaw19.DeviceRuns", spec := "deviceRuns", unfollowed := true, recurses := true, plainKeys := false, apart := false, narrowed := true }
def DeviceRunsUptoSaid : Prop := deviceRunsUptoRow.holds Try.pinned (OpenSpec.upto deviceRunsSpec)

/-- 'lodelaw19.DeviceApart', WHERE WHAT IT READS IS OF BULK AT MOST 1048576: true; the input reads as it did. -/
def deviceApartUptoRow : OpenClaim := { program := "ytdlalmbnkcadfaa", sum := "83ce44d115cdae2c878b222feaa33fb7e1cd07c157e2d5802a9fa4ccfbed7775", func := "lode/lodelaw19.DeviceApart", spec := "deviceApart", unfollowed := true, recurses := true, plainKeys := false, apart := false, narrowed := true }
def DeviceApartUptoSaid : Prop := deviceApartUptoRow.holds Try.pinned (OpenSpec.upto deviceApartSpec)

/-- 'lodelaw19.DeviceDiffers', WHERE WHAT IT READS IS OF BULK AT MOST 1048576: true; the input reads as it did. -/
def deviceDiffersUptoRow : OpenClaim := { program := "ytdlalmbnkcadfaa", sum := "83ce44d115cdae2c878b222feaa33fb7e1cd07c157e2d5802a9fa4ccfbed7775", func := "lode/lodelaw19.DeviceDiffers", spec := "deviceDiffers", unfollowed := true, recurses := true, plainKeys := false, apart := false, narrowed := true }
def DeviceDiffersUptoSaid : Prop := deviceDiffersUptoRow.holds Try.pinned (OpenSpec.upto deviceDiffersSpec)

/-- 'lodelaw19.DeviceSees', WHERE WHAT IT READS IS OF BULK AT MOST 1048576: true; the input reads as it did. -/
def deviceSeesUptoRow : OpenClaim := { program := "ytdlalmbnkcadfaa", sum := "83ce44d115cdae2c878b222feaa33fb7e1cd07c157e2d5802a9fa4ccfbed7775", func := "lode/lodelaw19.DeviceSees", spec := "deviceSees", unfollowed := true, recurses := true, plainKeys := false, apart := false, narrowed := true }
def DeviceSeesUptoSaid : Prop := deviceSeesUptoRow.holds Try.pinned (OpenSpec.upto deviceSeesSpec)

end Rows
end Go.Proofs.Ytdlalmbnkcadfaa
