/-
  No cell of these rows narrows 'for every input' (looked for: loops, veiled, ifaces, maps, wideKeys, modest, calm, conditions, laid).
  DERIVED. THE GIVEN ROWS OF THIS SEAT. 6 by the template 'for every input the law returns true; each argument reads behind the call as it read before'; 0 by the template 'total and deterministic' (their statements: YtghgegghlefclaaTotals.lean).
  GIVEN WITH THE SEED: the statements are not yours to turn. If you find one false, say at which input.
  Laid BY PROGRAM, IN A SANDBOX (cutbox-rows.mjs): the forced cells as the released guide's own fill.sh prints them over the translation 2b27404324e9ec5a… (all of the seat's roots in one cut). By AI agents, Wed Nov 11 2026. No macro, syntax, notation, axiom, sorry.
-/
import Derived.Test.YtghgegghlefclaaChecked
import GoSem.Claim
import GoSem.ClaimJoined
import GoSem.ClaimMapViews
import Derived.JoinedTies
import Derived.KernelRfl
namespace Go.Proofs.Ytghgegghlefclaa
/- THE CELL 'sum', in the pinned program and in every row, IS THE sha256 OF THE DUMP (.gsa) THAT YtghgegghlefclaaProg.lean LOADS. Nothing in Lean hashes anything: it is a label: what it is worth is what the hold of that sum in a sandbox is worth. -/
noncomputable def Try.pinned : Pinned := { name := "ytghgegghlefclaa", sum := "2b27404324e9ec5aeba72dc9d067ffedff47e7691a4985108549ad4a85dc60ce", checked := Try.checked }
namespace Rows
def none {H : Type} : Left H := { results := [], args := [] }

/-- 'interlacelaw42.DeviceOrderDoesNotMatter': WHATEVER THE INPUT: true; the input reads as it did. -/
def deviceOrderDoesNotMatterSpec : ChangeSpec := { name := "deviceOrderDoesNotMatter", fn := fun _ => fun
  | [d1, d2] => { results := [.lit (.bool true)], args := [d1, d2] }
  | _ => none }
def deviceOrderDoesNotMatterRow : OpenClaim := { program := "ytghgegghlefclaa", sum := "2b27404324e9ec5aeba72dc9d067ffedff47e7691a4985108549ad4a85dc60ce", func := "interlace/interlacelaw42.DeviceOrderDoesNotMatter", spec := "deviceOrderDoesNotMatter", inPlace := ["slices.overlaps[interlace/api.Rule]", "slices.overlaps[int]"], unfollowed := true, recurses := true, apart := false }
def DeviceOrderDoesNotMatterSaid : Prop := deviceOrderDoesNotMatterRow.holds Try.pinned (OpenSpec.ofChange deviceOrderDoesNotMatterSpec)

/-- ITS FALSE NEIGHBOUR: 'it returns false'. Refute it at one input. -/
def deviceOrderDoesNotMatterWrong : ChangeSpec := { name := "deviceOrderDoesNotMatter", fn := fun _ => fun
  | [d1, d2] => { results := [.lit (.bool false)], args := [d1, d2] }
  | _ => none }
def DeviceOrderDoesNotMatterWrongFalsely : Prop := deviceOrderDoesNotMatterRow.holds Try.pinned (OpenSpec.ofChange deviceOrderDoesNotMatterWrong)

/-- 'interlacelaw42.DeviceActsAsSpecified': WHATEVER THE INPUT: true; the input reads as it did. -/
def deviceActsAsSpecifiedSpec : ChangeSpec := { name := "deviceActsAsSpecified", fn := fun _ => fun
  | [d1, d2, d3, d4] => { results := [.lit (.bool true)], args := [d1, d2, d3, d4] }
  | _ => none }
def deviceActsAsSpecifiedRow : OpenClaim := { program := "ytghgegghlefclaa", sum := "2b27404324e9ec5aeba72dc9d067ffedff47e7691a4985108549ad4a85dc60ce", func := "interlace/interlacelaw42.DeviceActsAsSpecified", spec := "deviceActsAsSpecified", inPlace := ["slices.overlaps[interlace/api.Rule]", "slices.overlaps[int]"], unfollowed := true, recurses := true, apart := false }
def DeviceActsAsSpecifiedSaid : Prop := deviceActsAsSpecifiedRow.holds Try.pinned (OpenSpec.ofChange deviceActsAsSpecifiedSpec)

/-- ITS FALSE NEIGHBOUR: 'it returns false'. Refute it at one input. -/
def deviceActsAsSpecifiedWrong : ChangeSpec := { name := "deviceActsAsSpecified", fn := fun _ => fun
  | [d1, d2, d3, d4] => { results := [.lit (.bool false)], args := [d1, d2, d3, d4] }
  | _ => none }
def DeviceActsAsSpecifiedWrongFalsely : Prop := deviceActsAsSpecifiedRow.holds Try.pinned (OpenSpec.ofChange deviceActsAsSpecifiedWrong)

/-- 'interlacelaw42.DevicePutsAsSpecified': WHATEVER THE INPUT: true; the input reads as it did. -/
def devicePutsAsSpecifiedSpec : ChangeSpec := { name := "devicePutsAsSpecified", fn := fun _ => fun
  | [d1, d2, d3, d4] => { results := [.lit (.bool true)], args := [d1, d2, d3, d4] }
  | _ => none }
def devicePutsAsSpecifiedRow : OpenClaim := { program := "ytghgegghlefclaa", sum := "2b27404324e9ec5aeba72dc9d067ffedff47e7691a4985108549ad4a85dc60ce", func := "interlace/interlacelaw42.DevicePutsAsSpecified", spec := "devicePutsAsSpecified", inPlace := ["slices.overlaps[interlace/api.Rule]", "slices.overlaps[int]"], unfollowed := true, recurses := true, apart := false }
def DevicePutsAsSpecifiedSaid : Prop := devicePutsAsSpecifiedRow.holds Try.pinned (OpenSpec.ofChange devicePutsAsSpecifiedSpec)

/-- ITS FALSE NEIGHBOUR: 'it returns false'. Refute it at one input. -/
def devicePutsAsSpecifiedWrong : ChangeSpec := { name := "devicePutsAsSpecified", fn := fun _ => fun
  | [d1, d2, d3, d4] => { results := [.lit (.bool false)], args := [d1, d2, d3, d4] }
  | _ => none }
def DevicePutsAsSpecifiedWrongFalsely : Prop := devicePutsAsSpecifiedRow.holds Try.pinned (OpenSpec.ofChange devicePutsAsSpecifiedWrong)

/-- 'interlacelaw42.DeviceBarriersWait': WHATEVER THE INPUT: true; the input reads as it did. -/
def deviceBarriersWaitSpec : ChangeSpec := { name := "deviceBarriersWait", fn := fun _ => fun
  | [d1, d2] => { results := [.lit (.bool true)], args := [d1, d2] }
  | _ => none }
def deviceBarriersWaitRow : OpenClaim := { program := "ytghgegghlefclaa", sum := "2b27404324e9ec5aeba72dc9d067ffedff47e7691a4985108549ad4a85dc60ce", func := "interlace/interlacelaw42.DeviceBarriersWait", spec := "deviceBarriersWait", inPlace := ["slices.overlaps[interlace/api.Rule]", "slices.overlaps[int]"], unfollowed := true, recurses := true, apart := false }
def DeviceBarriersWaitSaid : Prop := deviceBarriersWaitRow.holds Try.pinned (OpenSpec.ofChange deviceBarriersWaitSpec)

/-- ITS FALSE NEIGHBOUR: 'it returns false'. Refute it at one input. -/
def deviceBarriersWaitWrong : ChangeSpec := { name := "deviceBarriersWait", fn := fun _ => fun
  | [d1, d2] => { results := [.lit (.bool false)], args := [d1, d2] }
  | _ => none }
def DeviceBarriersWaitWrongFalsely : Prop := deviceBarriersWaitRow.holds Try.pinned (OpenSpec.ofChange deviceBarriersWaitWrong)

/-- 'interlacelaw42.DeviceStaysRight': WHATEVER THE INPUT: true; the input reads as it did. -/
def deviceStaysRightSpec : ChangeSpec := { name := "deviceStaysRight", fn := fun _ => fun
  | [d1, d2, d3, d4] => { results := [.lit (.bool true)], args := [d1, d2, d3, d4] }
  | _ => none }
def deviceStaysRightRow : OpenClaim := { program := "ytghgegghlefclaa", sum := "2b27404324e9ec5aeba72dc9d067ffedff47e7691a4985108549ad4a85dc60ce", func := "interlace/interlacelaw42.DeviceStaysRight", spec := "deviceStaysRight", inPlace := ["slices.overlaps[interlace/api.Rule]", "slices.overlaps[int]"], unfollowed := true, recurses := true, apart := false }
def DeviceStaysRightSaid : Prop := deviceStaysRightRow.holds Try.pinned (OpenSpec.ofChange deviceStaysRightSpec)

/-- ITS FALSE NEIGHBOUR: 'it returns false'. Refute it at one input. -/
def deviceStaysRightWrong : ChangeSpec := { name := "deviceStaysRight", fn := fun _ => fun
  | [d1, d2, d3, d4] => { results := [.lit (.bool false)], args := [d1, d2, d3, d4] }
  | _ => none }
def DeviceStaysRightWrongFalsely : Prop := deviceStaysRightRow.holds Try.pinned (OpenSpec.ofChange deviceStaysRightWrong)

/-- 'interlacelaw42.DeviceRepeats': WHATEVER THE INPUT: true; the input reads as it did. -/
def deviceRepeatsSpec : ChangeSpec := { name := "deviceRepeats", fn := fun _ => fun
  | [d1, d2] => { results := [.lit (.bool true)], args := [d1, d2] }
  | _ => none }
def deviceRepeatsRow : OpenClaim := { program := "ytghgegghlefclaa", sum := "2b27404324e9ec5aeba72dc9d067ffedff47e7691a4985108549ad4a85dc60ce", func := "interlace/interlacelaw42.DeviceRepeats", spec := "deviceRepeats", inPlace := ["slices.overlaps[interlace/api.Rule]", "slices.overlaps[int]"], unfollowed := true, recurses := true, apart := false }
def DeviceRepeatsSaid : Prop := deviceRepeatsRow.holds Try.pinned (OpenSpec.ofChange deviceRepeatsSpec)

/-- ITS FALSE NEIGHBOUR: 'it returns false'. Refute it at one input. -/
def deviceRepeatsWrong : ChangeSpec := { name := "deviceRepeats", fn := fun _ => fun
  | [d1, d2] => { results := [.lit (.bool false)], args := [d1, d2] }
  | _ => none }
def DeviceRepeatsWrongFalsely : Prop := deviceRepeatsRow.holds Try.pinned (OpenSpec.ofChange deviceRepeatsWrong)

/- THE SECOND FORM. 'bulk': how many values and letters a reading holds, each counted each time it is reached (what is shared counts as often as it is met; a slice's spare places count too). A statement '..UptoSaid' is the law's where the arguments, and the package variables that the reading takes, are together of bulk at most 1048576: NARROWER than '..Said'. Prove '..Said' where nothing that the law and all that it calls make is longer than what came in: it says more and counts as full. Else prove '..UptoSaid'. A law counts once. -/
mutual
def uptoBulk {H : Type} : DataW H → Nat
  | .lit (.string bytes) => bytes.length + 1
  | .lit _ => 1
  | .nil => 1
  | .ptr d => uptoBulk d + 1
  | .slice elems spare => uptoBulkAll elems + uptoBulkAll spare + 1
  | .agg parts => uptoBulkAll parts + 1
  | .iface _ d => uptoBulk d + 1
  | .map entries => uptoBulkEntries entries + 1
  | .held _ => 1
def uptoBulkAll {H : Type} : List (DataW H) → Nat
  | [] => 0
  | d :: r => uptoBulk d + uptoBulkAll r
def uptoBulkEntries {H : Type} : List (Lit × DataW H) → Nat
  | [] => 0
  | x :: r => uptoBulkEntry x + uptoBulkEntries r
def uptoBulkEntry {H : Type} : Lit × DataW H → Nat
  | (.string bytes, d) => bytes.length + uptoBulk d + 1
  | (_, d) => uptoBulk d + 1
 end
def uptoSmall : (H : Type) → List (DataW H) → Bool := fun _ ds => decide (uptoBulkAll ds ≤ 1048576)
def OpenSpec.upto (s : _root_.Go.ChangeSpec) : _root_.Go.OpenSpec := { _root_.Go.OpenSpec.ofChange s with cond := some uptoSmall }

/-- 'interlacelaw42.DeviceOrderDoesNotMatter', WHERE WHAT IT READS IS OF BULK AT MOST 1048576: true; the input reads as it did. -/
def deviceOrderDoesNotMatterUptoRow : OpenClaim := { program := "ytghgegghlefclaa", sum := "2b27404324e9ec5aeba72dc9d067ffedff47e7691a4985108549ad4a85dc60ce", func := "interlace/interlacelaw42.DeviceOrderDoesNotMatter", spec := "deviceOrderDoesNotMatter", inPlace := ["slices.overlaps[interlace/api.Rule]", "slices.overlaps[int]"], unfollowed := true, recurses := true, apart := false, narrowed := true }
def DeviceOrderDoesNotMatterUptoSaid : Prop := deviceOrderDoesNotMatterUptoRow.holds Try.pinned (OpenSpec.upto deviceOrderDoesNotMatterSpec)

/-- 'interlacelaw42.DeviceActsAsSpecified', WHERE WHAT IT READS IS OF BULK AT MOST 1048576: true; the input reads as it did. -/
def deviceActsAsSpecifiedUptoRow : OpenClaim := { program := "ytghgegghlefclaa", sum := "2b27404324e9ec5aeba72dc9d067ffedff47e7691a4985108549ad4a85dc60ce", func := "interlace/interlacelaw42.DeviceActsAsSpecified", spec := "deviceActsAsSpecified", inPlace := ["slices.overlaps[interlace/api.Rule]", "slices.overlaps[int]"], unfollowed := true, recurses := true, apart := false, narrowed := true }
def DeviceActsAsSpecifiedUptoSaid : Prop := deviceActsAsSpecifiedUptoRow.holds Try.pinned (OpenSpec.upto deviceActsAsSpecifiedSpec)

/-- 'interlacelaw42.DevicePutsAsSpecified', WHERE WHAT IT READS IS OF BULK AT MOST 1048576: true; the input reads as it did. -/
def devicePutsAsSpecifiedUptoRow : OpenClaim := { program := "ytghgegghlefclaa", sum := "2b27404324e9ec5aeba72dc9d067ffedff47e7691a4985108549ad4a85dc60ce", func := "interlace/interlacelaw42.DevicePutsAsSpecified", spec := "devicePutsAsSpecified", inPlace := ["slices.overlaps[interlace/api.Rule]", "slices.overlaps[int]"], unfollowed := true, recurses := true, apart := false, narrowed := true }
def DevicePutsAsSpecifiedUptoSaid : Prop := devicePutsAsSpecifiedUptoRow.holds Try.pinned (OpenSpec.upto devicePutsAsSpecifiedSpec)

/-- 'interlacelaw42.DeviceBarriersWait', WHERE WHAT IT READS IS OF BULK AT MOST 1048576: true; the input reads as it did. -/
def deviceBarriersWaitUptoRow : OpenClaim := { program := "ytghgegghlefclaa", sum := "2b27404324e9ec5aeba72dc9d067ffedff47e7691a4985108549ad4a85dc60ce", func := "interlace/interlacelaw42.DeviceBarriersWait", spec := "deviceBarriersWait", inPlace := ["slices.overlaps[interlace/api.Rule]", "slices.overlaps[int]"], unfollowed := true, recurses := true, apart := false, narrowed := true }
def DeviceBarriersWaitUptoSaid : Prop := deviceBarriersWaitUptoRow.holds Try.pinned (OpenSpec.upto deviceBarriersWaitSpec)

/-- 'interlacelaw42.DeviceStaysRight', WHERE WHAT IT READS IS OF BULK AT MOST 1048576: true; the input reads as it did. -/
def deviceStaysRightUptoRow : OpenClaim := { program := "ytghgegghlefclaa", sum := "2b27404324e9ec5aeba72dc9d067ffedff47e7691a4985108549ad4a85dc60ce", func := "interlace/interlacelaw42.DeviceStaysRight", spec := "deviceStaysRight", inPlace := ["slices.overlaps[interlace/api.Rule]", "slices.overlaps[int]"], unfollowed := true, recurses := true, apart := false, narrowed := true }
def DeviceStaysRightUptoSaid : Prop := deviceStaysRightUptoRow.holds Try.pinned (OpenSpec.upto deviceStaysRightSpec)

/-- 'interlacelaw42.DeviceRepeats', WHERE WHAT IT READS IS OF BULK AT MOST 1048576: true; the input reads as it did. -/
def deviceRepeatsUptoRow : OpenClaim := { program := "ytghgegghlefclaa", sum := "2b27404324e9ec5aeba72dc9d067ffedff47e7691a4985108549ad4a85dc60ce", func := "interlace/interlacelaw42.DeviceRepeats", spec := "deviceRepeats", inPlace := ["slices.overlaps[interlace/api.Rule]", "slices.overlaps[int]"], unfollowed := true, recurses := true, apart := false, narrowed := true }
def DeviceRepeatsUptoSaid : Prop := deviceRepeatsUptoRow.holds Try.pinned (OpenSpec.upto deviceRepeatsSpec)

end Rows
end Go.Proofs.Ytghgegghlefclaa
