/-
  No cell of these rows narrows 'for every input' (looked for: loops, veiled, ifaces, maps, wideKeys, modest, calm, conditions, laid).
  DERIVED. THE GIVEN ROWS OF THIS SEAT. 5 by the template 'for every input the law returns true; each argument reads behind the call as it read before'; 0 by the template 'total and deterministic' (their statements: YtjcmnobfdidnkaaTotals.lean).
  GIVEN WITH THE SEED: the statements are not yours to turn. If you find one false, say at which input.
  Laid BY PROGRAM, IN A SANDBOX (cutbox-rows.mjs): the forced cells as the released guide's own fill.sh prints them over the translation c9b609427d74d3f4… (all of the seat's roots in one cut). By AI agents, Wed Nov 11 2026. No macro, syntax, notation, axiom, sorry.
-/
import Derived.Test.YtjcmnobfdidnkaaChecked
import GoSem.Claim
import GoSem.ClaimJoined
import GoSem.ClaimMapViews
import Derived.JoinedTies
import Derived.KernelRfl
namespace Go.Proofs.Ytjcmnobfdidnkaa
/- THE CELL 'sum', in the pinned program and in every row, IS THE sha256 OF THE DUMP (.gsa) THAT YtjcmnobfdidnkaaProg.lean LOADS. Nothing in Lean hashes anything: it is a label: what it is worth is what the hold of that sum in a sandbox is worth. -/
noncomputable def Try.pinned : Pinned := { name := "ytjcmnobfdidnkaa", sum := "c9b609427d74d3f42d77d315c5d82f23e8d372700947d3c1ce06381c13fd52e3", checked := Try.checked }
namespace Rows
def none {H : Type} : Left H := { results := [], args := [] }

/-- 'interlacelaw05.JournalMatchesSpec': WHATEVER THE INPUT: true; the input reads as it did. -/
def journalMatchesSpecSpec : ChangeSpec := { name := "journalMatchesSpec", fn := fun _ => fun
  | [d1, d2] => { results := [.lit (.bool true)], args := [d1, d2] }
  | _ => none }
def journalMatchesSpecRow : OpenClaim := { program := "ytjcmnobfdidnkaa", sum := "c9b609427d74d3f42d77d315c5d82f23e8d372700947d3c1ce06381c13fd52e3", func := "interlace/interlacelaw05.JournalMatchesSpec", spec := "journalMatchesSpec", inPlace := ["internal/bytealg.CountString", "internal/bytealg.IndexByteString", "internal/bytealg.IndexString", "internal/abi.NoEscape"], unfollowed := true, recurses := true, named := ["internal/bytealg.MaxLen"], apart := false }
def JournalMatchesSpecSaid : Prop := journalMatchesSpecRow.holds Try.pinned (OpenSpec.ofChange journalMatchesSpecSpec)

/-- ITS FALSE NEIGHBOUR: 'it returns false'. Refute it at one input. -/
def journalMatchesSpecWrong : ChangeSpec := { name := "journalMatchesSpec", fn := fun _ => fun
  | [d1, d2] => { results := [.lit (.bool false)], args := [d1, d2] }
  | _ => none }
def JournalMatchesSpecWrongFalsely : Prop := journalMatchesSpecRow.holds Try.pinned (OpenSpec.ofChange journalMatchesSpecWrong)

/-- 'interlacelaw05.JournalFillsUp': WHATEVER THE INPUT: true; the input reads as it did. -/
def journalFillsUpSpec : ChangeSpec := { name := "journalFillsUp", fn := fun _ => fun
  | [d1, d2, d3] => { results := [.lit (.bool true)], args := [d1, d2, d3] }
  | _ => none }
def journalFillsUpRow : OpenClaim := { program := "ytjcmnobfdidnkaa", sum := "c9b609427d74d3f42d77d315c5d82f23e8d372700947d3c1ce06381c13fd52e3", func := "interlace/interlacelaw05.JournalFillsUp", spec := "journalFillsUp", inPlace := ["internal/bytealg.CountString", "internal/bytealg.IndexByteString", "internal/bytealg.IndexString", "internal/abi.NoEscape"], unfollowed := true, recurses := true, named := ["internal/bytealg.MaxLen"], apart := false }
def JournalFillsUpSaid : Prop := journalFillsUpRow.holds Try.pinned (OpenSpec.ofChange journalFillsUpSpec)

/-- ITS FALSE NEIGHBOUR: 'it returns false'. Refute it at one input. -/
def journalFillsUpWrong : ChangeSpec := { name := "journalFillsUp", fn := fun _ => fun
  | [d1, d2, d3] => { results := [.lit (.bool false)], args := [d1, d2, d3] }
  | _ => none }
def JournalFillsUpWrongFalsely : Prop := journalFillsUpRow.holds Try.pinned (OpenSpec.ofChange journalFillsUpWrong)

/-- 'interlacelaw05.JournalSurvives': WHATEVER THE INPUT: true; the input reads as it did. -/
def journalSurvivesSpec : ChangeSpec := { name := "journalSurvives", fn := fun _ => fun
  | [d1, d2, d3, d4, d5] => { results := [.lit (.bool true)], args := [d1, d2, d3, d4, d5] }
  | _ => none }
def journalSurvivesRow : OpenClaim := { program := "ytjcmnobfdidnkaa", sum := "c9b609427d74d3f42d77d315c5d82f23e8d372700947d3c1ce06381c13fd52e3", func := "interlace/interlacelaw05.JournalSurvives", spec := "journalSurvives", inPlace := ["internal/bytealg.CountString", "internal/bytealg.IndexByteString", "internal/bytealg.IndexString", "internal/abi.NoEscape"], unfollowed := true, recurses := true, named := ["internal/bytealg.MaxLen"], apart := false }
def JournalSurvivesSaid : Prop := journalSurvivesRow.holds Try.pinned (OpenSpec.ofChange journalSurvivesSpec)

/-- ITS FALSE NEIGHBOUR: 'it returns false'. Refute it at one input. -/
def journalSurvivesWrong : ChangeSpec := { name := "journalSurvives", fn := fun _ => fun
  | [d1, d2, d3, d4, d5] => { results := [.lit (.bool false)], args := [d1, d2, d3, d4, d5] }
  | _ => none }
def JournalSurvivesWrongFalsely : Prop := journalSurvivesRow.holds Try.pinned (OpenSpec.ofChange journalSurvivesWrong)

/-- 'interlacelaw05.JournalCloses': WHATEVER THE INPUT: true; the input reads as it did. -/
def journalClosesSpec : ChangeSpec := { name := "journalCloses", fn := fun _ => fun
  | [d1, d2, d3, d4] => { results := [.lit (.bool true)], args := [d1, d2, d3, d4] }
  | _ => none }
def journalClosesRow : OpenClaim := { program := "ytjcmnobfdidnkaa", sum := "c9b609427d74d3f42d77d315c5d82f23e8d372700947d3c1ce06381c13fd52e3", func := "interlace/interlacelaw05.JournalCloses", spec := "journalCloses", inPlace := ["internal/bytealg.CountString", "internal/bytealg.IndexByteString", "internal/bytealg.IndexString", "internal/abi.NoEscape"], unfollowed := true, recurses := true, named := ["internal/bytealg.MaxLen"], apart := false }
def JournalClosesSaid : Prop := journalClosesRow.holds Try.pinned (OpenSpec.ofChange journalClosesSpec)

/-- ITS FALSE NEIGHBOUR: 'it returns false'. Refute it at one input. -/
def journalClosesWrong : ChangeSpec := { name := "journalCloses", fn := fun _ => fun
  | [d1, d2, d3, d4] => { results := [.lit (.bool false)], args := [d1, d2, d3, d4] }
  | _ => none }
def JournalClosesWrongFalsely : Prop := journalClosesRow.holds Try.pinned (OpenSpec.ofChange journalClosesWrong)

/-- 'interlacelaw05.JournalFindsRot': WHATEVER THE INPUT: true; the input reads as it did. -/
def journalFindsRotSpec : ChangeSpec := { name := "journalFindsRot", fn := fun _ => fun
  | [d1, d2, d3, d4] => { results := [.lit (.bool true)], args := [d1, d2, d3, d4] }
  | _ => none }
def journalFindsRotRow : OpenClaim := { program := "ytjcmnobfdidnkaa", sum := "c9b609427d74d3f42d77d315c5d82f23e8d372700947d3c1ce06381c13fd52e3", func := "interlace/interlacelaw05.JournalFindsRot", spec := "journalFindsRot", inPlace := ["internal/bytealg.CountString", "internal/bytealg.IndexByteString", "internal/bytealg.IndexString", "internal/abi.NoEscape"], unfollowed := true, recurses := true, named := ["internal/bytealg.MaxLen"], apart := false }
def JournalFindsRotSaid : Prop := journalFindsRotRow.holds Try.pinned (OpenSpec.ofChange journalFindsRotSpec)

/-- ITS FALSE NEIGHBOUR: 'it returns false'. Refute it at one input. -/
def journalFindsRotWrong : ChangeSpec := { name := "journalFindsRot", fn := fun _ => fun
  | [d1, d2, d3, d4] => { results := [.lit (.bool false)], args := [d1, d2, d3, d4] }
  | _ => none }
def JournalFindsRotWrongFalsely : Prop := journalFindsRotRow.holds Try.pinned (OpenSpec.ofChange journalFindsRotWrong)

/- THE SECOND FORM. 'bulk': how many values and letters a reading holds, each counted each time it is reached (what is shared counts as often as it is met; a slice's spare places count too). A statement '..UptoSaid' is the law's where the arguments, and the package variables that the reading takes, are together of bulk at most 1048576: NARROWER than '..Said'. Prove '..Said' where nothing that the law and all that it calls make is longer than what came in: it says more and counts as full. Else prove '..UptoSaid'. A law counts once. -/
mutual
def uptoBulk {H : Type} : DataW H → Nat
  | .lit (.string bytes) => bytes.length + 1
  | .lit _ => 1
  | .nil => 1
  | .ptr d => uptoBulk d + 1
  | .slice elems spare => uptoBulkAll elems + uptoBulkAll spare + 1
  | .agg parts => uptoBulkAll parts + 1
  | .iface _ d => uptoBulk d + 1
  | .map entries => uptoBulkEntries entries + 1
  | .held _ => 1
def uptoBulkAll {H : Type} : List (DataW H) → Nat
  | [] => 0
  | d :: r => uptoBulk d + uptoBulkAll r
def uptoBulkEntries {H : Type} : List (Lit × DataW H) → Nat
  | [] => 0
  | x :: r => uptoBulkEntry x + uptoBulkEntries r
def uptoBulkEntry {H : Type} : Lit × DataW H → Nat
  | (.string bytes, d) => bytes.length + uptoBulk d + 1
  | (_, d) => uptoBulk d + 1
 end
def uptoSmall : (H : Type) → List (DataW H) → Bool := fun _ ds => decide (uptoBulkAll ds ≤ 1048576)
def OpenSpec.upto (s : _root_.Go.ChangeSpec) : _root_.Go.OpenSpec := { _root_.Go.OpenSpec.ofChange s with cond := some uptoSmall }

/-- 'interlacelaw05.JournalMatchesSpec', WHERE WHAT IT READS IS OF BULK AT MOST 1048576: true; the input reads as it did. -/
def journalMatchesSpecUptoRow : OpenClaim := { program := "ytjcmnobfdidnkaa", sum := "c9b609427d74d3f42d77d315c5d82f23e8d372700947d3c1ce06381c13fd52e3", func := "interlace/interlacelaw05.JournalMatchesSpec", spec := "journalMatchesSpec", inPlace := ["internal/bytealg.CountString", "internal/bytealg.IndexByteString", "internal/bytealg.IndexString", "internal/abi.NoEscape"], unfollowed := true, recurses := true, named := ["internal/bytealg.MaxLen"], apart := false, narrowed := true }
def JournalMatchesSpecUptoSaid : Prop := journalMatchesSpecUptoRow.holds Try.pinned (OpenSpec.upto journalMatchesSpecSpec)

/-- 'interlacelaw05.JournalFillsUp', WHERE WHAT IT READS IS OF BULK AT MOST 1048576: true; the input reads as it did. -/
def journalFillsUpUptoRow : OpenClaim := { program := "ytjcmnobfdidnkaa", sum := "c9b609427d74d3f42d77d315c5d82f23e8d372700947d3c1ce06381c13fd52e3", func := "interlace/interlacelaw05.JournalFillsUp", spec := "journalFillsUp", inPlace := ["internal/bytealg.CountString", "internal/bytealg.IndexByteString", "internal/bytealg.IndexString", "internal/abi.NoEscape"], unfollowed := true, recurses := true, named := ["internal/bytealg.MaxLen"], apart := false, narrowed := true }
def JournalFillsUpUptoSaid : Prop := journalFillsUpUptoRow.holds Try.pinned (OpenSpec.upto journalFillsUpSpec)

/-- 'interlacelaw05.JournalSurvives', WHERE WHAT IT READS IS OF BULK AT MOST 1048576: true; the input reads as it did. -/
def journalSurvivesUptoRow : OpenClaim := { program := "ytjcmnobfdidnkaa", sum := "c9b609427d74d3f42d77d315c5d82f23e8d372700947d3c1ce06381c13fd52e3", func := "interlace/interlacelaw05.JournalSurvives", spec := "journalSurvives", inPlace := ["internal/bytealg.CountString", "internal/bytealg.IndexByteString", "internal/bytealg.IndexString", "internal/abi.NoEscape"], unfollowed := true, recurses := true, named := ["internal/bytealg.MaxLen"], apart := false, narrowed := true }
def JournalSurvivesUptoSaid : Prop := journalSurvivesUptoRow.holds Try.pinned (OpenSpec.upto journalSurvivesSpec)

/-- 'interlacelaw05.JournalCloses', WHERE WHAT IT READS IS OF BULK AT MOST 1048576: true; the input reads as it did. -/
def journalClosesUptoRow : OpenClaim := { program := "ytjcmnobfdidnkaa", sum := "c9b609427d74d3f42d77d315c5d82f23e8d372700947d3c1ce06381c13fd52e3", func := "interlace/interlacelaw05.JournalCloses", spec := "journalCloses", inPlace := ["internal/bytealg.CountString", "internal/bytealg.IndexByteString", "internal/bytealg.IndexString", "internal/abi.NoEscape"], unfollowed := true, recurses := true, named := ["internal/bytealg.MaxLen"], apart := false, narrowed := true }
def JournalClosesUptoSaid : Prop := journalClosesUptoRow.holds Try.pinned (OpenSpec.upto journalClosesSpec)

/-- 'interlacelaw05.JournalFindsRot', WHERE WHAT IT READS IS OF BULK AT MOST 1048576: true; the input reads as it did. -/
def journalFindsRotUptoRow : OpenClaim := { program := "ytjcmnobfdidnkaa", sum := "c9b609427d74d3f42d77d315c5d82f23e8d372700947d3c1ce06381c13fd52e3", func := "interlace/interlacelaw05.JournalFindsRot", spec := "journalFindsRot", inPlace := ["internal/bytealg.CountString", "internal/bytealg.IndexByteString", "internal/bytealg.IndexString", "internal/abi.NoEscape"], unfollowed := true, recurses := true, named := ["internal/bytealg.MaxLen"], apart := false, narrowed := true }
def JournalFindsRotUptoSaid : Prop := journalFindsRotUptoRow.holds Try.pinned (OpenSpec.upto journalFindsRotSpec)

end Rows
end Go.Proofs.Ytjcmnobfdidnkaa
