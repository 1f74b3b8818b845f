/-
  DERIVED. GIVEN WITH THE SEED: THE CARDS: each row of YtgohploghbimlaaDoorRows.lean that lists a variable, with what it lists TIED to the program's text (the seventh form; the later family's looks); each row that meets fmt, with fmt's text TOLD by the authors' own Lean function (tested against real Go, not proved from fmt's source: count such statements apart). THE CARD IS WHAT COUNTS. Prove the row's statement (the work); the ties are given (YtgohploghbimlaaDoorTie.lean); close each card by the builder's one call (the guide's Derived/Test/ToyasCard.lean, 'card_holds'). Laid BY PROGRAM, IN A SANDBOX (cutbox-door.mjs). By AI agents, Wed Nov 11 2026. No macro, syntax, notation, axiom, sorry.
-/
import Derived.Test.YtgohploghbimlaaDoorRows
import GoSem.ClaimSeven
namespace Go.Proofs.YtgohploghbimlaaDoor
namespace Rows

/-- THE TIED CARD OF 'interlacelaw41.EpochAnswersLetters'. -/
def epochAnswersLettersCard : Claim7 := { stood := { row := epochAnswersLettersRow, standIns := [], harness := (true, "3090308f431a457848031d279558b63067382a83f7faa8c2c0e7ddd23c781651"), looks := false }, kinds := [], alts := [], laidByText := true, laidKinds := [.data, .data, .data], laidTests := true, laidLooks := .later }
def EpochAnswersLettersCardSaid : Prop := Claim7.holds Tryd.pinned (.plain (OpenSpec.ofChange epochAnswersLettersSpec)) epochAnswersLettersCard

/-- THE TIED CARD OF 'interlacelaw41.EpochKeepsConfirmed'. -/
def epochKeepsConfirmedCard : Claim7 := { stood := { row := epochKeepsConfirmedRow, standIns := [], harness := (true, "3090308f431a457848031d279558b63067382a83f7faa8c2c0e7ddd23c781651"), looks := false }, kinds := [], alts := [], laidByText := true, laidKinds := [.data, .data, .data], laidTests := true, laidLooks := .later }
def EpochKeepsConfirmedCardSaid : Prop := Claim7.holds Tryd.pinned (.plain (OpenSpec.ofChange epochKeepsConfirmedSpec)) epochKeepsConfirmedCard

/-- THE TIED CARD OF 'interlacelaw41.EpochConfirms'. -/
def epochConfirmsCard : Claim7 := { stood := { row := epochConfirmsRow, standIns := [], harness := (true, "3090308f431a457848031d279558b63067382a83f7faa8c2c0e7ddd23c781651"), looks := false }, kinds := [], alts := [], laidByText := true, laidKinds := [.data, .data, .data], laidTests := true, laidLooks := .later }
def EpochConfirmsCardSaid : Prop := Claim7.holds Tryd.pinned (.plain (OpenSpec.ofChange epochConfirmsSpec)) epochConfirmsCard

/-- THE TIED CARD OF 'interlacelaw41.EpochAdmitsInOrder'. -/
def epochAdmitsInOrderCard : Claim7 := { stood := { row := epochAdmitsInOrderRow, standIns := [], harness := (true, "3090308f431a457848031d279558b63067382a83f7faa8c2c0e7ddd23c781651"), looks := false }, kinds := [], alts := [], laidByText := true, laidKinds := [.data, .data, .data], laidTests := true, laidLooks := .later }
def EpochAdmitsInOrderCardSaid : Prop := Claim7.holds Tryd.pinned (.plain (OpenSpec.ofChange epochAdmitsInOrderSpec)) epochAdmitsInOrderCard

/-- THE SECOND FORM's CARD OF 'interlacelaw41.EpochAnswersLetters'. -/
def epochAnswersLettersUptoCard : Claim7 := { stood := { row := epochAnswersLettersUptoRow, standIns := [], harness := (true, "3090308f431a457848031d279558b63067382a83f7faa8c2c0e7ddd23c781651"), looks := false }, kinds := [], alts := [], laidByText := true, laidKinds := [.data, .data, .data], laidTests := true, laidLooks := .later }
def EpochAnswersLettersUptoCardSaid : Prop := Claim7.holds Tryd.pinned (.plain (OpenSpec.upto epochAnswersLettersSpec)) epochAnswersLettersUptoCard

/-- THE SECOND FORM's CARD OF 'interlacelaw41.EpochKeepsConfirmed'. -/
def epochKeepsConfirmedUptoCard : Claim7 := { stood := { row := epochKeepsConfirmedUptoRow, standIns := [], harness := (true, "3090308f431a457848031d279558b63067382a83f7faa8c2c0e7ddd23c781651"), looks := false }, kinds := [], alts := [], laidByText := true, laidKinds := [.data, .data, .data], laidTests := true, laidLooks := .later }
def EpochKeepsConfirmedUptoCardSaid : Prop := Claim7.holds Tryd.pinned (.plain (OpenSpec.upto epochKeepsConfirmedSpec)) epochKeepsConfirmedUptoCard

/-- THE SECOND FORM's CARD OF 'interlacelaw41.EpochConfirms'. -/
def epochConfirmsUptoCard : Claim7 := { stood := { row := epochConfirmsUptoRow, standIns := [], harness := (true, "3090308f431a457848031d279558b63067382a83f7faa8c2c0e7ddd23c781651"), looks := false }, kinds := [], alts := [], laidByText := true, laidKinds := [.data, .data, .data], laidTests := true, laidLooks := .later }
def EpochConfirmsUptoCardSaid : Prop := Claim7.holds Tryd.pinned (.plain (OpenSpec.upto epochConfirmsSpec)) epochConfirmsUptoCard

/-- THE SECOND FORM's CARD OF 'interlacelaw41.EpochAdmitsInOrder'. -/
def epochAdmitsInOrderUptoCard : Claim7 := { stood := { row := epochAdmitsInOrderUptoRow, standIns := [], harness := (true, "3090308f431a457848031d279558b63067382a83f7faa8c2c0e7ddd23c781651"), looks := false }, kinds := [], alts := [], laidByText := true, laidKinds := [.data, .data, .data], laidTests := true, laidLooks := .later }
def EpochAdmitsInOrderUptoCardSaid : Prop := Claim7.holds Tryd.pinned (.plain (OpenSpec.upto epochAdmitsInOrderSpec)) epochAdmitsInOrderUptoCard
end Rows
end Go.Proofs.YtgohploghbimlaaDoor
