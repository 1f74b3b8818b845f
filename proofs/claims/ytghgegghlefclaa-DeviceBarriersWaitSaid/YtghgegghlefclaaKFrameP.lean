/- Readings: bytes that came in. -/
import Derived.Test.YtghgegghlefclaaKFrameO
import Derived.Test.YtghgegghlefclaaKF3
set_option linter.unusedVariables false
set_option linter.unusedSimpArgs false
set_option linter.unusedSectionVars false
namespace Go.Proofs.Ytghgegghlefclaa
open Go.ChangeShapes Go.WideShapes Go.ChangeAt Go.RowKit Go.Deep
set_option maxRecDepth 100000
theorem cByte : Try.prog.cellsOf 5 = 1 := by kernel_rfl
theorem tr_byte {H : Type} {enc : TypeId × Value → H} {W : World} {cs : List Value} (hl : cs.length = 1) (h : Tr enc W 5 cs) : ∃ q : Nat, EByte cs q ∧ q ≤ 255 := by
  obtain ⟨_, _, h⟩ := h
  obtain ⟨n, e, _, w⟩ := DataW.trod_int Try.underlying5 h
  have hb := bounds_u8 w
  refine ⟨n.toNat, ?_, by omega⟩
  show cs = [.int .u8 n.toNat]
  rw [e, show ((n.toNat : Nat) : Int) = n by omega]
end Go.Proofs.Ytghgegghlefclaa
