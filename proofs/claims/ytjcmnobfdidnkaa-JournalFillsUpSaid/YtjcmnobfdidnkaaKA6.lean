/- Walks: the lists that the program's disk hands back. -/
import Derived.Test.YtjcmnobfdidnkaaKA3
import Derived.Test.YtjcmnobfdidnkaaKBX
set_option linter.unusedVariables false
set_option linter.unusedSimpArgs false
set_option linter.unusedSectionVars false
namespace Go.Proofs.Ytjcmnobfdidnkaa
open Go.RowKit
set_option maxHeartbeats 4000000
set_option maxRecDepth 4000
variable {D G B : Nat} {d : Dk}
theorem PD.rangeOf {w : World} (h : PD w D G B d) {i : Nat} (hi : i < d.n) : w.rangeAt G (i * 128) (pgCells (d.pg i)) := by
  obtain ⟨cap, _, hC, _⟩ := h
  obtain ⟨b, off, cs, e0, _, hcs, hcl, hr⟩ := (hC.own.rd (M := NoM) (fun _ _ x => x)).range (hC.wf.pg_len hi).2
  simp only [Option.some.injEq, Addr.mk.injEq] at e0
  obtain ⟨rfl, rfl, _⟩ := e0
  obtain rfl : cs = pgCells (d.pg i) := hcs
  rw [Nat.zero_add] at hr
  exact hr
end Go.Proofs.Ytjcmnobfdidnkaa
