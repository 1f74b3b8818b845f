/- Walks: Flush of the program's disk, whole. -/
import Derived.Test.YtjcmnobfdidnkaaKA12
import Derived.Test.YtjcmnobfdidnkaaKA5
set_option linter.unusedVariables false
set_option linter.unusedSimpArgs false
set_option linter.unusedSectionVars false
namespace Go.Proofs.Ytjcmnobfdidnkaa
open Go.RowKit
set_option maxHeartbeats 1000000
set_option maxRecDepth 4000
variable {D G B : Nat} {d : Dk}
theorem flush_ok (w : World) (h : PD w D G B d) : Calls Try.prog 60 #[.pointer (some ⟨D, 0, none⟩)] w fun e w' => e = .returned (.int .i64 d.flushE) ∧ PD w' D G B d.flush ∧ Kept (InD D G B) w w' := by
  cases ho : d.off with
  | true =>
    have HH := Lib.hid h
    obtain ⟨cap, c0, c1, c2, _⟩ := h.cells
    rw [ho] at c2
    have e1 : d.flushE = 13 := by unfold Dk.flushE; rw [ho]; rfl
    have e2 : d.flush = d := by unfold Dk.flush; rw [ho]; rfl
    have E1 := Lib.hid e1
    have E2 := Lib.hid e2
    clear e1 e2 ho c0 c1 h
    go_enter Try.func60, Try.ntmps60
    go_wp2_with fail
    go_ret
    exact ⟨ret_e' E1.out.symm, by rw [E2.out]; exact HH.out, Kept.refl _ _⟩
  | false =>
    by_cases ht : d.trip = 0
    · have HH := Lib.hid h
      obtain ⟨cap, c0, c1, c2, _⟩ := h.cells
      rw [ho] at c2
      have e1 : d.flushE = 13 := by unfold Dk.flushE Dk.stepE; rw [ho, ht]; rfl
      have e2 : d.flush = d.step := by unfold Dk.flush; rw [ho, if_pos ht]; rfl
      have e3 : d.stepE = 13 := by unfold Dk.stepE; rw [if_pos ht]
      have E1 := Lib.hid e1
      have E2 := Lib.hid e2
      have E3 := Lib.hid e3
      clear e1 e2 e3 ho c0 c1 h ht
      go_enter Try.func60, Try.ntmps60
      go_wp2_with (go_at_call 70; refine (step_ok _ HH.out).mono ?_; rintro e w1 ⟨rfl, p1, k1⟩; rw [E3.out])
      go_ret
      exact ⟨ret_e' E1.out.symm, by rw [E2.out]; exact p1, k1⟩
    · exact flush_goes w h ho ht
end Go.Proofs.Ytjcmnobfdidnkaa
