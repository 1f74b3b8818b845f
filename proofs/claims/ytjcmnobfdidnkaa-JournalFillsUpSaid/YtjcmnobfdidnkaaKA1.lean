/- Walks: the small methods of the program's disk. -/
import Derived.Test.YtjcmnobfdidnkaaKDisk
import Derived.BigQuiet
import Derived.BigRegion
import Derived.Deep.CutRange
import Derived.WalkSpells
set_option linter.unusedVariables false
set_option linter.unusedSimpArgs false
set_option linter.unusedSectionVars false
namespace Go.Proofs.Ytjcmnobfdidnkaa
open Go.RowKit
set_option maxHeartbeats 1000000
set_option maxRecDepth 4000
variable {D G B : Nat} {d : Dk}

theorem ret_bool {a b : Bool} (h : a = b) : Ending.returned (.bool a) = .returned (.bool b) := by rw [h]
theorem ret_i64 {a b : Int} (h : a = b) : Ending.returned (.int .i64 a) = .returned (.int .i64 b) := by rw [h]
theorem up_ok (w : World) (h : PD w D G B d) : Calls Try.prog 30 #[.pointer (some ⟨D, 0, none⟩)] w fun e w' => e = .returned (.bool (!d.off)) ∧ w = w' := by
  obtain ⟨cap, hD, _⟩ := h
  have c2 := cell_blk hD 2 _ rfl
  clear hD
  go_enter Try.func30, Try.ntmps30
  go_wp2_with fail
  go_ret
  exact ⟨rfl, rfl⟩
theorem len_ok (w : World) (h : PD w D G B d) : Calls Try.prog 33 #[.pointer (some ⟨D, 0, none⟩)] w fun e w' => e = .returned (.int .i64 d.n) ∧ w = w' := by
  obtain ⟨cap, hD, _⟩ := h
  have c2 := cell_blk hD 0 _ rfl
  clear hD
  go_enter Try.func33, Try.ntmps33
  go_wp2_with fail
  go_ret
  exact ⟨rfl, rfl⟩
theorem is_ok (i : Int) (w : World) (h : PD w D G B d) : Calls Try.prog 48 #[.pointer (some ⟨D, 0, none⟩), .int .i64 i] w fun e w' => e = .returned (.bool (d.is i)) ∧ w = w' := by
  have hn := h.n_hi
  obtain ⟨cap, hD, _⟩ := h
  have c2 := cell_blk hD 0 _ rfl
  clear hD
  by_cases h1 : 0 ≤ i
  · have e1 : d.is i = decide (i < (d.n : Int)) := by simp [Dk.is, h1]
    have E1 := Lib.hid e1
    clear e1
    go_enter Try.func48, Try.ntmps48
    go_wp2_with fail
    go_ret
    exact ⟨ret_bool E1.out.symm, rfl⟩
  · have e1 : d.is i = false := by simp [Dk.is, h1]
    have E1 := Lib.hid e1
    have h2 : decide (0 ≤ i) = false := decide_eq_false h1
    clear e1
    go_enter Try.func48, Try.ntmps48
    go_wp2_with fail
    go_ret
    exact ⟨ret_bool E1.out.symm, rfl⟩
/-- a step that changes but the power and the trip -/
theorem step_ok (w : World) (h : PD w D G B d) : Calls Try.prog 70 #[.pointer (some ⟨D, 0, none⟩)] w fun e w' => e = .returned (.int .i64 d.stepE) ∧ PD w' D G B d.step ∧ Kept (InD D G B) w w' := by
  have hwf := h.wf
  obtain ⟨w0, cap, rfl, zD, hC, n1, n2, _⟩ := h.opn
  have hlo := hwf.lo
  have hhi := hwf.hi
  have H0 := Lib.hid hC
  have hst := hwf.step
  have HS := Lib.hid hst
  clear h hC hst hwf
  by_cases h0 : d.trip = 0
  · have e1 : d.stepE = 13 := by unfold Dk.stepE; rw [if_pos h0]
    have e2 : d.step = { d with off := true } := by unfold Dk.step; rw [if_pos h0]
    rw [e2] at HS
    have E1 := Lib.hid e1
    have E2 := Lib.hid e2
    clear e1 e2
    go_enter Try.func70, Try.ntmps70
    go_wp2_with fail
    go_ret
    refine ⟨ret_i64 E1.out.symm, ?_, ?_⟩
    · rw [E2.out]; rw [← h0]; exact PD.shut (d := { d with off := true }) zD (H0.out.turn rfl rfl HS.out) n1 n2
    · exact (keptD (M := InD D G B) (.inl rfl) _ _).offB (.inl rfl)
  · have t0 : (d.trip == 0) = false := by simpa using h0
    have e1 : d.stepE = 0 := by unfold Dk.stepE; rw [if_neg h0]
    by_cases h1 : 0 < d.trip
    · have e2 : d.step = { d with trip := d.trip - 1 } := by unfold Dk.step; rw [if_neg h0, if_pos h1]
      rw [e2] at HS
      have E1 := Lib.hid e1
      have E2 := Lib.hid e2
      clear e1 e2
      go_enter Try.func70, Try.ntmps70
      go_wp2_with fail
      go_ret
      refine ⟨ret_i64 E1.out.symm, ?_, ?_⟩
      · rw [E2.out]; exact PD.shut (d := { d with trip := d.trip - 1 }) zD (H0.out.turn rfl rfl HS.out) n1 n2
      · exact (keptD (M := InD D G B) (.inl rfl) _ _).offB (.inl rfl)
    · have e2 : d.step = d := by unfold Dk.step; rw [if_neg h0, if_neg h1]
      have E1 := Lib.hid e1
      have E2 := Lib.hid e2
      clear e1 e2
      go_enter Try.func70, Try.ntmps70
      go_wp2_with fail
      go_ret
      refine ⟨ret_i64 E1.out.symm, ?_, ?_⟩
      · rw [E2.out]; exact PD.shut zD H0.out n1 n2
      · exact Kept.refl _ _
theorem trip_ok (k : Int) (hk : k ≤ 9223372036854775807) (w : World) (h : PD w D G B d) : Calls Try.prog 27 #[.pointer (some ⟨D, 0, none⟩), .int .i64 k] w fun e w' => e = .returned (.tuple #[]) ∧ PD w' D G B (d.doTrip k) ∧ Kept (InD D G B) w w' := by
  have hwf := h.wf
  obtain ⟨w0, cap, rfl, zD, hC, n1, n2, _⟩ := h.opn
  have H0 := Lib.hid hC
  have HS := Lib.hid (hwf.doTrip hk)
  clear h hC hwf
  by_cases h1 : k < -1
  · have e2 : d.doTrip k = { d with trip := -1 } := by unfold Dk.doTrip; congr 1; omega
    rw [e2] at HS
    have E2 := Lib.hid e2
    clear e2
    go_enter Try.func27, Try.ntmps27
    go_wp2_with fail
    go_end0
    refine ⟨rfl, ?_, ?_⟩
    · rw [E2.out]; exact PD.shut (d := { d with trip := -1 }) zD (H0.out.turn rfl rfl HS.out) n1 n2
    · exact (keptD (M := InD D G B) (.inl rfl) _ _).offB (.inl rfl)
  · have e2 : d.doTrip k = { d with trip := k } := by unfold Dk.doTrip; congr 1; omega
    rw [e2] at HS
    have E2 := Lib.hid e2
    clear e2
    go_enter Try.func27, Try.ntmps27
    go_wp2_with fail
    go_end0
    refine ⟨rfl, ?_, ?_⟩
    · rw [E2.out]; exact PD.shut (d := { d with trip := k }) zD (H0.out.turn rfl rfl HS.out) n1 n2
    · exact (keptD (M := InD D G B) (.inl rfl) _ _).offB (.inl rfl)
end Go.Proofs.Ytjcmnobfdidnkaa
