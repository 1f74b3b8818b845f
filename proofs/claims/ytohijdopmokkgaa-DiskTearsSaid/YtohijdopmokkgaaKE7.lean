/- The documentation's example: each call of sanity with its answer in numbers. -/
import Derived.Test.YtohijdopmokkgaaKE6
set_option linter.unusedVariables false
set_option linter.unusedSimpArgs false
set_option linter.unusedSectionVars false
namespace Go.Proofs.Ytohijdopmokkgaa
open Go.RowKit
set_option maxHeartbeats 2000000
set_option maxRecDepth 4000
section
variable {D G B : Nat} (w : World)
theorem s_write1 (h : PD w D G B Dk.x0) : Calls Try.prog 21 #[.pointer (some ⟨D, 0, none⟩), .int .i64 0, .int .i64 1, .string ⟨#[97, 98, 99]⟩] w fun e w' => e = .returned (.int .i64 0) ∧ PD w' D G B Dk.x1 ∧ Kept (InD D G B) w w' := by
  have := write_ok 0 1 [97, 98, 99] (by decide) w h
  rw [Dk.e1] at this; exact this
theorem s_read1 (h : PD w D G B Dk.x1) : Calls Try.prog 18 #[.pointer (some ⟨D, 0, none⟩), .int .i64 0] w fun e w' => e = .returned (.tuple #[strV ([0, 97, 98, 99] ++ Dk.zs 124), .int .i64 0]) ∧ Kept NoM w w' := by
  have := read_ok 0 w h
  rw [Dk.r1, Dk.r1e] at this; exact this
theorem s_image1 (h : PD w D G B Dk.x1) : Calls Try.prog 24 #[.pointer (some ⟨D, 0, none⟩)] w fun e w' => ∃ a cap O, e = .returned (.slice a 2 cap) ∧ OwnS w' O 9 1 EStr (.slice a 2 cap) [Dk.zs 128, Dk.zs 128] ∧ NewO w none O ∧ Kept NoM w w' := by
  have := image_ok w h
  have hn : Dk.x1.n = 2 := by decide +kernel
  rw [Dk.i1, hn] at this; exact this
theorem s_pending1 (h : PD w D G B Dk.x1) : Calls Try.prog 25 #[.pointer (some ⟨D, 0, none⟩)] w fun e w' => ∃ a cap O, e = .returned (.slice a 1 cap) ∧ OwnS w' O 3 1 EInt (.slice a 1 cap) [0] ∧ NewO w none O ∧ Kept NoM w w' := by
  have := pending_ok w h
  rw [Dk.p1] at this; exact this
theorem s_mount (a : Option Addr) (pc : Nat) (h : PD w D G B Dk.x1) (hp : RdS w (InD D G B) 1 EInt (.slice a 1 pc) [3]) : Calls Try.prog 22 #[.pointer (some ⟨D, 0, none⟩), .slice a 1 pc] w fun e w' => e = .returned (.tuple #[]) ∧ PD w' D G B Dk.x2 ∧ Kept (InD D G B) w w' :=
  mount_ok [3] a pc (by decide) w h hp
theorem s_read2 (h : PD w D G B Dk.x2) : Calls Try.prog 18 #[.pointer (some ⟨D, 0, none⟩), .int .i64 0] w fun e w' => e = .returned (.tuple #[strV ([0, 97, 98] ++ Dk.zs 125), .int .i64 0]) ∧ Kept NoM w w' := by
  have := read_ok 0 w h
  rw [Dk.r2, Dk.r2e] at this; exact this
theorem s_write3 (h : PD w D G B Dk.x2) : Calls Try.prog 21 #[.pointer (some ⟨D, 0, none⟩), .int .i64 1, .int .i64 127, .string ⟨#[120]⟩] w fun e w' => e = .returned (.int .i64 0) ∧ PD w' D G B Dk.x3 ∧ Kept (InD D G B) w w' := by
  have := write_ok 1 127 [120] (by decide) w h
  rw [Dk.e3] at this; exact this
theorem s_flush4 (h : PD w D G B Dk.x3) : Calls Try.prog 19 #[.pointer (some ⟨D, 0, none⟩)] w fun e w' => e = .returned (.int .i64 0) ∧ PD w' D G B Dk.x4 ∧ Kept (InD D G B) w w' := by
  have := flush_ok w h
  rw [Dk.e4] at this; exact this
theorem s_rot5 (h : PD w D G B Dk.x4) : Calls Try.prog 26 #[.pointer (some ⟨D, 0, none⟩), .int .i64 1, .int .i64 1016] w fun e w' => e = .returned (.int .i64 0) ∧ PD w' D G B Dk.x5 ∧ Kept (InD D G B) w w' := by
  have := rot_ok 1 1016 w h
  rw [Dk.e5] at this; exact this
theorem s_read5 (h : PD w D G B Dk.x5) : Calls Try.prog 18 #[.pointer (some ⟨D, 0, none⟩), .int .i64 1] w fun e w' => e = .returned (.tuple #[strV (Dk.zs 127 ++ [121]), .int .i64 0]) ∧ Kept NoM w w' := by
  have := read_ok 1 w h
  rw [Dk.r5, Dk.r5e] at this; exact this
theorem s_trip6 (h : PD w D G B Dk.x5) : Calls Try.prog 17 #[.pointer (some ⟨D, 0, none⟩), .int .i64 1] w fun e w' => e = .returned (.tuple #[]) ∧ PD w' D G B Dk.x6 ∧ Kept (InD D G B) w w' :=
  trip_ok 1 (by decide) w h
theorem s_write7 (h : PD w D G B Dk.x6) : Calls Try.prog 21 #[.pointer (some ⟨D, 0, none⟩), .int .i64 0, .int .i64 0, .string ⟨#[]⟩] w fun e w' => e = .returned (.int .i64 0) ∧ PD w' D G B Dk.x7 ∧ Kept (InD D G B) w w' := by
  have := write_ok 0 0 [] (by decide) w h
  rw [Dk.e7] at this; exact this
theorem s_flush8 (h : PD w D G B Dk.x7) : Calls Try.prog 19 #[.pointer (some ⟨D, 0, none⟩)] w fun e w' => e = .returned (.int .i64 13) ∧ PD w' D G B Dk.x8 ∧ Kept (InD D G B) w w' := by
  have := flush_ok w h
  rw [Dk.e8] at this; exact this
theorem s_read8 (h : PD w D G B Dk.x8) : Calls Try.prog 18 #[.pointer (some ⟨D, 0, none⟩), .int .i64 0] w fun e w' => e = .returned (.tuple #[strV (Dk.x8.readS 0), .int .i64 13]) ∧ Kept NoM w w' := by
  have := read_ok 0 w h
  rw [Dk.r8e] at this; exact this
theorem s_up8 (h : PD w D G B Dk.x8) : Calls Try.prog 20 #[.pointer (some ⟨D, 0, none⟩)] w fun e w' => e = .returned (.bool false) ∧ w = w' := by
  have := up_ok w h
  rw [Dk.u8] at this; exact this
theorem s_len8 (h : PD w D G B Dk.x8) : Calls Try.prog 31 #[.pointer (some ⟨D, 0, none⟩)] w fun e w' => e = .returned (.int .i64 2) ∧ w = w' := by
  have := len_ok w h
  rw [Dk.n8] at this; exact this
theorem s_rot9 (h : PD w D G B Dk.x8) : Calls Try.prog 26 #[.pointer (some ⟨D, 0, none⟩), .int .i64 0, .int .i64 1024] w fun e w' => e = .returned (.int .i64 1) ∧ PD w' D G B (Dk.x8.rot 0 1024) ∧ Kept (InD D G B) w w' := by
  have := rot_ok 0 1024 w h
  rw [Dk.e9] at this; exact this
end
end Go.Proofs.Ytohijdopmokkgaa
