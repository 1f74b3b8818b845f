/- Walks: the law's zeros. -/
import Derived.Test.YtohijdopmokkgaaKE5
import Derived.Test.YtohijdopmokkgaaKD3
set_option linter.unusedVariables false
set_option linter.unusedSimpArgs false
set_option linter.unusedSectionVars false
namespace Go.Proofs.Ytohijdopmokkgaa
open Go.RowKit
set_option maxHeartbeats 2000000
set_option maxRecDepth 4000
theorem zeros_ok (k : Nat) (hk : k ≤ 1000) (w : World) : Calls Try.prog 30 #[.int .i64 k] w fun e w' => e = .returned (strV (Dk.zs k)) ∧ Kept NoM w w' := by
  have hz : strV (Dk.zs k) = .string ⟨(Lib.repeatL [0] k).toArray⟩ := by
    have := Lib.repeatL_replicate 0 1 k
    rw [show List.replicate 1 (0 : UInt8) = [0] from rfl, Nat.mul_one] at this
    rw [this]; rfl
  go_enter Try.func30, Try.ntmps30
  go_wp2_with (go_at_call 49; refine (Try.strings_Repeat ⟨#[0]⟩ k _ (by omega) (by show 1 * k ≤ _; omega)).mono ?_; rintro e w1 ⟨rfl, k1⟩)
  go_ret
  exact ⟨by rw [hz]; rfl, Kept.of_below k1⟩
end Go.Proofs.Ytohijdopmokkgaa
