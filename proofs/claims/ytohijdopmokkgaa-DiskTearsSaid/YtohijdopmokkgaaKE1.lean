/- Walks: the comparisons of lists, where they are equal. -/
import Derived.Test.YtohijdopmokkgaaKB6
import Derived.Test.YtohijdopmokkgaaKB7
import Derived.BigQuiet
import Derived.Deep.QuietTactic
set_option linter.unusedVariables false
set_option linter.unusedSimpArgs false
set_option linter.unusedSectionVars false
namespace Go.Proofs.Ytohijdopmokkgaa
open Go.RowKit
set_option maxHeartbeats 1000000
set_option maxRecDepth 4000
theorem sametexts_ok (a b : Value) (xs : List Pg) (w : World) (ha : RdS w NoM 1 EStr a xs) (hb : RdS w NoM 1 EStr b xs) (hn : xs.length ≤ 1000000) : Calls Try.prog 23 #[a, b] w fun e w' => e = .returned (.bool true) ∧ ∃ n, w' = w.drewN n := by
  obtain ⟨aa, ac, rfl, _, _⟩ := ha.shape
  obtain ⟨ba, bc, rfl, _, _⟩ := hb.shape
  have HA := Lib.hid ha
  have HB := Lib.hid hb
  clear ha hb
  go_enter Try.func23, Try.ntmps23
  go_wp2_with fail
  go_loopw [5] (fun i wr => ∃ k n : Nat, k ≤ xs.length ∧ i = .int .i64 k ∧ wr = w.drewN n) (fun i _ => xs.length - (intOf i).toNat)
  case atStart => exact ⟨0, 0, Nat.zero_le _, rfl, rfl⟩
  case round =>
    obtain ⟨k, n, hk, rfl, rfl⟩ := hrel
    by_cases hlt : k < xs.length
    · have hki : (k : Int) < xs.length := by omega
      obtain ⟨x, hx⟩ := getAt hlt
      obtain ⟨b1, o1, e1, _, cs, rfl, _, h1⟩ := HA.out.at hx
      subst e1
      obtain ⟨b2, o2, e2, _, cs, rfl, _, h2⟩ := HB.out.at hx
      subst e2
      have x1 := h1 0 _ rfl
      have x2 := h2 0 _ rfl
      simp only [Nat.mul_one, Nat.add_zero] at x1 x2
      clear h1 h2 hx
      unfold strV at x1 x2
      go_wp2_with fail
      go_quiet (fail)
      go_wp2_with fail
      go_roundw
      case rel => exact ⟨k + 1, _, by omega, by go_num, rfl⟩
      case measure => simp [intOf]; omega
    · obtain rfl : k = xs.length := by omega
      have f1 := decide_eq_false (show ¬ ((xs.length : Nat) : Int) < xs.length by omega)
      have f2 := decide_eq_false (show ¬ xs.length < xs.length by omega)
      go_wp2_with fail
      go_ret
      exact ⟨rfl, n, rfl⟩
theorem sameints_ok (a b : Value) (xs : List Int) (w : World) (ha : RdS w NoM 1 EInt a xs) (hb : RdS w NoM 1 EInt b xs) (hn : xs.length ≤ 1000000) : Calls Try.prog 27 #[a, b] w fun e w' => e = .returned (.bool true) ∧ ∃ n, w' = w.drewN n := by
  obtain ⟨aa, ac, rfl, _, _⟩ := ha.shape
  obtain ⟨ba, bc, rfl, _, _⟩ := hb.shape
  have HA := Lib.hid ha
  have HB := Lib.hid hb
  clear ha hb
  go_enter Try.func27, Try.ntmps27
  go_wp2_with fail
  go_loopw [5] (fun i wr => ∃ k n : Nat, k ≤ xs.length ∧ i = .int .i64 k ∧ wr = w.drewN n) (fun i _ => xs.length - (intOf i).toNat)
  case atStart => exact ⟨0, 0, Nat.zero_le _, rfl, rfl⟩
  case round =>
    obtain ⟨k, n, hk, rfl, rfl⟩ := hrel
    by_cases hlt : k < xs.length
    · have hki : (k : Int) < xs.length := by omega
      obtain ⟨x, hx⟩ := getAt hlt
      obtain ⟨b1, o1, e1, _, cs, rfl, _, h1⟩ := HA.out.at hx
      subst e1
      obtain ⟨b2, o2, e2, _, cs, rfl, _, h2⟩ := HB.out.at hx
      subst e2
      have x1 := h1 0 _ rfl
      have x2 := h2 0 _ rfl
      simp only [Nat.mul_one, Nat.add_zero] at x1 x2
      clear h1 h2 hx
      go_wp2_with fail
      go_quiet (fail)
      go_wp2_with fail
      go_roundw
      case rel => exact ⟨k + 1, _, by omega, by go_num, rfl⟩
      case measure => simp [intOf]; omega
    · obtain rfl : k = xs.length := by omega
      have f1 := decide_eq_false (show ¬ ((xs.length : Nat) : Int) < xs.length by omega)
      have f2 := decide_eq_false (show ¬ xs.length < xs.length by omega)
      go_wp2_with fail
      go_ret
      exact ⟨rfl, n, rfl⟩
end Go.Proofs.Ytohijdopmokkgaa
