/- Walk: the law of Admit. -/
import Derived.Test.YtgohploghbimlaaDoorKQH
import Derived.Test.YtgohploghbimlaaDoorKWA
set_option linter.unusedVariables false
set_option linter.unusedSimpArgs false
set_option linter.unusedSectionVars false
namespace Go.Proofs.YtgohploghbimlaaDoor
open Go.RowKit
set_option maxHeartbeats 1000000
set_option maxRecDepth 4000

/-- the cells of a slice that came in, where it has an element -/
def AtInts (w : World) (k : IntKind) (a : Option Addr) (xs : List Int) : Prop := ∀ i x, xs[i]? = some x → ∃ b off, a = some ⟨b, off, none⟩ ∧ w.cell? ⟨b, off + i, none⟩ = some (.int k x)

theorem admits_ok (gate : Int) (a : Option Addr) (cap : Nat) (xs : List Int) (w : World) (hx : AtInts w .i64 a xs) :
    Calls Tryd.prog 6 #[.int .i64 gate, .slice a xs.length cap] w fun e w' => e = .returned (.bool true) ∧ Kept NoM w w' := by
  by_cases hl : (50 : Int) < xs.length
  · go_enter Tryd.func6, Tryd.ntmps6
    go_wp2_with fail
    refine (sanity_ok _).mono ?_
    rintro e w1 ⟨rfl, k1⟩
    go_wp2_with fail
    go_ret
    exact ⟨rfl, k1⟩
  · have t1 : decide ((50 : Int) < xs.length) = false := decide_eq_false hl
    have HX := Lib.hid hx
    clear hx
    go_enter Tryd.func6, Tryd.ntmps6
    go_wp2_with fail
    go_loopw [0, 5] (fun g i wr => ∃ k : Nat, k ≤ xs.length ∧ i = .int .i64 k ∧ ∃ y, g = .int .i64 y ∧ wr = w) (fun _ i _ => xs.length - (intOf i).toNat)
    case atStart => exact ⟨0, Nat.zero_le _, rfl, gate, rfl, rfl⟩
    case round =>
      obtain ⟨k, hk, rfl, y, rfl, rfl⟩ := hrel
      by_cases hlt : k < xs.length
      · obtain ⟨x, hx⟩ := get_at hlt
        obtain ⟨b, off, rfl, hc⟩ := HX.out k x hx
        have hki : (k : Int) < xs.length := by omega
        clear hlt hx
        by_cases h : x < y
        · have u2 : decide (y ≤ x) = false := decide_eq_false (by omega)
          go_wp2_with (go_at_call 17; refine (admit_lt y x h _).mono ?_; rintro e w' ⟨rfl, rfl⟩)
          go_roundw
          case rel => exact ⟨k + 1, by omega, by go_num, y, rfl, trivial⟩
          case measure => simp [intOf]; omega
        · have u1 : decide (x < y) = false := decide_eq_false h
          go_wp2_with (go_at_call 17; refine (admit_ge y x h _).mono ?_; rintro e w' ⟨rfl, rfl⟩)
          go_roundw
          case rel => exact ⟨k + 1, by omega, by go_num, x, rfl, trivial⟩
          case measure => simp [intOf]; omega
      · obtain rfl : k = xs.length := by omega
        go_wp2_with fail
        refine (sanity_ok _).mono ?_
        rintro e w1 ⟨rfl, k1⟩
        go_wp2_with fail
        go_ret
        exact ⟨rfl, k1⟩
end Go.Proofs.YtgohploghbimlaaDoor
