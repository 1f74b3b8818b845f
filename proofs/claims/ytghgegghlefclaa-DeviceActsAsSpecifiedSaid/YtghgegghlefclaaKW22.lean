/- Walks: Reboot, in both texts; New; Honest. -/
import Derived.Test.YtghgegghlefclaaKV3
import Derived.Test.YtghgegghlefclaaKW1
set_option linter.unusedVariables false
set_option linter.unusedSimpArgs false
set_option linter.unusedSectionVars false
namespace Go.Proofs.Ytghgegghlefclaa
open Go.RowKit
set_option maxHeartbeats 1000000
set_option maxRecDepth 8000
theorem DevR.reb {w w' : World} {M : Nat → Prop} {d : Dev} {ta qa da la : Option Addr} {tc qc dc lc : Nat} (h : DevR w M d ta tc qa qc da dc la lc) (k : Kept NoM w w') (keep : Bool) :
    DevV w' M (.agg (devC (rebD d keep) (if keep then ta else none) (if keep then tc else 0) none 0 none 0 la lc)) (rebD d keep) := by
  refine ⟨_, _, _, _, _, _, _, _, rfl, ?_, RdS.nil _ _ _ _, RdS.nil _ _ _ _, h.rl.kept k.of_no (fun _ _ x => x)⟩
  cases keep
  · exact RdS.nil _ _ _ _
  · exact h.rt.kept k.of_no (fun _ _ x => x)
def RebP (M : Nat → Prop) (d : Dev) (keep : Bool) (w : World) (e : Ending) (w' : World) : Prop := ∃ v, e = .returned v ∧ DevV w' M v (rebD d keep) ∧ Kept NoM w w'
theorem reb_ok (d : Dev) (ta qa da la : Option Addr) (tc qc dc lc : Nat) (M : Nat → Prop) (keep : Bool) (w : World) (h : DevR w M d ta tc qa qc da dc la lc) : Calls Try.prog 24 #[.agg (devC d ta tc qa qc da dc la lc), .bool keep] w (RebP M d keep w) := by
  have K : ∀ a b, Kept NoM w ((w.alloc a).alloc b) := fun a b => (((Kept.refl NoM w).alloc a).alloc b)
  have HR := Lib.hid (fun w' k => h.reb (w' := w') k keep)
  clear h
  cases keep
  · unfold devC rebD at *
    simp only [Bool.false_eq_true, if_false, List.length_nil] at HR
    go_enter Try.func24, Try.ntmps24
    go_wp2_with fail
    refine bodyPost_ret (v := .agg #[.int .i64 d.room, .int .i64 d.ep, .slice none 0 0, .slice none 0 0, .slice none 0 0, .slice la d.lost.length lc, .bool d.early]) (by simp [results, Try.results24, go_sem]) rfl ?_
    exact ⟨_, rfl, HR.out _ (K _ _), K _ _⟩
  · unfold devC rebD at *
    simp only [if_true, List.length_nil] at HR
    go_enter Try.func24, Try.ntmps24
    go_wp2_with fail
    refine bodyPost_ret (v := .agg #[.int .i64 d.room, .int .i64 d.ep, .slice ta d.table.length tc, .slice none 0 0, .slice none 0 0, .slice la d.lost.length lc, .bool d.early]) (by simp [results, Try.results24, go_sem]) rfl ?_
    exact ⟨_, rfl, HR.out _ (K _ _), K _ _⟩
theorem rreb_ok (d : Dev) (ta qa da la : Option Addr) (tc qc dc lc : Nat) (M : Nat → Prop) (keep : Bool) (w : World) (h : DevR w M d ta tc qa qc da dc la lc) : Calls Try.prog 25 #[.agg (devC d ta tc qa qc da dc la lc), .bool keep] w (RebP M d keep w) := by
  have K : ∀ a b, Kept NoM w ((w.alloc a).alloc b) := fun a b => (((Kept.refl NoM w).alloc a).alloc b)
  have HR := Lib.hid (fun w' k => h.reb (w' := w') k keep)
  clear h
  cases keep
  · unfold devC rebD at *
    simp only [Bool.false_eq_true, if_false, List.length_nil] at HR
    go_enter Try.func25, Try.ntmps25
    go_wp2_with fail
    refine bodyPost_ret (v := .agg #[.int .i64 d.room, .int .i64 d.ep, .slice none 0 0, .slice none 0 0, .slice none 0 0, .slice la d.lost.length lc, .bool d.early]) (by simp [results, Try.results25, go_sem]) rfl ?_
    exact ⟨_, rfl, HR.out _ (K _ _), K _ _⟩
  · unfold devC rebD at *
    simp only [if_true, List.length_nil] at HR
    go_enter Try.func25, Try.ntmps25
    go_wp2_with fail
    refine bodyPost_ret (v := .agg #[.int .i64 d.room, .int .i64 d.ep, .slice ta d.table.length tc, .slice none 0 0, .slice none 0 0, .slice la d.lost.length lc, .bool d.early]) (by simp [results, Try.results25, go_sem]) rfl ?_
    exact ⟨_, rfl, HR.out _ (K _ _), K _ _⟩
theorem honest_ok (d : Dev) (ta qa da la : Option Addr) (tc qc dc lc : Nat) (w : World) : Calls Try.prog 32 #[.agg (devC d ta tc qa qc da dc la lc)] w fun e w' => e = .returned (.bool (!d.early && decide (d.lost.length = 0))) ∧ Kept NoM w w' := by
  have K := Lib.hid ((Kept.refl NoM w).alloc (.cells (devC d ta tc qa qc da dc la lc) 27))
  have HB := blk_new w (.cells (devC d ta tc qa qc da dc la lc) 27)
  have x5 := cell_blk HB 5 _ dv5
  have x6 := cell_blk HB 6 _ dv6
  clear HB
  by_cases h1 : d.lost.length = 0
  all_goals
    have f1 : (d.early : Bool) = d.early := rfl
    cases he : d.early <;> rw [he] at x6
    all_goals
      have HE := Lib.hid he
      clear he f1
      go_enter Try.func32, Try.ntmps32
      go_wp2_with fail
      go_ret
      exact ⟨by simp [h1], K.out⟩
theorem new_ok (w : World) : Calls Try.prog 35 #[.int .i64 2] w fun e w' => e = .returned (.tuple #[.agg (devC ⟨2, 0, [], [], [], [], false⟩ none 0 none 0 none 0 none 0), .int .i64 0]) ∧ Kept NoM w w' := by
  have WI : Hid (∀ wx, Calls Try.prog 70 #[.int .i64 2, .int .i64 0, .int .i64 4000] wx fun e w' => e = .returned (.bool true) ∧ wx = w') := Lib.hid (fun wx => within_ok 2 0 4000 wx)
  unfold devC
  go_enter Try.func35, Try.ntmps35
  go_wp2_with (go_at_call 70; refine (WI.out _).mono ?_; rintro e w1 ⟨rfl, rfl⟩)
  refine bodyPost_ret (v := .tuple #[.agg #[.int .i64 2, .int .i64 0, .slice none 0 0, .slice none 0 0, .slice none 0 0, .slice none 0 0, .bool false], .int .i64 0]) (by simp [results, Try.results35, go_sem]) rfl ?_
  exact ⟨rfl, by first | exact (Kept.refl NoM w).alloc _ | exact ((Kept.refl NoM w).alloc _).alloc _⟩
end Go.Proofs.Ytghgegghlefclaa
