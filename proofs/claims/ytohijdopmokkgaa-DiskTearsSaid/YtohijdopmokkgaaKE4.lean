/- Walks: whether a script is short. -/
import Derived.Test.YtohijdopmokkgaaKE3
set_option linter.unusedVariables false
set_option linter.unusedSimpArgs false
set_option linter.unusedSectionVars false
namespace Go.Proofs.Ytohijdopmokkgaa
open Go.RowKit
set_option maxHeartbeats 2000000
set_option maxRecDepth 4000
/-- the cells of an operation of a script -/
def EOp (w : World) (c : List Value) (x : Op) : Prop := ∃ a pc, c = [.int .i64 x.kind, .int .i64 x.i, .int .i64 x.k, strV x.text, .slice a x.picks.length pc] ∧ RdS w NoM 1 EInt (.slice a x.picks.length pc) x.picks ∧ x.i ≤ 9223372036854775807
/-- a script that came in -/
def RdOps (w : World) (v : Value) (l : List Op) : Prop := RdS w NoM 5 (EOp w) v l
theorem RdOps.kept {w w' : World} {v : Value} {l : List Op} (h : RdOps w v l) (k : Kept NoM w w') : RdOps w' v l :=
  RdS.kept h k fun _ _ ⟨a, pc, h1, h2, h3⟩ => ⟨a, pc, h1, RdS.kept h2 k (fun _ _ x => x), h3⟩
def fewOp (x : Op) : Bool := decide (x.text.length ≤ 300) && decide (x.picks.length ≤ 70)
def fewB (l : List Op) : Bool := l.all fewOp && decide (l.length ≤ 40)
theorem fewB_bad {l : List Op} {k : Nat} {x : Op} (hx : l[k]? = some x) (h : fewOp x = false) : fewB l = false := by
  unfold fewB
  have : l.all fewOp = false := by
    rw [List.all_eq_false]
    exact ⟨x, List.mem_of_getElem? hx, by rw [h]; simp⟩
  rw [this]; rfl
theorem few_ok (v : Value) (l : List Op) (w : World) (h : RdOps w v l) : Calls Try.prog 9 #[v] w fun e w' => e = .returned (.bool (fewB l)) ∧ Kept NoM w w' := by
  obtain ⟨a, cap, rfl, hcap, hmx⟩ := RdS.shape h
  unfold maxLen at hmx
  have HH := Lib.hid h
  clear h
  go_enter Try.func9, Try.ntmps9
  go_wp2_with fail
  go_loopw [7] (fun i wr => ∃ k : Nat, k ≤ l.length ∧ i = .int .i64 k ∧ (∀ j x, j < k → l[j]? = some x → fewOp x = true) ∧ Kept NoM w wr) (fun i _ => l.length - (intOf i).toNat)
  case atStart => exact ⟨0, Nat.zero_le _, rfl, (fun j x hj => by omega), Kept.refl _ _⟩
  case round =>
    obtain ⟨k, hk, rfl, hall, hK⟩ := hrel
    have HALL := Lib.hid hall
    have HK := Lib.hid hK
    clear hall hK
    by_cases hlt : k < l.length
    · have hki : (k : Int) < l.length := by omega
      obtain ⟨x, hx⟩ := getAt hlt
      obtain ⟨b, off, e1, _, cs, ⟨pa, pc, rfl, hrd, hxi⟩, _, hc⟩ := (HH.out.kept HK.out).at hx
      subst e1
      have x0 := hc 0 _ rfl
      have x1 := hc 1 _ rfl
      have x2 := hc 2 _ rfl
      have x3 := hc 3 _ rfl
      have x4 := hc 4 _ rfl
      simp only [Nat.add_zero] at x0
      unfold strV at x3
      have hsz : (⟨x.text.toArray⟩ : ByteArray).size = x.text.length := by simp [ByteArray.size]
      have HX := Lib.hid hx
      clear hc hrd hx hlt
      by_cases h1 : (300 : Int) < x.text.length
      · have hf : fewOp x = false := by unfold fewOp; rw [decide_eq_false (by omega)]; rfl
        have HF := Lib.hid (fewB_bad HX.out hf)
        clear hf
        go_wp2_with fail
        go_ret
        exact ⟨ret_bool HF.out.symm, HK.out.alloc _⟩
      · have t1 : decide ((300 : Int) < x.text.length) = false := decide_eq_false h1
        have t1n : decide (300 < x.text.length) = false := decide_eq_false (by omega)
        by_cases h2 : (70 : Int) < x.picks.length
        · have hf : fewOp x = false := by unfold fewOp; rw [decide_eq_false (p := x.picks.length ≤ 70) (by omega)]; simp
          have HF := Lib.hid (fewB_bad HX.out hf)
          clear hf
          go_wp2_with fail
          go_ret
          exact ⟨ret_bool HF.out.symm, HK.out.alloc _⟩
        · have t2 : decide ((70 : Int) < x.picks.length) = false := decide_eq_false h2
          have t2n : decide (70 < x.picks.length) = false := decide_eq_false (by omega)
          have hf : fewOp x = true := by unfold fewOp; rw [decide_eq_true (by omega), decide_eq_true (by omega)]; rfl
          have HF := Lib.hid hf
          clear hf
          go_wp2_with fail
          go_roundw
          case rel =>
            refine ⟨k + 1, by omega, by go_num, fun j y hj hy => ?_, HK.out.alloc _⟩
            by_cases hjk : j = k
            · subst hjk; rw [HX.out] at hy; cases hy; exact HF.out
            · exact HALL.out j y (by omega) hy
          case measure => simp [intOf]; omega
    · obtain rfl : k = l.length := by omega
      have f1 := decide_eq_false (show ¬ ((l.length : Nat) : Int) < l.length by omega)
      have f2 := decide_eq_false (show ¬ l.length < l.length by omega)
      have hb : fewB l = decide ((l.length : Int) ≤ 40) := by
        unfold fewB
        have : l.all fewOp = true := List.all_eq_true.2 fun x hx => by
          obtain ⟨j, hj, rfl⟩ := List.getElem_of_mem hx
          exact HALL.out j _ hj (by simp [hj])
        rw [this, Bool.true_and]
        congr 1
        simp
        omega
      have HB := Lib.hid hb
      clear hb
      go_wp2_with fail
      go_ret
      exact ⟨ret_bool HB.out.symm, HK.out⟩
end Go.Proofs.Ytohijdopmokkgaa
