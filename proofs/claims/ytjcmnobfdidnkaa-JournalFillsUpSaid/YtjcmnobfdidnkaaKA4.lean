/- Walks: Read, Write of the program's disk. -/
import Derived.Test.YtjcmnobfdidnkaaKA3
set_option linter.unusedVariables false
set_option linter.unusedSimpArgs false
set_option linter.unusedSectionVars false
namespace Go.Proofs.Ytjcmnobfdidnkaa
open Go.RowKit
set_option maxHeartbeats 1000000
set_option maxRecDepth 4000
variable {D G B : Nat} {d : Dk}
theorem ret_se {a a' : Pg} {b b' : Int} (h : a = a') (h' : b = b') : Ending.returned (.tuple #[strV a, .int .i64 b]) = .returned (.tuple #[strV a', .int .i64 b']) := by rw [h, h']
theorem read_ok (i : Int) (w : World) (h : PD w D G B d) : Calls Try.prog 34 #[.pointer (some ⟨D, 0, none⟩), .int .i64 i] w fun e w' => e = .returned (.tuple #[strV (d.readS i), .int .i64 (d.readE i)]) ∧ Kept NoM w w' := by
  have HH := Lib.hid h
  obtain ⟨cap, hD, hC, _⟩ := h
  have c2 := cell_blk hD 2 _ rfl
  have HW := Lib.hid hC.wf
  clear hD hC
  cases ho : d.off with
  | true =>
    have c2' : w.cell? ⟨D, 2, none⟩ = some (.bool true) := by rw [← ho]; exact c2
    have e1 : d.readS i = [] := by unfold Dk.readS; rw [ho]; rfl
    have e2 : d.readE i = 13 := by unfold Dk.readE; rw [ho]; rfl
    have E1 := Lib.hid e1
    have E2 := Lib.hid e2
    clear e1 e2 ho c2
    go_enter Try.func34, Try.ntmps34
    go_wp2_with fail
    go_ret2
    exact ⟨ret_se E1.out.symm E2.out.symm, Kept.refl _ _⟩
  | false =>
    have c2' : w.cell? ⟨D, 2, none⟩ = some (.bool false) := by rw [← ho]; exact c2
    cases hi : d.is i with
    | false =>
      have e1 : d.readS i = [] := by unfold Dk.readS; rw [ho, hi]; rfl
      have e2 : d.readE i = 1 := by unfold Dk.readE; rw [ho, hi]; rfl
      have E1 := Lib.hid e1
      have E2 := Lib.hid e2
      have HI := Lib.hid hi
      clear e1 e2 ho c2 hi
      go_enter Try.func34, Try.ntmps34
      go_wp2_with (go_at_call 48; refine (is_ok _ _ HH.out).mono ?_; rintro e w' ⟨rfl, rfl⟩; rw [HI.out])
      go_ret2
      exact ⟨ret_se E1.out.symm E2.out.symm, Kept.refl _ _⟩
    | true =>
      obtain ⟨h1, h2⟩ := Dk.is_iff.1 hi
      obtain ⟨k, rfl⟩ := Int.eq_ofNat_of_zero_le h1
      have e1 : d.readS k = d.now k := by unfold Dk.readS; rw [ho, hi]; rfl
      have e2 : d.readE k = 0 := by unfold Dk.readE; rw [ho, hi]; rfl
      have E1 := Lib.hid e1
      have E2 := Lib.hid e2
      have HI := Lib.hid hi
      have hk : k < d.n := by omega
      clear e1 e2 ho c2 hi
      go_enter Try.func34, Try.ntmps34
      go_wp2_with (first | (go_at_call 48; refine (is_ok _ _ HH.out).mono ?_; rintro e w' ⟨rfl, rfl⟩; rw [HI.out]) | (go_at_call 49; refine (now_ok k hk _ HH.out).mono ?_; rintro e w1 ⟨rfl, k1⟩) | (go_at_call 50; refine (text_ok _ (HW.out.now_len hk) _).mono ?_; rintro e w2 ⟨rfl, rfl⟩))
      go_ret2
      exact ⟨ret_se E1.out.symm E2.out.symm, k1.alloc _⟩
theorem ret_e {b b' : Int} (h' : b = b') : Ending.returned (.int .i64 b) = .returned (.int .i64 b') := by rw [h']
/-- the write has not gone through: the disk is as it was, or down -/
theorem write_down (i k : Int) (s : Pg) (w : World) (h : PD w D G B d) (ho : d.off = true) : Calls Try.prog 58 #[.pointer (some ⟨D, 0, none⟩), .int .i64 i, .int .i64 k, strV s] w fun e w' => e = .returned (.int .i64 (d.writeE i k s)) ∧ PD w' D G B (d.write i k s) ∧ Kept (InD D G B) w w' := by
  have HH := Lib.hid h
  obtain ⟨cap, hD, hC, _⟩ := h
  have c2 := cell_blk hD 2 _ rfl
  clear hD hC
  have c2' : w.cell? ⟨D, 2, none⟩ = some (.bool true) := by rw [← ho]; exact c2
  have e1 : d.writeE i k s = 13 := by unfold Dk.writeE; rw [ho]; rfl
  have e2 : d.write i k s = d := by unfold Dk.write; rw [ho]; rfl
  have E1 := Lib.hid e1
  have E2 := Lib.hid e2
  clear e1 e2 ho c2
  unfold strV
  go_enter Try.func58, Try.ntmps58
  go_wp2_with fail
  go_ret
  exact ⟨ret_e E1.out.symm, by rw [E2.out]; exact HH.out, Kept.refl _ _⟩
theorem write_bad (i k : Int) (s : Pg) (w : World) (h : PD w D G B d) (ho : d.off = false) (hw : d.wok i k s = false) (hs : s.length ≤ 1000000) : Calls Try.prog 58 #[.pointer (some ⟨D, 0, none⟩), .int .i64 i, .int .i64 k, strV s] w fun e w' => e = .returned (.int .i64 (d.writeE i k s)) ∧ PD w' D G B (d.write i k s) ∧ Kept (InD D G B) w w' := by
  have HH := Lib.hid h
  obtain ⟨cap, hD, hC, _⟩ := h
  have c2 := cell_blk hD 2 _ rfl
  clear hD hC
  have c2' : w.cell? ⟨D, 2, none⟩ = some (.bool false) := by rw [← ho]; exact c2
  have e1 : d.writeE i k s = 1 := by unfold Dk.writeE; rw [ho, hw]; rfl
  have e2 : d.write i k s = d := by unfold Dk.write; rw [ho, hw]; rfl
  have E1 := Lib.hid e1
  have E2 := Lib.hid e2
  have hsz : (⟨s.toArray⟩ : ByteArray).size = s.length := by simp [ByteArray.size]
  have HW := Lib.hid hw
  clear e1 e2 ho c2 hw
  cases hi : d.is i with
  | false =>
    have HI := Lib.hid hi
    clear hi
    unfold strV
    go_enter Try.func58, Try.ntmps58
    go_wp2_with (go_at_call 48; refine (is_ok _ _ HH.out).mono ?_; rintro e w' ⟨rfl, rfl⟩; rw [HI.out])
    go_ret
    exact ⟨ret_e E1.out.symm, by rw [E2.out]; exact HH.out, Kept.refl _ _⟩
  | true =>
    have HI := Lib.hid hi
    by_cases h1 : k < 0
    · clear hi
      unfold strV
      go_enter Try.func58, Try.ntmps58
      go_wp2_with (go_at_call 48; refine (is_ok _ _ HH.out).mono ?_; rintro e w' ⟨rfl, rfl⟩; rw [HI.out])
      go_ret
      exact ⟨ret_e E1.out.symm, by rw [E2.out]; exact HH.out, Kept.refl _ _⟩
    have t1 : decide (k < 0) = false := decide_eq_false h1
    by_cases h2 : (128 : Int) < k
    · clear hi
      unfold strV
      go_enter Try.func58, Try.ntmps58
      go_wp2_with (go_at_call 48; refine (is_ok _ _ HH.out).mono ?_; rintro e w' ⟨rfl, rfl⟩; rw [HI.out])
      go_ret
      exact ⟨ret_e E1.out.symm, by rw [E2.out]; exact HH.out, Kept.refl _ _⟩
    have t2 : decide ((128 : Int) < k) = false := decide_eq_false h2
    have h3 : 128 - k < (s.length : Int) := by
      by_cases h : 128 - k < (s.length : Int)
      · exact h
      · have := (Dk.wok_iff (d := d) (i := i) (k := k) (s := s)).2 ⟨Dk.is_iff.1 hi, by omega, by omega, by omega⟩
        rw [HW.out] at this; cases this
    clear hi
    have hk0 : 0 ≤ k := by omega
    have hk1 : k ≤ 128 := by omega
    unfold strV
    go_enter Try.func58, Try.ntmps58
    go_wp2_with (go_at_call 48; refine (is_ok _ _ HH.out).mono ?_; rintro e w' ⟨rfl, rfl⟩; rw [HI.out])
    go_ret
    exact ⟨ret_e E1.out.symm, by rw [E2.out]; exact HH.out, Kept.refl _ _⟩
end Go.Proofs.Ytjcmnobfdidnkaa
