/- Walks: Flush and the lists of the specification's disk. -/
import Derived.Test.YtohijdopmokkgaaKB4
set_option linter.unusedVariables false
set_option linter.unusedSimpArgs false
set_option linter.unusedSectionVars false
namespace Go.Proofs.Ytohijdopmokkgaa
open Go.RowKit
set_option maxHeartbeats 4000000
set_option maxRecDepth 4000
variable {R Q : Nat} {d : Dk}
/-- settling the page k -/
theorem Dk.upto_succ (h : d.WF) {k : Nat} (hk : k < d.n) : (d.upto k).settle1 k 128 = d.upto (k + 1) := by
  have e1 : (d.upto k).pn k = d.pn k := by unfold Dk.upto; rw [Dk.at_pn _ _ hk, if_neg (Nat.lt_irrefl _)]
  have e2 : (d.upto k).pg k = d.pg k := by unfold Dk.upto; rw [Dk.at_pg _ _ hk, if_neg (Nat.lt_irrefl _)]
  have key : ∀ (f g : Nat → Pg) (a b : Nat → Option Pg), (∀ i, i < d.n → f i = g i) → (∀ i, i < d.n → a i = b i) → d.at_ f a = d.at_ g b := fun f g a b h1 h2 => by
    unfold Dk.at_; rw [map_range_congr h1, map_range_congr h2]
  unfold Dk.settle1
  rw [e1, e2]
  cases hp : d.pn k with
  | none =>
    refine key _ _ _ _ (fun i hi => ?_) (fun i hi => ?_)
    · by_cases h1 : i < k
      · rw [if_pos h1, if_pos (by omega)]
      · rw [if_neg h1]
        by_cases h2 : i < k + 1
        · obtain rfl : i = k := by omega
          rw [if_pos h2]; unfold Dk.now; rw [hp]; rfl
        · rw [if_neg h2]
    · by_cases h1 : i < k
      · rw [if_pos h1, if_pos (by omega)]
      · rw [if_neg h1]
        by_cases h2 : i < k + 1
        · obtain rfl : i = k := by omega
          rw [if_pos h2, hp]
        · rw [if_neg h2]
  | some p =>
    have hpl := (h.pn_len hp).1
    have hgl := (h.pg_len hk).1
    have e3 : p.take 128 ++ (d.pg k).drop 128 = d.now k := by
      rw [List.take_of_length_le (by omega), List.drop_eq_nil_of_le (by omega), List.append_nil]
      unfold Dk.now; rw [hp]; rfl
    simp only [e3]
    show Dk.mk (((List.range d.n).map _).set k _) (((List.range d.n).map _).set k none) _ _ = Dk.mk ((List.range d.n).map _) ((List.range d.n).map _) _ _
    rw [map_set_range, map_set_range]
    congr 1
    · refine map_range_congr fun i hi => ?_
      by_cases h1 : i = k
      · subst h1; rw [if_pos rfl, if_pos (by omega)]
      · rw [if_neg h1]
        by_cases h2 : i < k
        · rw [if_pos h2, if_pos (by omega)]
        · rw [if_neg h2, if_neg (by omega)]
    · refine map_range_congr fun i hi => ?_
      by_cases h1 : i = k
      · subst h1; rw [if_pos rfl, if_pos (by omega)]
      · rw [if_neg h1]
        by_cases h2 : i < k
        · rw [if_pos h2, if_pos (by omega)]
        · rw [if_neg h2, if_neg (by omega)]
theorem settle1_none {i m : Nat} (hp : d.pn i = none) : d.settle1 i m = d := by unfold Dk.settle1; rw [hp]
/-- settle, whatever is pending -/
theorem rsettle_ok (i : Nat) (x : Int) (m : Nat) (hx : (x < 0 ∧ m = 0) ∨ (128 < x ∧ m = 128) ∨ (x = m ∧ m ≤ 128)) (hi : i < d.n) (w : World) (h : SD w R Q d) :
    Calls Try.prog 53 #[.pointer (some ⟨R, 0, none⟩), .int .i64 i, .int .i64 x] w fun e w' => e = .returned (.tuple #[]) ∧ SD w' R Q (d.settle1 i m) ∧ Kept (InS R Q) w w' := by
  cases hp : d.pn i with
  | none =>
    refine (rsettle_none i x hi hp w h).mono ?_
    rintro e w' ⟨rfl, rfl⟩
    exact ⟨rfl, by rw [settle1_none hp]; exact h, Kept.refl _ _⟩
  | some p => exact rsettle_some i x m hx hi hp w h
theorem rflush_ok (w : World) (h : SD w R Q d) : Calls Try.prog 35 #[.pointer (some ⟨R, 0, none⟩)] w fun e w' => e = .returned (.int .i64 d.flushE) ∧ SD w' R Q d.flush ∧ Kept (InS R Q) w w' := by
  have HH := Lib.hid h
  have hwf := h.wf
  have hn4 := h.n_hi
  obtain ⟨cap, c0, c1, c2⟩ := h.cells
  cases ho : d.off with
  | true =>
    rw [ho] at c1
    have e1 : d.flushE = 13 := by unfold Dk.flushE; rw [ho]; rfl
    have e2 : d.flush = d := by unfold Dk.flush; rw [ho]; rfl
    have E1 := Lib.hid e1
    have E2 := Lib.hid e2
    clear e1 e2 ho c0 c2 h hwf
    go_enter Try.func35, Try.ntmps35
    go_wp2_with fail
    go_ret
    exact ⟨ret_e' E1.out.symm, by rw [E2.out]; exact HH.out, Kept.refl _ _⟩
  | false =>
    rw [ho] at c1
    by_cases ht : d.trip = 0
    · have e1 : d.flushE = 13 := by unfold Dk.flushE Dk.stepE; rw [ho, ht]; rfl
      have e2 : d.flush = d.step := by unfold Dk.flush; rw [ho, if_pos ht]; rfl
      have e3 : d.stepE = 13 := by unfold Dk.stepE; rw [if_pos ht]
      have E1 := Lib.hid e1
      have E2 := Lib.hid e2
      have E3 := Lib.hid e3
      clear e1 e2 e3 ho c0 c2 h hwf ht
      go_enter Try.func35, Try.ntmps35
      go_wp2_with (go_at_call 52; refine (rstep_ok _ HH.out).mono ?_; rintro e w1 ⟨rfl, p1, k1⟩; rw [E3.out])
      go_ret
      exact ⟨ret_e' E1.out.symm, by rw [E2.out]; exact p1, k1⟩
    · have e1 : d.flushE = 0 := by unfold Dk.flushE Dk.stepE; rw [ho, if_neg ht]; rfl
      have e2 : d.flush = d.step.settled := by unfold Dk.flush; rw [ho, if_neg ht]; rfl
      have e3 : d.stepE = 0 := by unfold Dk.stepE; rw [if_neg ht]
      have hwf' := hwf.step
      have HWF := Lib.hid hwf'
      have hu0 := hwf'.upto0
      have HU0 := Lib.hid hu0
      have E1 := Lib.hid e1
      have E2 := Lib.hid e2
      have E3 := Lib.hid e3
      have hn : d.step.n = d.n := Dk.n_step d
      have HN := Lib.hid hn
      clear e1 e2 e3 ho c0 c2 h hwf ht hwf' hu0 hn
      go_enter Try.func35, Try.ntmps35
      go_wp2_with (go_at_call 52; refine (rstep_ok _ HH.out).mono ?_; rintro e w1 ⟨rfl, p1, k1⟩; rw [E3.out]; have P1 := Lib.hid p1; have K1 := Lib.hid k1; clear p1 k1)
      go_loopw [4] (fun i wr => ∃ k : Nat, k ≤ d.n ∧ i = .int .i64 k ∧ SD wr R Q (d.step.upto k) ∧ Kept (InS R Q) w wr) (fun i _ => d.n - (intOf i).toNat)
      case atStart => exact ⟨0, Nat.zero_le _, rfl, by rw [HU0.out]; exact P1.out, K1.out⟩
      case round =>
        obtain ⟨k, hk, rfl, hS, hK⟩ := hrel
        have HS := Lib.hid hS
        have HK := Lib.hid hK
        obtain ⟨cap1, d0, _, _⟩ := hS.cells
        have hun : (d.step.upto k).n = d.n := by unfold Dk.upto; rw [Dk.at_n, HN.out]
        rw [hun] at d0
        have HUN := Lib.hid hun
        clear hS hK hun
        by_cases hlt : k < d.n
        · have hki : (k : Int) < d.n := by omega
          go_wp2_with (go_at_call 53; refine (rsettle_ok k 128 128 (.inr (.inr ⟨rfl, Nat.le_refl _⟩)) (by rw [HUN.out]; exact hlt) _ HS.out).mono ?_; rintro e w2 ⟨rfl, p2, k2⟩)
          rw [Dk.upto_succ HWF.out (by rw [HN.out]; exact hlt)] at p2
          have P2 := Lib.hid p2
          have K2 := Lib.hid (HK.out.trans k2)
          clear p2 k2
          go_roundw
          case rel => exact ⟨k + 1, by omega, by go_num, P2.out, K2.out⟩
          case measure => simp [intOf]; omega
        · obtain rfl : k = d.n := by omega
          have f1 := decide_eq_false (show ¬ ((d.n : Nat) : Int) < d.n by omega)
          have f2 := decide_eq_false (show ¬ d.n < d.n by omega)
          go_wp2_with fail
          go_ret
          refine ⟨ret_e' E1.out.symm, ?_, HK.out⟩
          rw [E2.out]
          have := HS.out
          rw [show d.n = d.step.n from HN.out.symm, Dk.upto_n] at this
          exact this
end Go.Proofs.Ytohijdopmokkgaa
