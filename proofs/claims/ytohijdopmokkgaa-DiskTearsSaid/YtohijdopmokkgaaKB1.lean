/- Walks: the small methods of the specification's disk. -/
import Derived.Test.YtohijdopmokkgaaKA1
set_option linter.unusedVariables false
set_option linter.unusedSimpArgs false
set_option linter.unusedSectionVars false
namespace Go.Proofs.Ytohijdopmokkgaa
open Go.RowKit
set_option maxHeartbeats 1000000
set_option maxRecDepth 4000
section
variable {w w' : World} {R Q cap : Nat} {d : Dk}
theorem SD.n_hi (h : SD w R Q d) : 0 < d.n ∧ d.n ≤ 4096 := by obtain ⟨_, _, _, _, h1, h2, _⟩ := h; exact ⟨h1, h2⟩
theorem SD.ne (h : SD w R Q d) : R ≠ Q := by obtain ⟨_, _, _, _, _, _, h⟩ := h; exact h
theorem SD.cells (h : SD w R Q d) : ∃ cap, w.cell? ⟨R, 0, none⟩ = some (.slice (some ⟨Q, 0, none⟩) d.n cap) ∧ w.cell? ⟨R, 1, none⟩ = some (.bool d.off) ∧ w.cell? ⟨R, 2, none⟩ = some (.int .i64 d.trip) := by
  obtain ⟨cap, h, _⟩ := h
  exact ⟨cap, cell_blk h 0 _ rfl, cell_blk h 1 _ rfl, cell_blk h 2 _ rfl⟩
theorem spOf_at {i : Nat} (hi : i < d.n) : (spOf d)[i]? = some (d.pg i, d.pn i) := by
  unfold spOf; rw [List.getElem?_map, List.getElem?_range hi]; rfl
theorem spOf_len : (spOf d).length = d.n := by simp [spOf]
/-- a page's cells -/
theorem SD.row (h : SD w R Q d) {i : Nat} (hi : i < d.n) : w.cell? ⟨Q, i * 3, none⟩ = some (strV (d.pg i)) ∧ w.cell? ⟨Q, i * 3 + 1, none⟩ = some (strV ((d.pn i).getD [])) ∧ w.cell? ⟨Q, i * 3 + 2, none⟩ = some (.bool (d.pn i).isSome) := by
  obtain ⟨cap, _, hO, _⟩ := h
  obtain ⟨b, off, cs, e0, _, hcs, hcl, hr⟩ := (hO.rd (M := NoM) (fun _ _ x => x)).range (spOf_at hi)
  simp only [Option.some.injEq, Addr.mk.injEq] at e0
  obtain ⟨rfl, rfl, _⟩ := e0
  obtain rfl : cs = _ := hcs
  have h0 := hr 0 _ rfl
  have h1 := hr 1 _ rfl
  have h2 := hr 2 _ rfl
  rw [Nat.zero_add] at h0 h1 h2
  exact ⟨h0, h1, h2⟩
/-- the same pages, another state of the power -/
theorem SD.turn {w0 : World} (hR : R < w0.heap.size) (hne : R ≠ Q) (hO : OwnS w0 (some Q) 53 3 ESp (.slice (some ⟨Q, 0, none⟩) d.n cap) (spOf d)) {d' : Dk} (hp : d'.pages = d.pages) (hq : d'.pend = d.pend) (hw : d'.WF) (h0 : 0 < d.n) (h1 : d.n ≤ 4096) :
    SD (putB w0 R #[.slice (some ⟨Q, 0, none⟩) d.n cap, .bool d'.off, .int .i64 d'.trip] 56) R Q d' := by
  have hn : d'.n = d.n := by unfold Dk.n; rw [hp]
  have hs : spOf d' = spOf d := by
    unfold spOf
    rw [hn]
    refine map_range_congr fun i _ => ?_
    unfold Dk.pg Dk.pn
    rw [hp, hq]
  refine ⟨cap, ?_, ?_, hw, by rw [hn]; exact h0, by rw [hn]; exact h1, hne⟩
  · rw [hn]; exact putB_blk _ _ _ _ hR
  · rw [hn, hs]; exact hO.kept (keptD (M := fun k => k = R) rfl _ _) (fun g hg e => by cases hg; exact hne e.symm) (fun _ _ x => x)
theorem SD.opn (h : SD w R Q d) : ∃ w0 cap, w = putB w0 R #[.slice (some ⟨Q, 0, none⟩) d.n cap, .bool d.off, .int .i64 d.trip] 56 ∧ R < w0.heap.size ∧ OwnS w0 (some Q) 53 3 ESp (.slice (some ⟨Q, 0, none⟩) d.n cap) (spOf d) ∧ Kept (fun k => k = R) w w0 := by
  obtain ⟨cap, h1, h2, _⟩ := h
  exact ⟨w, cap, putB_self h1, lt_of_block h1, h2, Kept.refl _ _⟩
end
variable {R Q : Nat} {d : Dk}
theorem ret_e' {b b' : Int} (h' : b = b') : Ending.returned (.int .i64 b) = .returned (.int .i64 b') := by rw [h']
theorem ret_se' {a a' : Pg} {b b' : Int} (h : a = a') (h' : b = b') : Ending.returned (.tuple #[strV a, .int .i64 b]) = .returned (.tuple #[strV a', .int .i64 b']) := by rw [h, h']
theorem rup_ok (w : World) (h : SD w R Q d) : Calls Try.prog 40 #[.pointer (some ⟨R, 0, none⟩)] w fun e w' => e = .returned (.bool (!d.off)) ∧ w = w' := by
  obtain ⟨cap, c0, c1, c2⟩ := h.cells
  go_enter Try.func40, Try.ntmps40
  go_wp2_with fail
  go_ret
  exact ⟨rfl, rfl⟩
theorem rlen_ok (w : World) (h : SD w R Q d) : Calls Try.prog 39 #[.pointer (some ⟨R, 0, none⟩)] w fun e w' => e = .returned (.int .i64 d.n) ∧ w = w' := by
  obtain ⟨cap, c0, c1, c2⟩ := h.cells
  go_enter Try.func39, Try.ntmps39
  go_wp2_with fail
  go_ret
  exact ⟨rfl, rfl⟩
theorem ris_ok (i : Int) (w : World) (h : SD w R Q d) : Calls Try.prog 50 #[.pointer (some ⟨R, 0, none⟩), .int .i64 i] w fun e w' => e = .returned (.bool (d.is i)) ∧ w = w' := by
  have hn := h.n_hi
  obtain ⟨cap, c0, c1, c2⟩ := h.cells
  clear c1 c2
  by_cases h1 : 0 ≤ i
  · have e1 : d.is i = decide (i < (d.n : Int)) := by simp [Dk.is, h1]
    have E1 := Lib.hid e1
    clear e1
    go_enter Try.func50, Try.ntmps50
    go_wp2_with fail
    go_ret
    exact ⟨ret_bool E1.out.symm, rfl⟩
  · have e1 : d.is i = false := by simp [Dk.is, h1]
    have E1 := Lib.hid e1
    have h2 : decide (0 ≤ i) = false := decide_eq_false h1
    clear e1
    go_enter Try.func50, Try.ntmps50
    go_wp2_with fail
    go_ret
    exact ⟨ret_bool E1.out.symm, rfl⟩
theorem rstep_ok (w : World) (h : SD w R Q d) : Calls Try.prog 52 #[.pointer (some ⟨R, 0, none⟩)] w fun e w' => e = .returned (.int .i64 d.stepE) ∧ SD w' R Q d.step ∧ Kept (InS R Q) w w' := by
  have hwf := h.wf
  have HH := Lib.hid h
  have hn := h.n_hi
  have HNE := Lib.hid h.ne
  obtain ⟨w0, cap, rfl, zD, hC, _⟩ := h.opn
  have hlo := hwf.lo
  have hhi := hwf.hi
  have H0 := Lib.hid hC
  have hst := hwf.step
  have HS := Lib.hid hst
  clear h hC hst hwf
  by_cases h0 : d.trip = 0
  · have e1 : d.stepE = 13 := by unfold Dk.stepE; rw [if_pos h0]
    have e2 : d.step = { d with off := true } := by unfold Dk.step; rw [if_pos h0]
    rw [e2] at HS
    have E1 := Lib.hid e1
    have E2 := Lib.hid e2
    clear e1 e2
    go_enter Try.func52, Try.ntmps52
    go_wp2_with fail
    go_ret
    refine ⟨ret_e' E1.out.symm, ?_, ?_⟩
    · rw [E2.out]; rw [← h0]; exact SD.turn (d' := { d with off := true }) zD HNE.out H0.out rfl rfl HS.out hn.1 hn.2
    · exact (keptD (M := InS R Q) (.inl rfl) _ _).offB (.inl rfl)
  · have t0 : (d.trip == 0) = false := by simpa using h0
    have e1 : d.stepE = 0 := by unfold Dk.stepE; rw [if_neg h0]
    by_cases h1 : 0 < d.trip
    · have e2 : d.step = { d with trip := d.trip - 1 } := by unfold Dk.step; rw [if_neg h0, if_pos h1]
      rw [e2] at HS
      have E1 := Lib.hid e1
      have E2 := Lib.hid e2
      clear e1 e2
      go_enter Try.func52, Try.ntmps52
      go_wp2_with fail
      go_ret
      refine ⟨ret_e' E1.out.symm, ?_, ?_⟩
      · rw [E2.out]; exact SD.turn (d' := { d with trip := d.trip - 1 }) zD HNE.out H0.out rfl rfl HS.out hn.1 hn.2
      · exact (keptD (M := InS R Q) (.inl rfl) _ _).offB (.inl rfl)
    · have e2 : d.step = d := by unfold Dk.step; rw [if_neg h0, if_neg h1]
      have E1 := Lib.hid e1
      have E2 := Lib.hid e2
      clear e1 e2
      go_enter Try.func52, Try.ntmps52
      go_wp2_with fail
      go_ret
      refine ⟨ret_e' E1.out.symm, ?_, ?_⟩
      · rw [E2.out]; exact HH.out
      · exact Kept.refl _ _
theorem rtrip_ok (k : Int) (hk : k ≤ 9223372036854775807) (w : World) (h : SD w R Q d) : Calls Try.prog 36 #[.pointer (some ⟨R, 0, none⟩), .int .i64 k] w fun e w' => e = .returned (.tuple #[]) ∧ SD w' R Q (d.doTrip k) ∧ Kept (InS R Q) w w' := by
  have hwf := h.wf
  have hn := h.n_hi
  have HNE := Lib.hid h.ne
  obtain ⟨w0, cap, rfl, zD, hC, _⟩ := h.opn
  have H0 := Lib.hid hC
  have HS := Lib.hid (hwf.doTrip hk)
  clear h hC hwf
  by_cases h1 : k < -1
  · have e2 : d.doTrip k = { d with trip := -1 } := by unfold Dk.doTrip; congr 1; omega
    rw [e2] at HS
    have E2 := Lib.hid e2
    clear e2
    go_enter Try.func36, Try.ntmps36
    go_wp2_with fail
    all_goals first | (exfalso; omega) | skip
    go_end0
    refine ⟨rfl, ?_, ?_⟩
    · rw [E2.out]; exact SD.turn (d' := { d with trip := -1 }) zD HNE.out H0.out rfl rfl HS.out hn.1 hn.2
    · exact (keptD (M := InS R Q) (.inl rfl) _ _).offB (.inl rfl)
  · have e2 : d.doTrip k = { d with trip := k } := by unfold Dk.doTrip; congr 1; omega
    have t1 : decide (k < -1) = false := decide_eq_false h1
    by_cases h9 : k = -1
    · subst h9
      rw [e2] at HS
      have E2 := Lib.hid e2
      clear e2
      go_enter Try.func36, Try.ntmps36
      go_wp2_with fail
      go_end0
      refine ⟨rfl, ?_, ?_⟩
      · rw [E2.out]; exact SD.turn (d' := { d with trip := -1 }) zD HNE.out H0.out rfl rfl HS.out hn.1 hn.2
      · exact (keptD (M := InS R Q) (.inl rfl) _ _).offB (.inl rfl)
    · have h2 : -1 < k := by omega
      rw [e2] at HS
      have E2 := Lib.hid e2
      clear e2
      go_enter Try.func36, Try.ntmps36
      go_wp2_with fail
      go_end0
      refine ⟨rfl, ?_, ?_⟩
      · rw [E2.out]; exact SD.turn (d' := { d with trip := k }) zD HNE.out H0.out rfl rfl HS.out hn.1 hn.2
      · exact (keptD (M := InS R Q) (.inl rfl) _ _).offB (.inl rfl)
theorem ret_str {a a' : Pg} (h : a = a') : Ending.returned (strV a) = .returned (strV a') := by rw [h]
theorem rnow_ok (i : Nat) (hi : i < d.n) (w : World) (h : SD w R Q d) : Calls Try.prog 51 #[.pointer (some ⟨R, 0, none⟩), .int .i64 i] w fun e w' => e = .returned (strV (d.now i)) ∧ w = w' := by
  have hn := h.n_hi
  obtain ⟨cap, c0, c1, c2⟩ := h.cells
  obtain ⟨r0, r1, r2⟩ := h.row hi
  have hki : (i : Int) < d.n := by omega
  clear c1 c2
  cases hp : d.pn i with
  | none =>
    have hnow : d.now i = d.pg i := by unfold Dk.now; rw [hp]; rfl
    have HN := Lib.hid hnow
    rw [hp] at r1 r2
    simp only [Option.getD_none, Option.isSome_none] at r1 r2
    clear hnow hp
    unfold strV at *
    go_enter Try.func51, Try.ntmps51
    go_wp2_with fail
    go_ret
    exact ⟨ret_str HN.out.symm, rfl⟩
  | some p =>
    have hnow : d.now i = p := by unfold Dk.now; rw [hp]; rfl
    have HN := Lib.hid hnow
    rw [hp] at r1 r2
    simp only [Option.getD_some, Option.isSome_some] at r1 r2
    clear hnow hp
    unfold strV at *
    go_enter Try.func51, Try.ntmps51
    go_wp2_with fail
    go_ret
    exact ⟨ret_str HN.out.symm, rfl⟩
theorem rread_ok (i : Int) (w : World) (h : SD w R Q d) : Calls Try.prog 33 #[.pointer (some ⟨R, 0, none⟩), .int .i64 i] w fun e w' => e = .returned (.tuple #[strV (d.readS i), .int .i64 (d.readE i)]) ∧ w = w' := by
  have HH := Lib.hid h
  obtain ⟨cap, c0, c1, c2⟩ := h.cells
  clear c0 c2
  cases ho : d.off with
  | true =>
    rw [ho] at c1
    have e1 : d.readS i = [] := by unfold Dk.readS; rw [ho]; rfl
    have e2 : d.readE i = 13 := by unfold Dk.readE; rw [ho]; rfl
    have E1 := Lib.hid e1
    have E2 := Lib.hid e2
    clear e1 e2 ho
    go_enter Try.func33, Try.ntmps33
    go_wp2_with (go_at_call 50; refine (ris_ok _ _ HH.out).mono ?_; rintro e w' ⟨rfl, rfl⟩)
    go_ret2
    exact ⟨ret_se' E1.out.symm E2.out.symm, rfl⟩
  | false =>
    rw [ho] at c1
    cases hi : d.is i with
    | false =>
      have e1 : d.readS i = [] := by unfold Dk.readS; rw [ho, hi]; rfl
      have e2 : d.readE i = 1 := by unfold Dk.readE; rw [ho, hi]; rfl
      have E1 := Lib.hid e1
      have E2 := Lib.hid e2
      have HI := Lib.hid hi
      clear e1 e2 ho hi
      go_enter Try.func33, Try.ntmps33
      go_wp2_with (go_at_call 50; refine (ris_ok _ _ HH.out).mono ?_; rintro e w' ⟨rfl, rfl⟩; rw [HI.out])
      go_ret2
      exact ⟨ret_se' E1.out.symm E2.out.symm, rfl⟩
    | true =>
      obtain ⟨h1, h2⟩ := Dk.is_iff.1 hi
      obtain ⟨k, rfl⟩ := Int.eq_ofNat_of_zero_le h1
      have e1 : d.readS k = d.now k := by unfold Dk.readS; rw [ho, hi]; rfl
      have e2 : d.readE k = 0 := by unfold Dk.readE; rw [ho, hi]; rfl
      have E1 := Lib.hid e1
      have E2 := Lib.hid e2
      have HI := Lib.hid hi
      have hk : k < d.n := by omega
      clear e1 e2 ho hi
      go_enter Try.func33, Try.ntmps33
      go_wp2_with (first | (go_at_call 50; refine (ris_ok _ _ HH.out).mono ?_; rintro e w' ⟨rfl, rfl⟩; rw [HI.out]) | (go_at_call 51; refine (rnow_ok k hk _ HH.out).mono ?_; rintro e w1 ⟨rfl, rfl⟩))
      go_ret2
      exact ⟨ret_se' E1.out.symm E2.out.symm, rfl⟩
end Go.Proofs.Ytohijdopmokkgaa
