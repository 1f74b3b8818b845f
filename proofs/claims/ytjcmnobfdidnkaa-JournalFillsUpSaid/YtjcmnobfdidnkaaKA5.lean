/- Walks: Write of the program's disk, where it goes through. -/
import Derived.Test.YtjcmnobfdidnkaaKA4
import Derived.Deep.RegionHeld3
set_option linter.unusedVariables false
set_option linter.unusedSimpArgs false
set_option linter.unusedSectionVars false
namespace Go.Proofs.Ytjcmnobfdidnkaa
open Go.RowKit
set_option maxHeartbeats 4000000
set_option maxRecDepth 4000
variable {D G B : Nat} {d : Dk}
theorem wanted_none {o : Oper} {y : Nat → Option Bool} (h : o.guard = none) : Region.wanted o y = true := by simp [Region.wanted, h]
theorem putAt_nil (p : Pg) (k : Nat) : Dk.putAt p k [] = p := by unfold Dk.putAt; simp
/-- 'p[k:]' over a page's variable: at the end it begins at its head -/
theorem run_cut (k : Nat) (hk : k ≤ 128) : ∃ o', (o' = k ∨ (o' = 0 ∧ k = 128)) ∧ ∀ b wx, (Instr.sliceAt 97 (.pointer (some ⟨b, 0, none⟩)) (some (.int .i64 k)) none none).run Try.prog wx = .ok (.slice (some ⟨b, o', none⟩) (128 - k) (128 - k)) wx := by
  refine ⟨if 128 = k then 0 else k, ?_, fun b wx => ?_⟩
  · split
    · exact .inr ⟨rfl, by omega⟩
    · exact .inl rfl
  · have h1 : (0 : Int) ≤ k := by omega
    have h2 : (k : Int) ≤ 128 := by omega
    have h5 : (Try.prog.info? 5).map (·.size) = some 1 := by kernel_rfl
    cases hq : Try.prog.info? 5 with
    | none => rw [hq] at h5; cases h5
    | some i =>
      have hi : i.size = 1 := by rw [hq] at h5; simpa using h5
      simp [Instr.sliceAt, Instr.sureAddr, Instr.sliceBounds, Instr.sliceBound, asIntOf, run_underlying undPg, sizeOf, typeInfo, h1, h2, hk, hq, hi]
      split
      · rfl
      · rw [Addr.add_mid]; simp
theorem write_trips (i k : Int) (s : Pg) (w : World) (h : PD w D G B d) (ho : d.off = false) (hw : d.wok i k s = true) (ht : d.trip = 0) : Calls Try.prog 58 #[.pointer (some ⟨D, 0, none⟩), .int .i64 i, .int .i64 k, strV s] w fun e w' => e = .returned (.int .i64 (d.writeE i k s)) ∧ PD w' D G B (d.write i k s) ∧ Kept (InD D G B) w w' := by
  have HH := Lib.hid h
  obtain ⟨cap, hD, hC, _⟩ := h
  have c2 := cell_blk hD 2 _ rfl
  clear hD hC
  obtain ⟨⟨h1, h2⟩, h3, h4, h5⟩ := Dk.wok_iff.1 hw
  have hi : d.is i = true := Dk.is_iff.2 ⟨h1, h2⟩
  have c2' : w.cell? ⟨D, 2, none⟩ = some (.bool false) := by rw [← ho]; exact c2
  have e1 : d.writeE i k s = 13 := by unfold Dk.writeE Dk.stepE; rw [ho, hw, ht]; rfl
  have e2 : d.write i k s = d.step := by unfold Dk.write; rw [ho, hw, if_pos ht]; rfl
  have e3 : d.stepE = 13 := by unfold Dk.stepE; rw [if_pos ht]
  have E1 := Lib.hid e1
  have E2 := Lib.hid e2
  have E3 := Lib.hid e3
  have HI := Lib.hid hi
  have hsz : (⟨s.toArray⟩ : ByteArray).size = s.length := by simp [ByteArray.size]
  have t1 : decide (k < 0) = false := decide_eq_false (by omega)
  have t2 : decide ((128 : Int) < k) = false := decide_eq_false (by omega)
  have t3 : decide (128 - k < (s.length : Int)) = false := decide_eq_false (by omega)
  clear e1 e2 e3 ho c2 hw hi ht
  unfold strV
  go_enter Try.func58, Try.ntmps58
  go_wp2_with (first | (go_at_call 48; refine (is_ok _ _ HH.out).mono ?_; rintro e w' ⟨rfl, rfl⟩; rw [HI.out]) | (go_at_call 70; refine (step_ok _ HH.out).mono ?_; rintro e w1 ⟨rfl, p1, k1⟩; rw [E3.out]))
  go_ret
  exact ⟨ret_e E1.out.symm, by rw [E2.out]; exact p1, k1⟩
theorem write_goes (i k : Nat) (s : Pg) (w : World) (h : PD w D G B d) (ho : d.off = false) (hw : d.wok i k s = true) (ht : d.trip ≠ 0) : Calls Try.prog 58 #[.pointer (some ⟨D, 0, none⟩), .int .i64 i, .int .i64 k, strV s] w fun e w' => e = .returned (.int .i64 (d.writeE i k s)) ∧ PD w' D G B (d.write i k s) ∧ Kept (InD D G B) w w' := by
  have HH := Lib.hid h
  have hwf := h.wf
  obtain ⟨cap, hD, hC, _⟩ := h
  have c2 := cell_blk hD 2 _ rfl
  clear hD hC
  obtain ⟨⟨h1, h2⟩, h3, h4, h5⟩ := Dk.wok_iff.1 hw
  have hi : d.is i = true := Dk.is_iff.2 ⟨h1, h2⟩
  have hin : i < d.n := by omega
  have c2' : w.cell? ⟨D, 2, none⟩ = some (.bool false) := by rw [← ho]; exact c2
  have e1 : d.writeE i k s = 0 := by unfold Dk.writeE Dk.stepE; rw [ho, hw, if_neg ht]; rfl
  have e2 : d.write i k s = d.step.setPend i (Dk.putAt (d.now i) k s) := by unfold Dk.write; rw [ho, hw, if_neg ht]; rfl
  have e3 : d.stepE = 0 := by unfold Dk.stepE; rw [if_neg ht]
  have e4 : d.step.now i = d.now i := by
    unfold Dk.step; rw [if_neg ht]; split <;> rfl
  have hn : d.step.n = d.n := Dk.n_step d
  have E1 := Lib.hid e1
  have E2 := Lib.hid e2
  have E3 := Lib.hid e3
  have E4 := Lib.hid e4
  have HN := Lib.hid hn
  have HI := Lib.hid hi
  have HL := Lib.hid (hwf.now_len hin)
  have hsz : (⟨s.toArray⟩ : ByteArray).size = s.length := by simp [ByteArray.size]
  have HSZ := Lib.hid hsz
  have t2 : decide ((128 : Int) < k) = false := decide_eq_false (by omega)
  have t2n : decide (128 < k) = false := decide_eq_false (by omega)
  have t3 : decide (128 - (k : Int) < (s.length : Int)) = false := decide_eq_false (by omega)
  have hk : (k : Int) ≤ 128 := h4
  have h4' : k ≤ 128 := by omega
  clear e1 e2 e3 e4 hn ho c2 hw hi hwf
  obtain ⟨o', ho', hcut⟩ := run_cut k h4'
  have hput : Dk.putAt (d.now i) o' s = Dk.putAt (d.now i) k s := by
    rcases ho' with rfl | ⟨rfl, rfl⟩
    · rfl
    · obtain rfl : s = [] := List.eq_nil_of_length_eq_zero (by omega)
      rw [putAt_nil, putAt_nil]
  have HPUT := Lib.hid hput
  have hfit : o' + s.length ≤ (d.now i).length := by
    rcases ho' with rfl | ⟨rfl, rfl⟩ <;> rw [HL.out] <;> omega
  have HFIT := Lib.hid hfit
  have hls : s.length ≤ 128 - k := by omega
  clear hput hfit ho'
  unfold strV
  go_enter Try.func58, Try.ntmps58
  go_wp2_with (first | (go_at_call 48; refine (is_ok _ _ HH.out).mono ?_; rintro e w' ⟨rfl, rfl⟩; rw [HI.out]) | (go_at_call 70; refine (step_ok _ HH.out).mono ?_; rintro e w1 ⟨rfl, p1, k1⟩; rw [E3.out]; have P1 := Lib.hid p1; have K1 := Lib.hid k1; clear p1 k1) | (go_at_call 49; refine (now_ok i (by rw [HN.out]; exact hin) _ P1.out).mono ?_; rintro e w2 ⟨rfl, k2⟩; rw [E4.out]; unfold pgV; have K2 := Lib.hid k2; clear k2) | (refine wpList_alloc_pg rfl rfl ?_) | (refine wpList_store_pgn rfl _ _ rfl _ rfl rfl rfl zero128 HL.out ?_) | (refine wpList_copy_pg rfl (.tmp 45) (.tmp 46) rfl _ o' (128 - k) (128 - k) rfl rfl rfl hls HFIT.out ?_; rw [HPUT.out]))
  have PW := (P1.out.kept0 K2.out).kept0 ((Kept.refl NoM w2).alloc (.cells (pgCells (Dk.putAt (d.now i) k s)).toArray 97))
  have HPW := Lib.hid PW
  have hpl : (Dk.putAt (d.now i) k s).length = 128 := by rw [Dk.putAt_len (by rw [HL.out]; omega), HL.out]
  have HPL := Lib.hid hpl
  obtain ⟨_, _, cW1, _, _⟩ := PW.cells
  have rW := range_blk (blk_new w2 (.cells (pgCells (Dk.putAt (d.now i) k s)).toArray 97))
  have hnn := PW.n_hi
  have HBW := Lib.hid (P1.out.kept0 K2.out).lt.2.2
  have HNE := Lib.hid PW.ne
  have hn6 : d.step.n < 1000000 := by omega
  have hin6 : i < d.step.n := by rw [HN.out]; exact hin
  have hBne : ¬ w2.heap.size = B := by have := HBW.out; omega
  have HKW := Lib.hid ((K1.out.transN K2.out).alloc (.cells (pgCells (Dk.putAt (d.now i) k s)).toArray 97))
  clear PW hpl
  generalize hWe : w2.alloc (.cells (pgCells (Dk.putAt (d.now i) k s)).toArray 97) = W at *
  have HWE := Lib.hid hWe
  clear hWe
  refine wp_region_noPanic ?_
  refine wp_region_held_drew (S := fun w' => w'.cell? ⟨D, 1, none⟩ = some (.map (some B)) ∧ w'.rangeAt w2.heap.size 0 (pgCells (Dk.putAt (d.now i) k s))) (by kernel_rfl) ?hS0 (fun hHeld => ?restA)
  case hS0 => exact ⟨cW1, rW⟩
  refine wpAnyH_take (i := 0) (v := ?v0) rfl (by kernel_rfl) (by kernel_rfl) (by kernel_rfl) (fun _ _ _ h => h) (Or.inl ⟨by rfl, ?hy0⟩) (by assumption) ?rest0
  case hy0 => intro w hSw; (try dsimp only at hSw); go_simp <;> with_reducible rfl
  try simp only [Act.put, List.setIfInBounds_toArray, List.set_cons_zero, List.set_cons_succ]
  refine wpAnyH_take (i := 1) (v := ?v1) rfl (by kernel_rfl) (by kernel_rfl) (by kernel_rfl) (fun _ _ _ h => h) (Or.inl ⟨by rfl, ?hy1⟩) (by assumption) ?rest1
  case hy1 => intro w hSw; (try dsimp only at hSw); go_simp <;> with_reducible rfl
  try simp only [Act.put, List.setIfInBounds_toArray, List.set_cons_zero, List.set_cons_succ]
  refine wpAnyH_take (i := 2) (v := ?v2) rfl (by kernel_rfl) (by kernel_rfl) (by kernel_rfl) (fun _ _ _ h => h) (Or.inl ⟨by rfl, ?hy2⟩) (by assumption) ?rest2
  case hy2 => intro w hSw; (try dsimp only at hSw); go_simp <;> with_reducible rfl
  try simp only [Act.put, List.setIfInBounds_toArray, List.set_cons_zero, List.set_cons_succ]
  refine wpAnyH_take (i := 3) (v := ?v3) rfl (by kernel_rfl) (by kernel_rfl) (by kernel_rfl) (fun _ _ _ h => h) (Or.inl ⟨by rfl, ?hy3⟩) (by assumption) ?rest3
  case hy3 => intro w hSw; (try dsimp only at hSw); go_simp <;> with_reducible rfl
  try simp only [Act.put, List.setIfInBounds_toArray, List.set_cons_zero, List.set_cons_succ]
  refine wpAnyH_take (i := 4) (v := ?v4) rfl (by kernel_rfl) (by kernel_rfl) (by kernel_rfl) (fun _ _ _ h => h) (Or.inl ⟨by rfl, ?hy4⟩) (by assumption) ?rest4
  case hy4 => intro w hSw; (try dsimp only at hSw); go_simp <;> with_reducible rfl
  try simp only [Act.put, List.setIfInBounds_toArray, List.set_cons_zero, List.set_cons_succ]
  refine wpAnyH_take (i := 5) (v := .agg (pgCells (Dk.putAt (d.now i) k s)).toArray) rfl (by kernel_rfl) (by kernel_rfl) (by kernel_rfl) (fun _ _ _ h => h) (yieldsIf_load_mid (by rfl) 97 _ rfl w2.heap.size 0 rfl _ _ (fun _ h => h.2) undPg rfl (by rw [pgCells_len, HPL.out]; exact infoPg)) (by assumption) ?rest5
  try simp only [Act.put, List.setIfInBounds_toArray, List.set_cons_zero, List.set_cons_succ]
  refine wpAnyH_ready (rs := [6]) (by kernel_rfl) (by simp) ?_
  refine AllReadyH.cons rfl (fun K hK => ?_) AllReadyH.nil
  rw [if_pos (wanted_none (by kernel_rfl))]
  refine wp_put_P _ _ _ 73 rfl Try.underlying3 Try.underlying73 (n := d.step.n) hn6 rfl (HPW.out.pmap.blk rfl) i rfl hin6 _ HPL.out rfl ?_
  intro w3 m3 k3q z3
  have k3 : Kept (fun b => b = B) W w3 := ⟨k3q.os, k3q.tape, k3q.output, k3q.size, k3q.block⟩
  clear k3q
  refine hK.out _ _ ?hT1 (fun hHeld1 => ?restT1)
  case hT1 => exact ⟨k3.cell cW1 HNE.out.2.1, rangeAt_kept (M := fun b => b = B) rW k3 hBne⟩
  clear hK K
  try simp only [Act.put, List.setIfInBounds_toArray, List.set_cons_zero, List.set_cons_succ]
  refine wpAnyH_done (by kernel_rfl) ?_ _
  refine NoPanic.normal ?_
  have hP3 : PD w3 D G B (d.step.setPend i (Dk.putAt (d.now i) k s)) := HPW.out.put hin6 HPL.out m3 k3
  have hK3 : Kept (InD D G B) w w3 := HKW.out.trans' k3 (fun _ _ h => .inr (.inr h))
  have HP3 := Lib.hid hP3
  have HK3 := Lib.hid hK3
  clear hP3 hK3 m3 k3 z3 hHeld hHeld1 cW1 rW
  go_wp2_with fail
  go_ret
  exact ⟨ret_e E1.out.symm, by rw [E2.out]; exact HP3.out, HK3.out⟩
theorem write_ok (i k : Int) (s : Pg) (hs : s.length ≤ 1000000) (w : World) (h : PD w D G B d) : Calls Try.prog 58 #[.pointer (some ⟨D, 0, none⟩), .int .i64 i, .int .i64 k, strV s] w fun e w' => e = .returned (.int .i64 (d.writeE i k s)) ∧ PD w' D G B (d.write i k s) ∧ Kept (InD D G B) w w' := by
  cases ho : d.off with
  | true => exact write_down i k s w h ho
  | false =>
    cases hw : d.wok i k s with
    | false => exact write_bad i k s w h ho hw hs
    | true =>
      by_cases ht : d.trip = 0
      · exact write_trips i k s w h ho hw ht
      · obtain ⟨⟨h1, h2⟩, h3, h4, h5⟩ := Dk.wok_iff.1 hw
        obtain ⟨i', rfl⟩ := Int.eq_ofNat_of_zero_le h1
        obtain ⟨k', rfl⟩ := Int.eq_ofNat_of_zero_le h3
        exact write_goes i' k' s w h ho hw ht
end Go.Proofs.Ytjcmnobfdidnkaa
