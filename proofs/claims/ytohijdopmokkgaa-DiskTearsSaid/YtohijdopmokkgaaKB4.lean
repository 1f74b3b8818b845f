/- Walks: Write of the specification's disk. -/
import Derived.Test.YtohijdopmokkgaaKB3
import Derived.Test.YtohijdopmokkgaaKAgg2
import Derived.IntWalk
set_option linter.unusedVariables false
set_option linter.unusedSimpArgs false
set_option linter.unusedSectionVars false
namespace Go.Proofs.Ytohijdopmokkgaa
open Go.RowKit
set_option maxHeartbeats 4000000
set_option maxRecDepth 4000
variable {R Q : Nat} {d : Dk}
theorem spOf_setPend {d : Dk} (h : d.WF) {i : Nat} (hi : i < d.n) (p : Pg) : spOf (d.setPend i p) = (spOf d).set i (d.pg i, some p) := by
  unfold spOf
  rw [map_set_range]
  refine map_range_congr fun j hj => ?_
  rw [pn_setPend h hi]
  by_cases hji : j = i
  · subst hji; rw [if_pos rfl, if_pos rfl]; rfl
  · rw [if_neg hji, if_neg hji]; rfl
theorem bytes_put (p s : Pg) (k : Nat) (hp : p.length = 128) : ((⟨p.toArray⟩ : ByteArray).extract 0 k ++ (⟨s.toArray⟩ : ByteArray)) ++ (⟨p.toArray⟩ : ByteArray).extract (k + s.length) 128 = ⟨(Dk.putAt p k s).toArray⟩ := by
  rw [ByteArray.extract_mk, ByteArray.extract_mk]
  have e : (p.drop (k + s.length)).take (128 - (k + s.length)) = p.drop (k + s.length) := List.take_of_length_le (by simp; omega)
  rw [e, bytes_app, bytes_app]
  rfl
theorem infoStr : (Try.prog.info? 9).map (·.size) = some 1 := by kernel_rfl
theorem infoBool : (Try.prog.info? 4).map (·.size) = some 1 := by kernel_rfl
theorem rwrite_down (i k : Int) (s : Pg) (w : World) (h : SD w R Q d) (ho : d.off = true) : Calls Try.prog 34 #[.pointer (some ⟨R, 0, none⟩), .int .i64 i, .int .i64 k, strV s] w fun e w' => e = .returned (.int .i64 (d.writeE i k s)) ∧ SD w' R Q (d.write i k s) ∧ Kept (InS R Q) w w' := by
  have HH := Lib.hid h
  obtain ⟨cap, c0, c1, c2⟩ := h.cells
  rw [ho] at c1
  have e1 : d.writeE i k s = 13 := by unfold Dk.writeE; rw [ho]; rfl
  have e2 : d.write i k s = d := by unfold Dk.write; rw [ho]; rfl
  have E1 := Lib.hid e1
  have E2 := Lib.hid e2
  clear e1 e2 ho c0 c2 h
  unfold strV
  go_enter Try.func34, Try.ntmps34
  go_wp2_with (go_at_call 50; refine (ris_ok _ _ HH.out).mono ?_; rintro e w' ⟨rfl, rfl⟩)
  go_ret
  exact ⟨ret_e' E1.out.symm, by rw [E2.out]; exact HH.out, Kept.refl _ _⟩
theorem rwrite_bad (i k : Int) (s : Pg) (w : World) (h : SD w R Q d) (ho : d.off = false) (hw : d.wok i k s = false) (hs : s.length ≤ 1000000) : Calls Try.prog 34 #[.pointer (some ⟨R, 0, none⟩), .int .i64 i, .int .i64 k, strV s] w fun e w' => e = .returned (.int .i64 (d.writeE i k s)) ∧ SD w' R Q (d.write i k s) ∧ Kept (InS R Q) w w' := by
  have HH := Lib.hid h
  obtain ⟨cap, c0, c1, c2⟩ := h.cells
  rw [ho] at c1
  have e1 : d.writeE i k s = 1 := by unfold Dk.writeE; rw [ho, hw]; rfl
  have e2 : d.write i k s = d := by unfold Dk.write; rw [ho, hw]; rfl
  have E1 := Lib.hid e1
  have E2 := Lib.hid e2
  have hsz : (⟨s.toArray⟩ : ByteArray).size = s.length := by simp [ByteArray.size]
  have HW := Lib.hid hw
  clear e1 e2 ho hw c0 c2 h
  cases hi : d.is i with
  | false =>
    have HI := Lib.hid hi
    clear hi
    unfold strV
    go_enter Try.func34, Try.ntmps34
    go_wp2_with (go_at_call 50; refine (ris_ok _ _ HH.out).mono ?_; rintro e w' ⟨rfl, rfl⟩; rw [HI.out])
    go_ret
    exact ⟨ret_e' E1.out.symm, by rw [E2.out]; exact HH.out, Kept.refl _ _⟩
  | true =>
    have HI := Lib.hid hi
    by_cases h1 : k < 0
    · clear hi
      unfold strV
      go_enter Try.func34, Try.ntmps34
      go_wp2_with (go_at_call 50; refine (ris_ok _ _ HH.out).mono ?_; rintro e w' ⟨rfl, rfl⟩; rw [HI.out])
      go_ret
      exact ⟨ret_e' E1.out.symm, by rw [E2.out]; exact HH.out, Kept.refl _ _⟩
    have t1 : decide (k < 0) = false := decide_eq_false h1
    by_cases h2 : (128 : Int) < k
    · clear hi
      unfold strV
      go_enter Try.func34, Try.ntmps34
      go_wp2_with (go_at_call 50; refine (ris_ok _ _ HH.out).mono ?_; rintro e w' ⟨rfl, rfl⟩; rw [HI.out])
      go_ret
      exact ⟨ret_e' E1.out.symm, by rw [E2.out]; exact HH.out, Kept.refl _ _⟩
    have t2 : decide ((128 : Int) < k) = false := decide_eq_false h2
    have h3 : 128 - k < (s.length : Int) := by
      by_cases h : 128 - k < (s.length : Int)
      · exact h
      · have := (Dk.wok_iff (d := d) (i := i) (k := k) (s := s)).2 ⟨Dk.is_iff.1 hi, by omega, by omega, by omega⟩
        rw [HW.out] at this; cases this
    clear hi
    have hk0 : 0 ≤ k := by omega
    have hk1 : k ≤ 128 := by omega
    unfold strV
    go_enter Try.func34, Try.ntmps34
    go_wp2_with (go_at_call 50; refine (ris_ok _ _ HH.out).mono ?_; rintro e w' ⟨rfl, rfl⟩; rw [HI.out])
    go_ret
    exact ⟨ret_e' E1.out.symm, by rw [E2.out]; exact HH.out, Kept.refl _ _⟩
theorem rwrite_trips (i k : Int) (s : Pg) (w : World) (h : SD w R Q d) (ho : d.off = false) (hw : d.wok i k s = true) (ht : d.trip = 0) : Calls Try.prog 34 #[.pointer (some ⟨R, 0, none⟩), .int .i64 i, .int .i64 k, strV s] w fun e w' => e = .returned (.int .i64 (d.writeE i k s)) ∧ SD w' R Q (d.write i k s) ∧ Kept (InS R Q) w w' := by
  have HH := Lib.hid h
  obtain ⟨cap, c0, c1, c2⟩ := h.cells
  obtain ⟨⟨h1, h2⟩, h3, h4, h5⟩ := Dk.wok_iff.1 hw
  have hi : d.is i = true := Dk.is_iff.2 ⟨h1, h2⟩
  rw [ho] at c1
  have e1 : d.writeE i k s = 13 := by unfold Dk.writeE Dk.stepE; rw [ho, hw, ht]; rfl
  have e2 : d.write i k s = d.step := by unfold Dk.write; rw [ho, hw, if_pos ht]; rfl
  have e3 : d.stepE = 13 := by unfold Dk.stepE; rw [if_pos ht]
  have E1 := Lib.hid e1
  have E2 := Lib.hid e2
  have E3 := Lib.hid e3
  have HI := Lib.hid hi
  have hsz : (⟨s.toArray⟩ : ByteArray).size = s.length := by simp [ByteArray.size]
  have t1 : decide (k < 0) = false := decide_eq_false (by omega)
  have t2 : decide ((128 : Int) < k) = false := decide_eq_false (by omega)
  have t3 : decide (128 - k < (s.length : Int)) = false := decide_eq_false (by omega)
  clear e1 e2 e3 ho hw hi ht c0 c2 h
  unfold strV
  go_enter Try.func34, Try.ntmps34
  go_wp2_with (first | (go_at_call 50; refine (ris_ok _ _ HH.out).mono ?_; rintro e w' ⟨rfl, rfl⟩; rw [HI.out]) | (go_at_call 52; refine (rstep_ok _ HH.out).mono ?_; rintro e w1 ⟨rfl, p1, k1⟩; rw [E3.out]))
  go_ret
  exact ⟨ret_e' E1.out.symm, by rw [E2.out]; exact p1, k1⟩
theorem rwrite_goes (i k : Nat) (s : Pg) (w : World) (h : SD w R Q d) (ho : d.off = false) (hw : d.wok i k s = true) (ht : d.trip ≠ 0) : Calls Try.prog 34 #[.pointer (some ⟨R, 0, none⟩), .int .i64 i, .int .i64 k, strV s] w fun e w' => e = .returned (.int .i64 (d.writeE i k s)) ∧ SD w' R Q (d.write i k s) ∧ Kept (InS R Q) w w' := by
  have HH := Lib.hid h
  have hwf := h.wf
  obtain ⟨cap, c0, c1, c2⟩ := h.cells
  obtain ⟨⟨h1, h2⟩, h3, h4, h5⟩ := Dk.wok_iff.1 hw
  have hi : d.is i = true := Dk.is_iff.2 ⟨h1, h2⟩
  have hin : i < d.n := by omega
  rw [ho] at c1
  have e1 : d.writeE i k s = 0 := by unfold Dk.writeE Dk.stepE; rw [ho, hw, if_neg ht]; rfl
  have e2 : d.write i k s = d.step.setPend i (Dk.putAt (d.now i) k s) := by unfold Dk.write; rw [ho, hw, if_neg ht]; rfl
  have e3 : d.stepE = 0 := by unfold Dk.stepE; rw [if_neg ht]
  have e4 : d.step.now i = d.now i := by
    unfold Dk.step; rw [if_neg ht]; split <;> rfl
  have hn : d.step.n = d.n := Dk.n_step d
  have hl := hwf.now_len hin
  have hin' : i < d.step.n := by rw [hn]; exact hin
  have hpl : (Dk.putAt (d.now i) k s).length = 128 := by rw [Dk.putAt_len (by rw [hl]; omega), hl]
  have HSP := Lib.hid (spOf_setPend hwf.step hin' (Dk.putAt (d.now i) k s))
  have HWF := Lib.hid (hwf.step.setPend (i := i) hpl)
  have hcat := bytes_put (d.now i) s k hl
  have HCAT := Lib.hid hcat
  have E1 := Lib.hid e1
  have E2 := Lib.hid e2
  have E3 := Lib.hid e3
  have E4 := Lib.hid e4
  have HN := Lib.hid hn
  have HI := Lib.hid hi
  have hsz : (⟨s.toArray⟩ : ByteArray).size = s.length := by simp [ByteArray.size]
  have t2 : decide ((128 : Int) < k) = false := decide_eq_false (by omega)
  have t2n : decide (128 < k) = false := decide_eq_false (by omega)
  have t3 : decide (128 - (k : Int) < (s.length : Int)) = false := decide_eq_false (by omega)
  have hk : (k : Int) ≤ 128 := h4
  have hks : (k : Int) + s.length ≤ 128 := by omega
  have hkn : k ≤ 128 := by omega
  have hksn : k + s.length ≤ 128 := by omega
  have hki : (i : Int) < d.step.n := by omega
  clear e1 e2 e3 e4 hn ho hw hi hwf hcat hpl ht c0 c2 h
  generalize hno : d.now i = p at *
  have HNO := Lib.hid hno
  clear hno
  unfold strV
  go_enter Try.func34, Try.ntmps34
  go_wp2_with (first | (go_at_call 50; refine (ris_ok _ _ HH.out).mono ?_; rintro e w' ⟨rfl, rfl⟩; rw [HI.out]) | (go_at_call 52; refine (rstep_ok _ HH.out).mono ?_; rintro e w1 ⟨rfl, p1, k1⟩; rw [E3.out]; have P1 := Lib.hid p1; have K1 := Lib.hid k1; obtain ⟨cap1, d0, _, _⟩ := p1.cells; clear p1 k1) | (go_at_call 51; refine (rnow_ok i hin' _ P1.out).mono ?_; rintro e w2 ⟨rfl, rfl⟩; rw [E4.out]; unfold strV))
  obtain ⟨cur, hcur, hfit, hsd, hk2⟩ := P1.out.setPage (d' := d.step.setPend i (Dk.putAt p k s)) hin' (j := 1) (us := [strV (Dk.putAt p k s), .bool true]) (x' := (d.step.pg i, some (Dk.putAt p k s))) (Nat.le_refl _) rfl HSP.out HWF.out rfl rfl rfl
  have HCUR := Lib.hid hcur
  have HFIT := Lib.hid hfit
  have HSD := Lib.hid hsd
  have HK2 := Lib.hid hk2
  have HNE := Lib.hid P1.out.ne
  have zQ := lt_of_block hcur
  have hf2 : i * 3 + 1 + 2 ≤ cur.size := hfit
  have hf1 : i * 3 + 1 + 1 ≤ cur.size := by omega
  clear hcur hfit hsd hk2
  have hmin : min k 128 = k := Nat.min_eq_left hkn
  have hov : ¬ 9223372036854775807 < k + s.length := by omega
  have hov2 : ¬ 9223372036854775807 < k + s.length + (128 - (k + s.length)) := by omega
  have hsum1 : IntKind.i64.wrap ((k : Int) + s.length) = (k : Int) + s.length := IntWalk.i64_in _ (by omega)
  have hsum2 : (0 : Int) ≤ (k : Int) + s.length := by omega
  have hsum3 : ((k : Int) + s.length).toNat = k + s.length := by omega
  go_still_tail 19, (by kernel_rfl)
  clear hsum1 hsum2 hsum3 hov hov2 hmin
  change wpList _ _ _ _ _ w1.drew
  refine wpList_store_one rfl 9 _ _ rfl Q (i * 3 + 1) _ cur 53 rfl rfl HCUR.out hf1 infoStr rfl rfl ?_
  rw [HCAT.out]
  have hne : ¬ R = Q := HNE.out
  go_wp2_with (refine wpList_store_one rfl 4 _ _ rfl Q (i * 3 + 1 + 1) (.bool true) _ 53 rfl rfl (putB_blk _ _ _ _ zQ) (by rw [List.size_toArray, length_splice _ _ _ (by simpa using hf1)]; simpa using hf2) infoBool rfl rfl ?_)
  go_ret
  have hcells : splice (splice cur.toList (i * 3 + 1) [strV (Dk.putAt p k s)]).toArray.toList (i * 3 + 1 + 1) [.bool true] = splice cur.toList (i * 3 + 1) [strV (Dk.putAt p k s), .bool true] := splice_two (by simpa using hf2)
  refine ⟨ret_e' E1.out.symm, ?_, ?_⟩
  · rw [E2.out, putB_putB]
    refine SD.kept0 ?_ ((Kept.refl NoM _).drew)
    have := HSD.out
    rw [← hcells] at this
    exact this
  · rw [putB_putB]
    have := HK2.out
    rw [← hcells] at this
    exact K1.out.trans this.drew
theorem rwrite_ok (i k : Int) (s : Pg) (hs : s.length ≤ 1000000) (w : World) (h : SD w R Q d) : Calls Try.prog 34 #[.pointer (some ⟨R, 0, none⟩), .int .i64 i, .int .i64 k, strV s] w fun e w' => e = .returned (.int .i64 (d.writeE i k s)) ∧ SD w' R Q (d.write i k s) ∧ Kept (InS R Q) w w' := by
  cases ho : d.off with
  | true => exact rwrite_down i k s w h ho
  | false =>
    cases hw : d.wok i k s with
    | false => exact rwrite_bad i k s w h ho hw hs
    | true =>
      by_cases ht : d.trip = 0
      · exact rwrite_trips i k s w h ho hw ht
      · obtain ⟨⟨h1, h2⟩, h3, h4, h5⟩ := Dk.wok_iff.1 hw
        obtain ⟨i', rfl⟩ := Int.eq_ofNat_of_zero_le h1
        obtain ⟨k', rfl⟩ := Int.eq_ofNat_of_zero_le h3
        exact rwrite_goes i' k' s w h ho hw ht
end Go.Proofs.Ytohijdopmokkgaa
