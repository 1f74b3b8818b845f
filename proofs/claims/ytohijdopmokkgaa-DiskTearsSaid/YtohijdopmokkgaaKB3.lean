/- Walks: settle of the specification's disk. -/
import Derived.Test.YtohijdopmokkgaaKB2
set_option linter.unusedVariables false
set_option linter.unusedSimpArgs false
set_option linter.unusedSectionVars false
namespace Go.Proofs.Ytohijdopmokkgaa
open Go.RowKit
set_option maxHeartbeats 4000000
set_option maxRecDepth 4000
variable {R Q : Nat} {d : Dk}
theorem settle1_off (d : Dk) (i m : Nat) : (d.settle1 i m).off = d.off := by unfold Dk.settle1; split <;> rfl
theorem settle1_trip (d : Dk) (i m : Nat) : (d.settle1 i m).trip = d.trip := by unfold Dk.settle1; split <;> rfl
theorem infoRPg : (Try.prog.info? 53).map (·.size) = some 3 := by kernel_rfl
theorem bytes_app (p q : Pg) : (⟨p.toArray⟩ : ByteArray) ++ (⟨q.toArray⟩ : ByteArray) = ⟨(p ++ q).toArray⟩ := by
  apply ByteArray.ext
  rw [ByteArray.data_append]
  simp
theorem bytes_all (q : Pg) (hq : q.length = 128) : (⟨q.toArray⟩ : ByteArray).extract 0 128 = ⟨q.toArray⟩ := by
  rw [ByteArray.extract_mk]
  congr 2
  exact List.take_of_length_le (by simp; omega)
theorem bytes_cut (p q : Pg) (m : Nat) (hq : q.length = 128) : (⟨p.toArray⟩ : ByteArray).extract 0 m ++ (⟨q.toArray⟩ : ByteArray).extract m 128 = ⟨(p.take m ++ q.drop m).toArray⟩ := by
  rw [ByteArray.extract_mk, ByteArray.extract_mk]
  have e : (q.drop m).take (128 - m) = q.drop m := List.take_of_length_le (by simp; omega)
  rw [e]
  exact bytes_app _ _
theorem rsettle_none (i : Nat) (x : Int) (hi : i < d.n) (hp : d.pn i = none) (w : World) (h : SD w R Q d) :
    Calls Try.prog 53 #[.pointer (some ⟨R, 0, none⟩), .int .i64 i, .int .i64 x] w fun e w' => e = .returned (.tuple #[]) ∧ w = w' := by
  have hn := h.n_hi
  obtain ⟨cap, c0, c1, c2⟩ := h.cells
  obtain ⟨r0, r1, r2⟩ := h.row hi
  have hki : (i : Int) < d.n := by omega
  rw [hp] at r2
  simp only [Option.isSome_none] at r2
  clear r0 r1 c1 c2 hp h
  go_enter Try.func53, Try.ntmps53
  go_wp2_with fail
  exact bodyPost_ret (v := .tuple #[]) (results_none rfl _ _ _) rfl ⟨rfl, rfl⟩
theorem rsettle_some (i : Nat) (x : Int) (m : Nat) (hx : (x < 0 ∧ m = 0) ∨ (128 < x ∧ m = 128) ∨ (x = m ∧ m ≤ 128)) (hi : i < d.n) {p : Pg} (hp : d.pn i = some p) (w : World) (h : SD w R Q d) :
    Calls Try.prog 53 #[.pointer (some ⟨R, 0, none⟩), .int .i64 i, .int .i64 x] w fun e w' => e = .returned (.tuple #[]) ∧ SD w' R Q (d.settle1 i m) ∧ Kept (InS R Q) w w' := by
  have hn := h.n_hi
  have HH := Lib.hid h
  have hwf := h.wf
  have HWF := Lib.hid hwf
  have HSP := Lib.hid (spOf_settle1 (m := m) hwf hp)
  have HP := Lib.hid hp
  have hl1 : p.length = 128 := (hwf.pn_len hp).1
  have hl2 : (d.pg i).length = 128 := (hwf.pg_len hi).1
  obtain ⟨cap, c0, c1, c2⟩ := h.cells
  obtain ⟨r0, r1, r2⟩ := h.row hi
  have hki : (i : Int) < d.n := by omega
  rw [hp] at r2 r1
  simp only [Option.isSome_some, Option.getD_some] at r2 r1
  unfold strV at r0 r1
  generalize hg : d.pg i = q at *
  have HG := Lib.hid hg
  clear c1 c2 hp h hwf hg
  rcases hx with ⟨hx, rfl⟩ | ⟨hx, rfl⟩ | ⟨rfl, hx⟩
  · have u1 : ¬ 0 < x := by omega
    have u2 : decide (0 < x) = false := decide_eq_false u1
    have hcat : (⟨q.toArray⟩ : ByteArray).extract 0 128 = ⟨(p.take 0 ++ q.drop 0).toArray⟩ := by rw [bytes_all q hl2]; simp
    have HCAT := Lib.hid hcat
    clear hcat
    obtain ⟨cur, hcur, hfit, hsd, hk⟩ := HH.out.setPage (d' := d.settle1 i 0) hi (j := 0) (us := [strV (p.take 0 ++ q.drop 0), .string ⟨#[]⟩, .bool false]) (x' := (p.take 0 ++ q.drop 0, none)) (Nat.le_refl _) (splice_full rfl) HSP.out (HWF.out.settle1 (by omega)) Dk.n_settle1 (settle1_off _ _ _) (settle1_trip _ _ _)
    have HCUR := Lib.hid hcur
    have HFIT := Lib.hid hfit
    have HSD := Lib.hid hsd
    have HK := Lib.hid hk
    clear hcur hfit hsd hk
    go_enter Try.func53, Try.ntmps53
    go_wp2_with fail
    go_still_tail 28, (by kernel_rfl)
    change wpList _ _ _ _ _ w.drew
    refine wpList_store_blk rfl 53 _ _ rfl Q (i * 3) #[.string (ByteArray.extract ⟨q.toArray⟩ 0 128), .string ⟨#[]⟩, .bool false] cur 53 rfl rfl HCUR.out (by simpa using HFIT.out) infoRPg (by intro u hu; simp at hu; rcases hu with rfl | rfl | rfl <;> rfl) ?_
    rw [HCAT.out]
    go_wp2_with fail
    go_end0
    exact ⟨rfl, HSD.out.kept0 ((Kept.refl NoM _).drew), HK.out.drew⟩
  · have u1 : ¬ x < 0 := by omega
    have u2 : decide (x < 0) = false := decide_eq_false u1
    have u3 : 0 < x := by omega
    have hcat : (⟨p.toArray⟩ : ByteArray).extract 0 128 = ⟨(p.take 128 ++ q.drop 128).toArray⟩ := by rw [bytes_all p hl1, List.take_of_length_le (by omega), List.drop_eq_nil_of_le (by omega), List.append_nil]
    have HCAT := Lib.hid hcat
    clear hcat
    obtain ⟨cur, hcur, hfit, hsd, hk⟩ := HH.out.setPage (d' := d.settle1 i 128) hi (j := 0) (us := [strV (p.take 128 ++ q.drop 128), .string ⟨#[]⟩, .bool false]) (x' := (p.take 128 ++ q.drop 128, none)) (Nat.le_refl _) (splice_full rfl) HSP.out (HWF.out.settle1 (by omega)) Dk.n_settle1 (settle1_off _ _ _) (settle1_trip _ _ _)
    have HCUR := Lib.hid hcur
    have HFIT := Lib.hid hfit
    have HSD := Lib.hid hsd
    have HK := Lib.hid hk
    clear hcur hfit hsd hk
    go_enter Try.func53, Try.ntmps53
    go_wp2_with fail
    go_still_tail 28, (by kernel_rfl)
    change wpList _ _ _ _ _ w.drew
    refine wpList_store_blk rfl 53 _ _ rfl Q (i * 3) #[.string (ByteArray.extract ⟨p.toArray⟩ 0 128), .string ⟨#[]⟩, .bool false] cur 53 rfl rfl HCUR.out (by simpa using HFIT.out) infoRPg (by intro u hu; simp at hu; rcases hu with rfl | rfl | rfl <;> rfl) ?_
    rw [HCAT.out]
    go_wp2_with fail
    go_end0
    exact ⟨rfl, HSD.out.kept0 ((Kept.refl NoM _).drew), HK.out.drew⟩
  · have u1 : ¬ (m : Int) < 0 := by omega
    have u2 : decide ((m : Int) < 0) = false := decide_eq_false u1
    have u3 : decide ((128 : Int) < m) = false := decide_eq_false (by omega)
    have hmi : (m : Int) ≤ 128 := by omega
    have hcat := bytes_cut p q m hl2
    have HCAT := Lib.hid hcat
    clear hcat
    obtain ⟨cur, hcur, hfit, hsd, hk⟩ := HH.out.setPage (d' := d.settle1 i m) hi (j := 0) (us := [strV (p.take m ++ q.drop m), .string ⟨#[]⟩, .bool false]) (x' := (p.take m ++ q.drop m, none)) (Nat.le_refl _) (splice_full rfl) HSP.out (HWF.out.settle1 (by omega)) Dk.n_settle1 (settle1_off _ _ _) (settle1_trip _ _ _)
    have HCUR := Lib.hid hcur
    have HFIT := Lib.hid hfit
    have HSD := Lib.hid hsd
    have HK := Lib.hid hk
    clear hcur hfit hsd hk
    go_enter Try.func53, Try.ntmps53
    go_wp2_with fail
    go_still_tail 28, (by kernel_rfl)
    change wpList _ _ _ _ _ w.drew
    refine wpList_store_blk rfl 53 _ _ rfl Q (i * 3) #[.string (ByteArray.extract ⟨p.toArray⟩ 0 m ++ ByteArray.extract ⟨q.toArray⟩ m 128), .string ⟨#[]⟩, .bool false] cur 53 rfl rfl HCUR.out (by simpa using HFIT.out) infoRPg (by intro u hu; simp at hu; rcases hu with rfl | rfl | rfl <;> rfl) ?_
    rw [HCAT.out]
    go_wp2_with fail
    go_end0
    exact ⟨rfl, HSD.out.kept0 ((Kept.refl NoM _).drew), HK.out.drew⟩
end Go.Proofs.Ytohijdopmokkgaa
