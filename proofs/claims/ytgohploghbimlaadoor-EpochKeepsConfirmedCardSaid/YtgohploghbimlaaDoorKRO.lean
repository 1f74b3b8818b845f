/- Walks of the specification: Valid of a valid replica. -/
import Derived.Test.YtgohploghbimlaaDoorKRK
import Derived.Test.YtgohploghbimlaaDoorKPlain
import Derived.BigQuiet
import Derived.Deep.QuietTactic
set_option linter.unusedVariables false
set_option linter.unusedSimpArgs false
set_option linter.unusedSectionVars false
namespace Go.Proofs.YtgohploghbimlaaDoor
open Go.RowKit
set_option maxHeartbeats 1000000
set_option maxRecDepth 4000

theorem rvalid_1 (id count epoch voted conf : Int) (log : List Item) (lv vv mv : Value) (w : World) (hlv : RdItems w NoM lv log) (hvv : RdBools w NoM vv []) (hmv : RdInts w NoM mv []) (hr : Valid ⟨id, count, epoch, voted, 1, log, conf, [], []⟩) :
    Calls Tryd.prog 12 #[.agg #[.int .i64 id, .int .i64 count, .int .i64 epoch, .int .i64 voted, .int .i64 1, lv, .int .i64 conf, vv, mv]] w fun e w' => e = .returned (.bool true) ∧ Kept NoM w w' := by
  have h1 := hr.count1
  have h2 := hr.count7
  have h3 := hr.id0
  have h4 := hr.id1
  have h5 := hr.ep0
  have h6 := hr.ep1
  have h7 := hr.vo0
  have h8 := hr.vo1
  have h9 := hr.len
  have h10 := hr.cf0
  have h11 := hr.cf1
  have hpr := hr.prop
  have hvo := hr.votes
  have hma := hr.mat
  have hmt := hr.match_
  have hld := hr.lead
  simp at h1 h2 h3 h4 h5 h6 h7 h8 h9 h10 h11 hvo hma hmt hld hpr
  have s1 := decide_eq_false (show ¬ count < 1 by omega)
  have s2 := decide_eq_false (show ¬ 7 < count by omega)
  have s3 := decide_eq_false (show ¬ id < 0 by omega)
  have s4 := decide_eq_false (show ¬ count ≤ id by omega)
  have s5 := decide_eq_false (show ¬ epoch < 0 by omega)
  have s6 := decide_eq_false (show ¬ 1073741824 < epoch by omega)
  have s7 := decide_eq_false (show ¬ voted < -1 by omega)
  have s8 := decide_eq_false (show ¬ count ≤ voted by omega)
  have s9 := decide_eq_false (show ¬ (1000 : Int) < (log.length : Int) by omega)
  have s9b := decide_eq_false (show ¬ 1000 < log.length by omega)
  have s10 := decide_eq_false (show ¬ conf < 0 by omega)
  have s11 := decide_eq_false (show ¬ (log.length : Int) < conf by omega)
  obtain ⟨la, lcap, rfl, _, _⟩ := hlv.shape
  obtain ⟨va, vcap, rfl, _, _⟩ := hvv.shape
  obtain ⟨ma, mcap, rfl, _, _⟩ := hmv.shape
  have K1 : ∀ a, Kept NoM w (w.alloc a) := fun a => (Kept.refl NoM w).alloc a
  have hit := fun a => ritems_ok (.slice la log.length lcap) log 1 epoch NoM (w.alloc a) (hlv.kept (K1 a)) (by omega)
  rw [hpr] at hit
  have HIT := Lib.hid hit
  have HMA := Lib.hid hma
  have HMT := Lib.hid hmt
  clear hit hpr hma hmt hvo hld hr
  go_enter Tryd.func12, Tryd.ntmps12
  go_wp2_with fail
  refine (HIT.out _).mono ?_
  rintro e w1 ⟨rfl, k1⟩
  have kk := (K1 _).trans k1
  have b0 := k1.blk (k := w.heap.size) (blk_new' w _ w.heap.size rfl) (fun x => x)
  have c01 := cell_blk b0 1 _ rfl
  have c02 := cell_blk b0 2 _ rfl
  have c00 := cell_blk b0 0 _ rfl
  have c03 := cell_blk b0 3 _ rfl
  have c04 := cell_blk b0 4 _ rfl
  have c05 := cell_blk b0 5 _ rfl
  have c07 := cell_blk b0 7 _ rfl
  have c08 := cell_blk b0 8 _ rfl
  clear k1 b0
  go_wp2_with fail
  go_loopw [6] (fun i wr => i = .int .i64 0 ∧ wr = w1) (fun _ _ => 0)
  case atStart => exact ⟨rfl, rfl⟩
  case round =>
    obtain ⟨rfl, rfl⟩ := hrel
    go_wp2
    go_ret
    exact ⟨rfl, kk⟩

theorem rvalid_2 (id count epoch voted conf : Int) (log : List Item) (votes : List Bool) (lv vv mv : Value) (w : World) (hlv : RdItems w NoM lv log) (hvv : RdBools w NoM vv votes) (hmv : RdInts w NoM mv []) (hr : Valid ⟨id, count, epoch, voted, 2, log, conf, votes, []⟩) :
    Calls Tryd.prog 12 #[.agg #[.int .i64 id, .int .i64 count, .int .i64 epoch, .int .i64 voted, .int .i64 2, lv, .int .i64 conf, vv, mv]] w fun e w' => e = .returned (.bool true) ∧ Kept NoM w w' := by
  have h1 := hr.count1
  have h2 := hr.count7
  have h3 := hr.id0
  have h4 := hr.id1
  have h5 := hr.ep0
  have h6 := hr.ep1
  have h7 := hr.vo0
  have h8 := hr.vo1
  have h9 := hr.len
  have h10 := hr.cf0
  have h11 := hr.cf1
  have hpr := hr.prop
  have hvo := hr.votes
  have hma := hr.mat
  have hmt := hr.match_
  have hld := hr.lead
  simp at h1 h2 h3 h4 h5 h6 h7 h8 h9 h10 h11 hvo hma hmt hld hpr
  have s1 := decide_eq_false (show ¬ count < 1 by omega)
  have s2 := decide_eq_false (show ¬ 7 < count by omega)
  have s3 := decide_eq_false (show ¬ id < 0 by omega)
  have s4 := decide_eq_false (show ¬ count ≤ id by omega)
  have s5 := decide_eq_false (show ¬ epoch < 0 by omega)
  have s6 := decide_eq_false (show ¬ 1073741824 < epoch by omega)
  have s7 := decide_eq_false (show ¬ voted < -1 by omega)
  have s8 := decide_eq_false (show ¬ count ≤ voted by omega)
  have s9 := decide_eq_false (show ¬ (1000 : Int) < (log.length : Int) by omega)
  have s9b := decide_eq_false (show ¬ 1000 < log.length by omega)
  have s10 := decide_eq_false (show ¬ conf < 0 by omega)
  have s11 := decide_eq_false (show ¬ (log.length : Int) < conf by omega)
  have q1 : (voted != id) = false := by rw [bne_eq_false_iff_eq]; omega
  have q2 : (epoch == 0) = false := by rw [beq_eq_false_iff_ne]; omega
  have q3 : ((votes.length : Int) != count) = false := by rw [bne_eq_false_iff_eq]; omega
  obtain ⟨la, lcap, rfl, _, _⟩ := hlv.shape
  obtain ⟨va, vcap, rfl, _, _⟩ := hvv.shape
  obtain ⟨ma, mcap, rfl, _, _⟩ := hmv.shape
  have K1 : ∀ a, Kept NoM w (w.alloc a) := fun a => (Kept.refl NoM w).alloc a
  have hit := fun a => ritems_ok (.slice la log.length lcap) log 1 epoch NoM (w.alloc a) (hlv.kept (K1 a)) (by omega)
  rw [hpr] at hit
  have HIT := Lib.hid hit
  have HMA := Lib.hid hma
  have HMT := Lib.hid hmt
  clear hit hpr hma hmt hvo hld hr
  go_enter Tryd.func12, Tryd.ntmps12
  go_wp2_with fail
  refine (HIT.out _).mono ?_
  rintro e w1 ⟨rfl, k1⟩
  have kk := (K1 _).trans k1
  have b0 := k1.blk (k := w.heap.size) (blk_new' w _ w.heap.size rfl) (fun x => x)
  have c01 := cell_blk b0 1 _ rfl
  have c02 := cell_blk b0 2 _ rfl
  have c00 := cell_blk b0 0 _ rfl
  have c03 := cell_blk b0 3 _ rfl
  have c04 := cell_blk b0 4 _ rfl
  have c05 := cell_blk b0 5 _ rfl
  have c07 := cell_blk b0 7 _ rfl
  have c08 := cell_blk b0 8 _ rfl
  clear k1 b0
  go_wp2_with fail
  go_loopw [6] (fun i wr => i = .int .i64 0 ∧ wr = w1) (fun _ _ => 0)
  case atStart => exact ⟨rfl, rfl⟩
  case round =>
    obtain ⟨rfl, rfl⟩ := hrel
    go_wp2
    go_ret
    exact ⟨rfl, kk⟩

theorem rvalid_3 (id count epoch voted conf : Int) (log : List Item) (mat : List Int) (lv vv mv : Value) (w : World) (hlv : RdItems w NoM lv log) (hvv : RdBools w NoM vv []) (hmv : RdInts w NoM mv mat) (hr : Valid ⟨id, count, epoch, voted, 3, log, conf, [], mat⟩) :
    Calls Tryd.prog 12 #[.agg #[.int .i64 id, .int .i64 count, .int .i64 epoch, .int .i64 voted, .int .i64 3, lv, .int .i64 conf, vv, mv]] w fun e w' => e = .returned (.bool true) ∧ Kept NoM w w' := by
  have h1 := hr.count1
  have h2 := hr.count7
  have h3 := hr.id0
  have h4 := hr.id1
  have h5 := hr.ep0
  have h6 := hr.ep1
  have h7 := hr.vo0
  have h8 := hr.vo1
  have h9 := hr.len
  have h10 := hr.cf0
  have h11 := hr.cf1
  have hpr := hr.prop
  have hvo := hr.votes
  have hma := hr.mat
  have hmt := hr.match_
  have hld := hr.lead
  simp at h1 h2 h3 h4 h5 h6 h7 h8 h9 h10 h11 hvo hma hmt hld hpr
  have s1 := decide_eq_false (show ¬ count < 1 by omega)
  have s2 := decide_eq_false (show ¬ 7 < count by omega)
  have s3 := decide_eq_false (show ¬ id < 0 by omega)
  have s4 := decide_eq_false (show ¬ count ≤ id by omega)
  have s5 := decide_eq_false (show ¬ epoch < 0 by omega)
  have s6 := decide_eq_false (show ¬ 1073741824 < epoch by omega)
  have s7 := decide_eq_false (show ¬ voted < -1 by omega)
  have s8 := decide_eq_false (show ¬ count ≤ voted by omega)
  have s9 := decide_eq_false (show ¬ (1000 : Int) < (log.length : Int) by omega)
  have s9b := decide_eq_false (show ¬ 1000 < log.length by omega)
  have s10 := decide_eq_false (show ¬ conf < 0 by omega)
  have s11 := decide_eq_false (show ¬ (log.length : Int) < conf by omega)
  have q1 : (voted != id) = false := by rw [bne_eq_false_iff_eq]; omega
  have q2 : (epoch == 0) = false := by rw [beq_eq_false_iff_ne]; omega
  have q3 : ((mat.length : Int) != count) = false := by rw [bne_eq_false_iff_eq]; omega
  obtain ⟨la, lcap, rfl, _, _⟩ := hlv.shape
  obtain ⟨va, vcap, rfl, _, _⟩ := hvv.shape
  obtain ⟨ma, mcap, rfl, _, _⟩ := hmv.shape
  have K1 : ∀ a, Kept NoM w (w.alloc a) := fun a => (Kept.refl NoM w).alloc a
  have hit := fun a => ritems_ok (.slice la log.length lcap) log 1 epoch NoM (w.alloc a) (hlv.kept (K1 a)) (by omega)
  rw [hpr] at hit
  have HIT := Lib.hid hit
  have HMA := Lib.hid hma
  have HMT := Lib.hid hmt
  clear hit hpr hma hmt hvo hld hr
  go_enter Tryd.func12, Tryd.ntmps12
  go_wp2_with fail
  refine (HIT.out _).mono ?_
  rintro e w1 ⟨rfl, k1⟩
  have kk := (K1 _).trans k1
  have b0 := k1.blk (k := w.heap.size) (blk_new' w _ w.heap.size rfl) (fun x => x)
  have c01 := cell_blk b0 1 _ rfl
  have c02 := cell_blk b0 2 _ rfl
  have c00 := cell_blk b0 0 _ rfl
  have c03 := cell_blk b0 3 _ rfl
  have c04 := cell_blk b0 4 _ rfl
  have c05 := cell_blk b0 5 _ rfl
  have c07 := cell_blk b0 7 _ rfl
  have c08 := cell_blk b0 8 _ rfl
  clear k1 b0
  go_wp2_with fail
  go_loopw [6] (fun i wr => ∃ k : Nat, k ≤ mat.length ∧ i = .int .i64 k ∧ ∃ n, wr = w1.drewN n) (fun i _ => mat.length - (intOf i).toNat)
  case atStart => exact ⟨0, Nat.zero_le _, rfl, 0, rfl⟩
  case round =>
    obtain ⟨k, hk, rfl, n, rfl⟩ := hrel
    have hm7 : mat.length ≤ 7 := by have := HMA.out; omega
    by_cases hlt : k < mat.length
    · obtain ⟨x, hx⟩ := get_at hlt
      have hxb : 0 ≤ x ∧ x ≤ (log.length : Int) := HMT.out x (List.mem_of_getElem? hx)
      obtain ⟨b, off, e1, _, hb1, x0⟩ := hmv.at hx
      have x0 := kk.cell x0 (fun h => h)
      subst e1
      have hki : (k : Int) < mat.length := by omega
      have v1 := decide_eq_false (show ¬ x < 0 by omega)
      have v2 := decide_eq_false (show ¬ (log.length : Int) < x by omega)
      clear hx hlt hxb
      go_wp2_with fail
      go_quiet (fail)
      go_wp2
      go_roundw
      case rel => exact ⟨k + 1, by omega, by go_num, _, rfl⟩
      case measure => simp [intOf]; omega
    · obtain rfl : k = mat.length := by omega
      have v1 := decide_eq_false (show ¬ (mat.length : Int) < mat.length by omega)
      go_wp2
      go_ret
      exact ⟨rfl, kk.drewN _⟩

theorem rvalid_ok (r : Rep) (lv vv mv : Value) (w : World) (hlv : RdItems w NoM lv r.log) (hvv : RdBools w NoM vv r.votes) (hmv : RdInts w NoM mv r.mat) (hr : Valid r) :
    Calls Tryd.prog 12 #[.agg #[.int .i64 r.id, .int .i64 r.count, .int .i64 r.epoch, .int .i64 r.voted, .int .i64 r.role, lv, .int .i64 r.conf, vv, mv]] w fun e w' => e = .returned (.bool true) ∧ Kept NoM w w' := by
  have h1 := hr.ro0
  have h2 := hr.ro1
  have hv := hr.votes
  have hm := hr.mat
  obtain ⟨id, count, epoch, voted, role, log, conf, votes, mat⟩ := r
  simp only at *
  have hk : role = 1 ∨ role = 2 ∨ role = 3 := by omega
  rcases hk with rfl | rfl | rfl
  · have e1 : votes = [] := List.eq_nil_of_length_eq_zero (by simp at hv; simp [hv])
    have e2 : mat = [] := List.eq_nil_of_length_eq_zero (by simp at hm; simp [hm])
    subst e1 e2
    exact rvalid_1 id count epoch voted conf log lv vv mv w hlv hvv hmv hr
  · have e2 : mat = [] := List.eq_nil_of_length_eq_zero (by simp at hm; simp [hm])
    subst e2
    exact rvalid_2 id count epoch voted conf log votes lv vv mv w hlv hvv hmv hr
  · have e1 : votes = [] := List.eq_nil_of_length_eq_zero (by simp at hv; simp [hv])
    subst e1
    exact rvalid_3 id count epoch voted conf log mat lv vv mv w hlv hvv hmv hr
end Go.Proofs.YtgohploghbimlaaDoor
