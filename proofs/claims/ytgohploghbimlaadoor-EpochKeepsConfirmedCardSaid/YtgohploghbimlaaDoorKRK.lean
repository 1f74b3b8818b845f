/- Walks of the specification: Restart; items; Fine. -/
import Derived.Test.YtgohploghbimlaaDoorKWD
import Derived.BigQuiet
set_option linter.unusedVariables false
set_option linter.unusedSimpArgs false
set_option linter.unusedSectionVars false
namespace Go.Proofs.YtgohploghbimlaaDoor
open Go.RowKit
set_option maxHeartbeats 4000000
set_option maxRecDepth 4000

theorem rrestart_ok (r : Rep) (lv vv mv : Value) (M : Nat → Prop) (w : World) (hlv : RdItems w M lv r.log) (hvv : RdBools w M vv r.votes) (hmv : RdInts w M mv r.mat) :
    Calls Tryd.prog 29 #[.agg #[.int .i64 r.id, .int .i64 r.count, .int .i64 r.epoch, .int .i64 r.voted, .int .i64 r.role, lv, .int .i64 r.conf, vv, mv]] w fun e w' => ∃ lv' vv' mv', e = .returned (.agg #[.int .i64 r.id, .int .i64 r.count, .int .i64 r.epoch, .int .i64 r.voted, .int .i64 1, lv', .int .i64 0, vv', mv']) ∧
      RdItems w' (fun k => k < w.heap.size ∧ M k) lv' r.log ∧ RdBools w' (fun k => k < w.heap.size ∧ M k) vv' [] ∧ RdInts w' (fun k => k < w.heap.size ∧ M k) mv' [] ∧ Kept NoM w w' := by
  obtain ⟨la, lcap, rfl, hlc, hlm⟩ := hlv.shape
  obtain ⟨va, vcap, rfl, _, _⟩ := hvv.shape
  obtain ⟨ma, mcap, rfl, _, _⟩ := hmv.shape
  have K2 : ∀ a b, Kept NoM w ((w.alloc a).alloc b) := fun a b => ((Kept.refl NoM w).alloc a).alloc b
  go_enter Tryd.func29, Tryd.ntmps29
  go_wp2_with fail
  refine (rfollow_ok r la va ma r.log.length lcap r.votes.length vcap r.mat.length mcap _).mono ?_
  rintro e w1 ⟨rfl, k1⟩
  have b0 := k1.blk (k := w.heap.size) (blk_old (blk_new' w _ w.heap.size rfl) _) (fun x => x)
  have b1 := k1.blk (k := w.heap.size + 1) (blk_new' _ _ _ (by simp)) (fun x => x)
  obtain ⟨w2, e2, z0, z1, K2'⟩ : ∃ w2, w1 = putB (putB w2 w.heap.size _ 32) (w.heap.size + 1) _ 32 ∧ w.heap.size < w2.heap.size ∧ w.heap.size + 1 < w2.heap.size ∧ Kept NoM w w2 := ⟨w1, expose2a b0 b1, lt_of_block b0, lt_of_block b1, (K2 _ _).trans k1⟩
  clear b0 b1 k1
  subst e2
  have KE : ∀ a c, Kept NoM w (putB (putB w2 w.heap.size a 32) (w.heap.size + 1) c 32) := fun a c => (K2'.putN (b := w.heap.size) (by omega) a 32).putN (b := w.heap.size + 1) (by omega) c 32
  go_wp2
  refine bodyPost_ret (v := .agg #[.int .i64 r.id, .int .i64 r.count, .int .i64 r.epoch, .int .i64 r.voted, .int .i64 1, .slice la r.log.length lcap, .int .i64 0, .slice none 0 0, .slice none 0 0]) (by simp [results, Tryd.results29, go_sem, z0, z1]) rfl ?_
  exact ⟨_, _, _, rfl, hlv.step (KE _ _).of_no (fun _ _ x => x.2), RdBools.nil _ _, RdInts.nil _ _, KE _ _⟩

theorem rfine_ok (r : Rep) (m : Let) (lv vv mv iv : Value) (w : World) (hlv : RdItems w NoM lv r.log) (hvv : RdBools w NoM vv r.votes) (hmv : RdInts w NoM mv r.mat) (hiv : RdItems w NoM iv m.items) (hil : m.items.length ≤ 1000000) :
    Calls Tryd.prog 52 #[.agg #[.int .i64 r.id, .int .i64 r.count, .int .i64 r.epoch, .int .i64 r.voted, .int .i64 r.role, lv, .int .i64 r.conf, vv, mv], .agg #[.int .i64 m.kind, .int .i64 m.src, .int .i64 m.dst, .int .i64 m.ep, .int .i64 m.pos, .int .i64 m.aep, iv, .int .i64 m.conf, .bool m.yes]] w fun e w' => e = .returned (.bool (fineF r m)) ∧ Kept NoM w w' := by
  obtain ⟨la, lcap, rfl, hlc, hlm⟩ := hlv.shape
  obtain ⟨va, vcap, rfl, _, _⟩ := hvv.shape
  obtain ⟨ma, mcap, rfl, _, _⟩ := hmv.shape
  obtain ⟨ia, icap, rfl, _, _⟩ := hiv.shape
  have K2 : ∀ a b, Kept NoM w ((w.alloc a).alloc b) := fun a b => ((Kept.refl NoM w).alloc a).alloc b
  obtain ⟨f, hf⟩ : ∃ f, f = fineF r m := ⟨_, rfl⟩
  rw [← hf]
  have HF := Lib.hid hf
  clear hf hlv hvv hmv
  by_cases h0 : m.kind < 1
  · have hr := Lib.hid (show f = false by rw [HF.out]; unfold fineF; rw [if_pos (by omega)])
    have t0 := h0
    go_enter Tryd.func52, Tryd.ntmps52
    go_wp2
    go_ret
    exact ⟨ret_bool hr.out.symm, K2 _ _⟩
  have t0 := decide_eq_false h0
  by_cases h1 : m.kind > 4
  · have hr := Lib.hid (show f = false by rw [HF.out]; unfold fineF; rw [if_pos (by omega)])
    have t1 := h1
    go_enter Tryd.func52, Tryd.ntmps52
    go_wp2
    go_ret
    exact ⟨ret_bool hr.out.symm, K2 _ _⟩
  have t1 := decide_eq_false h1
  by_cases h2 : m.dst ≠ r.id
  · have hr := Lib.hid (show f = false by rw [HF.out]; unfold fineF; rw [if_pos (by omega)])
    have t2 : (m.dst != r.id) = true := by rw [bne_iff_ne]; exact h2
    clear h2
    go_enter Tryd.func52, Tryd.ntmps52
    go_wp2
    go_ret
    exact ⟨ret_bool hr.out.symm, K2 _ _⟩
  have t2 : (m.dst != r.id) = false := by rw [bne_eq_false_iff_eq]; exact Decidable.not_not.1 h2
  by_cases h3 : m.src < 0
  · have hr := Lib.hid (show f = false by rw [HF.out]; unfold fineF; rw [if_pos (by omega)])
    have t3 := h3
    clear h2
    go_enter Tryd.func52, Tryd.ntmps52
    go_wp2
    go_ret
    exact ⟨ret_bool hr.out.symm, K2 _ _⟩
  have t3 := decide_eq_false h3
  by_cases h4 : m.src ≥ r.count
  · have hr := Lib.hid (show f = false by rw [HF.out]; unfold fineF; rw [if_pos (by omega)])
    have t4 := h4
    clear h2
    go_enter Tryd.func52, Tryd.ntmps52
    go_wp2
    go_ret
    exact ⟨ret_bool hr.out.symm, K2 _ _⟩
  have t4 := decide_eq_false h4
  by_cases h5 : m.src = r.id
  · have hr := Lib.hid (show f = false by rw [HF.out]; unfold fineF; rw [if_pos (by omega)])
    have t5 : (m.src == r.id) = true := by rw [beq_iff_eq]; exact h5
    clear h2 h5
    go_enter Tryd.func52, Tryd.ntmps52
    go_wp2
    go_ret
    exact ⟨ret_bool hr.out.symm, K2 _ _⟩
  have t5 : (m.src == r.id) = false := by rw [beq_eq_false_iff_ne]; exact h5
  by_cases h6 : m.ep < 1
  · have hr := Lib.hid (show f = false by rw [HF.out]; unfold fineF; rw [if_pos (by omega)])
    have t6 := h6
    clear h2 h5
    go_enter Tryd.func52, Tryd.ntmps52
    go_wp2
    go_ret
    exact ⟨ret_bool hr.out.symm, K2 _ _⟩
  have t6 := decide_eq_false h6
  by_cases h7 : m.ep > 1073741824
  · have hr := Lib.hid (show f = false by rw [HF.out]; unfold fineF; rw [if_pos (by omega)])
    have t7 := h7
    clear h2 h5
    go_enter Tryd.func52, Tryd.ntmps52
    go_wp2
    go_ret
    exact ⟨ret_bool hr.out.symm, K2 _ _⟩
  have t7 := decide_eq_false h7
  have hf2 : f = (if m.kind = 2 then true else if m.pos < 0 ∨ m.pos > 1000 then false else if m.kind ≠ 3 then true else decide (m.aep ≥ 0 ∧ m.aep ≤ m.ep ∧ (m.pos > 0 ∨ m.aep = 0) ∧ m.pos + m.items.length ≤ 1000 ∧ m.conf ≥ 0) && properF m.items (max 1 m.aep) m.ep) := by
    rw [HF.out]; unfold fineF; rw [if_neg (by omega)]
  have HF2 := Lib.hid hf2
  clear hf2 h2 h5 HF
  by_cases a1 : m.kind = 2
  · have hr := Lib.hid (show f = true by rw [HF2.out, if_pos a1])
    have s1 : (m.kind != 2) = false := by rw [bne_eq_false_iff_eq]; exact a1
    clear a1
    go_enter Tryd.func52, Tryd.ntmps52
    go_wp2
    go_ret
    exact ⟨ret_bool hr.out.symm, K2 _ _⟩
  have s1 : (m.kind != 2) = true := by rw [bne_iff_ne]; exact a1
  by_cases a2 : m.pos < 0
  · have hr := Lib.hid (show f = false by rw [HF2.out, if_neg a1, if_pos (by omega)])
    clear a1
    go_enter Tryd.func52, Tryd.ntmps52
    go_wp2
    go_ret
    exact ⟨ret_bool hr.out.symm, K2 _ _⟩
  have s2 := decide_eq_false a2
  by_cases a3 : m.pos > 1000
  · have hr := Lib.hid (show f = false by rw [HF2.out, if_neg a1, if_pos (by omega)])
    clear a1
    go_enter Tryd.func52, Tryd.ntmps52
    go_wp2
    go_ret
    exact ⟨ret_bool hr.out.symm, K2 _ _⟩
  have s3 := decide_eq_false a3
  by_cases a4 : m.kind = 3
  case neg =>
    have hr := Lib.hid (show f = true by rw [HF2.out, if_neg a1, if_neg (by omega), if_pos a4])
    have s4 : (m.kind != 3) = true := by rw [bne_iff_ne]; exact a4
    clear a1 a4
    go_enter Tryd.func52, Tryd.ntmps52
    go_wp2
    go_ret
    exact ⟨ret_bool hr.out.symm, K2 _ _⟩
  have hf3 : f = (decide (m.aep ≥ 0 ∧ m.aep ≤ m.ep ∧ (m.pos > 0 ∨ m.aep = 0) ∧ m.pos + m.items.length ≤ 1000 ∧ m.conf ≥ 0) && properF m.items (max 1 m.aep) m.ep) := by rw [HF2.out, if_neg a1, if_neg (by omega), if_neg (by omega)]
  have s4 : (m.kind != 3) = false := by rw [bne_eq_false_iff_eq]; exact a4
  have HF3 := Lib.hid hf3
  have fls : ¬ (m.aep ≥ 0 ∧ m.aep ≤ m.ep ∧ (m.pos > 0 ∨ m.aep = 0) ∧ m.pos + m.items.length ≤ 1000 ∧ m.conf ≥ 0) → f = false := fun h => by rw [HF3.out, decide_eq_false h, Bool.false_and]
  have FLS := Lib.hid fls
  clear a1 a4 hf3 fls HF2
  by_cases a5 : m.aep < 0
  · have hr := Lib.hid (FLS.out (by omega))
    go_enter Tryd.func52, Tryd.ntmps52
    go_wp2
    go_ret
    exact ⟨ret_bool hr.out.symm, K2 _ _⟩
  have s5 := decide_eq_false a5
  by_cases a6 : m.aep > m.ep
  · have hr := Lib.hid (FLS.out (by omega))
    go_enter Tryd.func52, Tryd.ntmps52
    go_wp2
    go_ret
    exact ⟨ret_bool hr.out.symm, K2 _ _⟩
  have s6 := decide_eq_false a6
  by_cases a7 : m.pos = 0
  · by_cases b7 : m.aep = 0
    case neg =>
      have hr := Lib.hid (FLS.out (by omega))
      have s7 : (m.pos == 0) = true := by rw [beq_iff_eq]; exact a7
      have s7b : (m.aep != 0) = true := by rw [bne_iff_ne]; exact b7
      clear b7
      go_enter Tryd.func52, Tryd.ntmps52
      go_wp2
      go_ret
      exact ⟨ret_bool hr.out.symm, K2 _ _⟩
    have s7 : (m.pos == 0) = true := by rw [beq_iff_eq]; exact a7
    have s7b : (m.aep != 0) = false := by rw [bne_eq_false_iff_eq]; exact b7
    by_cases a8 : m.pos + m.items.length > 1000
    · have hr := Lib.hid (FLS.out (by omega))
      clear b7
      go_enter Tryd.func52, Tryd.ntmps52
      go_wp2
      go_ret
      exact ⟨ret_bool hr.out.symm, K2 _ _⟩
    have s8 := decide_eq_false a8
    by_cases a9 : m.conf < 0
    · have hr := Lib.hid (FLS.out (by omega))
      clear b7
      go_enter Tryd.func52, Tryd.ntmps52
      go_wp2
      go_ret
      exact ⟨ret_bool hr.out.symm, K2 _ _⟩
    have s9 := decide_eq_false a9
    by_cases a10 : 1 < m.aep
    · have hr := Lib.hid (show f = properF m.items m.aep m.ep by rw [HF3.out, decide_eq_true (by omega), Bool.true_and, show max 1 m.aep = m.aep by omega])
      have s10 := a10
      have hit := fun a b => ritems_ok (.slice ia m.items.length icap) m.items m.aep m.ep NoM ((w.alloc a).alloc b) (hiv.kept (K2 a b)) (by omega)
      have HIT := Lib.hid hit
      clear hit b7
      go_enter Tryd.func52, Tryd.ntmps52
      go_wp2_with fail
      refine (HIT.out _ _).mono ?_
      rintro e w6 ⟨rfl, k6⟩
      go_wp2
      go_ret
      exact ⟨ret_bool hr.out.symm, (K2 _ _).trans k6⟩
    · have hr := Lib.hid (show f = properF m.items 1 m.ep by rw [HF3.out, decide_eq_true (by omega), Bool.true_and, show max 1 m.aep = 1 by omega])
      have s10 := decide_eq_false a10
      have hit := fun a b => ritems_ok (.slice ia m.items.length icap) m.items 1 m.ep NoM ((w.alloc a).alloc b) (hiv.kept (K2 a b)) (by omega)
      have HIT := Lib.hid hit
      clear hit b7
      go_enter Tryd.func52, Tryd.ntmps52
      go_wp2_with fail
      refine (HIT.out _ _).mono ?_
      rintro e w6 ⟨rfl, k6⟩
      go_wp2
      go_ret
      exact ⟨ret_bool hr.out.symm, (K2 _ _).trans k6⟩
  · have s7 : (m.pos == 0) = false := by rw [beq_eq_false_iff_ne]; exact a7
    have b7 := a7
    by_cases a8 : m.pos + m.items.length > 1000
    · have hr := Lib.hid (FLS.out (by omega))
      clear b7
      go_enter Tryd.func52, Tryd.ntmps52
      go_wp2
      go_ret
      exact ⟨ret_bool hr.out.symm, K2 _ _⟩
    have s8 := decide_eq_false a8
    by_cases a9 : m.conf < 0
    · have hr := Lib.hid (FLS.out (by omega))
      clear b7
      go_enter Tryd.func52, Tryd.ntmps52
      go_wp2
      go_ret
      exact ⟨ret_bool hr.out.symm, K2 _ _⟩
    have s9 := decide_eq_false a9
    by_cases a10 : 1 < m.aep
    · have hr := Lib.hid (show f = properF m.items m.aep m.ep by rw [HF3.out, decide_eq_true (by omega), Bool.true_and, show max 1 m.aep = m.aep by omega])
      have s10 := a10
      have hit := fun a b => ritems_ok (.slice ia m.items.length icap) m.items m.aep m.ep NoM ((w.alloc a).alloc b) (hiv.kept (K2 a b)) (by omega)
      have HIT := Lib.hid hit
      clear hit b7
      go_enter Tryd.func52, Tryd.ntmps52
      go_wp2_with fail
      refine (HIT.out _ _).mono ?_
      rintro e w6 ⟨rfl, k6⟩
      go_wp2
      go_ret
      exact ⟨ret_bool hr.out.symm, (K2 _ _).trans k6⟩
    · have hr := Lib.hid (show f = properF m.items 1 m.ep by rw [HF3.out, decide_eq_true (by omega), Bool.true_and, show max 1 m.aep = 1 by omega])
      have s10 := decide_eq_false a10
      have hit := fun a b => ritems_ok (.slice ia m.items.length icap) m.items 1 m.ep NoM ((w.alloc a).alloc b) (hiv.kept (K2 a b)) (by omega)
      have HIT := Lib.hid hit
      clear hit b7
      go_enter Tryd.func52, Tryd.ntmps52
      go_wp2_with fail
      refine (HIT.out _ _).mono ?_
      rintro e w6 ⟨rfl, k6⟩
      go_wp2
      go_ret
      exact ⟨ret_bool hr.out.symm, (K2 _ _).trans k6⟩
end Go.Proofs.YtgohploghbimlaaDoor
