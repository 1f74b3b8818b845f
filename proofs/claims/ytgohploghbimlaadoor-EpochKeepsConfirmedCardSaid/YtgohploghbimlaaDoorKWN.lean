/- Walk: fine. -/
import Derived.Test.YtgohploghbimlaaDoorKWM
import Derived.BigQuiet
import Derived.Deep.QuietTactic
set_option linter.unusedVariables false
set_option linter.unusedSimpArgs false
set_option linter.unusedSectionVars false
namespace Go.Proofs.YtgohploghbimlaaDoor
open Go.RowKit
set_option maxHeartbeats 1000000
set_option maxRecDepth 4000

theorem fine_ok (D : Nat) (r : Rep) (m : Let) (iv : Value) (w : World) (M : Nat → Prop) (c0 : w.cell? ⟨D, 0, none⟩ = some (.int .i64 r.id)) (c1 : w.cell? ⟨D, 1, none⟩ = some (.int .i64 r.count)) (hiv : RdItems w M iv m.items) (hil : m.items.length ≤ 1000000) :
    Calls Tryd.prog 46 #[.pointer (some ⟨D, 0, none⟩), .agg #[.int .i64 m.kind, .int .i64 m.src, .int .i64 m.dst, .int .i64 m.ep, .int .i64 m.pos, .int .i64 m.aep, iv, .int .i64 m.conf, .bool m.yes]] w fun e w' => e = .returned (.bool (fineF r m)) ∧ Kept NoM w w' := by
  obtain ⟨ia, icap, rfl, _, _⟩ := hiv.shape
  have hDs : D < w.heap.size := World.block_lt_of_cell? w _ c0
  by_cases h1 : m.kind < 1
  · have HF := Lib.hid (show fineF r m = false by unfold fineF; rw [if_pos (.inl h1)])
    go_enter Tryd.func46, Tryd.ntmps46
    go_wp2_with fail
    go_quiet (fail)
    go_wp2
    go_ret
    exact ⟨ret_bool (by rw [HF.out]), ((Kept.refl _ _).alloc _).drewN _⟩
  have n1 := decide_eq_false h1
  by_cases h2 : 4 < m.kind
  · have HF := Lib.hid (show fineF r m = false by unfold fineF; rw [if_pos (.inr (.inl h2))])
    clear h1
    go_enter Tryd.func46, Tryd.ntmps46
    go_wp2_with fail
    go_quiet (fail)
    go_wp2
    go_ret
    exact ⟨ret_bool (by rw [HF.out]), ((Kept.refl _ _).alloc _).drewN _⟩
  have n2 := decide_eq_false h2
  have nd : 1 ≤ m.kind ∧ m.kind ≤ 4 := by omega
  clear h1 h2
  by_cases h3 : m.dst ≠ r.id
  · have HF := Lib.hid (show fineF r m = false by unfold fineF; rw [if_pos (.inr (.inr (.inl h3)))])
    have t3 : (m.dst != r.id) = true := by rw [bne_iff_ne]; exact h3
    clear h3
    go_enter Tryd.func46, Tryd.ntmps46
    go_wp2_with fail
    go_quiet (fail)
    go_wp2
    go_ret
    exact ⟨ret_bool (by rw [HF.out]), ((Kept.refl _ _).alloc _).drewN _⟩
  have n3 : (m.dst != r.id) = false := by rw [bne_eq_false_iff_eq]; exact Classical.not_not.1 h3
  have HE3 := Lib.hid (Classical.not_not.1 h3)
  clear h3
  by_cases h4 : m.src < 0
  · have HF := Lib.hid (show fineF r m = false by unfold fineF; rw [if_pos (.inr (.inr (.inr (.inl h4))))])
    go_enter Tryd.func46, Tryd.ntmps46
    go_wp2_with fail
    go_quiet (fail)
    go_wp2
    go_ret
    exact ⟨ret_bool (by rw [HF.out]), ((Kept.refl _ _).alloc _).drewN _⟩
  have n4 : decide (m.src < 0) = false := decide_eq_false h4
  by_cases h5 : m.src ≥ r.count
  · have HF := Lib.hid (show fineF r m = false by unfold fineF; rw [if_pos (.inr (.inr (.inr (.inr (.inl h5)))))])
    go_enter Tryd.func46, Tryd.ntmps46
    go_wp2_with fail
    go_quiet (fail)
    go_wp2
    go_ret
    exact ⟨ret_bool (by rw [HF.out]), ((Kept.refl _ _).alloc _).drewN _⟩
  have n5 : decide (m.src ≥ r.count) = false := decide_eq_false h5
  by_cases h6 : m.src = r.id
  · have HF := Lib.hid (show fineF r m = false by unfold fineF; rw [if_pos (.inr (.inr (.inr (.inr (.inr (.inl h6))))))])
    have t6 : (m.src == r.id) = true := by rw [beq_iff_eq]; exact h6
    clear h6
    go_enter Tryd.func46, Tryd.ntmps46
    go_wp2_with fail
    go_quiet (fail)
    go_wp2
    go_ret
    exact ⟨ret_bool (by rw [HF.out]), ((Kept.refl _ _).alloc _).drewN _⟩
  have n6 : (m.src == r.id) = false := by rw [beq_eq_false_iff_ne]; exact h6
  have HE6 := Lib.hid h6
  clear h6
  by_cases h7 : m.ep < 1
  · have HF := Lib.hid (show fineF r m = false by unfold fineF; rw [if_pos (.inr (.inr (.inr (.inr (.inr (.inr (.inl h7)))))))])
    go_enter Tryd.func46, Tryd.ntmps46
    go_wp2_with fail
    go_quiet (fail)
    go_wp2
    go_ret
    exact ⟨ret_bool (by rw [HF.out]), ((Kept.refl _ _).alloc _).drewN _⟩
  have n7 : decide (m.ep < 1) = false := decide_eq_false h7
  by_cases h8 : 1073741824 < m.ep
  · have HF := Lib.hid (show fineF r m = false by unfold fineF; rw [if_pos (.inr (.inr (.inr (.inr (.inr (.inr (.inr (h8))))))))])
    go_enter Tryd.func46, Tryd.ntmps46
    go_wp2_with fail
    go_quiet (fail)
    go_wp2
    go_ret
    exact ⟨ret_bool (by rw [HF.out]), ((Kept.refl _ _).alloc _).drewN _⟩
  have n8 : decide (1073741824 < m.ep) = false := decide_eq_false h8
  have HF0 := Lib.hid (show fineF r m = (if m.kind = 2 then true
    else if m.pos < 0 ∨ m.pos > 1000 then false
    else if m.kind ≠ 3 then true
    else decide (m.aep ≥ 0 ∧ m.aep ≤ m.ep ∧ (m.pos > 0 ∨ m.aep = 0) ∧ m.pos + m.items.length ≤ 1000 ∧ m.conf ≥ 0) && properF m.items (max 1 m.aep) m.ep) by
      unfold fineF
      have := HE3.out
      have := HE6.out
      rw [if_neg (by omega)])
  clear HE3 HE6
  by_cases k2 : m.kind = 2
  · have HF := Lib.hid (HF0.out.trans (by rw [if_pos k2]))
    have t9 : (m.kind == 2) = true := by rw [beq_iff_eq]; exact k2
    clear k2 h4 h5 h7 h8 nd
    go_enter Tryd.func46, Tryd.ntmps46
    go_wp2_with fail
    go_quiet (fail)
    go_wp2
    go_ret
    exact ⟨ret_bool (by rw [HF.out]), ((Kept.refl _ _).alloc _).drewN _⟩
  have n9 : (m.kind == 2) = false := by rw [beq_eq_false_iff_ne]; exact k2
  have HK2 := Lib.hid k2
  clear k2
  by_cases p1 : m.pos < 0
  · have HF := Lib.hid (show fineF r m = false by rw [HF0.out, if_neg HK2.out, if_pos (.inl p1)])
    go_enter Tryd.func46, Tryd.ntmps46
    go_wp2_with fail
    go_quiet (fail)
    go_wp2_with fail
    go_ret
    exact ⟨ret_bool (by rw [HF.out]), ((Kept.refl _ _).alloc _).drewN _⟩
  have np1 := decide_eq_false p1
  by_cases p2 : 1000 < m.pos
  · have HF := Lib.hid (show fineF r m = false by rw [HF0.out, if_neg HK2.out, if_pos (.inr p2)])
    go_enter Tryd.func46, Tryd.ntmps46
    go_wp2_with fail
    go_quiet (fail)
    go_wp2_with fail
    go_ret
    exact ⟨ret_bool (by rw [HF.out]), ((Kept.refl _ _).alloc _).drewN _⟩
  have np2 := decide_eq_false p2
  have q0 : 0 ≤ m.pos := by omega
  have q1 : m.pos ≤ 1000 := by omega
  have HF1 := Lib.hid (HF0.out.trans (by rw [if_neg HK2.out, if_neg (show ¬ (m.pos < 0 ∨ m.pos > 1000) by omega)]))
  clear HF0 HK2 p1 p2
  by_cases k3 : m.kind ≠ 3
  · have HF := Lib.hid (HF1.out.trans (by rw [if_pos k3]))
    have t9 : (m.kind != 3) = true := by rw [bne_iff_ne]; exact k3
    clear k3
    go_enter Tryd.func46, Tryd.ntmps46
    go_wp2_with fail
    go_quiet (fail)
    go_wp2_with fail
    go_ret
    exact ⟨ret_bool (by rw [HF.out]), ((Kept.refl _ _).alloc _).drewN _⟩
  have n10 : (m.kind != 3) = false := by rw [bne_eq_false_iff_eq]; exact Classical.not_not.1 k3
  have HF2 := Lib.hid (HF1.out.trans (by rw [if_neg k3]))
  clear HF1 k3
  by_cases a1 : 0 ≤ m.aep
  · by_cases a2 : m.aep ≤ m.ep
    · by_cases a3 : 0 < m.pos
      · by_cases a4 : m.pos + m.items.length ≤ 1000
        · by_cases a5 : 0 ≤ m.conf
          · have HF := Lib.hid (show fineF r m = properF m.items (max 1 m.aep) m.ep by rw [HF2.out, decide_eq_true (by omega)]; rfl)
            go_enter Tryd.func46, Tryd.ntmps46
            go_wp2_with fail
            go_quiet (fail)
            go_wp2_with fail
            refine (proper_ok _ m.items _ _ M _ (hiv.kept (((Kept.refl _ _).alloc _).drewN _)) (by omega)).mono ?_
            rintro e w1 ⟨rfl, hk⟩
            go_wp2_with fail
            go_ret
            exact ⟨ret_bool (by rw [HF.out]), (((Kept.refl _ _).alloc _).drewN _).trans hk⟩
          · have na5 := decide_eq_false a5
            have HF := Lib.hid (show fineF r m = false by rw [HF2.out, decide_eq_false (by omega)]; rfl)
            clear a5
            go_enter Tryd.func46, Tryd.ntmps46
            go_wp2_with fail
            go_quiet (fail)
            go_wp2_with fail
            go_ret
            exact ⟨ret_bool (by rw [HF.out]), ((Kept.refl _ _).alloc _).drewN _⟩
        · have na4 := decide_eq_false a4
          have HF := Lib.hid (show fineF r m = false by rw [HF2.out, decide_eq_false (by omega)]; rfl)
          clear a4
          go_enter Tryd.func46, Tryd.ntmps46
          go_wp2_with fail
          go_quiet (fail)
          go_wp2_with fail
          go_ret
          exact ⟨ret_bool (by rw [HF.out]), ((Kept.refl _ _).alloc _).drewN _⟩
      · have na3 := decide_eq_false a3
        by_cases a6 : m.aep = 0
        · have t6 : (m.aep == 0) = true := by rw [beq_iff_eq]; exact a6
          by_cases a4 : m.pos + m.items.length ≤ 1000
          · by_cases a5 : 0 ≤ m.conf
            · have HF := Lib.hid (show fineF r m = properF m.items (max 1 m.aep) m.ep by rw [HF2.out, decide_eq_true (by omega)]; rfl)
              go_enter Tryd.func46, Tryd.ntmps46
              go_wp2_with fail
              go_quiet (fail)
              go_wp2_with fail
              refine (proper_ok _ m.items _ _ M _ (hiv.kept (((Kept.refl _ _).alloc _).drewN _)) (by omega)).mono ?_
              rintro e w1 ⟨rfl, hk⟩
              go_wp2_with fail
              go_ret
              exact ⟨ret_bool (by rw [HF.out, (beq_iff_eq.1 t6 : m.aep = 0)]), (((Kept.refl _ _).alloc _).drewN _).trans hk⟩
            · have na5 := decide_eq_false a5
              have HF := Lib.hid (show fineF r m = false by rw [HF2.out, decide_eq_false (by omega)]; rfl)
              clear a5
              go_enter Tryd.func46, Tryd.ntmps46
              go_wp2_with fail
              go_quiet (fail)
              go_wp2_with fail
              go_ret
              exact ⟨ret_bool (by rw [HF.out]), ((Kept.refl _ _).alloc _).drewN _⟩
          · have na4 := decide_eq_false a4
            have HF := Lib.hid (show fineF r m = false by rw [HF2.out, decide_eq_false (by omega)]; rfl)
            clear a4
            go_enter Tryd.func46, Tryd.ntmps46
            go_wp2_with fail
            go_quiet (fail)
            go_wp2_with fail
            go_ret
            exact ⟨ret_bool (by rw [HF.out]), ((Kept.refl _ _).alloc _).drewN _⟩
        · have t6 : (m.aep == 0) = false := by rw [beq_eq_false_iff_ne]; exact a6
          have HF := Lib.hid (show fineF r m = false by rw [HF2.out, decide_eq_false (by omega)]; rfl)
          clear a6 a3
          go_enter Tryd.func46, Tryd.ntmps46
          go_wp2_with fail
          go_quiet (fail)
          go_wp2_with fail
          go_ret
          exact ⟨ret_bool (by rw [HF.out]), ((Kept.refl _ _).alloc _).drewN _⟩
    · have na2 := decide_eq_false a2
      have HF := Lib.hid (show fineF r m = false by rw [HF2.out, decide_eq_false (by omega)]; rfl)
      clear a2
      go_enter Tryd.func46, Tryd.ntmps46
      go_wp2_with fail
      go_quiet (fail)
      go_wp2_with fail
      go_ret
      exact ⟨ret_bool (by rw [HF.out]), by repeat (first | exact (Kept.refl _ _).alloc _ | refine Kept.drewN ?_ _)⟩
  · have na1 := decide_eq_false a1
    have HF := Lib.hid (show fineF r m = false by rw [HF2.out, decide_eq_false (by omega)]; rfl)
    clear a1
    go_enter Tryd.func46, Tryd.ntmps46
    go_wp2_with fail
    go_quiet (fail)
    go_wp2_with fail
    go_ret
    exact ⟨ret_bool (by rw [HF.out]), by repeat (first | exact (Kept.refl _ _).alloc _ | refine Kept.drewN ?_ _)⟩
end Go.Proofs.YtgohploghbimlaaDoor
