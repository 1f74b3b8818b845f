/- Walks of the specification: equal letters. -/
import Derived.Test.YtgohploghbimlaaDoorKWE
import Derived.BigQuiet
import Derived.Deep.QuietTactic
set_option linter.unusedVariables false
set_option linter.unusedSimpArgs false
set_option linter.unusedSectionVars false
namespace Go.Proofs.YtgohploghbimlaaDoor
open Go.RowKit
set_option maxHeartbeats 3000000
set_option maxRecDepth 4000

open Go.BigFrame
/-- the check of a drawn region's order, in parts -/
def lexPart (md : Region.Mode) (ops : Array Oper) : Nat → Nat → Array Bool → Bool
  | 0, _, _ => true
  | f + 1, k, l => (Region.ready md ops l).contains k && Region.free md ops l k && lexPart md ops f (k + 1) (l.setIfInBounds k true)
def lexAfter : Nat → Nat → Array Bool → Array Bool
  | 0, _, l => l
  | f + 1, k, l => lexAfter f (k + 1) (l.setIfInBounds k true)
theorem lexFrom_add {md : Region.Mode} {ops : Array Oper} (b : Nat) : ∀ (a k : Nat) (l : Array Bool), lexPart md ops a k l = true → Region.lexFrom md ops b (k + a) (lexAfter a k l) = true → Region.lexFrom md ops (a + b) k l = true := by
  intro a
  induction a with
  | zero => intro k l _ h; simpa [lexAfter] using h
  | succ a ih =>
    intro k l h1 h2
    simp only [lexPart, Bool.and_eq_true] at h1
    rw [Nat.succ_add]
    simp only [Region.lexFrom, Bool.and_eq_true]
    exact ⟨h1.1, ih (k + 1) _ h1.2 (by rw [Nat.add_assoc, Nat.add_comm 1 a]; exact h2)⟩
theorem lexB_of {md : Region.Mode} {ops : Array Oper} (h1 : Region.noSelect ops = true) (n : Nat) (hn : ops.size = n) (h2 : Region.lexFrom md ops n 0 (Array.replicate n false) = true) : Region.lexB md ops = true := by
  subst hn
  simp only [Region.lexB, h1, h2, Bool.and_self]
theorem quiet_n {P : Program} {f : FuncId} {args : Array Value} {w : World} {n : Nat} {v : Value}
    (h : Calls P f args (w.drewN n) fun e w' => e = .returned v ∧ ∃ m, w' = (w.drewN n).drewN m) : Calls P f args (w.drewN n) fun e w'' => e = .returned v ∧ ∃ m, w'' = w.drewN m :=
  h.mono fun _ _ ⟨he, m, hm⟩ => ⟨he, n + m, by rw [hm, World.drewN_drewN]⟩

theorem RdLets.at {w : World} {M : Nat → Prop} {a : Option Addr} {n cap : Nat} {xs : List Let} (h : RdLets w M (.slice a n cap) xs) {i : Nat} {x : Let} (hx : xs[i]? = some x) :
    ∃ b off iv, a = some ⟨b, off, none⟩ ∧ ¬ M b ∧ b < w.heap.size ∧ w.cell? ⟨b, off + i * 9, none⟩ = some (.int .i64 x.kind) ∧ w.cell? ⟨b, off + i * 9 + 1, none⟩ = some (.int .i64 x.src) ∧ w.cell? ⟨b, off + i * 9 + 2, none⟩ = some (.int .i64 x.dst) ∧
      w.cell? ⟨b, off + i * 9 + 3, none⟩ = some (.int .i64 x.ep) ∧ w.cell? ⟨b, off + i * 9 + 4, none⟩ = some (.int .i64 x.pos) ∧ w.cell? ⟨b, off + i * 9 + 5, none⟩ = some (.int .i64 x.aep) ∧ w.cell? ⟨b, off + i * 9 + 6, none⟩ = some iv ∧
      w.cell? ⟨b, off + i * 9 + 7, none⟩ = some (.int .i64 x.conf) ∧ w.cell? ⟨b, off + i * 9 + 8, none⟩ = some (.bool x.yes) ∧ RdItems w M iv x.items := by
  obtain ⟨b, off, h1, h2, cs, ⟨iv, rfl, hi⟩, _, h4⟩ := RdS.at h hx
  have c0 := h4 0 _ rfl
  exact ⟨b, off, iv, h1, h2, World.block_lt_of_cell? w _ c0, c0, h4 1 _ rfl, h4 2 _ rfl, h4 3 _ rfl, h4 4 _ rfl, h4 5 _ rfl, h4 6 _ rfl, h4 7 _ rfl, h4 8 _ rfl, hi⟩

theorem sameLets_ok (v1 v2 : Value) (xs : List Let) (w : World) (h1 : RdLets w NoM v1 xs) (h2 : RdLets w NoM v2 xs) (hn : xs.length ≤ 1000000) (hin : ∀ x ∈ xs, x.items.length ≤ 1000000) :
    Calls Tryd.prog 23 #[v1, v2] w fun e w' => e = .returned (.bool true) ∧ ∃ n, w' = w.drewN n := by
  obtain ⟨a1, c1, rfl, _, _⟩ := h1.shape
  obtain ⟨a2, c2, rfl, _, _⟩ := h2.shape
  go_enter Tryd.func23, Tryd.ntmps23
  go_wp2
  go_loopw [5] (fun i wr => ∃ k : Nat, k ≤ xs.length ∧ i = .int .i64 k ∧ ∃ n, wr = w.drewN n) (fun i _ => xs.length - (intOf i).toNat)
  case atStart => exact ⟨0, Nat.zero_le _, rfl, 0, rfl⟩
  case round =>
    obtain ⟨k, hk, rfl, n, hwr⟩ := hrel
    have hK : Kept NoM w wr := by rw [hwr]; exact (Kept.refl NoM w).drewN n
    have HWR := Lib.hid hwr
    clear hwr
    by_cases hlt : k < xs.length
    · obtain ⟨x, hx⟩ := get_at hlt
      obtain ⟨b, off, iv, e1, _, hb1, x0, x1, x2, x3, x4, x5, x6, x7, x8, xi⟩ := (h1.kept hK).at hx
      obtain ⟨b2, off2, iv2, e2, _, hb2, y0, y1, y2, y3, y4, y5, y6, y7, y8, yi⟩ := (h2.kept hK).at hx
      have hil := hin x (List.mem_of_getElem? hx)
      obtain ⟨ia, ic, rfl, _, _⟩ := xi.shape
      obtain ⟨ia2, ic2, rfl, _, _⟩ := yi.shape
      subst e1 e2
      have hki : (k : Int) < xs.length := by omega
      have hsi := fun n => sameItems_ok _ _ x.items (wr.drewN n) (xi.kept ((Kept.refl _ _).drewN n)) (yi.kept ((Kept.refl _ _).drewN n)) (by omega)
      have HSI := Lib.hid hsi
      clear hK h1 h2 hx hlt hin hil hsi xi yi
      go_wp2_with fail
      go_quiet ((go_at_call 20; exact quiet_n (HSI.out _)))
      go_wp2_with fail
      refine wp_region_quiet_lit (by kernel_rfl) ?_ ?_
      · refine lexB_of (by kernel_rfl) 106 (by kernel_rfl) ?_
        refine lexFrom_add (b := 86) 20 0 _ (by as_aux_lemma => kernel_rfl) ?_
        refine lexFrom_add (b := 69) 17 20 _ (by as_aux_lemma => kernel_rfl) ?_
        refine lexFrom_add (b := 52) 17 37 _ (by as_aux_lemma => kernel_rfl) ?_
        refine lexFrom_add (b := 35) 17 54 _ (by as_aux_lemma => kernel_rfl) ?_
        refine lexFrom_add (b := 18) 17 71 _ (by as_aux_lemma => kernel_rfl) ?_
        as_aux_lemma => kernel_rfl
      simp only [List.cons_append, List.nil_append, List.append_eq]
      iterate 18 (go_big_quiet_step (fail))
      as_aux_lemma =>
        iterate 18 (go_big_quiet_step (fail))
        as_aux_lemma =>
          iterate 18 (go_big_quiet_step (fail))
          as_aux_lemma =>
            iterate 18 (go_big_quiet_step (fail))
            as_aux_lemma =>
              iterate 18 (go_big_quiet_step (fail))
              as_aux_lemma =>
                repeat (go_big_quiet_step (fail))
                refine wpQuiet_nil ?_
                intro _ hw'
                obtain ⟨nq, hw''⟩ := hw'
                subst hw''
                go_wp2
                go_roundw
                case rel => exact ⟨k + 1, by omega, by go_num, _, by rw [HWR.out]; exact World.drewN_drewN _ _ _⟩
                case measure => simp [intOf]; omega
    · obtain rfl : k = xs.length := by omega
      go_wp2
      go_ret
      exact ⟨rfl, n, HWR.out⟩
end Go.Proofs.YtgohploghbimlaaDoor
