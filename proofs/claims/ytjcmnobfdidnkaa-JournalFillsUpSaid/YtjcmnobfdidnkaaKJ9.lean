/- Walks: the parts of a text (an iterator with state of its own in two cells). -/
import Derived.Test.YtjcmnobfdidnkaaKJ8
import Derived.Test.YtjcmnobfdidnkaaKRT
set_option linter.unusedVariables false
set_option linter.unusedSimpArgs false
set_option linter.unusedSectionVars false
namespace Go.Proofs.Ytjcmnobfdidnkaa
open Go.RowKit
attribute [local go_sem] Oper.semAt_some
set_option maxHeartbeats 2000000
set_option maxRecDepth 4000
/-- what lies in a cell that holds a text: its length -/
def leftT (T : Nat) (w : World) : Nat := match w.cell? ⟨T, 0, none⟩ with | some (.string b) => b.size | _ => 0
theorem leftT_eq {T : Nat} {w : World} {s : Pg} (h : w.cell? ⟨T, 0, none⟩ = some (.string ⟨s.toArray⟩)) : leftT T w = s.length := by
  unfold leftT; rw [h]; simp [ByteArray.size]
/-- the iterator's two cells -/
def InCl (T A at_ : Nat) (s : Pg) (w : World) : Prop := w.cell? ⟨T, 0, none⟩ = some (.string ⟨s.toArray⟩) ∧ w.cell? ⟨A, 0, none⟩ = some (.int .i64 at_) ∧ w.frozen? ⟨T, 0, none⟩ = false ∧ w.frozen? ⟨A, 0, none⟩ = false
theorem InCl.drewN {T A at_ : Nat} {s : Pg} {w : World} (h : InCl T A at_ s w) (n : Nat) : InCl T A at_ s (w.drewN n) := h
theorem InCl.step {T A at_ : Nat} {s : Pg} {w : World} (h : InCl T A at_ s w) (hne : T ≠ A) (at2 : Nat) (s2 : Pg) :
    InCl T A at2 s2 ((w.setCell ⟨A, 0, none⟩ (.int .i64 at2)).setCell ⟨T, 0, none⟩ (.string ⟨s2.toArray⟩)) := by
  obtain ⟨h1, h2, h3, h4⟩ := h
  refine ⟨?_, ?_, ?_, ?_⟩
  · refine World.cell?_setCell_same' _ _ _ ?_
    rw [World.cell?_setCell_other _ _ _ _ (by intro e; cases e; exact hne rfl)] <;> simp [h1]
  · rw [World.cell?_setCell_other _ _ _ _ (by intro e; cases e; exact hne rfl)]
    exact World.cell?_setCell_same' _ _ _ (by rw [h2]; rfl)
  · rw [World.frozen?_setCell, World.frozen?_setCell]; exact h3
  · rw [World.frozen?_setCell, World.frozen?_setCell]; exact h4
theorem partsY_ok (m l T A : Nat) (hne : T ≠ A) (J : Nat → Pg → World → Prop) (Jx : World → Prop)
    (hb : ∀ a s W, J a s W → InCl T A a s W ∧ a + s.length ≤ 1000000)
    (hY : ∀ a s W, J a s W → 0 < s.length → YieldAt Fence.wide (m - 1) Try.prog l #[.agg #[.int .i64 ((a : Int) / 128), .int .i64 ((a : Int) % 128)], .string ⟨(s.take (partN a s)).toArray⟩] W.drew fun e W' =>
      (e = .returned (.bool true) ∧ InCl T A a s W' ∧ J (a + partN a s) (s.drop (partN a s)) ((W'.setCell ⟨A, 0, none⟩ (.int .i64 ((a : Int) + partN a s))).setCell ⟨T, 0, none⟩ (.string ⟨(s.drop (partN a s)).toArray⟩)).drew) ∨
      (e = .returned (.bool false) ∧ Jx W'))
    (a0 : Nat) (s0 : Pg) (W : World) (h0 : J a0 s0 W) :
    CallsIn Fence.wide m Try.prog 77 #[.func (.yield l) #[] #[], .pointer (some ⟨T, 0, none⟩), .pointer (some ⟨A, 0, none⟩)] W fun e W' => (∃ v, e = .returned v) ∧ ((∃ a, J a [] W') ∨ Jx W') := by
  refine callsIn_of_wp Try.func77 rfl trivial ?_
  simp only [Try.ntmps77, List.size_toArray, List.length_cons, List.length_nil, Nat.reduceAdd, Nat.reduceSub, Array.replicate_succ, Array.replicate_zero, List.push_toArray, List.append_toArray, List.nil_append, List.cons_append]
  gi_wp2
  gi_loopw [] (fun wr => ∃ a s, J a s wr) (fun wr => leftT T wr)
  case atStart => exact ⟨a0, s0, h0⟩
  case round =>
    obtain ⟨a, s, hJ⟩ := hrel
    obtain ⟨⟨c1, c2, f1, f2⟩, hbd⟩ := hb a s wr hJ
    have hz : (⟨s.toArray⟩ : ByteArray).size = s.length := by simp [ByteArray.size]
    by_cases hs : s.length = 0
    · obtain rfl : s = [] := List.length_eq_zero_iff.1 hs
      gi_wp2
      go_end0
      exact ⟨⟨_, rfl⟩, .inl ⟨a, hJ⟩⟩
    · have hp : 0 < s.length := by omega
      have hp2 : ((s.length : Nat) : Int) > 0 := by omega
      have hY1 := hY a s wr hJ hp
      obtain ⟨k, hk⟩ : ∃ k, partN a s = k := ⟨_, rfl⟩
      have hkm : min ((s.length : Nat) : Int) (128 - (a : Int) % 128) = (k : Int) := by rw [← hk]; unfold partN; omega
      have hk0 : 0 < k := by rw [← hk]; unfold partN; omega
      have hk1 : k ≤ s.length := by rw [← hk]; unfold partN; omega
      have hk2 : (k : Int) ≤ s.length := by omega
      have hk3 : (0 : Int) ≤ k := by omega
      have hx1 : (⟨s.toArray⟩ : ByteArray).extract 0 k = ⟨(s.take k).toArray⟩ := by rw [ByteArray.extract_mk]; simp
      have hx2 : (⟨s.toArray⟩ : ByteArray).extract k s.length = ⟨(s.drop k).toArray⟩ := by
        rw [ByteArray.extract_mk]
        have e : (s.drop k).take (s.length - k) = s.drop k := List.take_of_length_le (by rw [List.length_drop]; omega)
        exact congrArg (fun l : Pg => (⟨l.toArray⟩ : ByteArray)) e
      rw [hk] at hY1
      have q1 : IntKind.i64.wrap ((a : Int) + k) = ((a + k : Nat) : Int) := by rw [IntWalk.i64_in _ (by omega)]; omega
      obtain ⟨fn, tmps, assign, body, hy, hR⟩ := hY1
      have HJ := Lib.hid hJ
      clear hY hJ h0 
      gi_wp2
      try rw [hkm]
      have Q1 := Lib.hid q1
      have QD := Lib.hid (show IntKind.i64.wrap ((a : Int) / 128) = (a : Int) / 128 from IntWalk.i64_in _ (by omega))
      have QM := Lib.hid (show ((a : Int).tmod 128) = (a : Int) % 128 from Int.tmod_eq_emod_of_nonneg (by omega))
      clear hkm q1 hp2
      refine wpIn_region_still_tail (ro := none) 9 (by kernel_rfl) (by kernel_rfl) (by kernel_rfl) ?_
      simp only [List.take_succ_cons, List.take_zero, List.drop_succ_cons, List.drop_zero]
      repeat still_step
      refine wpStill_nil ?_
      rw [QD.out, QM.out]
      change wpListIn Fence.wide _ _ _ _ _ _ wr.drew
      have B1 := Lib.hid c1
      have B2 := Lib.hid c2
      clear c1 c2
      gi_wp2
      refine ⟨fun h => by simp [Fence.wide] at h, hR.mono ?_⟩
      rintro e W1 (⟨rfl, ⟨c1, c2, f1, f2⟩, hJ1⟩ | ⟨rfl, hx⟩)
      · gi_wp2
        refine wpIn_wide.2 ?_
        have q1 := Q1.out
        clear B1 B2 QD QM Q1 hy
        go_region
        have L0 := leftT_eq c1
        have L1 := leftT_eq (hb _ _ _ hJ1).1.1
        have L2 := leftT_eq (hb _ _ _ HJ.out).1.1
        gi_wp2
        go_roundw
        case rel => exact ⟨a + k, s.drop k, hJ1⟩
        case measure =>
          refine Nat.lt_of_le_of_lt (Nat.le_of_eq L1) (Nat.lt_of_lt_of_le ?_ (Nat.le_of_eq L2.symm))
          rw [List.length_drop]; omega
      · gi_wp2
        refine bodyPost_ret (results_none rfl _ _ _) rfl ?_
        exact ⟨⟨_, rfl⟩, .inr hx⟩
/-- parts: two cells, and the iterator over them -/
theorem parts_ok (a : Nat) (s : Pg) (w : World) : Calls Try.prog 72 #[.int .i64 a, .string ⟨s.toArray⟩] w fun e w' => e = .returned (.func (.func 77) #[] #[.pointer (some ⟨w.heap.size + 1, 0, none⟩), .pointer (some ⟨w.heap.size, 0, none⟩)]) ∧
    w' = (w.alloc (.cells #[.int .i64 a] 3)).alloc (.cells #[.string ⟨s.toArray⟩] 9) := by
  go_enter Try.func72, Try.ntmps72
  go_wp2_with fail
  go_ret
  exact ⟨rfl, rfl⟩
end Go.Proofs.Ytjcmnobfdidnkaa
