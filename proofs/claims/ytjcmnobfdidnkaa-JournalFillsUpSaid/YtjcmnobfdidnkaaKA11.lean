/- Walks: New of the program's disk. -/
import Derived.Test.YtjcmnobfdidnkaaKA10
set_option linter.unusedVariables false
set_option linter.unusedSimpArgs false
set_option linter.unusedSectionVars false
namespace Go.Proofs.Ytjcmnobfdidnkaa
open Go.RowKit
set_option maxHeartbeats 4000000
set_option maxRecDepth 4000
/-- make([]T, n) at elements of many cells -/
theorem make_multi {P : Program} {t e : TypeId} {sz bytes : Nat} (T : SlTy P t e sz bytes) {zv : Value} (hz : (P.info? e).map (·.zero) = some (some zv)) (n : Nat) (hn : n ≤ 100000) (hb : bytes ≤ 1000) :
    ∃ C : Array Value, (∀ wx, (Instr.makeSlice t (.int .i64 n) (.int .i64 n)).run P wx = .ok (.slice (some ⟨wx.heap.size, 0, none⟩) n n) (wx.alloc (.cells C e))) ∧ C.size = n * sz ∧ ∀ i j, i < n → j < sz → C[i * sz + j]? = zv.cells[j]? := by
  obtain ⟨i, z', t1, t2, t3, t4, t5, t6, t7⟩ := T
  rw [t2] at hz
  simp only [Option.map_some, Option.some.injEq] at hz
  rw [t3] at hz
  cases hz
  have hb' : (i.bytes : Int) * (n : Int) ≤ 281474976710656 := by
    rw [← Int.natCast_mul]
    have := Nat.mul_le_mul hb hn
    rw [t5]
    omega
  refine ⟨madeCells zv.cells (n * sz), fun wx => ?_, size_madeCells _ _, fun k j hk hj => ?_⟩
  · have hr := run_make (P := P) wx t e i zv t1 t2 t3 .i64 .i64 n n (by omega) (Int.le_refl _) hb' (by omega)
    rw [hr]
    simp only [Int.toNat_natCast, t4]
  · have hlt := idx_lt hk hj
    unfold madeCells
    rw [Array.getElem?_map, Array.getElem?_range, if_pos hlt]
    simp only [Option.map_some]
    have hm : (k * sz + j) % zv.cells.size = j := by rw [t6, Nat.mul_comm, Nat.mul_add_mod, Nat.mod_eq_of_lt hj]
    rw [hm]
    have hj' : j < zv.cells.size := by omega
    rw [getElem!_pos zv.cells j hj', Array.getElem?_eq_getElem hj']
theorem zeroPgInfo : (Try.prog.info? 97).map (·.zero) = some (some (pgV Dk.zero)) := by kernel_rfl
theorem new_bad (n : Int) (h : n < 1 ∨ 4096 < n) (w : World) : Calls Try.prog 10 #[.int .i64 n] w fun e w' => e = .returned (.tuple #[.pointer none, .int .i64 1]) ∧ w = w' := by
  by_cases h1 : n < 1
  · clear h
    go_enter Try.func10, Try.ntmps10
    go_wp2_with fail
    go_ret2
    exact ⟨rfl, rfl⟩
  · have t1 : decide (n < 1) = false := decide_eq_false h1
    have h2 : 4096 < n := by omega
    clear h
    go_enter Try.func10, Try.ntmps10
    go_wp2_with fail
    go_ret2
    exact ⟨rfl, rfl⟩
theorem new_ok (n : Nat) (h1 : 1 ≤ n) (h2 : n ≤ 4096) (w : World) : Calls Try.prog 10 #[.int .i64 n] w fun e w' => ∃ D G B, e = .returned (.tuple #[.pointer (some ⟨D, 0, none⟩), .int .i64 0]) ∧ PD w' D G B (Dk.new n) ∧ (w.heap.size ≤ D ∧ w.heap.size ≤ G ∧ w.heap.size ≤ B) ∧ Kept NoM w w' := by
  obtain ⟨C, hC, hCs, hCc⟩ := make_multi tyPages zeroPgInfo n (by omega) (by omega)
  have hmm := @run_makeMap Try.prog
  have t1 : decide ((n : Int) < 1) = false := decide_eq_false (by omega)
  have t2 : decide ((4096 : Int) < n) = false := decide_eq_false (by omega)
  have t3 : decide (4096 < n) = false := decide_eq_false (by omega)
  have HCS := Lib.hid hCs
  have HCC := Lib.hid hCc
  clear hCs hCc
  go_enter Try.func10, Try.ntmps10
  go_wp2_with fail
  go_ret2
  have hnn : (Dk.new n).n = n := by simp [Dk.new, Dk.n]
  refine ⟨w.heap.size + 2, w.heap.size, w.heap.size + 1, rfl, ⟨n, ?_, ?_, by omega, by omega⟩, ⟨by omega, by omega, by omega⟩, (((Kept.refl NoM w).alloc _).alloc _).alloc _⟩
  · rw [hnn]; exact blk_new' _ _ _ (by simp)
  · refine PC.kept (w := (w.alloc (.cells C 97)).alloc (.map #[] 0)) (M := NoM) ⟨?_, ?_, Dk.WF.new n, by rw [hnn]; omega, by rw [hnn]; omega, by omega⟩ ((Kept.refl NoM _).alloc _) (fun x => x) (fun x => x)
    · rw [hnn]
      refine OwnS.close (by simp [Dk.new]) (blk_old (blk_new w _) _) (Nat.le_refl _) (by unfold maxLen; omega) HCS.out fun i x hx => ?_
      have hi : i < n := by have := (List.getElem?_eq_some_iff.1 hx).1; simpa [Dk.new] using this
      have hxz : x = Dk.zero := by
        simp only [Dk.new, List.getElem?_replicate, hi, if_true, Option.some.injEq] at hx; exact hx.symm
      subst hxz
      refine ⟨_, rfl, by rw [pgCells_len, zero128], fun j u hu => ?_⟩
      have hj : j < 128 := by have := (List.getElem?_eq_some_iff.1 hu).1; rw [pgCells_len, zero128] at this; exact this
      rw [HCC.out i j hi hj, ← hu]
      simp [pgV, Value.cells]
    · rw [hnn]
      have e : (Dk.new n).pn = fun _ => none := by
        funext i
        unfold Dk.pn Dk.new
        simp only [List.getElem?_replicate]
        split <;> rfl
      rw [e]
      have := PMap.made (w.alloc (.cells C 97)) Try.prog 3 n
      rw [World.size_alloc] at this
      exact this
end Go.Proofs.Ytjcmnobfdidnkaa
