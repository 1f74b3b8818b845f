/- Walks: whether a write with a number waits. -/
import Derived.Test.YtghgegghlefclaaKW1
import Derived.Test.YtghgegghlefclaaKV3
set_option linter.unusedVariables false
set_option linter.unusedSimpArgs false
set_option linter.unusedSectionVars false
namespace Go.Proofs.Ytghgegghlefclaa
open Go.RowKit
set_option maxHeartbeats 1000000
set_option maxRecDepth 4000
theorem waitsc_ok (x : Wr) (n : Int) (g : Nat) (w : World) (h : w.cell? ⟨g, 0, none⟩ = some (.int .i64 n)) : Calls Try.prog 90 #[.agg (wrC x), .pointer (some ⟨g, 0, none⟩)] w fun e w' => e = .returned (.bool (decide (x.seq = n))) ∧ w' = w.alloc (.cells (wrC x) 41) := by
  have hg := World.block_lt_of_cell? w _ h
  by_cases hn : x.seq = n
  all_goals
    go_enter Try.func90, Try.ntmps90
    go_wp2_with fail
    go_ret
    exact ⟨by simp [hn], rfl⟩
theorem idxw_ok (v : Value) (l : List Wr) (M : Nat → Prop) (n : Int) (g : Nat) (w : World) (h : RdS w M 26 EWr v l) (hl : l.length ≤ 1000000) (hg : w.cell? ⟨g, 0, none⟩ = some (.int .i64 n)) :
    Calls Try.prog 102 #[v, .func (.func 90) #[] #[.pointer (some ⟨g, 0, none⟩)]] w fun e w' => e = .returned (.int .i64 (idxL (fun x => decide (x.seq = n)) l)) ∧ Kept NoM w w' := by
  obtain ⟨a, cap, rfl, _, _⟩ := h.shape
  have HH := Lib.hid h
  have HG := Lib.hid hg
  clear h hg
  go_enter Try.func102, Try.ntmps102
  go_wp2_with fail
  go_loopw [8] (fun i wr => ∃ k : Nat, k ≤ l.length ∧ i = .int .i64 k ∧ Hid ((l.take k).any (fun x => decide (x.seq = n)) = false) ∧ Hid (Kept NoM w wr)) (fun i _ => l.length - (intOf i).toNat)
  case atStart => exact ⟨0, Nat.zero_le _, rfl, Lib.hid rfl, Lib.hid (Kept.refl _ _)⟩
  case round =>
    obtain ⟨k, hk, rfl, hA, hK⟩ := hrel
    by_cases hlt : k < l.length
    · have hki : (k : Int) < l.length := by omega
      obtain ⟨x, hx⟩ := getAt hlt
      obtain ⟨b, off, e1, hM, hc⟩ := wr_at (HH.out.kept hK.out.of_no (fun _ _ x => x)) hx
      subst e1
      have HC := Lib.hid hc
      have HX := Lib.hid hx
      have HF := Lib.hid (waitsc_ok x n g wr (hK.out.cell HG.out (fun x => x)))
      clear hc hx
      by_cases hxn : x.seq = n
      · have HT := Lib.hid (show idxL (fun x => decide (x.seq = n)) l = k from idxL_hit HX.out (by simpa using hxn) hA.out)
        have HD := Lib.hid (decide_eq_true hxn)
        clear hxn
        go_wp2_with (first | (refine wpList_load_big bigWr rfl _ rfl b (off + k * 26) (wrC x) rfl HC.out rfl ?_) | (go_at_call 90; refine HF.out.mono ?_; rw [HD.out]; rintro e w1 ⟨rfl, rfl⟩))
        go_ret
        rw [HT.out]
        exact ⟨rfl, hK.out.alloc _⟩
      · have HS := Lib.hid (show (l.take (k + 1)).any (fun x => decide (x.seq = n)) = false by rw [any_snoc HX.out, hA.out]; simpa using hxn)
        have HD := Lib.hid (decide_eq_false hxn)
        clear hxn
        go_wp2_with (first | (refine wpList_load_big bigWr rfl _ rfl b (off + k * 26) (wrC x) rfl HC.out rfl ?_) | (go_at_call 90; refine HF.out.mono ?_; rw [HD.out]; rintro e w1 ⟨rfl, rfl⟩))
        go_roundw
        case rel => exact ⟨k + 1, by omega, by go_num, HS, Lib.hid (hK.out.alloc _)⟩
        case measure => simp [intOf]; omega
    · obtain rfl : k = l.length := by omega
      have f1 := decide_eq_false (show ¬ ((l.length : Nat) : Int) < l.length by omega)
      have f2 := decide_eq_false (show ¬ l.length < l.length by omega)
      have HT := Lib.hid (show idxL (fun x => decide (x.seq = n)) l = -1 by have := hA.out; rw [List.take_length] at this; exact idxL_none this)
      go_wp2_with fail
      go_ret
      rw [HT.out]
      exact ⟨rfl, hK.out⟩
theorem hasw_ok (v : Value) (l : List Wr) (M : Nat → Prop) (n : Int) (g : Nat) (w : World) (h : RdS w M 26 EWr v l) (hl : l.length ≤ 1000000) (hg : w.cell? ⟨g, 0, none⟩ = some (.int .i64 n)) :
    Calls Try.prog 89 #[v, .func (.func 90) #[] #[.pointer (some ⟨g, 0, none⟩)]] w fun e w' => e = .returned (.bool (hasSeq l n)) ∧ Kept NoM w w' := by
  have HE := Lib.hid (show hasSeq l n = decide (0 ≤ idxL (fun x => decide (x.seq = n)) l) from (idxL_has _ _).symm)
  have HC := Lib.hid (idxw_ok v l M n g w h hl hg)
  clear h hg
  generalize hasSeq l n = b at *
  generalize idxL (fun x => decide (x.seq = n)) l = i at *
  by_cases hi : 0 ≤ i
  all_goals
    go_enter Try.func89, Try.ntmps89
    go_wp2_with (go_at_call 102; refine HC.out.mono ?_; rintro e w1 ⟨rfl, k1⟩)
    go_ret
    exact ⟨by rw [HE.out]; simp [hi], k1⟩
theorem waits_ok (v : Value) (l : List Wr) (M : Nat → Prop) (n : Int) (w : World) (h : RdS w M 26 EWr v l) (hl : l.length ≤ 1000000) : Calls Try.prog 56 #[v, .int .i64 n] w fun e w' => e = .returned (.bool (hasSeq l n)) ∧ Kept NoM w w' := by
  have KK := Lib.hid ((Kept.refl NoM w).alloc (.cells #[.int .i64 n] 3))
  have HC := Lib.hid (hasw_ok v l M n w.heap.size (w.alloc (.cells #[.int .i64 n] 3)) (h.kept KK.out.of_no (fun _ _ x => x)) hl (cell_blk (blk_new w _) 0 _ rfl))
  clear h
  generalize hasSeq l n = b at *
  go_enter Try.func56, Try.ntmps56
  go_wp2_with (go_at_call 89; refine HC.out.mono ?_; rintro e w1 ⟨rfl, k1⟩)
  go_ret
  exact ⟨rfl, KK.out.trans k1⟩
end Go.Proofs.Ytghgegghlefclaa
