/- Walk: the law's play, any event. -/
import Derived.Test.YtgohploghbimlaaDoorKTA
import Derived.Test.YtgohploghbimlaaDoorKTB
import Derived.Test.YtgohploghbimlaaDoorKTC
import Derived.Test.YtgohploghbimlaaDoorKTD
set_option linter.unusedVariables false
set_option linter.unusedSimpArgs false
set_option linter.unusedSectionVars false
namespace Go.Proofs.YtgohploghbimlaaDoor
open Go.RowKit
set_option linter.unusedSectionVars false
variable [BB : Beside]
set_option maxHeartbeats 1000000
set_option maxRecDepth 4000

theorem Played.same {w w' : World} {W : Nat} {OR OL : Option Nat} {s : WS} (h : WState w W OR OL s) (k : Kept NoM w w') : Played w W OR OL s (.returned (.bool true)) w' :=
  ⟨rfl, OR, OL, h.kept k, k.of_no, NewO.refl _ _, NewO.refl _ _⟩

theorem play_out (s : WS) (kind a b : Int) (W : Nat) (OR OL : Option Nat) (w : World) (hs : WState w W OR OL s) (ha : a < 0 ∨ a ≥ s.reps.length) :
    Calls Tryd.prog 11 #[.pointer (some ⟨W, 0, none⟩), .agg #[.int .i64 kind, .int .i64 a, .int .i64 b]] w (Played w W OR OL s) := by
  have hs0 := hs
  obtain ⟨rv, lvL, hW, hR, hL, n1, n2, n3, hBs⟩ := hs
  have zW := lt_of_block hW
  obtain ⟨ra0, rc0, rfl, _, _, _, _⟩ := hR.shape
  have v0 := cell_blk hW 0 _ rfl
  have H0 := Lib.hid hs0
  clear hs0 hW hR hL n1 n2 n3
  have K : ∀ n, Kept NoM w ((w.alloc (.cells #[.int .i64 kind, .int .i64 a, .int .i64 b] 39)).drewN n) := fun n => ((Kept.refl NoM w).alloc _).drewN n
  by_cases h0 : a < 0
  · clear ha
    go_enter Tryd.func11, Tryd.ntmps11
    go_wp2_with fail
    go_quiet (fail)
    go_wp2_with fail
    go_ret
    exact Played.same H0.out (K _)
  · have t1 : decide (a < 0) = false := decide_eq_false h0
    have t2 : (s.reps.length : Int) ≤ a := by omega
    clear ha h0
    go_enter Tryd.func11, Tryd.ntmps11
    go_wp2_with fail
    go_quiet (fail)
    go_wp2_with fail
    go_ret
    exact Played.same H0.out (K _)

theorem play_late (s : WS) (i : Nat) (b : Int) (W : Nat) (OR OL : Option Nat) (w : World) (hs : WState w W OR OL s) (hi : i < s.reps.length) (hb : b < 0 ∨ b ≥ s.lets.length) :
    Calls Tryd.prog 11 #[.pointer (some ⟨W, 0, none⟩), .agg #[.int .i64 2, .int .i64 i, .int .i64 b]] w (Played w W OR OL s) := by
  have hs0 := hs
  obtain ⟨rv, lvL, hW, hR, hL, n1, n2, n3, hBs⟩ := hs
  have zW := lt_of_block hW
  obtain ⟨ra0, rc0, rfl, _, _, _, _⟩ := hR.shape
  obtain ⟨la0, lc0, rfl, _, _, _, _⟩ := hL.shape
  have v0 := cell_blk hW 0 _ rfl
  have v1 := cell_blk hW 1 _ rfl
  have H0 := Lib.hid hs0
  clear hs0 hW hR hL n1 n2 n3
  have t1 : decide ((i : Int) < 0) = false := decide_eq_false (by omega)
  have t2 : decide ((s.reps.length : Int) ≤ i) = false := decide_eq_false (by omega)
  have t3 : decide (s.reps.length ≤ i) = false := decide_eq_false (by omega)
  have K : ∀ n m, Kept NoM w (((w.alloc (.cells #[.int .i64 2, .int .i64 i, .int .i64 b] 39)).drewN n).drewN m) := fun n m => (((Kept.refl NoM w).alloc _).drewN n).drewN m
  have K0 : ∀ n, Kept NoM w (((w.alloc (.cells #[.int .i64 2, .int .i64 i, .int .i64 b] 39)).drewN n)) := fun n => (((Kept.refl NoM w).alloc _).drewN n)
  by_cases h0 : b < 0
  · clear hb
    go_enter Tryd.func11, Tryd.ntmps11
    go_wp2_with fail
    go_quiet (fail)
    go_wp2_with fail
    go_quiet (fail)
    go_wp2_with fail
    go_ret
    exact Played.same H0.out (K _ _)
  · have t4 : decide (b < 0) = false := decide_eq_false h0
    have t5 : (s.lets.length : Int) ≤ b := by omega
    clear hb h0
    go_enter Tryd.func11, Tryd.ntmps11
    go_wp2_with fail
    go_quiet (fail)
    go_wp2_with fail
    go_quiet (fail)
    go_wp2_with fail
    go_ret
    exact Played.same H0.out (K _ _)

theorem play_else (s : WS) (i : Nat) (kind b : Int) (W : Nat) (OR OL : Option Nat) (w : World) (hs : WState w W OR OL s) (hi : i < s.reps.length) (h1 : kind ≠ 1) (h2 : kind ≠ 2) (h3 : kind ≠ 3) (h4 : kind ≠ 4) :
    Calls Tryd.prog 11 #[.pointer (some ⟨W, 0, none⟩), .agg #[.int .i64 kind, .int .i64 i, .int .i64 b]] w (Played w W OR OL s) := by
  have hs0 := hs
  obtain ⟨rv, lvL, hW, hR, hL, n1, n2, n3, hBs⟩ := hs
  have zW := lt_of_block hW
  obtain ⟨ra0, rc0, rfl, _, _, _, _⟩ := hR.shape
  have v0 := cell_blk hW 0 _ rfl
  have H0 := Lib.hid hs0
  clear hs0 hW hR hL n1 n2 n3
  have t1 : decide ((i : Int) < 0) = false := decide_eq_false (by omega)
  have t2 : decide ((s.reps.length : Int) ≤ i) = false := decide_eq_false (by omega)
  have t3 : decide (s.reps.length ≤ i) = false := decide_eq_false (by omega)
  have u1 : (kind == 1) = false := beq_eq_false_iff_ne.2 h1
  have u2 : (kind == 2) = false := beq_eq_false_iff_ne.2 h2
  have u3 : (kind == 3) = false := beq_eq_false_iff_ne.2 h3
  have u4 : (kind == 4) = false := beq_eq_false_iff_ne.2 h4
  clear h1 h2 h3 h4
  have K0 : ∀ n, Kept NoM w (((w.alloc (.cells #[.int .i64 kind, .int .i64 i, .int .i64 b] 39)).drewN n)) := fun n => (((Kept.refl NoM w).alloc _).drewN n)
  go_enter Tryd.func11, Tryd.ntmps11
  go_wp2_with fail
  go_quiet (fail)
  go_wp2_with fail
  go_ret
  exact Played.same H0.out (K0 _)

/-- THE LAW's play: it returns true, and the law's world is the one that the plain play gives -/
theorem play_ok (it : Int → ByteArray) (n : Nat) (s : WS) (kind a b : Int) (W : Nat) (OR OL : Option Nat) (w : World) (hI : kind = 3 → ∀ W1, Kept NoM w W1 → Calls Tryd.prog 16 #[.int .i64 b] W1 fun e w' => e = .returned (.string (it b)) ∧ Kept NoM W1 w') (hs : WState w W OR OL s) (ho : WOk n s) (hn : n ≤ 7) (hl : s.lets.length ≤ 100000) :
    Calls Tryd.prog 11 #[.pointer (some ⟨W, 0, none⟩), .agg #[.int .i64 kind, .int .i64 a, .int .i64 b]] w (Played w W OR OL (playF it s kind a b)) := by
  unfold playF
  split
  · next h => exact play_out s kind a b W OR OL w hs h
  next h =>
  obtain ⟨i, rfl⟩ := Int.eq_ofNat_of_zero_le (show 0 ≤ a by omega)
  have hi : i < s.reps.length := by omega
  have hri := List.getElem?_eq_getElem hi
  simp only [Int.toNat_natCast, hri]
  split
  · next h1 => subst h1; exact play_timeout n i s _ b W OR OL w hs ho hn hri hl
  split
  · next h2 =>
    subst h2
    split
    · next hb => exact play_late s i b W OR OL w hs hi hb
    next hb =>
    obtain ⟨q, rfl⟩ := Int.eq_ofNat_of_zero_le (show 0 ≤ b by omega)
    have hq : q < s.lets.length := by omega
    have hrq := List.getElem?_eq_getElem hq
    simp only [Int.toNat_natCast, hrq]
    obtain ⟨d0, d1⟩ := ho.inv.lets _ (List.getElem_mem hq)
    obtain ⟨j, hj⟩ := Int.eq_ofNat_of_zero_le d0
    have hjn : j < s.reps.length := by rw [ho.inv.len]; omega
    have hrj := List.getElem?_eq_getElem hjn
    rw [hj, Int.toNat_natCast, hrj]
    exact play_handle n i q j s _ _ W OR OL w hs ho hn hi hrq hj hrj hl
  split
  · next h3 => exact h3 ▸ play_propose n i s _ b (it b) W OR OL w (hI h3) hs ho hn hri hl
  split
  · next h4 => subst h4; exact play_restart n i s _ b W OR OL w hs ho hn hri hl
  · next h1 h2 h3 h4 => exact play_else s i kind b W OR OL w hs hi h1 h2 h3 h4
end Go.Proofs.YtgohploghbimlaaDoor
