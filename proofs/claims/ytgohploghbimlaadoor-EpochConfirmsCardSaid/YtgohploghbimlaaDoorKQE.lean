/- Texts that belong together: QE, QG. -/
import Derived.Test.YtgohploghbimlaaDoorKQA
import Derived.Test.YtgohploghbimlaaDoorKQB
import Derived.Test.YtgohploghbimlaaDoorKQC
import Derived.Test.YtgohploghbimlaaDoorKQD
import Derived.Test.YtgohploghbimlaaDoorKWE
import Derived.Test.YtgohploghbimlaaDoorKRO
import Derived.Test.YtgohploghbimlaaDoorKShelf
set_option linter.unusedVariables false
set_option linter.unusedSimpArgs false
set_option linter.unusedSectionVars false
/- Walk: the law's play, any event. -/
namespace Go.Proofs.YtgohploghbimlaaDoor
open Go.RowKit
set_option maxHeartbeats 1000000
set_option maxRecDepth 4000

theorem Played.same {w w' : World} {W : Nat} {OR OL : Option Nat} {s : WS} (h : WState w W OR OL s) (k : Kept NoM w w') : Played w W OR OL s (.returned (.bool true)) w' :=
  ⟨rfl, OR, OL, h.kept k, k.of_no, NewO.refl _ _, NewO.refl _ _⟩

theorem play_out (s : WS) (kind a b : Int) (W : Nat) (OR OL : Option Nat) (w : World) (hs : WState w W OR OL s) (ha : a < 0 ∨ a ≥ s.reps.length) :
    Calls Tryd.prog 11 #[.pointer (some ⟨W, 0, none⟩), .agg #[.int .i64 kind, .int .i64 a, .int .i64 b]] w (Played w W OR OL s) := by
  have hs0 := hs
  obtain ⟨rv, lvL, hW, hR, hL, n1, n2, n3⟩ := hs
  have zW := lt_of_block hW
  obtain ⟨ra0, rc0, rfl, _, _, _, _⟩ := hR.shape
  have v0 := cell_blk hW 0 _ rfl
  have H0 := Lib.hid hs0
  clear hs0 hW hR hL n1 n2 n3
  have K : ∀ n, Kept NoM w ((w.alloc (.cells #[.int .i64 kind, .int .i64 a, .int .i64 b] 39)).drewN n) := fun n => ((Kept.refl NoM w).alloc _).drewN n
  by_cases h0 : a < 0
  · clear ha
    go_enter Tryd.func11, Tryd.ntmps11
    go_wp2_with fail
    go_quiet (fail)
    go_wp2_with fail
    go_ret
    exact Played.same H0.out (K _)
  · have t1 : decide (a < 0) = false := decide_eq_false h0
    have t2 : (s.reps.length : Int) ≤ a := by omega
    clear ha h0
    go_enter Tryd.func11, Tryd.ntmps11
    go_wp2_with fail
    go_quiet (fail)
    go_wp2_with fail
    go_ret
    exact Played.same H0.out (K _)

theorem play_late (s : WS) (i : Nat) (b : Int) (W : Nat) (OR OL : Option Nat) (w : World) (hs : WState w W OR OL s) (hi : i < s.reps.length) (hb : b < 0 ∨ b ≥ s.lets.length) :
    Calls Tryd.prog 11 #[.pointer (some ⟨W, 0, none⟩), .agg #[.int .i64 2, .int .i64 i, .int .i64 b]] w (Played w W OR OL s) := by
  have hs0 := hs
  obtain ⟨rv, lvL, hW, hR, hL, n1, n2, n3⟩ := hs
  have zW := lt_of_block hW
  obtain ⟨ra0, rc0, rfl, _, _, _, _⟩ := hR.shape
  obtain ⟨la0, lc0, rfl, _, _, _, _⟩ := hL.shape
  have v0 := cell_blk hW 0 _ rfl
  have v1 := cell_blk hW 1 _ rfl
  have H0 := Lib.hid hs0
  clear hs0 hW hR hL n1 n2 n3
  have t1 : decide ((i : Int) < 0) = false := decide_eq_false (by omega)
  have t2 : decide ((s.reps.length : Int) ≤ i) = false := decide_eq_false (by omega)
  have t3 : decide (s.reps.length ≤ i) = false := decide_eq_false (by omega)
  have K : ∀ n m, Kept NoM w (((w.alloc (.cells #[.int .i64 2, .int .i64 i, .int .i64 b] 39)).drewN n).drewN m) := fun n m => (((Kept.refl NoM w).alloc _).drewN n).drewN m
  have K0 : ∀ n, Kept NoM w (((w.alloc (.cells #[.int .i64 2, .int .i64 i, .int .i64 b] 39)).drewN n)) := fun n => (((Kept.refl NoM w).alloc _).drewN n)
  by_cases h0 : b < 0
  · clear hb
    go_enter Tryd.func11, Tryd.ntmps11
    go_wp2_with fail
    go_quiet (fail)
    go_wp2_with fail
    go_quiet (fail)
    go_wp2_with fail
    go_ret
    exact Played.same H0.out (K _ _)
  · have t4 : decide (b < 0) = false := decide_eq_false h0
    have t5 : (s.lets.length : Int) ≤ b := by omega
    clear hb h0
    go_enter Tryd.func11, Tryd.ntmps11
    go_wp2_with fail
    go_quiet (fail)
    go_wp2_with fail
    go_quiet (fail)
    go_wp2_with fail
    go_ret
    exact Played.same H0.out (K _ _)

theorem play_else (s : WS) (i : Nat) (kind b : Int) (W : Nat) (OR OL : Option Nat) (w : World) (hs : WState w W OR OL s) (hi : i < s.reps.length) (h1 : kind ≠ 1) (h2 : kind ≠ 2) (h3 : kind ≠ 3) (h4 : kind ≠ 4) :
    Calls Tryd.prog 11 #[.pointer (some ⟨W, 0, none⟩), .agg #[.int .i64 kind, .int .i64 i, .int .i64 b]] w (Played w W OR OL s) := by
  have hs0 := hs
  obtain ⟨rv, lvL, hW, hR, hL, n1, n2, n3⟩ := hs
  have zW := lt_of_block hW
  obtain ⟨ra0, rc0, rfl, _, _, _, _⟩ := hR.shape
  have v0 := cell_blk hW 0 _ rfl
  have H0 := Lib.hid hs0
  clear hs0 hW hR hL n1 n2 n3
  have t1 : decide ((i : Int) < 0) = false := decide_eq_false (by omega)
  have t2 : decide ((s.reps.length : Int) ≤ i) = false := decide_eq_false (by omega)
  have t3 : decide (s.reps.length ≤ i) = false := decide_eq_false (by omega)
  have u1 : (kind == 1) = false := beq_eq_false_iff_ne.2 h1
  have u2 : (kind == 2) = false := beq_eq_false_iff_ne.2 h2
  have u3 : (kind == 3) = false := beq_eq_false_iff_ne.2 h3
  have u4 : (kind == 4) = false := beq_eq_false_iff_ne.2 h4
  clear h1 h2 h3 h4
  have K0 : ∀ n, Kept NoM w (((w.alloc (.cells #[.int .i64 kind, .int .i64 i, .int .i64 b] 39)).drewN n)) := fun n => (((Kept.refl NoM w).alloc _).drewN n)
  go_enter Tryd.func11, Tryd.ntmps11
  go_wp2_with fail
  go_quiet (fail)
  go_wp2_with fail
  go_ret
  exact Played.same H0.out (K0 _)

/-- THE LAW's play: it returns true, and the law's world is the one that the plain play gives -/
theorem play_ok (it : Int → ByteArray) (n : Nat) (s : WS) (kind a b : Int) (W : Nat) (OR OL : Option Nat) (w : World) (hI : kind = 3 → ∀ W1, Kept NoM w W1 → Calls Tryd.prog 16 #[.int .i64 b] W1 fun e w' => e = .returned (.string (it b)) ∧ Kept NoM W1 w') (hs : WState w W OR OL s) (ho : WOk n s) (hn : n ≤ 7) (hl : s.lets.length ≤ 100000) :
    Calls Tryd.prog 11 #[.pointer (some ⟨W, 0, none⟩), .agg #[.int .i64 kind, .int .i64 a, .int .i64 b]] w (Played w W OR OL (playF it s kind a b)) := by
  unfold playF
  split
  · next h => exact play_out s kind a b W OR OL w hs h
  next h =>
  obtain ⟨i, rfl⟩ := Int.eq_ofNat_of_zero_le (show 0 ≤ a by omega)
  have hi : i < s.reps.length := by omega
  have hri := List.getElem?_eq_getElem hi
  simp only [Int.toNat_natCast, hri]
  split
  · next h1 => subst h1; exact play_timeout n i s _ b W OR OL w hs ho hn hri hl
  split
  · next h2 =>
    subst h2
    split
    · next hb => exact play_late s i b W OR OL w hs hi hb
    next hb =>
    obtain ⟨q, rfl⟩ := Int.eq_ofNat_of_zero_le (show 0 ≤ b by omega)
    have hq : q < s.lets.length := by omega
    have hrq := List.getElem?_eq_getElem hq
    simp only [Int.toNat_natCast, hrq]
    obtain ⟨d0, d1⟩ := ho.inv.lets _ (List.getElem_mem hq)
    obtain ⟨j, hj⟩ := Int.eq_ofNat_of_zero_le d0
    have hjn : j < s.reps.length := by rw [ho.inv.len]; omega
    have hrj := List.getElem?_eq_getElem hjn
    rw [hj, Int.toNat_natCast, hrj]
    exact play_handle n i q j s _ _ W OR OL w hs ho hn hi hrq hj hrj hl
  split
  · next h3 => exact h3 ▸ play_propose n i s _ b (it b) W OR OL w (hI h3) hs ho hn hri hl
  split
  · next h4 => subst h4; exact play_restart n i s _ b W OR OL w hs ho hn hri hl
  · next h1 h2 h3 h4 => exact play_else s i kind b W OR OL w hs hi h1 h2 h3 h4
end Go.Proofs.YtgohploghbimlaaDoor

/- The law's sanity: what holds of its world at each event. -/
namespace Go.Proofs.YtgohploghbimlaaDoor
open Go.RowKit
set_option maxHeartbeats 1000000
set_option maxRecDepth 4000

/-- a world of replicas and letters that was made since w0 -/
def San (n : Nat) (w0 w : World) (W : Nat) (s : WS) : Prop := ∃ OR OL, WState w W OR OL s ∧ WOk n s ∧ (∀ k, MX W OR OL k → w0.heap.size ≤ k) ∧ Kept NoM w0 w
theorem San.kept {n : Nat} {w0 w w' : World} {W : Nat} {s : WS} (h : San n w0 w W s) (k : Kept NoM w w') : San n w0 w' W s := by
  obtain ⟨OR, OL, h1, h2, h3, h4⟩ := h
  exact ⟨OR, OL, h1.kept k, h2, h3, h4.trans k⟩
theorem San.base {n : Nat} {w0 w : World} {W : Nat} {s : WS} (h : San n w0 w W s) : Kept NoM w0 w := let ⟨_, _, _, _, _, h4⟩ := h; h4
theorem san_play (it : Int → ByteArray) {n : Nat} {w0 w : World} {W : Nat} {s s' : WS} {kind a b : Int} (h : San n w0 w W s) (hn : n ≤ 7) (hl : s.lets.length ≤ 100000) (he : playF it s kind a b = s')
    (hI : kind = 3 → ∀ W1, Kept NoM w0 W1 → Calls Tryd.prog 16 #[.int .i64 b] W1 fun e w' => e = .returned (.string (it b)) ∧ Kept NoM W1 w') :
    Calls Tryd.prog 11 #[.pointer (some ⟨W, 0, none⟩), .agg #[.int .i64 kind, .int .i64 a, .int .i64 b]] w fun e w' => e = .returned (.bool true) ∧ San n w0 w' W s' := by
  obtain ⟨OR, OL, h1, h2, h3, h4⟩ := h
  refine (play_ok it n s kind a b W OR OL w (fun hk W1 k => hI hk W1 (h4.trans k)) h1 h2 hn hl).mono ?_
  rintro e w' ⟨rfl, OR', OL', g1, g2, g3, g4⟩
  have h5 := h2.played it kind a b
  rw [he] at g1 h5
  refine ⟨rfl, OR', OL', g1, h5, ?_, h4.trans' g2 (fun i hi h => by have := h3 i h; omega)⟩
  have hz := h4.size
  rintro k (h | h | h)
  · exact h3 k (.inl h)
  · rcases g3 with rfl | ⟨g, rfl, hg⟩
    · exact h3 k (.inr (.inl h))
    · cases h; omega
  · rcases g4 with rfl | ⟨g, rfl, hg⟩
    · exact h3 k (.inr (.inr h))
    · cases h; omega
theorem San.reps {n : Nat} {w0 w : World} {W : Nat} {s : WS} (h : San n w0 w W s) (hn : 0 < s.reps.length) : ∃ g cap, W < w.heap.size ∧ g < w.heap.size ∧ w.cell? ⟨W, 0, none⟩ = some (.slice (some ⟨g, 0, none⟩) s.reps.length cap) ∧
    ∀ j r, s.reps[j]? = some r → ∃ la lc va vc ma mc, (∀ k u, (repC r (.slice la r.log.length lc) (.slice va r.votes.length vc) (.slice ma r.mat.length mc))[k]? = some u → w.cell? ⟨g, j * 9 + k, none⟩ = some u) ∧
      RdItems w NoM (.slice la r.log.length lc) r.log ∧ RdBools w NoM (.slice va r.votes.length vc) r.votes ∧ RdInts w NoM (.slice ma r.mat.length mc) r.mat := by
  obtain ⟨OR, OL, ⟨rv, lv, hW, hR, hL, n1, n2, n3⟩, h2, h3, h4⟩ := h
  obtain ⟨g, cap, cur, rfl, rfl, hg, hc, hm, hsz, hrow⟩ := hR.openN hn
  refine ⟨g, cap, lt_of_block hW, lt_of_block hg, cell_blk hW 0 _ rfl, fun j r hj => ?_⟩
  obtain ⟨cs, ⟨lv0, vv0, mv0, rfl, ra, rb, rc⟩, _, hcell⟩ := hrow j r hj
  obtain ⟨la0, lc0, rfl, _, _⟩ := ra.shape
  obtain ⟨va0, vc0, rfl, _, _⟩ := rb.shape
  obtain ⟨ma0, mc0, rfl, _, _⟩ := rc.shape
  exact ⟨la0, lc0, va0, vc0, ma0, mc0, fun k u hu => cell_blk hg _ _ (hcell k u (by simpa [repC] using hu)), ra.any, rb.any, rc.any⟩
theorem San.lets {n : Nat} {w0 w : World} {W : Nat} {s : WS} (h : San n w0 w W s) : ∃ la lc, W < w.heap.size ∧ w.cell? ⟨W, 1, none⟩ = some (.slice la s.lets.length lc) ∧
    ∀ q m, s.lets[q]? = some m → ∃ bb, la = some ⟨bb, 0, none⟩ ∧ bb < w.heap.size ∧ w.cell? ⟨bb, q * 9 + 2, none⟩ = some (.int .i64 m.dst) ∧ w.cell? ⟨bb, q * 9 + 8, none⟩ = some (.bool m.yes) := by
  obtain ⟨OR, OL, ⟨rv, lv, hW, hR, hL, n1, n2, n3⟩, h2, h3, h4⟩ := h
  by_cases h0 : 0 < s.lets.length
  · obtain ⟨g, cap, cur, rfl, rfl, hg, hc, hm, hsz, hrow⟩ := hL.openN h0
    refine ⟨_, cap, lt_of_block hW, cell_blk hW 1 _ rfl, fun q m hq => ⟨g, rfl, lt_of_block hg, ?_⟩⟩
    obtain ⟨cs, ⟨iv, rfl, ri⟩, _, hcell⟩ := hrow q m hq
    exact ⟨cell_blk hg _ _ (hcell 2 _ rfl), cell_blk hg _ _ (hcell 8 _ rfl)⟩
  · obtain ⟨la, lc, rfl, _, _, _, _⟩ := hL.shape
    refine ⟨la, lc, lt_of_block hW, cell_blk hW 1 _ rfl, fun q m hq => ?_⟩
    have := (List.getElem?_eq_some_iff.1 hq).1
    omega
theorem WOk.ex0 : WOk 3 ex0 := by
  refine ⟨⟨rfl, ?_, by simp [Proofs.YtgohploghbimlaaDoor.ex0]⟩, by simp [Proofs.YtgohploghbimlaaDoor.ex0]⟩
  intro k r hk
  match k with
  | 0 => cases hk; exact ⟨Valid.newF (by omega) (by omega) (by omega), rfl, rfl⟩
  | 1 => cases hk; exact ⟨Valid.newF (by omega) (by omega) (by omega), rfl, rfl⟩
  | 2 => cases hk; exact ⟨Valid.newF (by omega) (by omega) (by omega), rfl, rfl⟩
  | k + 3 => simp [Proofs.YtgohploghbimlaaDoor.ex0] at hk
/-- a law's world of new replicas, no letters -/
theorem san_new {n : Nat} {w0 w' : World} {W : Nat} {O : Option Nat} {rv : Value} {reps : List Rep} (hok : WOk n ⟨reps, []⟩) (hb : w'.heap[W]? = some (.cells #[rv, .slice none 0 0] 27 (0, 0))) (own : OwnS w' O 32 9 ENil rv reps)
    (hW : w0.heap.size ≤ W) (hO : ∀ g, O = some g → w0.heap.size ≤ g ∧ g ≠ W) (k : Kept NoM w0 w') : San n w0 w' W ⟨reps, []⟩ := by
  refine ⟨O, none, ⟨rv, _, hb, own.map (fun _ _ h => h.rep _ _), OwnS.nil _ _ _ _, ?_, by simp, by simp⟩, hok, ?_, k⟩
  · intro h; exact (hO W h).2 rfl
  · rintro i (h | h | h)
    · omega
    · exact (hO i h.symm).1
    · cases h
theorem digits7 : (⟨(Lib.decDigits 7).toArray⟩ : ByteArray) = T7 := by unfold Lib.decDigits; rfl
theorem itoa7 (W1 : World) : Calls Tryd.prog 16 #[.int .i64 7] W1 fun e w' => e = .returned (.string T7) ∧ Kept NoM W1 w' :=
  (Go.Proofs.Tryd.strconv_Itoa_small 7 (by decide) W1).mono (by rintro e w' ⟨rfl, rfl⟩; exact ⟨by rw [digits7], Kept.refl _ _⟩)
end Go.Proofs.YtgohploghbimlaaDoor
