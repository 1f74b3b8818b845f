/- The law's world beside other memory that is kept. -/
import Derived.Test.YtgohploghbimlaaDoorKQK
set_option linter.unusedVariables false
set_option linter.unusedSimpArgs false
set_option linter.unusedSectionVars false
namespace Go.Proofs.YtgohploghbimlaaDoor
open Go.RowKit
set_option maxHeartbeats 1000000

/-- a law's world that was made since w0; the blocks of F are not its own -/
def SanF (F : Nat → Prop) (n : Nat) (w0 w : World) (W : Nat) (s : WS) : Prop :=
  ∃ OR OL, WState w W OR OL s ∧ WOk n s ∧ (∀ k, MX W OR OL k → w0.heap.size ≤ k ∧ ¬ F k) ∧ (∀ k, F k → k < w.heap.size) ∧ Kept NoM w0 w
theorem SanF.san {F : Nat → Prop} {n : Nat} {w0 w : World} {W : Nat} {s : WS} (h : SanF F n w0 w W s) : San n w0 w W s := by
  obtain ⟨OR, OL, h1, h2, h3, h4, h5⟩ := h
  exact ⟨OR, OL, h1, h2, fun k hk => (h3 k hk).1, h5⟩
theorem SanF.kept {F : Nat → Prop} {n : Nat} {w0 w w' : World} {W : Nat} {s : WS} (h : SanF F n w0 w W s) (k : Kept NoM w w') : SanF F n w0 w' W s := by
  obtain ⟨OR, OL, h1, h2, h3, h4, h5⟩ := h
  exact ⟨OR, OL, h1.kept k, h2, h3, fun i hi => Nat.lt_of_lt_of_le (h4 i hi) k.size, h5.trans k⟩
/-- what was made behind the law's world is not its own -/
theorem San.withF {F : Nat → Prop} {n : Nat} {w0 w w' : World} {W : Nat} {s : WS} (h : San n w0 w W s) (k : Kept NoM w w') (h1 : ∀ i, F i → w.heap.size ≤ i ∧ i < w'.heap.size) : SanF F n w0 w' W s := by
  obtain ⟨OR, OL, g1, g2, g3, g4⟩ := h
  exact ⟨OR, OL, g1.kept k, g2, fun i hi => ⟨g3 i hi, fun hf => by have := g1.lt i hi; have := (h1 i hf).1; omega⟩, fun i hi => (h1 i hi).2, g4.trans k⟩
theorem sanF_play (it : Int → ByteArray) {F : Nat → Prop} {n : Nat} {w0 w : World} {W : Nat} {s s' : WS} {kind a b : Int} (h : SanF F n w0 w W s) (hn : n ≤ 7) (hl : s.lets.length ≤ 100000) (he : playF it s kind a b = s')
    (hI : kind = 3 → ∀ W1, Kept NoM w0 W1 → Calls Tryd.prog 16 #[.int .i64 b] W1 fun e w' => e = .returned (.string (it b)) ∧ Kept NoM W1 w') :
    Calls Tryd.prog 11 #[.pointer (some ⟨W, 0, none⟩), .agg #[.int .i64 kind, .int .i64 a, .int .i64 b]] w fun e w' => e = .returned (.bool true) ∧ SanF F n w0 w' W s' ∧ Kept (fun k => ¬ F k) w w' := by
  obtain ⟨OR, OL, h1, h2, h3, hF, h4⟩ := h
  refine (play_ok it n s kind a b W OR OL w (fun hk W1 k => hI hk W1 (h4.trans k)) h1 h2 hn hl).mono ?_
  rintro e w' ⟨rfl, OR', OL', g1, g2, g3, g4⟩
  have h5 := h2.played it kind a b
  rw [he] at g1 h5
  have hz := h4.size
  have hnew : ∀ g, w.heap.size ≤ g → w0.heap.size ≤ g ∧ ¬ F g := fun g hg => ⟨by omega, fun hf => by have := hF g hf; omega⟩
  refine ⟨rfl, ⟨OR', OL', g1, h5, ?_, fun k hk => Nat.lt_of_lt_of_le (hF k hk) g2.size, h4.trans' g2 (fun i hi h => by have := (h3 i h).1; omega)⟩, g2.mono (fun i _ h => (h3 i h).2)⟩
  rintro k (h | h | h)
  · exact h3 k (.inl h)
  · rcases g3 with rfl | ⟨g, rfl, hg⟩
    · exact h3 k (.inr (.inl h))
    · cases h; exact hnew _ hg
  · rcases g4 with rfl | ⟨g, rfl, hg⟩
    · exact h3 k (.inr (.inr h))
    · cases h; exact hnew _ hg
theorem playF_grows (it : Int → ByteArray) (s : WS) (k a b : Int) : s.lets.length ≤ (playF it s k a b).lets.length := by
  have st : ∀ i p, s.lets.length ≤ (stepF s i p).lets.length := by intro i p; simp [stepF]
  unfold playF
  split
  · omega
  split
  · split
    · exact st _ _
    · omega
  split
  · split
    · omega
    split
    · split
      · exact st _ _
      · omega
    · omega
  split
  · split
    · exact st _ _
    · omega
  split
  · split
    · exact st _ _
    · omega
  · omega
theorem Del.grows {it : Int → ByteArray} {s t : WS} {d e : Nat} (h : Del it s d t e) : s.lets.length ≤ t.lets.length := by
  induction h with
  | refl => exact Nat.le_refl _
  | step _ _ ih => exact Nat.le_trans (playF_grows _ _ _ _ _) ih
end Go.Proofs.YtgohploghbimlaaDoor
