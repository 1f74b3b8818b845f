/- Walks: Propose, whole; New of a number that is too great; the specification's New and Propose. -/
import Derived.Test.YtgohploghbimlaaDoorKPA
import Derived.Test.YtgohploghbimlaaDoorKWA
import Derived.Test.YtgohploghbimlaaDoorKRN
import Derived.Test.YtgohploghbimlaaDoorKRO
set_option linter.unusedVariables false
set_option linter.unusedSimpArgs false
set_option linter.unusedSectionVars false
namespace Go.Proofs.YtgohploghbimlaaDoor
open Go.RowKit
set_option maxHeartbeats 1000000
set_option maxRecDepth 4000

theorem newNot_ok (id count : Int) (h0 : 1 ≤ count) (h1 : count ≤ 7) (h3 : count ≤ id) (w : World) :
    Calls Tryd.prog 8 #[.int .i64 id, .int .i64 count] w fun e w' =>
      e = .returned (.tuple #[.agg #[.int .i64 0, .int .i64 0, .int .i64 0, .int .i64 0, .int .i64 0, .slice none 0 0, .int .i64 0, .slice none 0 0, .slice none 0 0], .int .i64 1]) ∧ Kept NoM w w' := by
  go_enter Tryd.func8, Tryd.ntmps8
  go_wp2_with fail
  refine (validNewNot_ok _ _ (by omega) (by omega) (by omega) _).mono ?_
  rintro e w1 ⟨rfl, hk⟩
  have hz := hk.size
  simp at hz
  have b0 := hk.blk (k := w.heap.size) (blk_old (blk_new _ _) _) (fun x => x)
  have b1 := hk.blk (k := w.heap.size + 1) (blk_new' _ _ _ (by simp)) (fun x => x)
  obtain ⟨w2, e2, hz2, k2⟩ : ∃ w2, w1 = putB (putB w2 (w.heap.size) _ _) (w.heap.size + 1) _ _ ∧ w.heap.size + 2 ≤ w2.heap.size ∧ Kept NoM w w2 := ⟨w1, by rw [← putB_self b0]; exact putB_self b1, by omega, (((Kept.refl _ _).alloc _).alloc _).trans hk⟩
  subst e2
  clear hk b0 b1 hz
  have z0 : w.heap.size < w2.heap.size := by omega
  have z1 : w.heap.size + 1 < w2.heap.size := by omega
  go_wp2_with fail
  refine bodyPost_ret (v := .tuple #[.agg #[.int .i64 0, .int .i64 0, .int .i64 0, .int .i64 0, .int .i64 0, .slice none 0 0, .int .i64 0, .slice none 0 0, .slice none 0 0], .int .i64 1]) (by simp [results, Tryd.results8, go_sem, z0, z1]) rfl ?_
  refine ⟨rfl, (k2.putN ?_ _ _).putN ?_ _ _⟩ <;> omega

theorem rnew_ok (id count : Int) (h0 : 1 ≤ count) (h1 : count ≤ 7) (h2 : 0 ≤ id) (h3 : id < count) (w : World) :
    Calls Tryd.prog 9 #[.int .i64 id, .int .i64 count] w fun e w' =>
      e = .returned (.tuple #[.agg #[.int .i64 id, .int .i64 count, .int .i64 0, .int .i64 (-1), .int .i64 1, .slice none 0 0, .int .i64 0, .slice none 0 0, .slice none 0 0], .int .i64 0]) ∧ Kept NoM w w' := by
  go_enter Tryd.func9, Tryd.ntmps9
  go_wp2_with fail
  refine (rvalid_ok ⟨id, count, 0, -1, 1, [], 0, [], []⟩ _ _ _ _ (RdItems.nil _ _) (RdBools.nil _ _) (RdInts.nil _ _) (Valid.newF h2 h3 h1)).mono ?_
  rintro e w1 ⟨rfl, hk⟩
  have hz := hk.size
  simp at hz
  have b0 := hk.blk (k := w.heap.size) (blk_old (blk_new _ _) _) (fun x => x)
  have b1 := hk.blk (k := w.heap.size + 1) (blk_new' _ _ _ (by simp)) (fun x => x)
  obtain ⟨w2, e2, hz2, k2⟩ : ∃ w2, w1 = putB (putB w2 (w.heap.size) _ _) (w.heap.size + 1) _ _ ∧ w.heap.size + 2 ≤ w2.heap.size ∧ Kept NoM w w2 := ⟨w1, by rw [← putB_self b0]; exact putB_self b1, by omega, (((Kept.refl _ _).alloc _).alloc _).trans hk⟩
  subst e2
  clear hk b0 b1 hz
  have z0 : w.heap.size < w2.heap.size := by omega
  have z1 : w.heap.size + 1 < w2.heap.size := by omega
  go_wp2_with fail
  refine bodyPost_ret (v := .tuple #[.agg #[.int .i64 id, .int .i64 count, .int .i64 0, .int .i64 (-1), .int .i64 1, .slice none 0 0, .int .i64 0, .slice none 0 0, .slice none 0 0], .int .i64 0]) (by simp [results, Tryd.results9, go_sem, z0, z1]) rfl ?_
  refine ⟨rfl, (k2.putN ?_ _ _).putN ?_ _ _⟩ <;> omega

/-- the error that Propose returns -/
def proposeE (r : Rep) (t : ByteArray) : Int := if r.role ≠ 3 then 22 else if (t.size : Int) > 8000 ∨ r.log.length ≥ 1000 then 2 else 0
theorem rpropose_ok (r : Rep) (tx : ByteArray) (lv vv mv : Value) (M : Nat → Prop) (w : World) (hlv : RdItems w M lv r.log) (hvv : RdBools w M vv r.votes) (hmv : RdInts w M mv r.mat) (hr : Valid r) :
    Calls Tryd.prog 27 #[.agg #[.int .i64 r.id, .int .i64 r.count, .int .i64 r.epoch, .int .i64 r.voted, .int .i64 r.role, lv, .int .i64 r.conf, vv, mv], .string tx] w (RSent M w (proposeF r tx).1 (proposeF r tx).2.1 (proposeE r tx)) := by
  unfold proposeE
  split
  · next h => exact rpropose_not r tx lv vv mv M w hlv hvv hmv h
  split
  · next h3 h => exact rpropose_full r tx lv vv mv M w hlv hvv hmv (by omega) h
  · next h3 h => exact rpropose_yes r tx lv vv mv M w hlv hvv hmv hr (by omega) (fun x => h (.inl x)) (fun x => h (.inr x))
variable [A : Inhabited (Nat → Prop)]
theorem propose_ok (r : Rep) (tx : ByteArray) (lv vv mv : Value) (w : World) (hlv : RdItems w Away lv r.log) (hvv : RdBools w Away vv r.votes) (hmv : RdInts w Away mv r.mat) (hr : Valid r) :
    Calls Tryd.prog 26 #[.agg #[.int .i64 r.id, .int .i64 r.count, .int .i64 r.epoch, .int .i64 r.voted, .int .i64 r.role, lv, .int .i64 r.conf, vv, mv], .string tx] w (Hands3 w (proposeF r tx).1 (proposeF r tx).2.1 (proposeE r tx)) := by
  unfold proposeE
  split
  · next h => exact propose_not r tx lv vv mv w hlv hvv hmv h
  split
  · next h3 h => exact propose_full r tx lv vv mv w hlv hvv hmv (by omega) h
  · next h3 h => exact propose_yes r tx lv vv mv w hlv hvv hmv hr (by omega) (fun x => h (.inl x)) (fun x => h (.inr x))
end Go.Proofs.YtgohploghbimlaaDoor
