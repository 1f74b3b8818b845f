/- Walks: Clone of the specification's disk. -/
import Derived.Test.YtohijdopmokkgaaKB7
import Derived.Deep.RegionHeld3
set_option linter.unusedVariables false
set_option linter.unusedSimpArgs false
set_option linter.unusedSectionVars false
namespace Go.Proofs.Ytohijdopmokkgaa
open Go.RowKit
set_option maxHeartbeats 4000000
set_option maxRecDepth 4000
variable {R Q : Nat} {d : Dk}
/-- an owned slice that has an element and no old owner lies in a new block -/
theorem owned_new {α : Type} {w w' : World} {O' : Option Nat} {e : TypeId} {sz : Nat} {E : List Value → α → Prop} {a : Option Addr} {n cap : Nat} {xs : List α} (h : OwnS w' O' e sz E (.slice a n cap) xs) (hn : NewO w none O') (h0 : 0 < xs.length) :
    ∃ g, a = some ⟨g, 0, none⟩ ∧ O' = some g ∧ w.heap.size ≤ g := by
  obtain ⟨a', c', e1, _, _, h5, h6⟩ := h.shape
  simp only [Value.slice.injEq] at e1
  obtain ⟨rfl, _, _⟩ := e1
  cases a with
  | none => have := (h5 rfl).1; omega
  | some b =>
    obtain ⟨g', h7, h8⟩ := h6 b rfl
    refine ⟨g', by rw [h7], h8, ?_⟩
    rcases hn with h9 | ⟨g2, h9, h10⟩
    · rw [h8] at h9; cases h9
    · rw [h8] at h9; cases h9; exact h10
theorem rclone_ok (w : World) (h : SD w R Q d) : Calls Try.prog 29 #[.pointer (some ⟨R, 0, none⟩)] w fun e w' => ∃ R2 Q2, e = .returned (.pointer (some ⟨R2, 0, none⟩)) ∧ SD w' R2 Q2 d ∧ (w.heap.size ≤ R2 ∧ w.heap.size ≤ Q2) ∧ Kept NoM w w' := by
  have HH := Lib.hid h
  have hn := h.n_hi
  have HWF := Lib.hid h.wf
  obtain ⟨cap, c0, c1, c2⟩ := h.cells
  obtain ⟨cap', hR, hO, _⟩ := h
  obtain rfl : cap' = cap := by
    have := cell_blk hR 0 _ rfl
    rw [c0] at this
    simp at this
    exact this.symm
  have hl : (spOf d).length = d.n := spOf_len
  have HL := Lib.hid hl
  have hrd : ∀ w', Kept NoM w w' → RdS w' NoM 3 ESp (.slice (some ⟨Q, 0, none⟩) d.n cap') (spOf d) := fun w' k => (hO.kept k (fun _ _ x => x) (fun _ _ x => x)).rd (fun _ _ x => x)
  have HRD := Lib.hid hrd
  have KS : ∀ w', Kept NoM w w' → w'.cell? ⟨R, 0, none⟩ = some (.slice (some ⟨Q, 0, none⟩) d.n cap') ∧ w'.cell? ⟨R, 1, none⟩ = some (.bool d.off) ∧ w'.cell? ⟨R, 2, none⟩ = some (.int .i64 d.trip) := fun w' k => ⟨k.cell c0 (fun x => x), k.cell c1 (fun x => x), k.cell c2 (fun x => x)⟩
  have HKS := Lib.hid KS
  have hb1 : 0 + d.n ≤ maxLen := by have : (9223372036854775807 : Nat) = maxLen := rfl; omega
  have hb2 : (0 + d.n) * 40 ≤ 140737488355328 := by omega
  clear hR hO hl hrd KS
  go_enter Try.func29, Try.ntmps29
  go_wp2_with fail
  go_region_held3 (fun w' => w'.cell? ⟨R, 0, none⟩ = some (.slice (some ⟨Q, 0, none⟩) d.n cap') ∧ w'.cell? ⟨R, 1, none⟩ = some (.bool d.off) ∧ w'.cell? ⟨R, 2, none⟩ = some (.int .i64 d.trip)) (first | exact HKS.out _ ((Kept.refl NoM w).drew) | exact HKS.out _ k9.out | exact HKS.out _ (k9.out.alloc _)) ((refine step_append_S (M := NoM) rfl (.tmp 4) (.tmp 8) 54 rfl 40 tyRPages _ rfl (OwnS.nil _ _ _ _ : OwnS _ none 53 3 ESp (.slice none 0 0) []) _ rfl (HRD.out _ ((Kept.refl NoM w).drew)) eSp_one 0 d.n rfl HL.out hb1 hb2 ?_; intro a1 cap1 w1 O1 own1 k1 n1; have k9 := Lib.hid (((Kept.refl NoM w).drew).trans' k1 (fun i hi h => by simp at h)); obtain ⟨Q2, hq1, hq2, hq3⟩ := owned_new own1 n1 (by simp [HL.out]; omega); subst hq1; subst hq2; have OWN := Lib.hid own1; have HQ3 := Lib.hid hq3; clear own1 k1 n1 hq3))
  go_wp2_with fail
  go_ret
  have hbox : Kept NoM w1 (w1.alloc (.cells #[.slice (some ⟨Q2, 0, none⟩) d.n cap1, .bool d.off, .int .i64 d.trip] 56)) := (Kept.refl NoM w1).alloc _
  have hq := OWN.out.lt Q2 rfl
  have hz := k9.out.size
  refine ⟨w1.heap.size, Q2, rfl, ⟨cap1, blk_new w1 _, ?_, HWF.out, hn.1, hn.2, by omega⟩, ⟨by omega, HQ3.out⟩, k9.out.trans hbox⟩
  have := OWN.out
  simp only [List.nil_append, Nat.zero_add] at this
  exact this.kept hbox (fun _ _ x => x) (fun _ _ x => x)
end Go.Proofs.Ytohijdopmokkgaa
