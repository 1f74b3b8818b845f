/- Walks: settle of the specification's disk. -/
import Derived.Test.YtohijdopmokkgaaKB1
import Derived.StillTailTactics
set_option linter.unusedVariables false
set_option linter.unusedSimpArgs false
set_option linter.unusedSectionVars false
namespace Go.Proofs.Ytohijdopmokkgaa
open Go.RowKit
set_option maxHeartbeats 4000000
set_option maxRecDepth 4000
def Dk.settle1 (d : Dk) (i m : Nat) : Dk :=
  match d.pn i with
  | none => d
  | some p => { d with pages := d.pages.set i (p.take m ++ (d.pg i).drop m), pend := d.pend.set i none }
theorem Dk.WF.settle1 {d : Dk} (h : d.WF) {i m : Nat} (hm : m ≤ 128) : (d.settle1 i m).WF := by
  unfold Dk.settle1
  cases hp : d.pn i with
  | none => exact h
  | some p =>
    obtain ⟨hpl, hi⟩ := h.pn_len hp
    have hgl := (h.pg_len hi).1
    refine ⟨by simpa using h.len, fun j q hq => ?_, fun j q hq => ?_, h.lo, h.hi⟩
    · simp only [List.getElem?_set] at hq
      split at hq
      · split at hq
        · cases hq; simp only [List.length_append, List.length_take, List.length_drop]; omega
        · cases hq
      · exact h.page j q hq
    · simp only [List.getElem?_set] at hq
      split at hq
      · split at hq <;> cases hq
      · exact h.pen j q hq
theorem Dk.n_settle1 {d : Dk} {i m : Nat} : (d.settle1 i m).n = d.n := by
  unfold Dk.settle1
  cases d.pn i with
  | none => rfl
  | some p => show (List.set _ _ _).length = _; simp; rfl
theorem spOf_settle1 {d : Dk} (h : d.WF) {i m : Nat} {p : Pg} (hp : d.pn i = some p) : spOf (d.settle1 i m) = (spOf d).set i (p.take m ++ (d.pg i).drop m, none) := by
  have hi := (h.pn_len hp).2
  unfold spOf
  rw [map_set_range, Dk.n_settle1]
  refine map_range_congr fun j hj => ?_
  have e : d.settle1 i m = { d with pages := d.pages.set i (p.take m ++ (d.pg i).drop m), pend := d.pend.set i none } := by unfold Dk.settle1; rw [hp]
  by_cases hji : j = i
  · subst hji
    rw [if_pos rfl, e]
    unfold Dk.pg Dk.pn
    show ((((d.pages.set j _)[j]?).getD [] : Pg), ((d.pend.set j none)[j]?).getD none) = _
    rw [List.getElem?_set_self hi, List.getElem?_set_self (by rw [h.len]; exact hi)]; rfl
  · rw [if_neg hji, e]
    unfold Dk.pg Dk.pn
    show ((((d.pages.set i _)[j]?).getD [] : Pg), ((d.pend.set i none)[j]?).getD none) = _
    rw [List.getElem?_set_ne (Ne.symm hji), List.getElem?_set_ne (Ne.symm hji)]
variable {R Q : Nat} {d : Dk}
/-- a page of the specification is overwritten -/
theorem SD.setPage {w : World} (h : SD w R Q d) {i : Nat} (hi : i < d.n) {j : Nat} {us : List Value} {x' : Pg × Option Pg} {d' : Dk} (hj : j + us.length ≤ 3) (hE : splice [strV (d.pg i), strV ((d.pn i).getD []), .bool (d.pn i).isSome] j us = [strV x'.1, strV (x'.2.getD []), .bool x'.2.isSome])
    (hs : spOf d' = (spOf d).set i x') (hw : d'.WF) (hn : d'.n = d.n) (ho : d'.off = d.off) (ht : d'.trip = d.trip) :
    ∃ cur, w.heap[Q]? = some (.cells cur 53 (0, 0)) ∧ i * 3 + j + us.length ≤ cur.size ∧ SD (putB w Q (splice cur.toList (i * 3 + j) us).toArray 53) R Q d' ∧ Kept (InS R Q) w (putB w Q (splice cur.toList (i * 3 + j) us).toArray 53) := by
  obtain ⟨cap, h1, hO, h2, h3, h4, h5⟩ := h
  obtain ⟨g, cap', cur, e1, e2, e3, e4, e5, e6, e7⟩ := hO.part (j := j) (us := us) (x' := x') (spOf_at hi) hj (by rintro cs rfl _; exact hE)
  simp only [Option.some.injEq] at e4
  subst e4
  refine ⟨cur, e5, e6, ⟨cap, ?_, ?_, hw, by rw [hn]; exact h3, by rw [hn]; exact h4, h5⟩, (Kept.refl _ _).putM (.inr rfl) _ _⟩
  · rw [hn, ho, ht, putB_blk_ne _ _ _ _ _ h5]; exact h1
  · rw [hn, hs]; exact e7
end Go.Proofs.Ytohijdopmokkgaa
