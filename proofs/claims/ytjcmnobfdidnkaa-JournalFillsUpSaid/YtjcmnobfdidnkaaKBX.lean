/- Lists' elements and picks: what the walks of the disk have in common. -/
import Derived.Test.YtjcmnobfdidnkaaKA1
import Derived.Test.YtjcmnobfdidnkaaKAgg2
set_option linter.unusedVariables false
set_option linter.unusedSimpArgs false
set_option linter.unusedSectionVars false
namespace Go.Proofs.Ytjcmnobfdidnkaa
open Go.RowKit
set_option maxHeartbeats 4000000
set_option maxRecDepth 4000
theorem ret_e' {b b' : Int} (h' : b = b') : Ending.returned (.int .i64 b) = .returned (.int .i64 b') := by rw [h']
def EStr (c : List Value) (p : Pg) : Prop := c = [strV p]
def EInt (c : List Value) (x : Int) : Prop := c = [.int .i64 x]
theorem eStr_one : ∀ c x, EStr c x → ∀ u ∈ c, u.oneCell' = true := by rintro c x rfl u hu; simp at hu; subst hu; rfl
theorem eInt_one : ∀ c x, EInt c x → ∀ u ∈ c, u.oneCell' = true := by rintro c x rfl u hu; simp at hu; subst hu; rfl
theorem NewO.of_le {w w1 : World} {O O' : Option Nat} (hn : NewO w1 O O') (h : w.heap.size ≤ w1.heap.size) : NewO w O O' := by
  rcases hn with rfl | ⟨g, rfl, hg⟩
  · exact .inl rfl
  · exact .inr ⟨g, rfl, by omega⟩
def pendI (d : Dk) (k : Nat) : List Int := ((List.range k).filter fun i => (d.pn i).isSome).map (fun i : Nat => (i : Int))
theorem pendI_succ (d : Dk) (k : Nat) : pendI d (k + 1) = if (d.pn k).isSome then pendI d k ++ [(k : Int)] else pendI d k := by
  unfold pendI
  rw [List.range_succ, List.filter_append]
  cases h : (d.pn k).isSome <;> simp [h]
theorem pendI_len (d : Dk) (k : Nat) : (pendI d k).length ≤ k := by
  unfold pendI
  rw [List.length_map]
  have := List.length_filter_le (fun i => (d.pn i).isSome) (List.range k)
  simpa using this
theorem pendI_n (d : Dk) : pendI d d.n = d.pending.map (fun i : Nat => (i : Int)) := rfl
theorem getAt {α : Type} {xs : List α} {k : Nat} (h : k < xs.length) : ∃ x, xs[k]? = some x := ⟨xs[k], by simp [h]⟩
def Dk.settle1 (d : Dk) (i m : Nat) : Dk :=
  match d.pn i with
  | none => d
  | some p => { d with pages := d.pages.set i (p.take m ++ (d.pg i).drop m), pend := d.pend.set i none }
theorem Dk.WF.settle1 {d : Dk} (h : d.WF) {i m : Nat} (hm : m ≤ 128) : (d.settle1 i m).WF := by
  unfold Dk.settle1
  cases hp : d.pn i with
  | none => exact h
  | some p =>
    obtain ⟨hpl, hi⟩ := h.pn_len hp
    have hgl := (h.pg_len hi).1
    refine ⟨by simpa using h.len, fun j q hq => ?_, fun j q hq => ?_, h.lo, h.hi⟩
    · simp only [List.getElem?_set] at hq
      split at hq
      · split at hq
        · cases hq; simp only [List.length_append, List.length_take, List.length_drop]; omega
        · cases hq
      · exact h.page j q hq
    · simp only [List.getElem?_set] at hq
      split at hq
      · split at hq <;> cases hq
      · exact h.pen j q hq
theorem Dk.n_settle1 {d : Dk} {i m : Nat} : (d.settle1 i m).n = d.n := by
  unfold Dk.settle1
  cases d.pn i with
  | none => rfl
  | some p => show (List.set _ _ _).length = _; simp; rfl
theorem Dk.torn_succ {d : Dk} {picks : List Int} {k i : Nat} (h : d.pending[k]? = some i) : (d.tornTo picks k).settle1 i (Dk.pick picks k) = d.tornTo picks (k + 1) := by
  obtain ⟨h1, ⟨p, h2⟩, h3⟩ := Dk.rank_pending h
  obtain ⟨e1, e2⟩ := Dk.tornTo_now (picks := picks) h
  unfold Dk.settle1
  rw [e2, h2, e1]
  have e3 : p.take (Dk.pick picks k) ++ (d.pg i).drop (Dk.pick picks k) = d.torn picks i := by unfold Dk.torn; rw [h2, h3]
  show Dk.mk ((d.tornTo picks k).pages.set i (p.take (Dk.pick picks k) ++ (d.pg i).drop (Dk.pick picks k))) ((d.tornTo picks k).pend.set i none) _ _ = _
  rw [e3, Dk.torn_pages_succ h, Dk.torn_pend_succ h]
  rfl
theorem pick_of {picks : List Int} {k : Nat} {x : Int} (h : picks[k]? = some x) : (x < 0 ∧ Dk.pick picks k = 0) ∨ (128 < x ∧ Dk.pick picks k = 128) ∨ (x = (Dk.pick picks k : Nat) ∧ Dk.pick picks k ≤ 128) := by
  have e : Dk.pick picks k = Dk.clamp x := by unfold Dk.pick; rw [h]; rfl
  rw [e]
  unfold Dk.clamp
  by_cases h1 : x < 0
  · exact .inl ⟨h1, by omega⟩
  · by_cases h2 : 128 < x
    · exact .inr (.inl ⟨h2, by omega⟩)
    · exact .inr (.inr ⟨by omega, by omega⟩)
theorem pick_none {picks : List Int} {k : Nat} (h : ¬ k < picks.length) : Dk.pick picks k = 128 := by
  unfold Dk.pick; rw [List.getElem?_eq_none (by omega)]; rfl
theorem torn_n {d : Dk} (picks : List Int) (k : Nat) : (d.tornTo picks k).n = d.n := Dk.at_n _ _
end Go.Proofs.Ytjcmnobfdidnkaa
