/- A disk in plain words: loops over its pages. No program. -/
import Derived.Test.YtohijdopmokkgaaKD0
set_option linter.unusedVariables false
set_option linter.unusedSimpArgs false
set_option linter.unusedSectionVars false
namespace Go.Proofs.Ytohijdopmokkgaa
theorem map_set_range {α : Type} (f : Nat → α) (n k : Nat) (v : α) : ((List.range n).map f).set k v = (List.range n).map (fun i => if i = k then v else f i) := by
  apply List.ext_getElem?
  intro j
  rw [List.getElem?_set, List.getElem?_map, List.getElem?_map]
  by_cases hj : j < n
  · rw [List.getElem?_range hj]
    simp only [Option.map_some, List.length_map, List.length_range]
    by_cases hk : k = j
    · subst hk; simp [hj]
    · rw [if_neg hk, if_neg (Ne.symm hk)]
  · rw [List.getElem?_eq_none (by simp; omega)]
    simp only [Option.map_none, List.length_map, List.length_range]
    split
    · rw [if_neg (by omega)]
    · rfl
theorem map_range_congr {α : Type} {f g : Nat → α} {n : Nat} (h : ∀ i, i < n → f i = g i) : (List.range n).map f = (List.range n).map g := by
  apply List.map_congr_left
  intro i hi
  exact h i (List.mem_range.1 hi)
theorem filter_range_at (p : Nat → Bool) (n i : Nat) (hi : i < n) (hp : p i = true) : ((List.range n).filter p)[((List.range i).filter p).length]? = some i := by
  induction n with
  | zero => omega
  | succ n ih =>
    rw [List.range_succ, List.filter_append]
    by_cases h : i < n
    · have := ih h
      rw [List.getElem?_append_left (List.getElem?_eq_some_iff.1 this).1]
      exact this
    · obtain rfl : i = n := by omega
      rw [List.getElem?_append_right (Nat.le_refl _)]
      simp [hp]
theorem filter_range_rank (p : Nat → Bool) (n i j : Nat) (h : ((List.range n).filter p)[j]? = some i) : i < n ∧ p i = true ∧ ((List.range i).filter p).length = j := by
  induction n with
  | zero => simp at h
  | succ n ih =>
    rw [List.range_succ, List.filter_append] at h
    by_cases hj : j < ((List.range n).filter p).length
    · rw [List.getElem?_append_left hj] at h
      obtain ⟨h1, h2, h3⟩ := ih h
      exact ⟨by omega, h2, h3⟩
    · rw [List.getElem?_append_right (by omega)] at h
      by_cases hp : p n = true
      · simp only [List.filter_cons, hp, if_true, List.filter_nil] at h
        have : j - ((List.range n).filter p).length = 0 := by
          have := (List.getElem?_eq_some_iff.1 h).1; simpa using this
        rw [this] at h
        simp only [List.getElem?_cons_zero, Option.some.injEq] at h
        subst h
        exact ⟨by omega, hp, by omega⟩
      · simp [List.filter_cons, hp] at h
theorem filter_range_sorted (p : Nat → Bool) (n : Nat) : ((List.range n).filter p).Pairwise (· < ·) := List.pairwise_lt_range.filter _
namespace Dk
variable {d : Dk}
theorem WF.pages_eq (h : d.WF) : d.pages = (List.range d.n).map d.pg := by
  apply List.ext_getElem?
  intro i
  rw [List.getElem?_map]
  by_cases hi : i < d.n
  · rw [List.getElem?_range hi, (h.pg_len hi).2]; rfl
  · rw [List.getElem?_eq_none (by unfold n at hi; omega), List.getElem?_eq_none (by simpa using hi)]; rfl
theorem WF.pend_eq (h : d.WF) : d.pend = (List.range d.n).map d.pn := by
  apply List.ext_getElem?
  intro i
  rw [List.getElem?_map]
  by_cases hi : i < d.n
  · rw [List.getElem?_range hi]
    have hl : i < d.pend.length := by rw [h.len]; exact hi
    unfold pn
    simp [hl]
  · rw [List.getElem?_eq_none (by rw [h.len]; unfold n at hi; omega), List.getElem?_eq_none (by simpa using hi)]; rfl
/-- a disk whose pages and pending contents are told by index -/
def at_ (d : Dk) (f : Nat → Pg) (g : Nat → Option Pg) : Dk := { d with pages := (List.range d.n).map f, pend := (List.range d.n).map g }
theorem WF.at_self (h : d.WF) : d.at_ d.pg d.pn = d := by
  unfold at_
  rw [← h.pages_eq, ← h.pend_eq]
theorem at_n (f : Nat → Pg) (g : Nat → Option Pg) : (d.at_ f g).n = d.n := by show ((List.range d.n).map f).length = _; simp
theorem at_pg (f : Nat → Pg) (g : Nat → Option Pg) {i : Nat} (hi : i < d.n) : (d.at_ f g).pg i = f i := by
  unfold pg at_; simp [List.getElem?_map, List.getElem?_range hi]
theorem at_pn (f : Nat → Pg) (g : Nat → Option Pg) {i : Nat} (hi : i < d.n) : (d.at_ f g).pn i = g i := by
  unfold pn at_; simp [List.getElem?_map, List.getElem?_range hi]
theorem pn_none {i : Nat} (h : d.WF) (hi : d.n ≤ i) : d.pn i = none := by
  unfold pn
  rw [List.getElem?_eq_none (by rw [h.len]; exact hi)]; rfl
theorem noPend_eq : d.noPend = (List.range d.n).map (fun _ => none) := by
  apply List.ext_getElem?
  intro i
  simp only [noPend, List.getElem?_replicate, List.getElem?_map]
  by_cases hi : i < d.n
  · rw [if_pos hi, List.getElem?_range hi]; rfl
  · rw [if_neg hi, List.getElem?_eq_none (by simpa using hi)]; rfl
/-- settled, page by page -/
def upto (d : Dk) (k : Nat) : Dk := d.at_ (fun i => if i < k then d.now i else d.pg i) (fun i => if i < k then none else d.pn i)
theorem WF.upto0 (h : d.WF) : d.upto 0 = d := by
  have : d.upto 0 = d.at_ d.pg d.pn := by simp [upto]
  rw [this, h.at_self]
theorem upto_n : d.upto d.n = d.settled := by
  unfold upto at_ settled
  rw [noPend_eq]
  congr 1
  · exact map_range_congr fun i hi => if_pos hi
  · exact map_range_congr fun i hi => if_pos hi
/-- torn, pending page by pending page -/
def tornTo (d : Dk) (picks : List Int) (k : Nat) : Dk :=
  d.at_ (fun i => if d.rank i < k then d.torn picks i else d.pg i) (fun i => if d.rank i < k then none else d.pn i)
theorem torn_none {i : Nat} (picks : List Int) (h : d.pn i = none) : d.torn picks i = d.pg i := by unfold torn; rw [h]
theorem WF.torn0 (h : d.WF) (picks : List Int) : d.tornTo picks 0 = d := by
  have : d.tornTo picks 0 = d.at_ d.pg d.pn := by simp [tornTo]
  rw [this, h.at_self]
theorem rank_pending {i j : Nat} (h : d.pending[j]? = some i) : i < d.n ∧ (∃ p, d.pn i = some p) ∧ d.rank i = j := by
  obtain ⟨h1, h2, h3⟩ := filter_range_rank _ _ _ _ h
  exact ⟨h1, Option.isSome_iff_exists.1 h2, h3⟩
theorem pending_rank {i : Nat} {p : Pg} (h : d.pn i = some p) (hi : i < d.n) : d.pending[d.rank i]? = some i :=
  filter_range_at _ _ _ hi (by simp [h])
theorem rank_lt {i : Nat} {p : Pg} (h : d.pn i = some p) (hi : i < d.n) : d.rank i < d.pending.length :=
  (List.getElem?_eq_some_iff.1 (pending_rank h hi)).1
theorem rank_inj {i j : Nat} {p q : Pg} (h : d.pn i = some p) (hi : i < d.n) (h' : d.pn j = some q) (hj : j < d.n) (e : d.rank i = d.rank j) : i = j := by
  have a := pending_rank h hi
  have b := pending_rank h' hj
  rw [e, b] at a
  exact (Option.some.inj a).symm
/-- the pages after k pending ones have been torn: what the list of pages is -/
theorem torn_pages_succ {picks : List Int} {k i : Nat} (h : d.pending[k]? = some i) :
    (d.tornTo picks k).pages.set i (d.torn picks i) = (d.tornTo picks (k + 1)).pages := by
  obtain ⟨h1, ⟨p, h2⟩, h3⟩ := rank_pending h
  show ((List.range d.n).map _).set i _ = (List.range d.n).map _
  rw [map_set_range]
  refine map_range_congr fun j hj => ?_
  by_cases hji : j = i
  · subst hji; rw [if_pos rfl, if_pos (by omega)]
  · rw [if_neg hji]
    cases hq : d.pn j with
    | none => rw [torn_none picks hq]; split <;> split <;> rfl
    | some q =>
      have : d.rank j ≠ k := fun e => hji (rank_inj hq hj h2 h1 (by omega))
      by_cases hlt : d.rank j < k
      · rw [if_pos hlt, if_pos (by omega)]
      · rw [if_neg hlt, if_neg (by omega)]
theorem torn_pend_succ {picks : List Int} {k i : Nat} (h : d.pending[k]? = some i) :
    (d.tornTo picks k).pend.set i none = (d.tornTo picks (k + 1)).pend := by
  obtain ⟨h1, ⟨p, h2⟩, h3⟩ := rank_pending h
  show ((List.range d.n).map _).set i _ = (List.range d.n).map _
  rw [map_set_range]
  refine map_range_congr fun j hj => ?_
  by_cases hji : j = i
  · subst hji; rw [if_pos rfl, if_pos (by omega)]
  · rw [if_neg hji]
    cases hq : d.pn j with
    | none => split <;> split <;> rfl
    | some q =>
      have : d.rank j ≠ k := fun e => hji (rank_inj hq hj h2 h1 (by omega))
      by_cases hlt : d.rank j < k
      · rw [if_pos hlt, if_pos (by omega)]
      · rw [if_neg hlt, if_neg (by omega)]
theorem torn_all (picks : List Int) : { d.tornTo picks d.pending.length with off := false, trip := -1 } = d.mount picks := by
  have h1 : (d.tornTo picks d.pending.length).pages = (List.range d.n).map (d.torn picks) := by
    refine map_range_congr fun i hi => ?_
    cases hp : d.pn i with
    | none => rw [torn_none picks hp]; split <;> rfl
    | some p => rw [if_pos (rank_lt hp hi)]
  have h2 : (d.tornTo picks d.pending.length).pend = d.noPend := by
    rw [noPend_eq]
    refine map_range_congr fun i hi => ?_
    cases hp : d.pn i with
    | none => split <;> rfl
    | some p => rw [if_pos (rank_lt hp hi)]
  show Dk.mk _ _ _ _ = _
  rw [h1, h2]
  rfl
theorem tornTo_now {picks : List Int} {k i : Nat} (h : d.pending[k]? = some i) : (d.tornTo picks k).pg i = d.pg i ∧ (d.tornTo picks k).pn i = d.pn i := by
  obtain ⟨h1, ⟨p, h2⟩, h3⟩ := rank_pending h
  unfold tornTo
  rw [at_pg _ _ h1, at_pn _ _ h1, if_neg (by omega), if_neg (by omega)]
  exact ⟨rfl, rfl⟩
/-- flushed: those that are not left -/
def done (d : Dk) (left : Nat → Bool) : List Pg := (List.range d.n).map (fun i => match d.pn i with | some p => if left i then d.pg i else p | none => d.pg i)
theorem WF.done_start (h : d.WF) : d.done (fun i => (d.pn i).isSome) = d.pages := by
  rw [h.pages_eq]
  refine map_range_congr fun i _ => ?_
  cases hp : d.pn i <;> simp [hp]
theorem done_end {left : Nat → Bool} (h : ∀ i, left i = false) : d.done left = d.settled.pages := by
  show _ = (List.range d.n).map d.now
  refine map_range_congr fun i _ => ?_
  unfold now
  cases d.pn i <;> simp [h i]
theorem done_step {left : Nat → Bool} {x : Nat} {p : Pg} (hp : d.pn x = some p) : (d.done left).set x p = d.done (fun i => left i && !(i == x)) := by
  unfold done
  rw [map_set_range]
  refine map_range_congr fun i _ => ?_
  by_cases h : i = x
  · subst h; simp [hp]
  · rw [if_neg h]
    cases d.pn i with
    | none => rfl
    | some q => simp [h]
theorem done_len (left : Nat → Bool) : (d.done left).length = d.n := by simp [done]
end Dk
end Go.Proofs.Ytohijdopmokkgaa
