/- The laws of the disk, in plain words. No program. -/
import Derived.Test.YtohijdopmokkgaaKD1
set_option linter.unusedVariables false
set_option linter.unusedSimpArgs false
set_option linter.unusedSectionVars false
namespace Go.Proofs.Ytohijdopmokkgaa
namespace Dk
variable {d : Dk}
theorem n_plays (l : List Op) : (d.plays l).n = d.n := by
  unfold plays
  induction l generalizing d with
  | nil => rfl
  | cons x l ih => rw [List.foldl_cons, ih, n_play]
theorem WF.plays (h : d.WF) {l : List Op} (hl : ∀ x ∈ l, x.i ≤ 9223372036854775807) : (d.plays l).WF := by
  unfold Dk.plays
  induction l generalizing d with
  | nil => exact h
  | cons x l ih => exact ih (h.play x (hl x List.mem_cons_self)) (fun y hy => hl y (List.mem_cons_of_mem _ hy))
theorem plays_snoc (l : List Op) (x : Op) : d.plays (l ++ [x]) = (d.plays l).play x := by simp [plays]
theorem plays_take {l : List Op} {k : Nat} {x : Op} (hx : l[k]? = some x) : d.plays (l.take (k + 1)) = (d.plays (l.take k)).play x := by
  have hk := (List.getElem?_eq_some_iff.1 hx).1
  rw [List.take_add_one, hx]
  exact plays_snoc _ _
theorem pending_nil (h : ∀ i, i < d.n → d.pn i = none) : d.pending = [] := by
  unfold pending
  apply List.filter_eq_nil_iff.2
  intro i hi
  rw [h i (List.mem_range.1 hi)]
  simp
theorem noPend_at (i : Nat) : (d.noPend[i]?).getD none = none := by
  cases h : d.noPend[i]? with
  | none => rfl
  | some o => rw [Option.getD_some]; exact noPend_get d i o h
theorem pn_settled (i : Nat) : d.settled.pn i = none := noPend_at i
theorem pn_mount (picks : List Int) (i : Nat) : (d.mount picks).pn i = none := noPend_at i
theorem pg_map {f : Nat → Pg} {e : Dk} {n i : Nat} (he : e.pages = (List.range n).map f) (hi : i < n) : e.pg i = f i := by
  unfold pg; rw [he, List.getElem?_map, List.getElem?_range hi]; rfl
theorem flush_up (h : d.off = false) : (d.doTrip (-1)).flushE = 0 ∧ (d.doTrip (-1)).flush = (d.doTrip (-1)).settled := by
  have h1 : (d.doTrip (-1)).trip = -1 := by show max (-1 : Int) (-1) = -1; omega
  have h2 : (d.doTrip (-1)).off = false := h
  unfold flushE flush stepE step
  rw [h2, h1]
  exact ⟨rfl, rfl⟩
theorem flush_off (h : d.off = true) (k : Int) : (d.doTrip k).flushE = 13 := by
  have h2 : (d.doTrip k).off = true := h
  unfold flushE
  rw [h2]; rfl
/-- a flush that succeeds keeps what is read, through a failure of the power -/
theorem keeps (h : d.WF) (ho : d.off = false) (h0 : 0 < d.n) (z : Pg) (hz : z.length = 1) (picks : List Int) :
    (((d.doTrip (-1)).flush).doTrip 0).writeE 0 0 z = 13 ∧
      ((((d.doTrip (-1)).flush.doTrip 0).write 0 0 z).mount picks).pages = (List.range d.n).map (fun i : Nat => (d.doTrip (-1)).readS (i : Int)) ∧
      ((((d.doTrip (-1)).flush.doTrip 0).write 0 0 z).mount picks).pending = [] := by
  rw [(flush_up ho).2]
  have hn : ((d.doTrip (-1)).settled.doTrip 0).n = d.n := by show ((List.range (d.doTrip (-1)).n).map _).length = _; rw [List.length_map, List.length_range]; rfl
  have hoff : ((d.doTrip (-1)).settled.doTrip 0).off = false := ho
  have ht : ((d.doTrip (-1)).settled.doTrip 0).trip = 0 := by show max (0 : Int) (-1) = 0; omega
  have hw : ((d.doTrip (-1)).settled.doTrip 0).wok 0 0 z = true := wok_iff.2 ⟨⟨by omega, by omega⟩, by omega, by omega, by omega⟩
  have hwr : ((d.doTrip (-1)).settled.doTrip 0).write 0 0 z = { (d.doTrip (-1)).settled.doTrip 0 with off := true } := by
    unfold write step
    rw [hoff, hw, ht]
    rfl
  refine ⟨?_, ?_, ?_⟩
  · unfold writeE stepE
    rw [hoff, hw, ht]
    rfl
  · rw [hwr]
    show (List.range _).map _ = _
    have : ({ (d.doTrip (-1)).settled.doTrip 0 with off := true } : Dk).n = d.n := hn
    rw [this]
    refine map_range_congr fun i hi => ?_
    have hp : ({ (d.doTrip (-1)).settled.doTrip 0 with off := true } : Dk).pn i = none := pn_settled i
    rw [torn_none picks hp]
    have e1 : ({ (d.doTrip (-1)).settled.doTrip 0 with off := true } : Dk).pg i = d.now i := pg_map (n := d.n) (f := d.now) rfl hi
    rw [e1]
    have e2 : (d.doTrip (-1)).off = false := ho
    have e3 : (d.doTrip (-1)).is (i : Int) = true := is_iff.2 ⟨by omega, by show (i : Int) < (d.n : Int); omega⟩
    unfold readS
    rw [e2, e3]
    rfl
  · exact pending_nil fun i _ => pn_mount picks i
theorem pending_at_rank {i : Nat} (hi : i < d.n) : (d.rank i < d.pending.length ∧ d.pending[d.rank i]? = some i) ↔ (d.pn i).isSome = true := by
  constructor
  · rintro ⟨_, h⟩
    obtain ⟨_, ⟨p, hp⟩, _⟩ := rank_pending h
    rw [hp]; rfl
  · intro h
    obtain ⟨p, hp⟩ := Option.isSome_iff_exists.1 h
    exact ⟨rank_lt hp hi, pending_rank hp hi⟩
theorem rank_succ (i : Nat) : d.rank (i + 1) = if (d.pn i).isSome then d.rank i + 1 else d.rank i := by
  unfold rank
  rw [List.range_succ, List.filter_append]
  cases h : (d.pn i).isSome <;> simp [h]
theorem rank_zero : d.rank 0 = 0 := rfl
theorem rank_n : d.rank d.n = d.pending.length := rfl
theorem readS_mount (h : d.WF) (picks : List Int) {i : Nat} (hi : i < d.n) : (d.mount picks).readE i = 0 ∧ (d.mount picks).readS i = d.torn picks i := by
  have e2 : (d.mount picks).off = false := rfl
  have e3 : (d.mount picks).is (i : Int) = true := is_iff.2 ⟨by omega, by rw [n_mount]; omega⟩
  have e4 : (d.mount picks).now i = d.torn picks i := by
    unfold now
    rw [pn_mount]
    exact pg_map (n := d.n) rfl hi
  unfold readE readS
  rw [e2, e3]
  exact ⟨rfl, e4⟩
theorem readS_up (ho : d.off = false) {i : Nat} (hi : i < d.n) : d.readE i = 0 ∧ d.readS i = d.now i := by
  have e3 : d.is (i : Int) = true := is_iff.2 ⟨by omega, by omega⟩
  unfold readE readS
  rw [ho, e3]
  exact ⟨rfl, rfl⟩
theorem flip_flip {p : Pg} {b : Nat} : flip (flip p b) b = p := by
  unfold flip
  by_cases h : b / 8 < p.length
  · rw [List.set_set]
    have e1 : (p.set (b / 8) ((p[b / 8]?).getD 0 ^^^ ((1 : UInt8) <<< UInt8.ofNat (b % 8))))[b / 8]? = some ((p[b / 8]?).getD 0 ^^^ ((1 : UInt8) <<< UInt8.ofNat (b % 8))) := by
      rw [List.getElem?_set_self h]
    rw [e1]
    have e2 : (p[b / 8]?).getD 0 = p[b / 8] := by simp [h]
    rw [e2, Option.getD_some, UInt8.xor_assoc, UInt8.xor_self, UInt8.xor_zero]
    exact List.set_getElem_self h
  · rw [List.set_eq_of_length_le (by rw [List.length_set]; omega), List.set_eq_of_length_le (by omega)]
theorem rot_rot (h : d.WF) (i b : Int) : (d.rot i b).rot i b = d := by
  by_cases hr : d.rotok i b = true
  · have hr' : (d.rot i b).rotok i b = true := by
      rw [rotok_iff, n_rot]; exact rotok_iff.1 hr
    obtain ⟨⟨h1, h2⟩, _⟩ := rotok_iff.1 hr
    have e1 : d.rot i b = { d with pages := d.pages.set i.toNat (flip (d.pg i.toNat) b.toNat) } := by unfold rot; rw [if_pos hr]
    rw [rot, if_pos hr', e1]
    have hi : i.toNat < d.n := by omega
    have e2 : ({ d with pages := d.pages.set i.toNat (flip (d.pg i.toNat) b.toNat) } : Dk).pg i.toNat = flip (d.pg i.toNat) b.toNat := by
      unfold pg
      show (((d.pages.set _ _)[i.toNat]?).getD [] : Pg) = _
      rw [List.getElem?_set_self hi]; rfl
    rw [e2, flip_flip]
    show Dk.mk _ _ _ _ = d
    rw [List.set_set]
    have e3 : d.pages.set i.toNat (d.pg i.toNat) = d.pages := by
      have := (h.pg_len hi).2
      obtain ⟨a1, a2⟩ := List.getElem?_eq_some_iff.1 this
      rw [← a2]; exact List.set_getElem_self a1
    rw [e3]
  · have : d.rot i b = d := by unfold rot; rw [if_neg hr]
    rw [this, this]
/-- a bit of a page: what Rot has changed -/
theorem rot_pg (i b : Int) (hr : d.rotok i b = true) {k : Nat} (hk : k < d.n) : (d.rot i b).pg k = if (k : Int) = i then flip (d.pg k) b.toNat else d.pg k := by
  obtain ⟨⟨h1, h2⟩, _⟩ := rotok_iff.1 hr
  have e1 : d.rot i b = { d with pages := d.pages.set i.toNat (flip (d.pg i.toNat) b.toNat) } := by unfold rot; rw [if_pos hr]
  rw [e1]
  unfold pg
  show (((d.pages.set _ _)[k]?).getD [] : Pg) = _
  by_cases h : (k : Int) = i
  · have : i.toNat = k := by omega
    rw [if_pos h, this, List.getElem?_set_self hk]; rfl
  · rw [if_neg h, List.getElem?_set_ne (by omega)]
theorem flip_at {p : Pg} {b m : Nat} (hm : m < p.length) : (flip p b)[m]? = some ((p[m]'hm) ^^^ (if m = b / 8 then (1 : UInt8) <<< UInt8.ofNat (b % 8) else 0)) := by
  unfold flip
  by_cases h : m = b / 8
  · subst h
    rw [List.getElem?_set_self hm, if_pos rfl]
    simp [hm]
  · rw [List.getElem?_set_ne (Ne.symm h), if_neg h, UInt8.xor_zero]
    simp [hm]
/-- what a write that succeeds does -/
theorem write_ok (h : d.WF) (i k : Int) (s : Pg) (he : d.writeE i k s = 0) : d.off = false ∧ d.wok i k s = true ∧ (d.write i k s).off = false ∧ (d.write i k s).pages = d.pages ∧ (d.write i k s).n = d.n ∧
    ∀ j, j < d.n → (d.write i k s).now j = if (j : Int) = i then putAt (d.now j) k.toNat s else d.now j := by
  unfold writeE at he
  cases ho : d.off with
  | true => rw [ho] at he; simp at he
  | false =>
    rw [ho] at he
    cases hw : d.wok i k s with
    | false => rw [hw] at he; simp at he
    | true =>
      rw [hw] at he
      simp only [Bool.false_eq_true, if_false, if_true, stepE] at he
      have ht : ¬ d.trip = 0 := by intro e; rw [if_pos e] at he; cases he
      obtain ⟨⟨h1, h2⟩, _⟩ := wok_iff.1 hw
      have e1 : d.write i k s = d.step.setPend i.toNat (putAt (d.now i.toNat) k.toNat s) := by
        unfold write; rw [ho, hw]; simp only [Bool.false_eq_true, if_false, if_true]; rw [if_neg ht]
      have e2 : d.step.off = false ∧ d.step.pages = d.pages ∧ d.step.pend = d.pend := by
        unfold step; rw [if_neg ht]; split <;> exact ⟨ho, rfl, rfl⟩
      rw [e1]
      refine ⟨rfl, rfl, e2.1, e2.2.1, by show d.step.pages.length = _; rw [e2.2.1]; rfl, fun j hj => ?_⟩
      have e3 : (d.step.setPend i.toNat (putAt (d.now i.toNat) k.toNat s)).pg j = d.pg j := by
        unfold pg; show ((d.step.pages[j]?).getD [] : Pg) = _; rw [e2.2.1]
      have e4 : (d.step.setPend i.toNat (putAt (d.now i.toNat) k.toNat s)).pn j = if (j : Int) = i then some (putAt (d.now i.toNat) k.toNat s) else d.pn j := by
        unfold pn
        show (((d.step.pend.set _ _)[j]?).getD none : Option Pg) = _
        rw [e2.2.2]
        by_cases hji : (j : Int) = i
        · have : i.toNat = j := by omega
          rw [if_pos hji, this, List.getElem?_set_self (by rw [h.len]; exact hj)]; rfl
        · rw [if_neg hji, List.getElem?_set_ne (by omega)]
      show (Option.getD _ _ : Pg) = _
      rw [e3, e4]
      by_cases hji : (j : Int) = i
      · have : i.toNat = j := by omega
        rw [if_pos hji, if_pos hji, this]; rfl
      · rw [if_neg hji, if_neg hji]; rfl
/-- what a write that fails does: nothing to the pages -/
theorem write_no (i k : Int) (s : Pg) (he : d.writeE i k s ≠ 0) : (d.write i k s).pages = d.pages ∧ (d.writeE i k s = 13 ∧ (d.write i k s).off = true ∨ d.writeE i k s = 1 ∧ d.wok i k s = false) := by
  unfold writeE at he ⊢
  unfold write
  cases ho : d.off with
  | true => exact ⟨rfl, .inl ⟨rfl, ho⟩⟩
  | false =>
    rw [ho] at he
    cases hw : d.wok i k s with
    | false => exact ⟨rfl, .inr ⟨rfl, rfl⟩⟩
    | true =>
      rw [hw] at he
      simp only [Bool.false_eq_true, if_false, if_true, stepE] at he ⊢
      have ht : d.trip = 0 := by
        by_cases e : d.trip = 0
        · exact e
        · rw [if_neg e] at he; exact absurd rfl he
      rw [if_pos ht, if_pos ht]
      unfold step
      rw [if_pos ht]
      exact ⟨rfl, .inl ⟨rfl, rfl⟩⟩
end Dk
end Go.Proofs.Ytohijdopmokkgaa
