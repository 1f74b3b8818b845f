/- Texts that belong together: D0, D1, D2, J0, K0, K1, K2, K3, K4, K5, K6, K7, K8. -/
set_option linter.unusedVariables false
set_option linter.unusedSimpArgs false
set_option linter.unusedSectionVars false
/- A disk in plain words: pages, pending contents, power, trip; and its operations. No program. -/
namespace Go.Proofs.Ytjcmnobfdidnkaa
abbrev Pg := List UInt8
structure Dk where
  pages : List Pg
  pend : List (Option Pg)
  off : Bool
  trip : Int
namespace Dk
structure WF (d : Dk) : Prop where
  len : d.pend.length = d.pages.length
  page : ∀ (i : Nat) (p : Pg), d.pages[i]? = some p → p.length = 128
  pen : ∀ (i : Nat) (p : Pg), d.pend[i]? = some (some p) → p.length = 128
  lo : -1 ≤ d.trip
  hi : d.trip ≤ 9223372036854775807
def zero : Pg := List.replicate 128 0
def new (n : Nat) : Dk := ⟨List.replicate n zero, List.replicate n none, false, -1⟩
/-- the pending content of a page -/
def pn (d : Dk) (i : Nat) : Option Pg := (d.pend[i]?).getD none
def pg (d : Dk) (i : Nat) : Pg := (d.pages[i]?).getD []
def now (d : Dk) (i : Nat) : Pg := (d.pn i).getD (d.pg i)
def n (d : Dk) : Nat := d.pages.length
def is (d : Dk) (i : Int) : Bool := decide (0 ≤ i) && decide (i < d.n)
def stepE (d : Dk) : Int := if d.trip = 0 then 13 else 0
def step (d : Dk) : Dk := if d.trip = 0 then { d with off := true } else if 0 < d.trip then { d with trip := d.trip - 1 } else d
/-- Read: the text and the error -/
def readE (d : Dk) (i : Int) : Int := if d.off then 13 else if d.is i then 0 else 1
def readS (d : Dk) (i : Int) : Pg := if d.off then [] else if d.is i then d.now i.toNat else []
def putAt (old : Pg) (k : Nat) (s : Pg) : Pg := old.take k ++ s ++ old.drop (k + s.length)
def wok (d : Dk) (i k : Int) (s : Pg) : Bool := d.is i && decide (0 ≤ k) && decide (k ≤ 128) && decide ((s.length : Int) ≤ 128 - k)
def setPend (d : Dk) (i : Nat) (p : Pg) : Dk := { d with pend := d.pend.set i (some p) }
def writeE (d : Dk) (i k : Int) (s : Pg) : Int := if d.off then 13 else if d.wok i k s then d.stepE else 1
def write (d : Dk) (i k : Int) (s : Pg) : Dk :=
  if d.off then d else if d.wok i k s then (if d.trip = 0 then d.step else d.step.setPend i.toNat (putAt (d.now i.toNat) k.toNat s)) else d
def noPend (d : Dk) : List (Option Pg) := List.replicate d.n none
def flushE (d : Dk) : Int := if d.off then 13 else d.stepE
def settled (d : Dk) : Dk := { d with pages := (List.range d.n).map d.now, pend := d.noPend }
def flush (d : Dk) : Dk := if d.off then d else if d.trip = 0 then d.step else d.step.settled
def doTrip (d : Dk) (k : Int) : Dk := { d with trip := max k (-1) }
/-- how many pending pages lie before a page -/
def rank (d : Dk) (i : Nat) : Nat := ((List.range i).filter fun k => (d.pn k).isSome).length
def clamp (x : Int) : Nat := (min (max x 0) 128).toNat
def pick (picks : List Int) (k : Nat) : Nat := (picks[k]?.map clamp).getD 128
def torn (d : Dk) (picks : List Int) (i : Nat) : Pg :=
  match d.pn i with
  | none => d.pg i
  | some p => p.take (pick picks (d.rank i)) ++ (d.pg i).drop (pick picks (d.rank i))
def mount (d : Dk) (picks : List Int) : Dk := ⟨(List.range d.n).map (d.torn picks), d.noPend, false, -1⟩
def rotok (d : Dk) (i b : Int) : Bool := d.is i && decide (0 ≤ b) && decide (b < 1024)
def rotE (d : Dk) (i b : Int) : Int := if d.rotok i b then 0 else 1
def flip (p : Pg) (b : Nat) : Pg := p.set (b / 8) ((p[b / 8]?).getD 0 ^^^ ((1 : UInt8) <<< UInt8.ofNat (b % 8)))
def rot (d : Dk) (i b : Int) : Dk := if d.rotok i b then { d with pages := d.pages.set i.toNat (flip (d.pg i.toNat) b.toNat) } else d
def pending (d : Dk) : List Nat := (List.range d.n).filter fun k => (d.pn k).isSome
end Dk

/-- an operation of a script -/
structure Op where
  kind : Int
  i : Int
  k : Int
  text : Pg
  picks : List Int
def Dk.doS (d : Dk) (x : Op) : Pg := if x.kind = 1 then d.readS x.i else []
def Dk.doE (d : Dk) (x : Op) : Int :=
  if x.kind = 1 then d.readE x.i else if x.kind = 2 then d.writeE x.i x.k x.text else if x.kind = 3 then d.flushE else if x.kind = 6 then d.rotE x.i x.k else 0
def Dk.play (d : Dk) (x : Op) : Dk :=
  if x.kind = 2 then d.write x.i x.k x.text else if x.kind = 3 then d.flush else if x.kind = 4 then d.doTrip x.i else if x.kind = 5 then d.mount x.picks else if x.kind = 6 then d.rot x.i x.k else d
def Dk.plays (d : Dk) (l : List Op) : Dk := l.foldl Dk.play d

namespace Dk
variable {d : Dk}
theorem n_step (d : Dk) : d.step.n = d.n := by
  unfold step n; split
  · rfl
  · split <;> rfl
theorem WF.step (h : d.WF) : d.step.WF := by
  unfold Dk.step
  split
  · exact ⟨h.len, h.page, h.pen, h.lo, h.hi⟩
  · split
    · exact ⟨h.len, h.page, h.pen, by have := h.lo; simp only; omega, by have := h.hi; simp only; omega⟩
    · exact h
theorem WF.pn_len (h : d.WF) {i : Nat} {p : Pg} (hp : d.pn i = some p) : p.length = 128 ∧ i < d.n := by
  unfold pn at hp
  cases hq : d.pend[i]? with
  | none => rw [hq] at hp; cases hp
  | some o =>
    rw [hq] at hp
    simp only [Option.getD_some] at hp
    subst hp
    exact ⟨h.pen _ _ hq, by have := (List.getElem?_eq_some_iff.1 hq).1; rw [h.len] at this; exact this⟩
theorem WF.pg_len (h : d.WF) {i : Nat} (hi : i < d.n) : (d.pg i).length = 128 ∧ d.pages[i]? = some (d.pg i) := by
  unfold n at hi
  have e : d.pages[i]? = some d.pages[i] := by simp [hi]
  unfold pg
  rw [e]
  exact ⟨h.page _ _ e, rfl⟩
theorem WF.now_len (h : d.WF) {i : Nat} (hi : i < d.n) : (d.now i).length = 128 := by
  unfold now
  cases hp : d.pn i with
  | none => exact (h.pg_len hi).1
  | some p => exact (h.pn_len hp).1
theorem WF.new (k : Nat) : (Dk.new k).WF where
  len := by simp [Dk.new]
  page i p hp := by
    simp only [Dk.new, List.getElem?_replicate] at hp
    split at hp
    · cases hp; simp [zero]
    · cases hp
  pen i p hp := by
    simp only [Dk.new, List.getElem?_replicate] at hp
    split at hp <;> cases hp
  lo := by simp [Dk.new]
  hi := by simp [Dk.new]
theorem putAt_len {old s : Pg} {k : Nat} (h : k + s.length ≤ old.length) : (putAt old k s).length = old.length := by
  simp only [putAt, List.length_append, List.length_take, List.length_drop]; omega
theorem WF.setPend (h : d.WF) {i : Nat} {p : Pg} (hp : p.length = 128) : (d.setPend i p).WF where
  len := by simp only [Dk.setPend, List.length_set]; exact h.len
  page := h.page
  pen j q hq := by
    simp only [Dk.setPend, List.getElem?_set] at hq
    split at hq
    · split at hq
      · cases hq; exact hp
      · cases hq
    · exact h.pen j q hq
  lo := h.lo
  hi := h.hi
theorem is_iff {i : Int} : d.is i = true ↔ 0 ≤ i ∧ i < d.n := by simp [is]
theorem wok_iff {i k : Int} {s : Pg} : d.wok i k s = true ↔ (0 ≤ i ∧ i < d.n) ∧ 0 ≤ k ∧ k ≤ 128 ∧ (s.length : Int) ≤ 128 - k := by simp [wok, is, and_assoc]
theorem rotok_iff {i b : Int} : d.rotok i b = true ↔ (0 ≤ i ∧ i < d.n) ∧ 0 ≤ b ∧ b < 1024 := by simp [rotok, is, and_assoc]
theorem WF.write (h : d.WF) (i k : Int) (s : Pg) : (d.write i k s).WF := by
  unfold Dk.write
  split
  · exact h
  · split
    · rename_i hw
      obtain ⟨⟨h1, h2⟩, h3, h4, h5⟩ := wok_iff.1 hw
      split
      · exact h.step
      · refine h.step.setPend ?_
        have hn := h.now_len (i := i.toNat) (by omega)
        rw [putAt_len (by omega), hn]
    · exact h
theorem noPend_get (d : Dk) (i : Nat) (o : Option Pg) (h : d.noPend[i]? = some o) : o = none := by
  simp only [noPend, List.getElem?_replicate] at h
  split at h <;> cases h; rfl
theorem WF.settled (h : d.WF) : d.settled.WF where
  len := by simp [Dk.settled, noPend]
  page i p hp := by
    simp only [Dk.settled, List.getElem?_map, Option.map_eq_some_iff] at hp
    obtain ⟨j, hj, rfl⟩ := hp
    have := (List.getElem?_eq_some_iff.1 hj)
    obtain ⟨h1, h2⟩ := this
    simp at h1 h2
    subst h2
    exact h.now_len h1
  pen i p hp := by cases noPend_get d i _ hp
  lo := h.lo
  hi := h.hi
theorem WF.flush (h : d.WF) : d.flush.WF := by
  unfold Dk.flush
  split
  · exact h
  · split
    · exact h.step
    · exact h.step.settled
theorem WF.doTrip (h : d.WF) {k : Int} (hk : k ≤ 9223372036854775807) : (d.doTrip k).WF :=
  ⟨h.len, h.page, h.pen, by simp only [Dk.doTrip]; omega, by simp only [Dk.doTrip]; omega⟩
theorem pick_le (picks : List Int) (k : Nat) : pick picks k ≤ 128 := by
  unfold pick
  cases picks[k]? with
  | none => exact Nat.le_refl _
  | some x => simp only [Option.map_some, Option.getD_some, clamp]; omega
theorem WF.torn_len (h : d.WF) (picks : List Int) {i : Nat} (hi : i < d.n) : (d.torn picks i).length = 128 := by
  unfold torn
  have h1 := (h.pg_len hi).1
  cases hp : d.pn i with
  | none => exact h1
  | some p =>
    have h2 := (h.pn_len hp).1
    have h3 := pick_le picks (d.rank i)
    simp only [List.length_append, List.length_take, List.length_drop]; omega
theorem WF.mount (h : d.WF) (picks : List Int) : (d.mount picks).WF where
  len := by simp [Dk.mount, noPend]
  page i p hp := by
    simp only [Dk.mount, List.getElem?_map, Option.map_eq_some_iff] at hp
    obtain ⟨j, hj, rfl⟩ := hp
    obtain ⟨h1, h2⟩ := List.getElem?_eq_some_iff.1 hj
    simp at h1 h2
    subst h2
    exact h.torn_len picks h1
  pen i p hp := by cases noPend_get d i _ hp
  lo := by simp [Dk.mount]
  hi := by simp [Dk.mount]
theorem flip_len (p : Pg) (b : Nat) : (flip p b).length = p.length := by simp [flip]
theorem WF.rot (h : d.WF) (i b : Int) : (d.rot i b).WF := by
  unfold Dk.rot
  split
  · rename_i hr
    obtain ⟨⟨h1, h2⟩, _⟩ := rotok_iff.1 hr
    refine ⟨by simpa using h.len, fun j p hp => ?_, h.pen, h.lo, h.hi⟩
    simp only [List.getElem?_set] at hp
    split at hp
    · split at hp
      · cases hp; rw [flip_len]; exact (h.pg_len (by omega)).1
      · cases hp
    · exact h.page j p hp
  · exact h
theorem n_write (i k : Int) (s : Pg) : (d.write i k s).n = d.n := by
  unfold Dk.write; repeat' split
  all_goals first | rfl | exact n_step d
theorem n_flush : d.flush.n = d.n := by
  unfold Dk.flush; repeat' split
  · rfl
  · exact n_step d
  · show ((List.range d.step.n).map _).length = _; simp [n_step]
theorem n_mount (picks : List Int) : (d.mount picks).n = d.n := by show ((List.range d.n).map _).length = _; simp
theorem n_rot (i b : Int) : (d.rot i b).n = d.n := by
  unfold Dk.rot; split
  · show (List.set _ _ _).length = _
    simp; rfl
  · rfl
theorem WF.play (h : d.WF) (x : Op) (hx : x.i ≤ 9223372036854775807) : (d.play x).WF := by
  unfold Dk.play; repeat' split
  · exact h.write _ _ _
  · exact h.flush
  · exact h.doTrip hx
  · exact h.mount _
  · exact h.rot _ _
  · exact h
theorem n_play (x : Op) : (d.play x).n = d.n := by
  unfold Dk.play; repeat' split
  · exact n_write _ _ _
  · exact n_flush
  · rfl
  · exact n_mount _
  · exact n_rot _ _
  · rfl
end Dk
end Go.Proofs.Ytjcmnobfdidnkaa

/- A disk in plain words: loops over its pages. No program. -/
namespace Go.Proofs.Ytjcmnobfdidnkaa
theorem map_set_range {α : Type} (f : Nat → α) (n k : Nat) (v : α) : ((List.range n).map f).set k v = (List.range n).map (fun i => if i = k then v else f i) := by
  apply List.ext_getElem?
  intro j
  rw [List.getElem?_set, List.getElem?_map, List.getElem?_map]
  by_cases hj : j < n
  · rw [List.getElem?_range hj]
    simp only [Option.map_some, List.length_map, List.length_range]
    by_cases hk : k = j
    · subst hk; simp [hj]
    · rw [if_neg hk, if_neg (Ne.symm hk)]
  · rw [List.getElem?_eq_none (by simp; omega)]
    simp only [Option.map_none, List.length_map, List.length_range]
    split
    · rw [if_neg (by omega)]
    · rfl
theorem map_range_congr {α : Type} {f g : Nat → α} {n : Nat} (h : ∀ i, i < n → f i = g i) : (List.range n).map f = (List.range n).map g := by
  apply List.map_congr_left
  intro i hi
  exact h i (List.mem_range.1 hi)
theorem filter_range_at (p : Nat → Bool) (n i : Nat) (hi : i < n) (hp : p i = true) : ((List.range n).filter p)[((List.range i).filter p).length]? = some i := by
  induction n with
  | zero => omega
  | succ n ih =>
    rw [List.range_succ, List.filter_append]
    by_cases h : i < n
    · have := ih h
      rw [List.getElem?_append_left (List.getElem?_eq_some_iff.1 this).1]
      exact this
    · obtain rfl : i = n := by omega
      rw [List.getElem?_append_right (Nat.le_refl _)]
      simp [hp]
theorem filter_range_rank (p : Nat → Bool) (n i j : Nat) (h : ((List.range n).filter p)[j]? = some i) : i < n ∧ p i = true ∧ ((List.range i).filter p).length = j := by
  induction n with
  | zero => simp at h
  | succ n ih =>
    rw [List.range_succ, List.filter_append] at h
    by_cases hj : j < ((List.range n).filter p).length
    · rw [List.getElem?_append_left hj] at h
      obtain ⟨h1, h2, h3⟩ := ih h
      exact ⟨by omega, h2, h3⟩
    · rw [List.getElem?_append_right (by omega)] at h
      by_cases hp : p n = true
      · simp only [List.filter_cons, hp, if_true, List.filter_nil] at h
        have : j - ((List.range n).filter p).length = 0 := by
          have := (List.getElem?_eq_some_iff.1 h).1; simpa using this
        rw [this] at h
        simp only [List.getElem?_cons_zero, Option.some.injEq] at h
        subst h
        exact ⟨by omega, hp, by omega⟩
      · simp [List.filter_cons, hp] at h
theorem filter_range_sorted (p : Nat → Bool) (n : Nat) : ((List.range n).filter p).Pairwise (· < ·) := List.pairwise_lt_range.filter _
namespace Dk
variable {d : Dk}
theorem WF.pages_eq (h : d.WF) : d.pages = (List.range d.n).map d.pg := by
  apply List.ext_getElem?
  intro i
  rw [List.getElem?_map]
  by_cases hi : i < d.n
  · rw [List.getElem?_range hi, (h.pg_len hi).2]; rfl
  · rw [List.getElem?_eq_none (by unfold n at hi; omega), List.getElem?_eq_none (by simpa using hi)]; rfl
theorem WF.pend_eq (h : d.WF) : d.pend = (List.range d.n).map d.pn := by
  apply List.ext_getElem?
  intro i
  rw [List.getElem?_map]
  by_cases hi : i < d.n
  · rw [List.getElem?_range hi]
    have hl : i < d.pend.length := by rw [h.len]; exact hi
    unfold pn
    simp [hl]
  · rw [List.getElem?_eq_none (by rw [h.len]; unfold n at hi; omega), List.getElem?_eq_none (by simpa using hi)]; rfl
/-- a disk whose pages and pending contents are told by index -/
def at_ (d : Dk) (f : Nat → Pg) (g : Nat → Option Pg) : Dk := { d with pages := (List.range d.n).map f, pend := (List.range d.n).map g }
theorem WF.at_self (h : d.WF) : d.at_ d.pg d.pn = d := by
  unfold at_
  rw [← h.pages_eq, ← h.pend_eq]
theorem at_n (f : Nat → Pg) (g : Nat → Option Pg) : (d.at_ f g).n = d.n := by show ((List.range d.n).map f).length = _; simp
theorem at_pg (f : Nat → Pg) (g : Nat → Option Pg) {i : Nat} (hi : i < d.n) : (d.at_ f g).pg i = f i := by
  unfold pg at_; simp [List.getElem?_map, List.getElem?_range hi]
theorem at_pn (f : Nat → Pg) (g : Nat → Option Pg) {i : Nat} (hi : i < d.n) : (d.at_ f g).pn i = g i := by
  unfold pn at_; simp [List.getElem?_map, List.getElem?_range hi]
theorem pn_none {i : Nat} (h : d.WF) (hi : d.n ≤ i) : d.pn i = none := by
  unfold pn
  rw [List.getElem?_eq_none (by rw [h.len]; exact hi)]; rfl
theorem noPend_eq : d.noPend = (List.range d.n).map (fun _ => none) := by
  apply List.ext_getElem?
  intro i
  simp only [noPend, List.getElem?_replicate, List.getElem?_map]
  by_cases hi : i < d.n
  · rw [if_pos hi, List.getElem?_range hi]; rfl
  · rw [if_neg hi, List.getElem?_eq_none (by simpa using hi)]; rfl
/-- settled, page by page -/
def upto (d : Dk) (k : Nat) : Dk := d.at_ (fun i => if i < k then d.now i else d.pg i) (fun i => if i < k then none else d.pn i)
theorem WF.upto0 (h : d.WF) : d.upto 0 = d := by
  have : d.upto 0 = d.at_ d.pg d.pn := by simp [upto]
  rw [this, h.at_self]
theorem upto_n : d.upto d.n = d.settled := by
  unfold upto at_ settled
  rw [noPend_eq]
  congr 1
  · exact map_range_congr fun i hi => if_pos hi
  · exact map_range_congr fun i hi => if_pos hi
/-- torn, pending page by pending page -/
def tornTo (d : Dk) (picks : List Int) (k : Nat) : Dk :=
  d.at_ (fun i => if d.rank i < k then d.torn picks i else d.pg i) (fun i => if d.rank i < k then none else d.pn i)
theorem torn_none {i : Nat} (picks : List Int) (h : d.pn i = none) : d.torn picks i = d.pg i := by unfold torn; rw [h]
theorem WF.torn0 (h : d.WF) (picks : List Int) : d.tornTo picks 0 = d := by
  have : d.tornTo picks 0 = d.at_ d.pg d.pn := by simp [tornTo]
  rw [this, h.at_self]
theorem rank_pending {i j : Nat} (h : d.pending[j]? = some i) : i < d.n ∧ (∃ p, d.pn i = some p) ∧ d.rank i = j := by
  obtain ⟨h1, h2, h3⟩ := filter_range_rank _ _ _ _ h
  exact ⟨h1, Option.isSome_iff_exists.1 h2, h3⟩
theorem pending_rank {i : Nat} {p : Pg} (h : d.pn i = some p) (hi : i < d.n) : d.pending[d.rank i]? = some i :=
  filter_range_at _ _ _ hi (by simp [h])
theorem rank_lt {i : Nat} {p : Pg} (h : d.pn i = some p) (hi : i < d.n) : d.rank i < d.pending.length :=
  (List.getElem?_eq_some_iff.1 (pending_rank h hi)).1
theorem rank_inj {i j : Nat} {p q : Pg} (h : d.pn i = some p) (hi : i < d.n) (h' : d.pn j = some q) (hj : j < d.n) (e : d.rank i = d.rank j) : i = j := by
  have a := pending_rank h hi
  have b := pending_rank h' hj
  rw [e, b] at a
  exact (Option.some.inj a).symm
/-- the pages after k pending ones have been torn: what the list of pages is -/
theorem torn_pages_succ {picks : List Int} {k i : Nat} (h : d.pending[k]? = some i) :
    (d.tornTo picks k).pages.set i (d.torn picks i) = (d.tornTo picks (k + 1)).pages := by
  obtain ⟨h1, ⟨p, h2⟩, h3⟩ := rank_pending h
  show ((List.range d.n).map _).set i _ = (List.range d.n).map _
  rw [map_set_range]
  refine map_range_congr fun j hj => ?_
  by_cases hji : j = i
  · subst hji; rw [if_pos rfl, if_pos (by omega)]
  · rw [if_neg hji]
    cases hq : d.pn j with
    | none => rw [torn_none picks hq]; split <;> split <;> rfl
    | some q =>
      have : d.rank j ≠ k := fun e => hji (rank_inj hq hj h2 h1 (by omega))
      by_cases hlt : d.rank j < k
      · rw [if_pos hlt, if_pos (by omega)]
      · rw [if_neg hlt, if_neg (by omega)]
theorem torn_pend_succ {picks : List Int} {k i : Nat} (h : d.pending[k]? = some i) :
    (d.tornTo picks k).pend.set i none = (d.tornTo picks (k + 1)).pend := by
  obtain ⟨h1, ⟨p, h2⟩, h3⟩ := rank_pending h
  show ((List.range d.n).map _).set i _ = (List.range d.n).map _
  rw [map_set_range]
  refine map_range_congr fun j hj => ?_
  by_cases hji : j = i
  · subst hji; rw [if_pos rfl, if_pos (by omega)]
  · rw [if_neg hji]
    cases hq : d.pn j with
    | none => split <;> split <;> rfl
    | some q =>
      have : d.rank j ≠ k := fun e => hji (rank_inj hq hj h2 h1 (by omega))
      by_cases hlt : d.rank j < k
      · rw [if_pos hlt, if_pos (by omega)]
      · rw [if_neg hlt, if_neg (by omega)]
theorem torn_all (picks : List Int) : { d.tornTo picks d.pending.length with off := false, trip := -1 } = d.mount picks := by
  have h1 : (d.tornTo picks d.pending.length).pages = (List.range d.n).map (d.torn picks) := by
    refine map_range_congr fun i hi => ?_
    cases hp : d.pn i with
    | none => rw [torn_none picks hp]; split <;> rfl
    | some p => rw [if_pos (rank_lt hp hi)]
  have h2 : (d.tornTo picks d.pending.length).pend = d.noPend := by
    rw [noPend_eq]
    refine map_range_congr fun i hi => ?_
    cases hp : d.pn i with
    | none => split <;> rfl
    | some p => rw [if_pos (rank_lt hp hi)]
  show Dk.mk _ _ _ _ = _
  rw [h1, h2]
  rfl
theorem tornTo_now {picks : List Int} {k i : Nat} (h : d.pending[k]? = some i) : (d.tornTo picks k).pg i = d.pg i ∧ (d.tornTo picks k).pn i = d.pn i := by
  obtain ⟨h1, ⟨p, h2⟩, h3⟩ := rank_pending h
  unfold tornTo
  rw [at_pg _ _ h1, at_pn _ _ h1, if_neg (by omega), if_neg (by omega)]
  exact ⟨rfl, rfl⟩
/-- flushed: those that are not left -/
def done (d : Dk) (left : Nat → Bool) : List Pg := (List.range d.n).map (fun i => match d.pn i with | some p => if left i then d.pg i else p | none => d.pg i)
theorem WF.done_start (h : d.WF) : d.done (fun i => (d.pn i).isSome) = d.pages := by
  rw [h.pages_eq]
  refine map_range_congr fun i _ => ?_
  cases hp : d.pn i <;> simp [hp]
theorem done_end {left : Nat → Bool} (h : ∀ i, left i = false) : d.done left = d.settled.pages := by
  show _ = (List.range d.n).map d.now
  refine map_range_congr fun i _ => ?_
  unfold now
  cases d.pn i <;> simp [h i]
theorem done_step {left : Nat → Bool} {x : Nat} {p : Pg} (hp : d.pn x = some p) : (d.done left).set x p = d.done (fun i => left i && !(i == x)) := by
  unfold done
  rw [map_set_range]
  refine map_range_congr fun i _ => ?_
  by_cases h : i = x
  · subst h; simp [hp]
  · rw [if_neg h]
    cases d.pn i with
    | none => rfl
    | some q => simp [h]
theorem done_len (left : Nat → Bool) : (d.done left).length = d.n := by simp [done]
end Dk
end Go.Proofs.Ytjcmnobfdidnkaa

/- The laws of the disk, in plain words. No program. -/
namespace Go.Proofs.Ytjcmnobfdidnkaa
namespace Dk
variable {d : Dk}
theorem n_plays (l : List Op) : (d.plays l).n = d.n := by
  unfold plays
  induction l generalizing d with
  | nil => rfl
  | cons x l ih => rw [List.foldl_cons, ih, n_play]
theorem WF.plays (h : d.WF) {l : List Op} (hl : ∀ x ∈ l, x.i ≤ 9223372036854775807) : (d.plays l).WF := by
  unfold Dk.plays
  induction l generalizing d with
  | nil => exact h
  | cons x l ih => exact ih (h.play x (hl x List.mem_cons_self)) (fun y hy => hl y (List.mem_cons_of_mem _ hy))
theorem plays_snoc (l : List Op) (x : Op) : d.plays (l ++ [x]) = (d.plays l).play x := by simp [plays]
theorem plays_take {l : List Op} {k : Nat} {x : Op} (hx : l[k]? = some x) : d.plays (l.take (k + 1)) = (d.plays (l.take k)).play x := by
  have hk := (List.getElem?_eq_some_iff.1 hx).1
  rw [List.take_add_one, hx]
  exact plays_snoc _ _
theorem pending_nil (h : ∀ i, i < d.n → d.pn i = none) : d.pending = [] := by
  unfold pending
  apply List.filter_eq_nil_iff.2
  intro i hi
  rw [h i (List.mem_range.1 hi)]
  simp
theorem noPend_at (i : Nat) : (d.noPend[i]?).getD none = none := by
  cases h : d.noPend[i]? with
  | none => rfl
  | some o => rw [Option.getD_some]; exact noPend_get d i o h
theorem pn_settled (i : Nat) : d.settled.pn i = none := noPend_at i
theorem pn_mount (picks : List Int) (i : Nat) : (d.mount picks).pn i = none := noPend_at i
theorem pg_map {f : Nat → Pg} {e : Dk} {n i : Nat} (he : e.pages = (List.range n).map f) (hi : i < n) : e.pg i = f i := by
  unfold pg; rw [he, List.getElem?_map, List.getElem?_range hi]; rfl
theorem flush_up (h : d.off = false) : (d.doTrip (-1)).flushE = 0 ∧ (d.doTrip (-1)).flush = (d.doTrip (-1)).settled := by
  have h1 : (d.doTrip (-1)).trip = -1 := by show max (-1 : Int) (-1) = -1; omega
  have h2 : (d.doTrip (-1)).off = false := h
  unfold flushE flush stepE step
  rw [h2, h1]
  exact ⟨rfl, rfl⟩
theorem flush_off (h : d.off = true) (k : Int) : (d.doTrip k).flushE = 13 := by
  have h2 : (d.doTrip k).off = true := h
  unfold flushE
  rw [h2]; rfl
/-- a flush that succeeds keeps what is read, through a failure of the power -/
theorem keeps (h : d.WF) (ho : d.off = false) (h0 : 0 < d.n) (z : Pg) (hz : z.length = 1) (picks : List Int) :
    (((d.doTrip (-1)).flush).doTrip 0).writeE 0 0 z = 13 ∧
      ((((d.doTrip (-1)).flush.doTrip 0).write 0 0 z).mount picks).pages = (List.range d.n).map (fun i : Nat => (d.doTrip (-1)).readS (i : Int)) ∧
      ((((d.doTrip (-1)).flush.doTrip 0).write 0 0 z).mount picks).pending = [] := by
  rw [(flush_up ho).2]
  have hn : ((d.doTrip (-1)).settled.doTrip 0).n = d.n := by show ((List.range (d.doTrip (-1)).n).map _).length = _; rw [List.length_map, List.length_range]; rfl
  have hoff : ((d.doTrip (-1)).settled.doTrip 0).off = false := ho
  have ht : ((d.doTrip (-1)).settled.doTrip 0).trip = 0 := by show max (0 : Int) (-1) = 0; omega
  have hw : ((d.doTrip (-1)).settled.doTrip 0).wok 0 0 z = true := wok_iff.2 ⟨⟨by omega, by omega⟩, by omega, by omega, by omega⟩
  have hwr : ((d.doTrip (-1)).settled.doTrip 0).write 0 0 z = { (d.doTrip (-1)).settled.doTrip 0 with off := true } := by
    unfold write step
    rw [hoff, hw, ht]
    rfl
  refine ⟨?_, ?_, ?_⟩
  · unfold writeE stepE
    rw [hoff, hw, ht]
    rfl
  · rw [hwr]
    show (List.range _).map _ = _
    have : ({ (d.doTrip (-1)).settled.doTrip 0 with off := true } : Dk).n = d.n := hn
    rw [this]
    refine map_range_congr fun i hi => ?_
    have hp : ({ (d.doTrip (-1)).settled.doTrip 0 with off := true } : Dk).pn i = none := pn_settled i
    rw [torn_none picks hp]
    have e1 : ({ (d.doTrip (-1)).settled.doTrip 0 with off := true } : Dk).pg i = d.now i := pg_map (n := d.n) (f := d.now) rfl hi
    rw [e1]
    have e2 : (d.doTrip (-1)).off = false := ho
    have e3 : (d.doTrip (-1)).is (i : Int) = true := is_iff.2 ⟨by omega, by show (i : Int) < (d.n : Int); omega⟩
    unfold readS
    rw [e2, e3]
    rfl
  · exact pending_nil fun i _ => pn_mount picks i
theorem pending_at_rank {i : Nat} (hi : i < d.n) : (d.rank i < d.pending.length ∧ d.pending[d.rank i]? = some i) ↔ (d.pn i).isSome = true := by
  constructor
  · rintro ⟨_, h⟩
    obtain ⟨_, ⟨p, hp⟩, _⟩ := rank_pending h
    rw [hp]; rfl
  · intro h
    obtain ⟨p, hp⟩ := Option.isSome_iff_exists.1 h
    exact ⟨rank_lt hp hi, pending_rank hp hi⟩
theorem rank_succ (i : Nat) : d.rank (i + 1) = if (d.pn i).isSome then d.rank i + 1 else d.rank i := by
  unfold rank
  rw [List.range_succ, List.filter_append]
  cases h : (d.pn i).isSome <;> simp [h]
theorem rank_zero : d.rank 0 = 0 := rfl
theorem rank_n : d.rank d.n = d.pending.length := rfl
theorem readS_mount (h : d.WF) (picks : List Int) {i : Nat} (hi : i < d.n) : (d.mount picks).readE i = 0 ∧ (d.mount picks).readS i = d.torn picks i := by
  have e2 : (d.mount picks).off = false := rfl
  have e3 : (d.mount picks).is (i : Int) = true := is_iff.2 ⟨by omega, by rw [n_mount]; omega⟩
  have e4 : (d.mount picks).now i = d.torn picks i := by
    unfold now
    rw [pn_mount]
    exact pg_map (n := d.n) rfl hi
  unfold readE readS
  rw [e2, e3]
  exact ⟨rfl, e4⟩
theorem readS_up (ho : d.off = false) {i : Nat} (hi : i < d.n) : d.readE i = 0 ∧ d.readS i = d.now i := by
  have e3 : d.is (i : Int) = true := is_iff.2 ⟨by omega, by omega⟩
  unfold readE readS
  rw [ho, e3]
  exact ⟨rfl, rfl⟩
theorem flip_flip {p : Pg} {b : Nat} : flip (flip p b) b = p := by
  unfold flip
  by_cases h : b / 8 < p.length
  · rw [List.set_set]
    have e1 : (p.set (b / 8) ((p[b / 8]?).getD 0 ^^^ ((1 : UInt8) <<< UInt8.ofNat (b % 8))))[b / 8]? = some ((p[b / 8]?).getD 0 ^^^ ((1 : UInt8) <<< UInt8.ofNat (b % 8))) := by
      rw [List.getElem?_set_self h]
    rw [e1]
    have e2 : (p[b / 8]?).getD 0 = p[b / 8] := by simp [h]
    rw [e2, Option.getD_some, UInt8.xor_assoc, UInt8.xor_self, UInt8.xor_zero]
    exact List.set_getElem_self h
  · rw [List.set_eq_of_length_le (by rw [List.length_set]; omega), List.set_eq_of_length_le (by omega)]
theorem rot_rot (h : d.WF) (i b : Int) : (d.rot i b).rot i b = d := by
  by_cases hr : d.rotok i b = true
  · have hr' : (d.rot i b).rotok i b = true := by
      rw [rotok_iff, n_rot]; exact rotok_iff.1 hr
    obtain ⟨⟨h1, h2⟩, _⟩ := rotok_iff.1 hr
    have e1 : d.rot i b = { d with pages := d.pages.set i.toNat (flip (d.pg i.toNat) b.toNat) } := by unfold rot; rw [if_pos hr]
    rw [rot, if_pos hr', e1]
    have hi : i.toNat < d.n := by omega
    have e2 : ({ d with pages := d.pages.set i.toNat (flip (d.pg i.toNat) b.toNat) } : Dk).pg i.toNat = flip (d.pg i.toNat) b.toNat := by
      unfold pg
      show (((d.pages.set _ _)[i.toNat]?).getD [] : Pg) = _
      rw [List.getElem?_set_self hi]; rfl
    rw [e2, flip_flip]
    show Dk.mk _ _ _ _ = d
    rw [List.set_set]
    have e3 : d.pages.set i.toNat (d.pg i.toNat) = d.pages := by
      have := (h.pg_len hi).2
      obtain ⟨a1, a2⟩ := List.getElem?_eq_some_iff.1 this
      rw [← a2]; exact List.set_getElem_self a1
    rw [e3]
  · have : d.rot i b = d := by unfold rot; rw [if_neg hr]
    rw [this, this]
/-- a bit of a page: what Rot has changed -/
theorem rot_pg (i b : Int) (hr : d.rotok i b = true) {k : Nat} (hk : k < d.n) : (d.rot i b).pg k = if (k : Int) = i then flip (d.pg k) b.toNat else d.pg k := by
  obtain ⟨⟨h1, h2⟩, _⟩ := rotok_iff.1 hr
  have e1 : d.rot i b = { d with pages := d.pages.set i.toNat (flip (d.pg i.toNat) b.toNat) } := by unfold rot; rw [if_pos hr]
  rw [e1]
  unfold pg
  show (((d.pages.set _ _)[k]?).getD [] : Pg) = _
  by_cases h : (k : Int) = i
  · have : i.toNat = k := by omega
    rw [if_pos h, this, List.getElem?_set_self hk]; rfl
  · rw [if_neg h, List.getElem?_set_ne (by omega)]
theorem flip_at {p : Pg} {b m : Nat} (hm : m < p.length) : (flip p b)[m]? = some ((p[m]'hm) ^^^ (if m = b / 8 then (1 : UInt8) <<< UInt8.ofNat (b % 8) else 0)) := by
  unfold flip
  by_cases h : m = b / 8
  · subst h
    rw [List.getElem?_set_self hm, if_pos rfl]
    simp [hm]
  · rw [List.getElem?_set_ne (Ne.symm h), if_neg h, UInt8.xor_zero]
    simp [hm]
/-- what a write that succeeds does -/
theorem write_ok (h : d.WF) (i k : Int) (s : Pg) (he : d.writeE i k s = 0) : d.off = false ∧ d.wok i k s = true ∧ (d.write i k s).off = false ∧ (d.write i k s).pages = d.pages ∧ (d.write i k s).n = d.n ∧
    ∀ j, j < d.n → (d.write i k s).now j = if (j : Int) = i then putAt (d.now j) k.toNat s else d.now j := by
  unfold writeE at he
  cases ho : d.off with
  | true => rw [ho] at he; simp at he
  | false =>
    rw [ho] at he
    cases hw : d.wok i k s with
    | false => rw [hw] at he; simp at he
    | true =>
      rw [hw] at he
      simp only [Bool.false_eq_true, if_false, if_true, stepE] at he
      have ht : ¬ d.trip = 0 := by intro e; rw [if_pos e] at he; cases he
      obtain ⟨⟨h1, h2⟩, _⟩ := wok_iff.1 hw
      have e1 : d.write i k s = d.step.setPend i.toNat (putAt (d.now i.toNat) k.toNat s) := by
        unfold write; rw [ho, hw]; simp only [Bool.false_eq_true, if_false, if_true]; rw [if_neg ht]
      have e2 : d.step.off = false ∧ d.step.pages = d.pages ∧ d.step.pend = d.pend := by
        unfold step; rw [if_neg ht]; split <;> exact ⟨ho, rfl, rfl⟩
      rw [e1]
      refine ⟨rfl, rfl, e2.1, e2.2.1, by show d.step.pages.length = _; rw [e2.2.1]; rfl, fun j hj => ?_⟩
      have e3 : (d.step.setPend i.toNat (putAt (d.now i.toNat) k.toNat s)).pg j = d.pg j := by
        unfold pg; show ((d.step.pages[j]?).getD [] : Pg) = _; rw [e2.2.1]
      have e4 : (d.step.setPend i.toNat (putAt (d.now i.toNat) k.toNat s)).pn j = if (j : Int) = i then some (putAt (d.now i.toNat) k.toNat s) else d.pn j := by
        unfold pn
        show (((d.step.pend.set _ _)[j]?).getD none : Option Pg) = _
        rw [e2.2.2]
        by_cases hji : (j : Int) = i
        · have : i.toNat = j := by omega
          rw [if_pos hji, this, List.getElem?_set_self (by rw [h.len]; exact hj)]; rfl
        · rw [if_neg hji, List.getElem?_set_ne (by omega)]
      show (Option.getD _ _ : Pg) = _
      rw [e3, e4]
      by_cases hji : (j : Int) = i
      · have : i.toNat = j := by omega
        rw [if_pos hji, if_pos hji, this]; rfl
      · rw [if_neg hji, if_neg hji]; rfl
/-- what a write that fails does: nothing to the pages -/
theorem write_no (i k : Int) (s : Pg) (he : d.writeE i k s ≠ 0) : (d.write i k s).pages = d.pages ∧ (d.writeE i k s = 13 ∧ (d.write i k s).off = true ∨ d.writeE i k s = 1 ∧ d.wok i k s = false) := by
  unfold writeE at he ⊢
  unfold write
  cases ho : d.off with
  | true => exact ⟨rfl, .inl ⟨rfl, ho⟩⟩
  | false =>
    rw [ho] at he
    cases hw : d.wok i k s with
    | false => exact ⟨rfl, .inr ⟨rfl, rfl⟩⟩
    | true =>
      rw [hw] at he
      simp only [Bool.false_eq_true, if_false, if_true, stepE] at he ⊢
      have ht : d.trip = 0 := by
        by_cases e : d.trip = 0
        · exact e
        · rw [if_neg e] at he; exact absurd rfl he
      rw [if_pos ht, if_pos ht]
      unfold step
      rw [if_pos ht]
      exact ⟨rfl, .inl ⟨rfl, rfl⟩⟩
end Dk
end Go.Proofs.Ytjcmnobfdidnkaa

/- The journal in plain words: checksums, numbers in bytes, heads, streams. No program. -/
namespace Go.Proofs.Ytjcmnobfdidnkaa
def crcBit (n : Nat) : Nat := if n % 2 = 1 then (n / 2) ^^^ 3988292384 else n / 2
def crcBits : Nat → Nat → Nat
  | 0, n => n
  | k + 1, n => crcBit (crcBits k n)
def crcByte (n : Nat) (c : UInt8) : Nat := crcBits 8 (n ^^^ c.toNat)
def crcRaw (n : Nat) (s : Pg) : Nat := s.foldl crcByte n
def crc (sum : Nat) (s : Pg) : Nat := 4294967295 - crcRaw (4294967295 - sum) s
theorem crcBit_lt {n : Nat} (h : n < 4294967296) : crcBit n < 4294967296 := by
  unfold crcBit
  split
  · exact Nat.xor_lt_two_pow (n := 32) (by omega) (by omega)
  · omega
theorem crcBits_lt {n : Nat} (h : n < 4294967296) (k : Nat) : crcBits k n < 4294967296 := by
  induction k with
  | zero => exact h
  | succ k ih => exact crcBit_lt ih
theorem crcByte_lt {n : Nat} (h : n < 4294967296) (c : UInt8) : crcByte n c < 4294967296 :=
  crcBits_lt (Nat.xor_lt_two_pow (n := 32) (by omega) (by have := c.toNat_lt; omega)) 8
theorem crcRaw_lt {n : Nat} (h : n < 4294967296) (s : Pg) : crcRaw n s < 4294967296 := by
  unfold crcRaw
  induction s generalizing n with
  | nil => exact h
  | cons c s ih => exact ih (crcByte_lt h c)
theorem crcRaw_take {n : Nat} {s : Pg} {k : Nat} {c : UInt8} (hc : s[k]? = some c) : crcRaw n (s.take (k + 1)) = crcByte (crcRaw n (s.take k)) c := by
  rw [List.take_add_one, hc]
  unfold crcRaw
  simp
theorem crc_lt (sum : Nat) (s : Pg) : crc sum s < 4294967296 := by unfold crc; omega
theorem crc_app {sum : Nat} (h : sum < 4294967296) (a b : Pg) : crc (crc sum a) b = crc sum (a ++ b) := by
  have h1 := crcRaw_lt (n := 4294967295 - sum) (by omega) a
  unfold crc
  rw [show 4294967295 - (4294967295 - crcRaw (4294967295 - sum) a) = crcRaw (4294967295 - sum) a by omega]
  unfold crcRaw
  rw [List.foldl_append]
/-- a number in bytes, the least significant first -/
def le (n : Nat) : Nat → Pg
  | 0 => []
  | k + 1 => UInt8.ofNat n :: le (n / 256) k
def getN : Pg → Nat
  | [] => 0
  | c :: s => c.toNat + 256 * getN s
theorem le_len (n k : Nat) : (le n k).length = k := by
  induction k generalizing n with
  | zero => rfl
  | succ k ih => simp [le, ih]
theorem getN_le (n k : Nat) (h : n < 256 ^ k) : getN (le n k) = n := by
  induction k generalizing n with
  | zero => simp at h; subst h; rfl
  | succ k ih =>
    have h2 : n / 256 < 256 ^ k := by
      rw [Nat.pow_succ] at h
      exact Nat.div_lt_of_lt_mul (by rw [Nat.mul_comm]; exact h)
    unfold le getN
    rw [ih _ h2]
    have e : (UInt8.ofNat n).toNat = n % 256 := by simp
    rw [e]
    exact Nat.mod_add_div n 256
theorem getN_lt (s : Pg) : getN s < 256 ^ s.length := by
  induction s with
  | nil => simp [getN]
  | cons c s ih =>
    have := c.toNat_lt
    simp only [getN, List.length_cons, Nat.pow_succ]
    omega
/-- where the stream is -/
structure Hd where
  seq : Nat
  bank : Nat
  size : Nat
  count : Nat
  sum : Nat
/-- a head as a page with a mark -/
def hb0 (m : UInt8) : Pg := (Dk.zero.set 0 m).set 127 m
def hb1 (h : Hd) (m : UInt8) : Pg := Dk.putAt (hb0 m) 1 (le h.seq 8)
def hb2 (h : Hd) (m : UInt8) : Pg := (hb1 h m).set 9 (UInt8.ofNat h.bank)
def hb3 (h : Hd) (m : UInt8) : Pg := Dk.putAt (hb2 h m) 10 (le h.size 4)
def hb4 (h : Hd) (m : UInt8) : Pg := Dk.putAt (hb3 h m) 14 (le h.count 4)
def hbody (h : Hd) (m : UInt8) : Pg := Dk.putAt (hb4 h m) 18 (le h.sum 4)
def hsum (p : Pg) : Nat := crc (crc 0 (p.take 22)) (p.drop 26)
def hpage (h : Hd) (m : UInt8) : Pg := Dk.putAt (hbody h m) 22 (le (hsum (hbody h m)) 4)
theorem zeroLen : (Dk.zero : Pg).length = 128 := List.length_replicate
theorem hb0_len (m : UInt8) : (hb0 m).length = 128 := by unfold hb0; rw [List.length_set, List.length_set, zeroLen]
theorem hb1_len (h : Hd) (m : UInt8) : (hb1 h m).length = 128 := by unfold hb1; rw [Dk.putAt_len (by rw [hb0_len, le_len]; omega), hb0_len]
theorem hb2_len (h : Hd) (m : UInt8) : (hb2 h m).length = 128 := by unfold hb2; rw [List.length_set, hb1_len]
theorem hb3_len (h : Hd) (m : UInt8) : (hb3 h m).length = 128 := by unfold hb3; rw [Dk.putAt_len (by rw [hb2_len, le_len]; omega), hb2_len]
theorem hb4_len (h : Hd) (m : UInt8) : (hb4 h m).length = 128 := by unfold hb4; rw [Dk.putAt_len (by rw [hb3_len, le_len]; omega), hb3_len]
theorem hbody_len (h : Hd) (m : UInt8) : (hbody h m).length = 128 := by unfold hbody; rw [Dk.putAt_len (by rw [hb4_len, le_len]; omega), hb4_len]
theorem hpage_len (h : Hd) (m : UInt8) : (hpage h m).length = 128 := by
  unfold hpage
  rw [Dk.putAt_len, hbody_len]
  rw [hbody_len, le_len]; omega
/-- what a page says of a head -/
def zeroP (s : Pg) : Bool := s.all (· == 0)
def badP (s : Pg) : Bool := (s[0]?).getD 0 == 0 || (s[0]?).getD 0 != (s[127]?).getD 0 || hsum s != getN ((s.drop 22).take 4)
def rdHd (s : Pg) : Hd := ⟨getN ((s.drop 1).take 8), ((s[9]?).getD 0).toNat, getN ((s.drop 10).take 4), getN ((s.drop 14).take 4), getN ((s.drop 18).take 4)⟩
def hd0 : Hd := ⟨0, 0, 0, 0, 0⟩
/-- read: the head, and whether the page is one -/
def readH (s : Pg) : Hd × Bool := if zeroP s then (hd0, true) else if badP s then (hd0, false) else (rdHd s, true)
/-- a record as it is stored -/
def recB (x : Pg) : Pg := UInt8.ofNat x.length :: UInt8.ofNat (x.length / 256) :: x
def streamS (l : List Pg) : Pg := l.flatMap recB
theorem streamS_take {l : List Pg} {k : Nat} {x : Pg} (h : l[k]? = some x) : streamS (l.take (k + 1)) = streamS (l.take k) ++ recB x := by
  rw [List.take_add_one, h]
  unfold streamS
  simp
theorem streamS_take_le (l : List Pg) (k : Nat) : (streamS (l.take k)).length ≤ (streamS l).length := by
  have : streamS l = streamS (l.take k) ++ streamS (l.drop k) := by
    unfold streamS
    rw [← List.flatMap_append, List.take_append_drop]
  rw [this, List.length_append]; omega
end Go.Proofs.Ytjcmnobfdidnkaa

/- The journal in plain words: what its functions do. No program. -/
namespace Go.Proofs.Ytjcmnobfdidnkaa
def Dk.jp (d : Dk) : Nat := (d.n - 2) / 2
def Dk.jfirst (d : Dk) (bank : Nat) : Nat := 2 + bank * d.jp
def Dk.jcap (d : Dk) : Nat := d.jp * 128
/-- the mark of the next head over a page -/
def markOf (s : Pg) : UInt8 := if (s[127]?).getD 0 = 1 then 2 else 1
/-- a copy of a head is written: the disk, and the error -/
def jwrite (d : Dk) (h : Hd) (i : Nat) : Dk × Int :=
  if d.off then (d, 13) else
    let p := hpage h (markOf (d.now i))
    if d.writeE i 0 p = 0 then ((d.write i 0 p).flush, (d.write i 0 p).flushE) else (d.write i 0 p, d.writeE i 0 p)
/-- the bytes of a text that lie on the page of a byte -/
def partN (at_ : Nat) (s : Pg) : Nat := min s.length (128 - at_ % 128)
/-- a text is written from a byte of a bank on, whose first page is f: the disk, and the error -/
def jputs (f : Nat) (d : Dk) (a : Nat) (s : Pg) : Dk × Int :=
  if h : s.length = 0 then (d, 0) else
    if d.writeE ((f : Int) + (a : Int) / 128) ((a : Int) % 128) (s.take (partN a s)) = 0 then
      jputs f (d.write ((f : Int) + (a : Int) / 128) ((a : Int) % 128) (s.take (partN a s))) (a + partN a s) (s.drop (partN a s))
    else (d.write ((f : Int) + (a : Int) / 128) ((a : Int) % 128) (s.take (partN a s)), d.writeE ((f : Int) + (a : Int) / 128) ((a : Int) % 128) (s.take (partN a s)))
termination_by s.length
decreasing_by rw [List.length_drop]; unfold partN; omega
theorem jputs_nil (f : Nat) (d : Dk) (a : Nat) : jputs f d a [] = (d, 0) := by rw [jputs]; rfl
theorem jputs_step (f : Nat) (d : Dk) (a : Nat) (s : Pg) (hp : 0 < s.length) : jputs f d a s =
    if d.writeE ((f : Int) + (a : Int) / 128) ((a : Int) % 128) (s.take (partN a s)) = 0 then
      jputs f (d.write ((f : Int) + (a : Int) / 128) ((a : Int) % 128) (s.take (partN a s))) (a + partN a s) (s.drop (partN a s))
    else (d.write ((f : Int) + (a : Int) / 128) ((a : Int) % 128) (s.take (partN a s)), d.writeE ((f : Int) + (a : Int) / 128) ((a : Int) % 128) (s.take (partN a s))) := by
  rw [jputs, dif_neg (Nat.ne_of_gt hp)]
/-- a text and a head are stored: the disk, the head that the journal has then, the error -/
def jstore (d : Dk) (h hn : Hd) (a : Nat) (s : Pg) : Dk × Hd × Int :=
  if (jputs (d.jfirst hn.bank) d a s).2 ≠ 0 then ((jputs (d.jfirst hn.bank) d a s).1, h, (jputs (d.jfirst hn.bank) d a s).2) else
  if (jputs (d.jfirst hn.bank) d a s).1.flushE ≠ 0 then ((jputs (d.jfirst hn.bank) d a s).1.flush, h, (jputs (d.jfirst hn.bank) d a s).1.flushE) else
  if (jwrite (jputs (d.jfirst hn.bank) d a s).1.flush hn 0).2 ≠ 0 then ((jwrite (jputs (d.jfirst hn.bank) d a s).1.flush hn 0).1, hn, (jwrite (jputs (d.jfirst hn.bank) d a s).1.flush hn 0).2) else
  ((jwrite (jwrite (jputs (d.jfirst hn.bank) d a s).1.flush hn 0).1 hn 1).1, hn, (jwrite (jwrite (jputs (d.jfirst hn.bank) d a s).1.flush hn 0).1 hn 1).2)
section
variable {d d1 d2 d' d3 : Dk} {h hn : Hd} {a f : Nat} {s : Pg} {E : Int}
theorem jstore1 (hf : d.jfirst hn.bank = f) (h1 : jputs f d a s = (d', E)) (hE : E ≠ 0) : jstore d h hn a s = (d', h, E) := by
  unfold jstore; rw [hf, h1, if_pos hE]
theorem jstore2 (hf : d.jfirst hn.bank = f) (h1 : jputs f d a s = (d', 0)) (h2 : d'.flush = d1) (h3 : d'.flushE = E) (hE : E ≠ 0) : jstore d h hn a s = (d1, h, E) := by
  unfold jstore; rw [hf, h1, if_neg (by simp), h3, if_pos hE, h2]
theorem jstore3 (hf : d.jfirst hn.bank = f) (h1 : jputs f d a s = (d', 0)) (h2 : d'.flush = d1) (h3 : d'.flushE = 0) (h4 : jwrite d1 hn 0 = (d2, E)) (hE : E ≠ 0) : jstore d h hn a s = (d2, hn, E) := by
  unfold jstore; rw [hf, h1, if_neg (by simp), h3, if_neg (by simp), h2, h4, if_pos hE]
theorem jstore4 (hf : d.jfirst hn.bank = f) (h1 : jputs f d a s = (d', 0)) (h2 : d'.flush = d1) (h3 : d'.flushE = 0) (h4 : jwrite d1 hn 0 = (d2, 0)) (h5 : jwrite d2 hn 1 = (d3, E)) : jstore d h hn a s = (d3, hn, E) := by
  unfold jstore; rw [hf, h1, if_neg (by simp), h3, if_neg (by simp), h2, h4, if_neg (by simp), h5]
end
theorem jwrite_n (d : Dk) (h : Hd) (i : Nat) : (jwrite d h i).1.n = d.n := by
  unfold jwrite
  by_cases ho : d.off = true
  · rw [if_pos ho]
  · rw [if_neg ho]
    simp only []
    split
    · show (Dk.flush _).n = d.n
      rw [Dk.n_flush, Dk.n_write]
    · exact Dk.n_write _ _ _
/-- keep: the disk, the head; the error -/
def jkeepD (d : Dk) (h hn : Hd) (a : Nat) (s : Pg) : Dk := (jstore d h hn a s).1
def jkeepF (d : Dk) (h hn : Hd) (a : Nat) (s : Pg) : Bool := (jstore d h hn a s).2.2 != 0
theorem jstore_hd {d : Dk} {h hn : Hd} {a : Nat} {s : Pg} (h0 : (jstore d h hn a s).2.2 = 0) : (jstore d h hn a s).2.1 = hn := by
  unfold jstore at *
  split
  · rename_i h1; rw [if_pos h1] at h0; exact absurd h0 h1
  · rename_i h1; rw [if_neg h1] at h0
    split
    · rename_i h2; rw [if_pos h2] at h0; exact absurd h0 h2
    · split <;> rfl
/-- the head behind an Append -/
def appHd (h : Hd) (x : Pg) : Hd := ⟨h.seq + 1, h.bank, h.size + (x.length + 2), h.count + 1, crc h.sum (recB x)⟩
end Go.Proofs.Ytjcmnobfdidnkaa

/- The journal in plain words: a journal, its calls, and what opening does. No program. -/
namespace Go.Proofs.Ytjcmnobfdidnkaa
/-- a journal: its disk, its head, its records, whether it is closed -/
structure Jn where
  d : Dk
  h : Hd
  recs : List Pg
  cl : Bool
/-- a text and a head are kept, and the records that there are then -/
def Jn.keep (j : Jn) (hn : Hd) (a : Nat) (s : Pg) (rs : List Pg) : Jn :=
  ⟨jkeepD j.d j.h hn a s, if jkeepF j.d j.h hn a s then j.h else hn, if jkeepF j.d j.h hn a s then j.recs else rs, if jkeepF j.d j.h hn a s then true else j.cl⟩
def Jn.appE (j : Jn) (x : Pg) : Int :=
  if j.cl then 13 else if 8000 < x.length then 2 else if j.d.jcap < j.h.size + (x.length + 2) then 12 else if jkeepF j.d j.h (appHd j.h x) j.h.size (recB x) then 13 else 0
def Jn.appI (j : Jn) (x : Pg) : Int := if j.appE x = 0 then j.recs.length else 0
def Jn.app (j : Jn) (x : Pg) : Jn :=
  if j.cl then j else if 8000 < x.length then j else if j.d.jcap < j.h.size + (x.length + 2) then j else j.keep (appHd j.h x) j.h.size (recB x) (j.recs ++ [x])
/-- the head behind a Replace -/
def repHd (h : Hd) (l : List Pg) : Hd := ⟨h.seq + 1, 1 - h.bank, (streamS l).length, l.length, crc 0 (streamS l)⟩
def longL (l : List Pg) : Bool := l.any fun x => decide (8000 < x.length)
def Jn.repE (j : Jn) (l : List Pg) : Int :=
  if j.cl then 13 else if longL l then 2 else if j.d.jcap < (streamS l).length then 12 else if jkeepF j.d j.h (repHd j.h l) 0 (streamS l) then 13 else 0
def Jn.rep (j : Jn) (l : List Pg) : Jn :=
  if j.cl then j else if longL l then j else if j.d.jcap < (streamS l).length then j else j.keep (repHd j.h l) 0 (streamS l) l
/-- the first record of a stream, and the rest -/
def jcut (s : Pg) : Option (Pg × Pg) := if s.length < 2 then none else if s.length - 2 < getN (s.take 2) then none else some ((s.drop 2).take (getN (s.take 2)), s.drop (2 + getN (s.take 2)))
/-- so many records of a stream, and the rest -/
def jtake : Nat → Pg → Option (List Pg × Pg)
  | 0, s => some ([], s)
  | k + 1, s => match jtake k s with
    | none => none
    | some (l, r) => match jcut r with
      | none => none
      | some (x, t) => some (l ++ [x], t)
/-- the pages of a bank from its first one on, as one text -/
def jpages (d : Dk) (bank k : Nat) : Pg := (List.range k).flatMap fun i => d.now (d.jfirst bank + i)
def jbytes (d : Dk) (h : Hd) : Pg := (jpages d h.bank ((h.size + 127) / 128)).take h.size
/-- the records of the stream that a head tells of -/
def jload (d : Dk) (h : Hd) : Option (List Pg) :=
  if 1 < h.bank ∨ d.jcap < h.size then none else
  if crc 0 (jbytes d h) ≠ h.sum then none else
  match jtake h.count (jbytes d h) with
  | some (l, []) => some l
  | _ => none
/-- the copy of the head that counts -/
def jnew (d : Dk) : Nat := if !(readH (d.now 0)).2 || (readH (d.now 1)).2 && decide ((readH (d.now 0)).1.seq < (readH (d.now 1)).1.seq) then 1 else 0
def jhead (d : Dk) : Hd := (readH (d.now (jnew d))).1
def Hd.eqB (a b : Hd) : Bool := a.seq == b.seq && a.bank == b.bank && a.size == b.size && a.count == b.count && a.sum == b.sum
/-- whether the other copy is written anew -/
def jmend (d : Dk) : Bool := !(readH (d.now (1 - jnew d))).2 || !(readH (d.now (1 - jnew d))).1.eqB (jhead d)
/-- Open: the disk, the journal's records and head, the error -/
def jopenE (d : Dk) : Int :=
  if d.n < 4 then 1 else if d.off then 13 else if !(readH (d.now 0)).2 && !(readH (d.now 1)).2 then 7 else
  match jload d (jhead d) with
  | none => 7
  | some _ => if jmend d then (jwrite d (jhead d) (1 - jnew d)).2 else 0
def jopenD (d : Dk) : Dk :=
  if d.n < 4 then d else if d.off then d else if !(readH (d.now 0)).2 && !(readH (d.now 1)).2 then d else
  match jload d (jhead d) with
  | none => d
  | some _ => if jmend d then (jwrite d (jhead d) (1 - jnew d)).1 else d
end Go.Proofs.Ytjcmnobfdidnkaa

/- The journal in plain words: calls, and what is always so. No program. -/
namespace Go.Proofs.Ytjcmnobfdidnkaa
/-- a journal is opened in place of another one -/
def Jn.opn (j : Jn) : Jn := if jopenE j.d = 0 then ⟨jopenD j.d, jhead j.d, (jload j.d (jhead j.d)).getD [], false⟩ else { j with d := jopenD j.d }
/-- what a head and its records have to do with one another -/
structure HdFit (d : Dk) (h : Hd) (recs : List Pg) (K : Nat) : Prop where
  n4 : 4 ≤ d.n
  seq : h.seq ≤ K
  bank : h.bank ≤ 1
  size : h.size = (streamS recs).length
  cap : h.size ≤ d.jcap
  count : h.count = recs.length
  sum : h.sum = crc 0 (streamS recs)
  short : ∀ x ∈ recs, x.length ≤ 8000
theorem stream_count (l : List Pg) : 2 * l.length ≤ (streamS l).length := by
  induction l with
  | nil => simp [streamS]
  | cons x l ih =>
    show 2 * (l.length + 1) ≤ (recB x ++ streamS l).length
    rw [List.length_append]
    show _ ≤ x.length + 2 + _
    omega
theorem HdFit.lens {d : Dk} {h : Hd} {recs : List Pg} {K : Nat} (f : HdFit d h recs K) (hn : d.n ≤ 4096) : d.jcap ≤ 300000 ∧ h.size ≤ 300000 ∧ recs.length ≤ 300000 ∧ (streamS recs).length ≤ 300000 ∧ h.sum < 4294967296 := by
  have h1 : d.jcap ≤ 300000 := by unfold Dk.jcap Dk.jp; omega
  have h2 := stream_count recs
  have h3 := f.cap
  have h4 := f.size
  exact ⟨h1, by omega, by omega, by omega, by rw [f.sum]; exact crc_lt _ _⟩
theorem streamS_app (l : List Pg) (x : Pg) : streamS (l ++ [x]) = streamS l ++ recB x := by unfold streamS; simp
theorem HdFit.app {d : Dk} {h : Hd} {recs : List Pg} {K : Nat} (f : HdFit d h recs K) (x : Pg) (hx : x.length ≤ 8000) (hf : h.size + (x.length + 2) ≤ d.jcap) {d' : Dk} (hn : d'.n = d.n) : HdFit d' (appHd h x) (recs ++ [x]) (K + 1) where
  n4 := by rw [hn]; exact f.n4
  seq := Nat.succ_le_succ f.seq
  bank := f.bank
  size := by
    rw [streamS_app, List.length_append, ← f.size]
    rfl
  cap := by
    show h.size + (x.length + 2) ≤ d'.jcap
    unfold Dk.jcap Dk.jp at *
    rw [hn]; exact hf
  count := by
    rw [List.length_append, ← f.count]
    rfl
  sum := by
    show crc h.sum (recB x) = _
    rw [f.sum, streamS_app, crc_app (by omega)]
  short := fun y hy => by
    rcases List.mem_append.1 hy with hy | hy
    · exact f.short y hy
    · rw [List.mem_singleton.1 hy]; exact hx
theorem HdFit.rep {d : Dk} {h : Hd} {recs : List Pg} {K : Nat} (f : HdFit d h recs K) (l : List Pg) (hl : longL l = false) (hf : (streamS l).length ≤ d.jcap) {d' : Dk} (hn : d'.n = d.n) : HdFit d' (repHd h l) l (K + 1) where
  n4 := by rw [hn]; exact f.n4
  seq := Nat.succ_le_succ f.seq
  bank := by show 1 - h.bank ≤ 1; omega
  size := rfl
  cap := by
    show (streamS l).length ≤ d'.jcap
    unfold Dk.jcap Dk.jp at *
    rw [hn]; exact hf
  count := rfl
  sum := rfl
  short := fun y hy => by
    unfold longL at hl
    rw [List.any_eq_false] at hl
    have := hl y hy
    simpa using this
theorem HdFit.disk {d : Dk} {h : Hd} {recs : List Pg} {K K' : Nat} (f : HdFit d h recs K) {d' : Dk} (hn : d'.n = d.n) (hK : K ≤ K') : HdFit d' h recs K' where
  n4 := by rw [hn]; exact f.n4
  seq := Nat.le_trans f.seq hK
  bank := f.bank
  size := f.size
  cap := by
    have := f.cap
    unfold Dk.jcap Dk.jp at *
    rw [hn]; exact this
  count := f.count
  sum := f.sum
  short := f.short
end Go.Proofs.Ytjcmnobfdidnkaa

/- The journal in plain words: what a text does to the bytes of the disk, whenever the power fails. No program. -/
namespace Go.Proofs.Ytjcmnobfdidnkaa
namespace Dk
variable {d : Dk}
/-- a byte of the disk, as it is read; and as it is on the plate -/
def byte (d : Dk) (X : Nat) : UInt8 := ((d.now (X / 128))[X % 128]?).getD 0
def plate (d : Dk) (X : Nat) : UInt8 := ((d.pg (X / 128))[X % 128]?).getD 0
structure Calm (d : Dk) : Prop where
  wf : d.WF
  off : d.off = false
  pn : ∀ i, d.pn i = none
theorem Calm.now (c : d.Calm) (i : Nat) : d.now i = d.pg i := by unfold Dk.now; rw [c.pn]; rfl
theorem step_on (ht : d.trip ≠ 0) : d.step.off = d.off ∧ d.step.pages = d.pages ∧ d.step.pend = d.pend ∧ (d.trip = -1 → d.step.trip = -1) := by
  unfold step
  rw [if_neg ht]
  split
  · exact ⟨rfl, rfl, rfl, fun e => by omega⟩
  · exact ⟨rfl, rfl, rfl, fun e => e⟩
theorem step_off (ht : d.trip = 0) : d.step = { d with off := true } := by unfold step; rw [if_pos ht]
theorem write_cases (hup : d.off = false) (i k : Nat) (s : Pg) (hi : i < d.n) (hk : k + s.length ≤ 128) :
    (d.trip = 0 ∧ d.writeE i k s = 13 ∧ d.write i k s = { d with off := true }) ∨ (d.trip ≠ 0 ∧ d.writeE i k s = 0 ∧ d.write i k s = d.step.setPend i (putAt (d.now i) k s)) := by
  have hw : d.wok i k s = true := wok_iff.2 ⟨⟨by omega, by omega⟩, by omega, by omega, by omega⟩
  unfold writeE write stepE
  rw [hup, hw]
  simp only [Bool.false_eq_true, if_false, if_true, Int.toNat_natCast]
  by_cases ht : d.trip = 0
  · rw [if_pos ht, if_pos ht, step_off ht]; exact .inl ⟨ht, rfl, rfl⟩
  · rw [if_neg ht, if_neg ht]; exact .inr ⟨ht, rfl, rfl⟩
theorem flush_cases (hup : d.off = false) : (d.trip = 0 ∧ d.flushE = 13 ∧ d.flush = { d with off := true }) ∨ (d.trip ≠ 0 ∧ d.flushE = 0 ∧ d.flush = d.step.settled) := by
  unfold flushE flush stepE
  rw [hup]
  simp only [Bool.false_eq_true, if_false]
  by_cases ht : d.trip = 0
  · rw [if_pos ht, if_pos ht, step_off ht]; exact .inl ⟨ht, rfl, rfl⟩
  · rw [if_neg ht, if_neg ht]; exact .inr ⟨ht, rfl, rfl⟩
theorem setPend_pn (i j : Nat) (p : Pg) (hi : i < d.pend.length) : (d.setPend i p).pn j = if j = i then some p else d.pn j := by
  unfold pn setPend
  show ((d.pend.set i (some p))[j]?).getD none = _
  by_cases h : j = i
  · subst h; rw [List.getElem?_set_self hi, if_pos rfl]; rfl
  · rw [List.getElem?_set_ne (by omega), if_neg h]
theorem pn_same {e : Dk} (h : e.pend = d.pend) (i : Nat) : e.pn i = d.pn i := by unfold pn; rw [h]
theorem pg_same {e : Dk} (h : e.pages = d.pages) (i : Nat) : e.pg i = d.pg i := by unfold pg; rw [h]
theorem now_same {e : Dk} (h : e.pages = d.pages) (h2 : e.pend = d.pend) (i : Nat) : e.now i = d.now i := by unfold now; rw [pn_same h2, pg_same h]
theorem putAt_get {old s : Pg} {k b : Nat} (hk : k + s.length ≤ old.length) : (putAt old k s)[b]? = if k ≤ b ∧ b < k + s.length then s[b - k]? else old[b]? := by
  unfold putAt
  by_cases h1 : b < k
  · rw [if_neg (by omega), List.append_assoc, List.getElem?_append_left (by rw [List.length_take]; omega), List.getElem?_take_of_lt h1]
  · by_cases h2 : b < k + s.length
    · rw [if_pos ⟨by omega, h2⟩, List.append_assoc, List.getElem?_append_right (by rw [List.length_take]; omega), List.length_take, show min k old.length = k by omega, List.getElem?_append_left (by omega)]
    · rw [if_neg (by omega), List.getElem?_append_right (by rw [List.length_append, List.length_take]; omega), List.length_append, List.length_take, show min k old.length = k by omega, List.getElem?_drop]
      congr 1
      omega
/-- a write that succeeds, byte by byte -/
theorem write_byte (h : d.WF) {i k : Nat} {s : Pg} (hi : i < d.n) (hk : k + s.length ≤ 128) {e : Dk} (he : e = d.step.setPend i (putAt (d.now i) k s)) (ht : d.trip ≠ 0) {X : Nat} (hX : X < d.n * 128) :
    e.byte X = if i * 128 + k ≤ X ∧ X < i * 128 + k + s.length then (s[X - (i * 128 + k)]?).getD 0 else d.byte X := by
  obtain ⟨s1, s2, s3, _⟩ := step_on ht
  have hl := h.now_len hi
  have hnow : ∀ j, e.now j = if j = i then putAt (d.now i) k s else d.now j := fun j => by
    have h1 : e.pn j = if j = i then some (putAt (d.now i) k s) else d.pn j := by
      rw [he, setPend_pn _ _ _ (by rw [s3, h.len]; exact hi)]
      split
      · rfl
      · exact pn_same s3 j
    have h2 : e.pg j = d.pg j := by rw [he]; exact pg_same (d := d) (by show d.step.pages = _; exact s2) j
    unfold now
    rw [h1, h2]
    by_cases hj : j = i
    · rw [if_pos hj, if_pos hj]; rfl
    · rw [if_neg hj, if_neg hj]
  unfold byte
  rw [hnow]
  by_cases hj : X / 128 = i
  · rw [if_pos hj, putAt_get (by omega)]
    by_cases hc : k ≤ X % 128 ∧ X % 128 < k + s.length
    · rw [if_pos hc, if_pos (by omega)]
      congr 2
      omega
    · rw [if_neg hc, if_neg (by omega), hj]
  · rw [if_neg hj, if_neg (by omega)]
/-- what a text does to the disk, byte by byte -/
structure Puts (f : Nat) (d : Dk) (a : Nat) (s : Pg) (e : Dk) (E : Int) : Prop where
  wf : e.WF
  pages : e.pages = d.pages
  low : ∀ i, i < f → e.pn i = d.pn i
  out : ∀ X, X < d.n * 128 → ¬ (f * 128 + a ≤ X ∧ X < f * 128 + a + s.length) → e.byte X = d.byte X
  fin : (E = 0 ∧ e.off = false ∧ (d.trip = -1 → e.trip = -1) ∧ ∀ X, f * 128 + a ≤ X → X < f * 128 + a + s.length → e.byte X = (s[X - (f * 128 + a)]?).getD 0) ∨ (E = 13 ∧ e.off = true ∧ d.trip ≠ -1)
theorem jputs_run (f : Nat) (N : Nat) : ∀ (d : Dk) (a : Nat) (s : Pg), s.length ≤ N → d.WF → d.off = false → f * 128 + a + s.length ≤ d.n * 128 → Puts f d a s (jputs f d a s).1 (jputs f d a s).2 := by
  induction N with
  | zero =>
    intro d a s hs h hup hr
    obtain rfl : s = [] := List.length_eq_zero_iff.1 (by omega)
    rw [jputs_nil]
    exact ⟨h, rfl, fun _ _ => rfl, fun _ _ _ => rfl, .inl ⟨rfl, hup, fun e => e, fun X h1 h2 => by simp at h2; omega⟩⟩
  | succ N ih =>
    intro d a s hs h hup hr
    by_cases h0 : s.length = 0
    · obtain rfl : s = [] := List.length_eq_zero_iff.1 h0
      rw [jputs_nil]
      exact ⟨h, rfl, fun _ _ => rfl, fun _ _ _ => rfl, .inl ⟨rfl, hup, fun e => e, fun X h1 h2 => by simp at h2; omega⟩⟩
    · rw [jputs_step f d a s (by omega)]
      obtain ⟨m, hm⟩ : ∃ m, partN a s = m := ⟨_, rfl⟩
      rw [hm]
      have hm1 : 0 < m ∧ m ≤ s.length ∧ a % 128 + m ≤ 128 := by rw [← hm]; unfold partN; omega
      have htl : (s.take m).length = m := by rw [List.length_take]; omega
      have hi : f + a / 128 < d.n := by omega
      have ei : (f : Int) + (a : Int) / 128 = ((f + a / 128 : Nat) : Int) := by omega
      have ek : (a : Int) % 128 = ((a % 128 : Nat) : Int) := by omega
      rw [ei, ek]
      rcases write_cases hup (f + a / 128) (a % 128) (s.take m) hi (by omega) with ⟨ht, e1, e2⟩ | ⟨ht, e1, e2⟩
      · rw [e1, e2, if_neg (by decide)]
        have hw : ({ d with off := true } : Dk).WF := by rw [← step_off ht]; exact h.step
        exact ⟨hw, rfl, fun _ _ => rfl, fun _ _ _ => rfl, .inr ⟨rfl, rfl, by omega⟩⟩
      · rw [e1, if_pos rfl]
        have hwf := h.write ((f + a / 128 : Nat) : Int) ((a % 128 : Nat) : Int) (s.take m)
        have hnw : (d.write ((f + a / 128 : Nat) : Int) ((a % 128 : Nat) : Int) (s.take m)).n = d.n := n_write _ _ _
        obtain ⟨s1, s2, s3, s4⟩ := step_on ht
        generalize hw : d.write ((f + a / 128 : Nat) : Int) ((a % 128 : Nat) : Int) (s.take m) = e at *
        have hoff : e.off = false := by rw [e2]; show d.step.off = _; rw [s1, hup]
        have hpg : e.pages = d.pages := by rw [e2]; exact s2
        have htr : d.trip = -1 → e.trip = -1 := fun x => by rw [e2]; exact s4 x
        have hlow : ∀ i, i < f → e.pn i = d.pn i := fun i hi2 => by
          rw [e2, setPend_pn _ _ _ (by rw [s3, h.len]; exact hi), if_neg (by omega)]
          exact pn_same s3 i
        have hdl : (s.drop m).length = s.length - m := List.length_drop
        have R := ih e (a + m) (s.drop m) (by omega) hwf hoff (by rw [hnw]; omega)
        have hb := fun X hX => write_byte h (i := f + a / 128) (k := a % 128) (s := s.take m) hi (by omega) e2 ht (X := X) hX
        refine ⟨R.wf, R.pages.trans hpg, fun i hi2 => (R.low i hi2).trans (hlow i hi2), fun X hX ho => ?_, ?_⟩
        · rw [R.out X (by rw [hnw]; exact hX) (by omega), hb X hX, if_neg (by omega)]
        · rcases R.fin with ⟨r1, r2, r3, r4⟩ | ⟨r1, r2, r3⟩
          · refine .inl ⟨r1, r2, fun x => r3 (htr x), fun X h1 h2 => ?_⟩
            by_cases hc : f * 128 + (a + m) ≤ X
            · rw [r4 X hc (by omega), List.getElem?_drop]
              congr 2
              omega
            · rw [R.out X (by rw [hnw]; omega) (by omega), hb X (by omega), if_pos (by omega), List.getElem?_take_of_lt (by omega)]
              congr 2
              omega
          · exact .inr ⟨r1, r2, fun x => r3 (htr x)⟩
end Dk
end Go.Proofs.Ytjcmnobfdidnkaa

/- The journal in plain words: flushing, mounting, the bytes of a stream. No program. -/
namespace Go.Proofs.Ytjcmnobfdidnkaa
namespace Dk
variable {d : Dk}
theorem off_wf (h : d.WF) : ({ d with off := true } : Dk).WF := ⟨h.len, h.page, h.pen, h.lo, h.hi⟩
theorem settled_pg {i : Nat} (hi : i < d.n) : d.settled.pg i = d.now i := pg_map rfl hi
theorem settled_n : d.settled.n = d.n := by show ((List.range d.n).map d.now).length = _; simp
theorem step_n : d.step.n = d.n := n_step d
theorem step_now (ht : d.trip ≠ 0) (i : Nat) : d.step.now i = d.now i := now_same (step_on ht).2.1 (step_on ht).2.2.1 i
theorem flush_on (h : d.WF) (hup : d.off = false) (ht : d.trip ≠ 0) {e : Dk} (he : e = d.step.settled) : Calm e ∧ e.n = d.n ∧ (d.trip = -1 → e.trip = -1) ∧ ∀ i, i < d.n → e.pg i = d.now i := by
  subst he
  refine ⟨⟨h.step.settled, ?_, fun i => pn_settled i⟩, settled_n.trans step_n, fun x => (step_on ht).2.2.2 x, fun i hi => ?_⟩
  · show d.step.off = false
    rw [(step_on ht).1, hup]
  · rw [settled_pg (by rw [step_n]; exact hi), step_now ht]
theorem Calm.byte (c : d.Calm) (X : Nat) : d.byte X = d.plate X := by unfold Dk.byte plate; rw [c.now]
theorem mount_calm (h : d.WF) (picks : List Int) : Calm (d.mount picks) ∧ (d.mount picks).n = d.n ∧ (d.mount picks).trip = -1 :=
  ⟨⟨h.mount picks, rfl, fun i => pn_mount picks i⟩, n_mount picks, rfl⟩
theorem mount_pg (picks : List Int) {i : Nat} (hi : i < d.n) : (d.mount picks).pg i = d.torn picks i := pg_map rfl hi
/-- a page behind a failure: as on the plate, or a beginning of what is pending, and the rest -/
theorem torn_form (h : d.WF) (picks : List Int) {i : Nat} (hi : i < d.n) : ∃ k, k ≤ 128 ∧ d.torn picks i = (d.now i).take k ++ (d.pg i).drop k := by
  unfold torn now
  cases hp : d.pn i with
  | none => exact ⟨0, by omega, by simp⟩
  | some p => exact ⟨pick picks (d.rank i), pick_le _ _, rfl⟩
theorem torn_same (picks : List Int) {i : Nat} (hp : d.pn i = none) : d.torn picks i = d.pg i := torn_none picks hp
theorem mount_byte (h : d.WF) (picks : List Int) {X : Nat} (hX : X < d.n * 128) : (d.mount picks).byte X = d.byte X ∨ (d.mount picks).byte X = d.plate X := by
  have hi : X / 128 < d.n := by omega
  rw [(mount_calm h picks).1.byte]
  unfold plate byte
  rw [mount_pg picks hi]
  obtain ⟨k, hk, e⟩ := torn_form h picks hi
  rw [e]
  have hl := h.now_len hi
  have hl2 := (h.pg_len hi).1
  by_cases hb : X % 128 < k
  · left
    rw [List.getElem?_append_left (by rw [List.length_take]; omega), List.getElem?_take_of_lt hb]
  · right
    rw [List.getElem?_append_right (by rw [List.length_take]; omega), List.length_take, List.getElem?_drop]
    congr 2
    omega
theorem Calm.mount (c : d.Calm) (picks : List Int) : ∀ i, i < d.n → (d.mount picks).pg i = d.pg i := fun i hi => by rw [mount_pg picks hi, torn_same picks (c.pn i)]
end Dk
theorem page_bytes {p : Pg} (hp : p.length = 128) : p = (List.range 128).map fun b => (p[b]?).getD 0 := by
  apply List.ext_getElem?
  intro i
  rw [List.getElem?_map]
  by_cases hi : i < 128
  · rw [List.getElem?_range hi, List.getElem?_eq_getElem (by omega)]; simp [show i < p.length by omega]
  · rw [List.getElem?_eq_none (by omega), List.getElem?_eq_none (by simp; omega)]; rfl
theorem range_block (g : Nat → UInt8) (k : Nat) : (List.range ((k + 1) * 128)).map g = (List.range (k * 128)).map g ++ (List.range 128).map fun b => g (k * 128 + b) := by
  rw [show (k + 1) * 128 = k * 128 + 128 by omega, List.range_add, List.map_append, List.map_map]
  rfl
theorem jpages_bytes {d : Dk} (h : d.WF) (bank : Nat) : ∀ k, d.jfirst bank + k ≤ d.n → jpages d bank k = (List.range (k * 128)).map fun X => d.byte (d.jfirst bank * 128 + X) := by
  intro k
  induction k with
  | zero => intro _; rfl
  | succ k ih =>
    intro hk
    have e : jpages d bank (k + 1) = jpages d bank k ++ d.now (d.jfirst bank + k) := by unfold jpages; rw [List.range_succ, List.flatMap_append]; simp
    rw [e, ih (by omega), range_block, page_bytes (h.now_len (i := d.jfirst bank + k) (by omega))]
    congr 1
    apply List.map_congr_left
    intro b hb
    have hb2 := List.mem_range.1 hb
    unfold Dk.byte
    rw [show (d.jfirst bank * 128 + (k * 128 + b)) / 128 = d.jfirst bank + k by omega, show (d.jfirst bank * 128 + (k * 128 + b)) % 128 = b by omega]
theorem jbytes_bytes {d : Dk} (h : d.WF) (hd : Hd) (hr : d.jfirst hd.bank * 128 + hd.size ≤ d.n * 128) : jbytes d hd = (List.range hd.size).map fun X => d.byte (d.jfirst hd.bank * 128 + X) := by
  unfold jbytes
  rw [jpages_bytes h hd.bank _ (by omega), ← List.map_take, List.take_range]
  congr 2
  omega
theorem bank_in {d : Dk} (h4 : 4 ≤ d.n) {bank : Nat} (hb : bank ≤ 1) : d.jfirst bank * 128 + d.jcap ≤ d.n * 128 := by
  unfold Dk.jfirst Dk.jcap Dk.jp
  rcases (show bank = 0 ∨ bank = 1 by omega) with rfl | rfl <;> omega
theorem jfirst_n {d e : Dk} (hn : e.n = d.n) (b : Nat) : e.jfirst b = d.jfirst b ∧ e.jcap = d.jcap := by unfold Dk.jfirst Dk.jcap Dk.jp; rw [hn]; exact ⟨rfl, rfl⟩
/-- a record is cut off -/
theorem jcut_rec (x : Pg) (hx : x.length ≤ 8000) (r : Pg) : jcut (recB x ++ r) = some (x, r) := by
  have e : (recB x ++ r) = UInt8.ofNat x.length :: UInt8.ofNat (x.length / 256) :: (x ++ r) := rfl
  have hg : getN ((recB x ++ r).take 2) = x.length := by
    rw [e]
    show (UInt8.ofNat x.length).toNat + 256 * ((UInt8.ofNat (x.length / 256)).toNat + 256 * 0) = _
    have e1 : (UInt8.ofNat x.length).toNat = x.length % 256 := by simp
    have e2 : (UInt8.ofNat (x.length / 256)).toNat = x.length / 256 := by simp; omega
    rw [e1, e2]; omega
  unfold jcut
  rw [hg]
  have hl : (recB x ++ r).length = x.length + 2 + r.length := by rw [List.length_append]; rfl
  rw [if_neg (by omega), if_neg (by omega)]
  have e1 : (recB x ++ r).drop 2 = x ++ r := by rw [e]; rfl
  rw [e1, ← List.drop_drop, e1]
  simp
theorem jtake_stream (l : List Pg) (hs : ∀ x ∈ l, x.length ≤ 8000) : ∀ k, k ≤ l.length → jtake k (streamS l) = some (l.take k, streamS (l.drop k)) := by
  intro k
  induction k with
  | zero => intro _; rfl
  | succ k ih =>
    intro hk
    have hlt : k < l.length := by omega
    show (match jtake k (streamS l) with | none => none | some (l, r) => match jcut r with | none => none | some (x, t) => some (l ++ [x], t)) = _
    rw [ih (by omega)]
    have e : l.drop k = l[k] :: l.drop (k + 1) := List.drop_eq_getElem_cons hlt
    have e2 : streamS (l.drop k) = recB l[k] ++ streamS (l.drop (k + 1)) := by rw [e]; rfl
    simp only [e2, jcut_rec l[k] (hs _ (List.getElem_mem hlt))]
    rw [List.take_add_one, List.getElem?_eq_getElem hlt]
    rfl
theorem jload_fit {d : Dk} {h : Hd} {recs : List Pg} {K : Nat} (f : HdFit d h recs K) (hb : jbytes d h = streamS recs) : jload d h = some recs := by
  unfold jload
  rw [if_neg (by have := f.bank; have := f.cap; omega), hb, if_neg (by rw [f.sum]; simp), f.count, jtake_stream recs f.short _ (Nat.le_refl _)]
  simp [streamS]
end Go.Proofs.Ytjcmnobfdidnkaa

/- The journal in plain words: heads, torn and rotten; checksums find a wrong bit. No program. -/
namespace Go.Proofs.Ytjcmnobfdidnkaa
open Dk (putAt putAt_get putAt_len flip)
/-! ### checksums -/
theorem xor_can {a b k : Nat} (h : a ^^^ k = b ^^^ k) : a = b := by
  have : (a ^^^ k) ^^^ k = (b ^^^ k) ^^^ k := by rw [h]
  rwa [Nat.xor_assoc, Nat.xor_assoc, Nat.xor_self, Nat.xor_zero, Nat.xor_zero] at this
theorem bit31 {a b : Nat} (ha : a < 2147483648) (hb : b < 2147483648) : ¬ a ^^^ 3988292384 = b := by
  intro h
  have h1 : (a ^^^ 3988292384).testBit 31 = b.testBit 31 := by rw [h]
  rw [Nat.testBit_xor, Nat.testBit_lt_two_pow (i := 31) (by omega), Nat.testBit_lt_two_pow (x := b) (i := 31) (by omega)] at h1
  revert h1
  decide
theorem crcBit_inj {a b : Nat} (ha : a < 4294967296) (hb : b < 4294967296) (h : crcBit a = crcBit b) : a = b := by
  unfold crcBit at h
  by_cases h1 : a % 2 = 1
  · by_cases h2 : b % 2 = 1
    · rw [if_pos h1, if_pos h2] at h
      have := xor_can h
      omega
    · rw [if_pos h1, if_neg h2] at h
      exact absurd h (bit31 (by omega) (by omega))
  · by_cases h2 : b % 2 = 1
    · rw [if_neg h1, if_pos h2] at h
      exact absurd h.symm (bit31 (by omega) (by omega))
    · rw [if_neg h1, if_neg h2] at h
      omega
theorem crcBits_inj {a b : Nat} (ha : a < 4294967296) (hb : b < 4294967296) : ∀ k, crcBits k a = crcBits k b → a = b := by
  intro k
  induction k with
  | zero => exact fun h => h
  | succ k ih => exact fun h => ih (crcBit_inj (crcBits_lt ha k) (crcBits_lt hb k) h)
theorem xor_lt {a : Nat} (ha : a < 4294967296) (c : UInt8) : a ^^^ c.toNat < 4294967296 := Nat.xor_lt_two_pow (n := 32) (by omega) (by have := c.toNat_lt; omega)
theorem crcByte_inj {a b : Nat} (ha : a < 4294967296) (hb : b < 4294967296) (c : UInt8) (h : crcByte a c = crcByte b c) : a = b := xor_can (crcBits_inj (xor_lt ha c) (xor_lt hb c) 8 h)
theorem crcByte_inj2 {a : Nat} (ha : a < 4294967296) (c c' : UInt8) (h : crcByte a c = crcByte a c') : c = c' := by
  have := crcBits_inj (xor_lt ha c) (xor_lt ha c') 8 h
  rw [Nat.xor_comm a, Nat.xor_comm a] at this
  exact UInt8.toNat_inj.1 (xor_can this)
theorem crcRaw_inj (s : Pg) : ∀ {a b : Nat}, a < 4294967296 → b < 4294967296 → crcRaw a s = crcRaw b s → a = b := by
  induction s with
  | nil => exact fun _ _ h => h
  | cons c s ih => exact fun ha hb h => crcByte_inj ha hb c (ih (crcByte_lt ha c) (crcByte_lt hb c) h)
theorem crcRaw_set (s : Pg) : ∀ {a : Nat}, a < 4294967296 → ∀ (k : Nat) (x y : UInt8), s[k]? = some y → x ≠ y → crcRaw a (s.set k x) ≠ crcRaw a s := by
  induction s with
  | nil => intro a _ k x y h; simp at h
  | cons c s ih =>
    intro a ha k x y h hne e
    cases k with
    | zero =>
      cases h
      exact hne (crcByte_inj2 ha _ _ (crcRaw_inj s (crcByte_lt ha _) (crcByte_lt ha _) e))
    | succ k => exact ih (crcByte_lt ha c) k x y (by simpa using h) hne e
theorem crc_set {sum : Nat} {s : Pg} {k : Nat} {x y : UInt8} (h : s[k]? = some y) (hne : x ≠ y) : crc sum (s.set k x) ≠ crc sum s := by
  intro e
  have h1 := crcRaw_lt (n := 4294967295 - sum) (by omega) s
  have h2 := crcRaw_lt (n := 4294967295 - sum) (by omega) (s.set k x)
  unfold crc at e
  exact crcRaw_set s (a := 4294967295 - sum) (by omega) k x y h hne (by omega)
theorem crc_seed {a b : Nat} {s : Pg} (ha : a < 4294967296) (hb : b < 4294967296) (h : crc a s = crc b s) : a = b := by
  have h1 := crcRaw_lt (n := 4294967295 - a) (by omega) s
  have h2 := crcRaw_lt (n := 4294967295 - b) (by omega) s
  unfold crc at h
  have := crcRaw_inj s (a := 4294967295 - a) (b := 4294967295 - b) (by omega) (by omega) (by omega)
  omega
/-! ### fields of a page -/
theorem slice_at {old s : Pg} {a : Nat} (h : a + s.length ≤ old.length) : ((putAt old a s).drop a).take s.length = s := by
  apply List.ext_getElem?
  intro i
  by_cases hi : i < s.length
  · rw [List.getElem?_take_of_lt hi, List.getElem?_drop, putAt_get h, if_pos (by omega)]
    congr 1; omega
  · rw [List.getElem?_eq_none (by rw [List.length_take]; omega), List.getElem?_eq_none (by omega)]
theorem slice_off {old s : Pg} {c a k : Nat} (h : c + s.length ≤ old.length) (hd : a + k ≤ c ∨ c + s.length ≤ a) : ((putAt old c s).drop a).take k = (old.drop a).take k := by
  apply List.ext_getElem?
  intro i
  by_cases hi : i < k
  · rw [List.getElem?_take_of_lt hi, List.getElem?_take_of_lt hi, List.getElem?_drop, List.getElem?_drop, putAt_get h, if_neg (by omega)]
  · rw [List.getElem?_eq_none (by rw [List.length_take]; omega), List.getElem?_eq_none (by rw [List.length_take]; omega)]
theorem slice_set {old : Pg} {c a k : Nat} {x : UInt8} (hd : a + k ≤ c ∨ c < a) : ((old.set c x).drop a).take k = (old.drop a).take k := by
  apply List.ext_getElem?
  intro i
  by_cases hi : i < k
  · rw [List.getElem?_take_of_lt hi, List.getElem?_take_of_lt hi, List.getElem?_drop, List.getElem?_drop, List.getElem?_set_ne (by omega)]
  · rw [List.getElem?_eq_none (by rw [List.length_take]; omega), List.getElem?_eq_none (by rw [List.length_take]; omega)]
theorem get_off {old s : Pg} {c b : Nat} (h : c + s.length ≤ old.length) (hb : b < c ∨ c + s.length ≤ b) : (putAt old c s)[b]? = old[b]? := by rw [putAt_get h, if_neg (by omega)]
section
variable (h : Hd) (m : UInt8)
theorem hpF1 : 1 + (le h.seq 8).length ≤ (hb0 m).length := by rw [le_len, hb0_len]; omega
theorem hpF3 : 10 + (le h.size 4).length ≤ (hb2 h m).length := by rw [le_len, hb2_len]; omega
theorem hpF4 : 14 + (le h.count 4).length ≤ (hb3 h m).length := by rw [le_len, hb3_len]; omega
theorem hpF5 : 18 + (le h.sum 4).length ≤ (hb4 h m).length := by rw [le_len, hb4_len]; omega
theorem hpF6 : 22 + (le (hsum (hbody h m)) 4).length ≤ (hbody h m).length := by rw [le_len, hbody_len]; omega
theorem hpage_sum : ((hpage h m).drop 22).take 4 = le (hsum (hbody h m)) 4 := by
  have := slice_at (hpF6 h m)
  rw [le_len] at this
  exact this
theorem hpage_off {a k : Nat} (hd : a + k ≤ 22 ∨ 26 ≤ a) : ((hpage h m).drop a).take k = ((hbody h m).drop a).take k := slice_off (hpF6 h m) (by rw [le_len]; omega)
theorem body_sum : ((hbody h m).drop 18).take 4 = le h.sum 4 := by
  have := slice_at (hpF5 h m)
  rw [le_len] at this
  exact this
theorem body_off {a k : Nat} (hd : a + k ≤ 18 ∨ 22 ≤ a) : ((hbody h m).drop a).take k = ((hb4 h m).drop a).take k := slice_off (hpF5 h m) (by rw [le_len]; omega)
theorem hb4_count : ((hb4 h m).drop 14).take 4 = le h.count 4 := by
  have := slice_at (hpF4 h m)
  rw [le_len] at this
  exact this
theorem hb4_off {a k : Nat} (hd : a + k ≤ 14 ∨ 18 ≤ a) : ((hb4 h m).drop a).take k = ((hb3 h m).drop a).take k := slice_off (hpF4 h m) (by rw [le_len]; omega)
theorem hb3_size : ((hb3 h m).drop 10).take 4 = le h.size 4 := by
  have := slice_at (hpF3 h m)
  rw [le_len] at this
  exact this
theorem hb3_off {a k : Nat} (hd : a + k ≤ 10 ∨ 14 ≤ a) : ((hb3 h m).drop a).take k = ((hb2 h m).drop a).take k := slice_off (hpF3 h m) (by rw [le_len]; omega)
theorem hb2_off {a k : Nat} (hd : a + k ≤ 9 ∨ 9 < a) : ((hb2 h m).drop a).take k = ((hb1 h m).drop a).take k := slice_set hd
theorem hb1_seq : ((hb1 h m).drop 1).take 8 = le h.seq 8 := by
  have := slice_at (hpF1 h m)
  rw [le_len] at this
  exact this
/-- a byte before the sequence number, or behind all numbers -/
theorem hpage_end {b : Nat} (hb : b = 0 ∨ b = 127) : (hpage h m)[b]? = some m := by
  have e6 : (hpage h m)[b]? = (hbody h m)[b]? := get_off (hpF6 h m) (by rw [le_len]; omega)
  have e5 : (hbody h m)[b]? = (hb4 h m)[b]? := get_off (hpF5 h m) (by rw [le_len]; omega)
  have e4 : (hb4 h m)[b]? = (hb3 h m)[b]? := get_off (hpF4 h m) (by rw [le_len]; omega)
  have e3 : (hb3 h m)[b]? = (hb2 h m)[b]? := get_off (hpF3 h m) (by rw [le_len]; omega)
  have e2 : (hb2 h m)[b]? = (hb1 h m)[b]? := List.getElem?_set_ne (by omega)
  have e1 : (hb1 h m)[b]? = (hb0 m)[b]? := get_off (hpF1 h m) (by rw [le_len]; omega)
  rw [e6, e5, e4, e3, e2, e1]
  unfold hb0
  have hz : (Dk.zero : Pg).length = 128 := zeroLen
  rcases hb with rfl | rfl
  · rw [List.getElem?_set_ne (by omega), List.getElem?_set_self (by omega)]
  · rw [List.getElem?_set_self (by rw [List.length_set]; omega)]
theorem hpage_bank : (hpage h m)[9]? = some (UInt8.ofNat h.bank) := by
  have e6 : (hpage h m)[9]? = (hbody h m)[9]? := get_off (hpF6 h m) (by rw [le_len]; omega)
  have e5 : (hbody h m)[9]? = (hb4 h m)[9]? := get_off (hpF5 h m) (by rw [le_len]; omega)
  have e4 : (hb4 h m)[9]? = (hb3 h m)[9]? := get_off (hpF4 h m) (by rw [le_len]; omega)
  have e3 : (hb3 h m)[9]? = (hb2 h m)[9]? := get_off (hpF3 h m) (by rw [le_len]; omega)
  rw [e6, e5, e4, e3]
  unfold hb2
  rw [List.getElem?_set_self (by rw [hb1_len]; omega)]
end
theorem hsum_slices (p : Pg) (hp : p.length = 128) : hsum p = crc (crc 0 ((p.drop 0).take 22)) ((p.drop 26).take 102) := by
  unfold hsum
  rw [List.drop_zero, List.take_of_length_le (i := 102) (by rw [List.length_drop]; omega)]
theorem hsum_hpage (h : Hd) (m : UInt8) : hsum (hpage h m) = hsum (hbody h m) := by
  rw [hsum_slices _ (hpage_len h m), hsum_slices _ (hbody_len h m), hpage_off h m (by omega), hpage_off h m (by omega)]
theorem hsum_lt (p : Pg) : hsum p < 4294967296 := crc_lt _ _
/-- limits of what a head can hold -/
structure Hd.Fits (h : Hd) : Prop where
  seq : h.seq < 1000000000000
  bank : h.bank < 256
  size : h.size < 4294967296
  count : h.count < 4294967296
  sum : h.sum < 4294967296
theorem rd_hpage {h : Hd} (o : h.Fits) (m : UInt8) : rdHd (hpage h m) = h := by
  obtain ⟨o1, o2, o3, o4, o5⟩ := o
  unfold rdHd
  rw [hpage_off h m (by omega), body_off h m (by omega), hb4_off h m (by omega), hb3_off h m (by omega), hb2_off h m (by omega), hb1_seq, hpage_bank,
    hpage_off h m (by omega), body_off h m (by omega), hb4_off h m (by omega), hb3_size,
    hpage_off h m (by omega), body_off h m (by omega), hb4_count, hpage_off h m (by omega), body_sum,
    getN_le _ _ (by omega), getN_le _ _ (by omega), getN_le _ _ (by omega), getN_le _ _ (by omega)]
  have : (UInt8.ofNat h.bank).toNat = h.bank := by simp; omega
  simp only [Option.getD_some, this]
theorem zero_no {p : Pg} {b : Nat} {x : UInt8} (hb : p[b]? = some x) (hx : x ≠ 0) : zeroP p = false := by
  unfold zeroP
  rw [List.all_eq_false]
  exact ⟨x, List.mem_of_getElem? hb, by simpa using hx⟩
/-- a page that tells of a head -/
def Hp (p : Pg) (h : Hd) : Prop := (p = Dk.zero ∧ h = hd0) ∨ (h.Fits ∧ ∃ m : UInt8, (m = 1 ∨ m = 2) ∧ p = hpage h m)
def BadPg (p : Pg) : Prop := zeroP p = false ∧ badP p = true
theorem rdH_bad {p : Pg} (h : BadPg p) : readH p = (hd0, false) := by unfold readH; rw [h.1, if_neg (by simp), h.2, if_pos rfl]
theorem hpage_ends (h : Hd) {m : UInt8} (hm : m ≠ 0) : zeroP (hpage h m) = false ∧ badP (hpage h m) = false := by
  refine ⟨zero_no (hpage_end h m (.inl rfl)) hm, ?_⟩
  unfold badP
  rw [hpage_end h m (.inl rfl), hpage_end h m (.inr rfl), hsum_hpage, hpage_sum, getN_le _ _ (hsum_lt _)]
  simp [hm]
theorem mark_ne {m : UInt8} (h : m = 1 ∨ m = 2) : m ≠ 0 := by rcases h with rfl | rfl <;> decide
theorem readH_hp {p : Pg} {h : Hd} (hp : Hp p h) : readH p = (h, true) := by
  rcases hp with ⟨rfl, rfl⟩ | ⟨o, m, hm, rfl⟩
  · unfold readH
    rw [if_pos (by decide)]
  · obtain ⟨h1, h2⟩ := hpage_ends h (mark_ne hm)
    unfold readH
    rw [h1, if_neg (by simp), h2, if_neg (by simp), rd_hpage o]
theorem Hp.len {p : Pg} {h : Hd} (hp : Hp p h) : p.length = 128 := by
  rcases hp with ⟨rfl, rfl⟩ | ⟨o, m, hm, rfl⟩
  · exact zeroLen
  · exact hpage_len h m
/-- what a page says if it is read: never a head that is too great -/
theorem rd_ok {p : Pg} (hp : BadPg p ∨ ∃ h, Hp p h) (hz : zeroP p = false) (hb : badP p = false) : (rdHd p).Fits := by
  rcases hp with hp | ⟨h, ⟨rfl, rfl⟩ | ⟨o, m, hm, rfl⟩⟩
  · rw [hp.2] at hb; cases hb
  · exact absurd hz (by decide)
  · rw [rd_hpage o]; exact o
theorem markOf_ne (p : Pg) : (markOf p = 1 ∨ markOf p = 2) ∧ markOf p ≠ (p[127]?).getD 0 := by
  unfold markOf
  split
  · rename_i h; exact ⟨.inr rfl, by rw [h]; decide⟩
  · rename_i h; exact ⟨.inl rfl, fun e => h e.symm⟩
/-- a head that is torn is none -/
theorem torn_head (h : Hd) {old : Pg} (ho : old.length = 128) {k : Nat} (hk : k ≤ 128) :
    (hpage h (markOf old)).take k ++ old.drop k = old ∨ (hpage h (markOf old)).take k ++ old.drop k = hpage h (markOf old) ∨ BadPg ((hpage h (markOf old)).take k ++ old.drop k) := by
  obtain ⟨m1, m2⟩ := markOf_ne old
  have hl := hpage_len h (markOf old)
  by_cases h0 : k = 0
  · subst h0; exact .inl (by simp)
  · by_cases h1 : k = 128
    · subst h1; exact .inr (.inl (by rw [List.take_of_length_le (by omega), List.drop_of_length_le (by omega), List.append_nil]))
    · refine .inr (.inr ?_)
      have e0 : ((hpage h (markOf old)).take k ++ old.drop k)[0]? = some (markOf old) := by
        rw [List.getElem?_append_left (by rw [List.length_take]; omega), List.getElem?_take_of_lt (by omega), hpage_end h _ (.inl rfl)]
      have e1 : ((hpage h (markOf old)).take k ++ old.drop k)[127]? = old[127]? := by
        rw [List.getElem?_append_right (by rw [List.length_take]; omega), List.length_take, List.getElem?_drop]
        congr 1; omega
      refine ⟨zero_no e0 (mark_ne m1), ?_⟩
      unfold badP
      rw [e0, e1]
      simp [m2]
end Go.Proofs.Ytjcmnobfdidnkaa

/- The journal in plain words: what is on the disk; opening it, whenever the power fails. No program. -/
namespace Go.Proofs.Ytjcmnobfdidnkaa
open Dk (Calm)
/-- a page that may stand beside one with the head h -/
def Beside (p : Pg) (h : Hd) (first : Bool) : Prop := BadPg p ∨ Hp p h ∨ ∃ h1, Hp p h1 ∧ h1.seq < h.seq
/-- a disk from which the head h and its records are read -/
structure Fit (d : Dk) (h : Hd) (recs : List Pg) (K : Nat) : Prop where
  c : Calm d
  f : HdFit d h recs K
  b : jbytes d h = streamS recs
  o : (Hp (d.pg 0) h ∧ Beside (d.pg 1) h true) ∨ (Hp (d.pg 1) h ∧ Beside (d.pg 0) h false)
/-- .. both copies of the head alike -/
structure Both (d : Dk) (h : Hd) (recs : List Pg) (K : Nat) : Prop where
  c : Calm d
  f : HdFit d h recs K
  b : jbytes d h = streamS recs
  p0 : Hp (d.pg 0) h
  p1 : Hp (d.pg 1) h
section
variable {d : Dk} {h : Hd} {recs : List Pg} {K : Nat}
theorem Both.fit (s : Both d h recs K) : Fit d h recs K := ⟨s.c, s.f, s.b, .inl ⟨s.p0, .inr (.inl s.p1)⟩⟩
theorem Beside.rd {p : Pg} {g : Bool} (b : Beside p h g) : BadPg p ∨ ∃ h1, Hp p h1 := by
  rcases b with b | b | ⟨h1, b, _⟩
  · exact .inl b
  · exact .inr ⟨_, b⟩
  · exact .inr ⟨_, b⟩
theorem Fit.rd (s : Fit d h recs K) : ∀ i, i < 2 → BadPg (d.now i) ∨ ∃ h1, Hp (d.now i) h1 := by
  intro i hi
  rw [s.c.now]
  rcases s.o with ⟨a, b⟩ | ⟨a, b⟩ <;> rcases (show i = 0 ∨ i = 1 by omega) with rfl | rfl
  · exact .inr ⟨_, a⟩
  · exact b.rd
  · exact b.rd
  · exact .inr ⟨_, a⟩
theorem readH_not {p : Pg} {g : Bool} (b : Beside p h g) : ((readH p).2 = false ∧ True) ∨ ((readH p).2 = true ∧ (readH p).1.seq ≤ h.seq ∧ ((readH p).1 = h ∨ (readH p).1.seq < h.seq)) := by
  rcases b with b | b | ⟨h1, b, b2⟩
  · rw [rdH_bad b]; exact .inl ⟨rfl, trivial⟩
  · rw [readH_hp b]; exact .inr ⟨rfl, Nat.le_refl _, .inl rfl⟩
  · rw [readH_hp b]; exact .inr ⟨rfl, Nat.le_of_lt b2, .inr b2⟩
/-- the head that is taken, and whether the other copy is written anew -/
theorem Fit.head (s : Fit d h recs K) : jhead d = h ∧ (!(readH (d.now 0)).2 && !(readH (d.now 1)).2) = false ∧ (jmend d = false → Both d h recs K) ∧
    ((jnew d = 0 ∧ Hp (d.pg 0) h) ∨ (jnew d = 1 ∧ Hp (d.pg 1) h)) := by
  have hn0 := s.c.now 0
  have hn1 := s.c.now 1
  rcases s.o with ⟨a, b⟩ | ⟨a, b⟩
  · have ha := readH_hp a
    have hj : jnew d = 0 := by
      unfold jnew
      rw [hn0, hn1, ha]
      rcases readH_not b with ⟨h1, _⟩ | ⟨h1, h2, _⟩
      · rw [h1]; simp
      · rw [h1]
        simp only [Bool.not_true, Bool.true_and, Bool.false_or, decide_eq_true_eq]
        rw [if_neg (by omega)]
    refine ⟨by unfold jhead; rw [hj, hn0, ha], by rw [hn0, ha]; rfl, fun hm => ⟨s.c, s.f, s.b, a, ?_⟩, .inl ⟨hj, a⟩⟩
    unfold jmend jhead at hm
    rw [hj, hn0, ha] at hm
    simp only [Nat.sub_zero, hn1] at hm
    rcases b with b | b | ⟨h1, b, b2⟩
    · rw [rdH_bad b] at hm; cases hm
    · exact b
    · rw [readH_hp b] at hm
      simp only [Bool.not_true, Bool.false_or, Bool.not_eq_false'] at hm
      unfold Hd.eqB at hm
      simp only [Bool.and_eq_true, beq_iff_eq] at hm
      omega
  · have ha := readH_hp a
    rcases readH_not b with ⟨h1, _⟩ | ⟨h1, h2, h3⟩
    · have hj : jnew d = 1 := by
        unfold jnew
        rw [hn0, hn1, ha, h1]; rfl
      refine ⟨by unfold jhead; rw [hj, hn1, ha], by rw [hn1, ha, hn0, h1]; rfl, fun hm => ?_, .inr ⟨hj, a⟩⟩
      unfold jmend jhead at hm
      rw [hj] at hm
      simp only [Nat.sub_self, hn0, h1] at hm
      cases hm
    · rcases h3 with h3 | h3
      · have hp0 : Hp (d.pg 0) h := by
          rcases b with b | b | ⟨h4, b, b2⟩
          · rw [rdH_bad b] at h1; cases h1
          · exact b
          · rw [readH_hp b] at h3; simp only at h3; subst h3; omega
        have hj : jnew d = 0 := by
          unfold jnew
          rw [hn0, hn1, ha, h1, h3]
          simp
        exact ⟨by unfold jhead; rw [hj, hn0, h3], by rw [hn0, h1]; rfl, fun _ => ⟨s.c, s.f, s.b, hp0, a⟩, .inl ⟨hj, hp0⟩⟩
      · have hj : jnew d = 1 := by
          unfold jnew
          rw [hn0, hn1, ha, h1]
          simp only [Bool.not_true, Bool.false_or, Bool.true_and, decide_eq_true_eq]
          rw [if_pos h3]
        refine ⟨by unfold jhead; rw [hj, hn1, ha], by rw [hn1, ha]; simp, fun hm => ?_, .inr ⟨hj, a⟩⟩
        unfold jmend jhead at hm
        rw [hj] at hm
        simp only [Nat.sub_self, hn0, hn1, h1, ha, Bool.not_true, Bool.false_or, Bool.not_eq_false'] at hm
        unfold Hd.eqB at hm
        simp only [Bool.and_eq_true, beq_iff_eq] at hm
        omega
theorem HdFit.fits (f : HdFit d h recs K) (hn : d.n ≤ 4096) (hK : K ≤ 800000000000) : h.Fits := by
  have h1 := f.lens hn
  exact ⟨by have := f.seq; omega, by have := f.bank; omega, by omega, by rw [f.count]; omega, h1.2.2.2.2⟩
/-- the stream lies in the banks, not on the heads' pages -/
theorem jbytes_same {e : Dk} (hw : d.WF) (hw' : e.WF) (hn : e.n = d.n) (hd : Hd) (hr : d.jfirst hd.bank * 128 + hd.size ≤ d.n * 128) (hb : ∀ X, d.jfirst hd.bank * 128 ≤ X → X < d.jfirst hd.bank * 128 + hd.size → e.byte X = d.byte X) : jbytes e hd = jbytes d hd := by
  rw [jbytes_bytes hw hd hr, jbytes_bytes hw' hd (by rw [(jfirst_n hn _).1, hn]; exact hr), (jfirst_n hn _).1]
  apply List.map_congr_left
  intro X hX
  exact hb _ (by omega) (by have := List.mem_range.1 hX; omega)
theorem HdFit.range (f : HdFit d h recs K) : d.jfirst h.bank * 128 + h.size ≤ d.n * 128 := by
  have := bank_in f.n4 f.bank
  have := f.cap
  omega
theorem two_le (d : Dk) (b : Nat) : 2 ≤ d.jfirst b := by unfold Dk.jfirst; omega
/-- one copy of a head is written: nothing; a torn copy; or the copy -/
structure Wrote (d : Dk) (hn : Hd) (i : Nat) (e : Dk) (E : Int) : Prop where
  n : e.n = d.n
  wf : e.WF
  res : (E = 0 ∧ Calm e ∧ (d.trip = -1 → e.trip = -1) ∧ e.pg i = hpage hn (markOf (d.pg i)) ∧ ∀ k, k < d.n → k ≠ i → e.pg k = d.pg k) ∨
    (E = 13 ∧ e.off = true ∧ d.trip ≠ -1 ∧ ∀ picks, (∀ k, k < d.n → k ≠ i → (e.mount picks).pg k = d.pg k) ∧ ∃ k, k ≤ 128 ∧ (e.mount picks).pg i = (hpage hn (markOf (d.pg i))).take k ++ (d.pg i).drop k)
theorem jwrite_run (c : Calm d) (hn : Hd) {i : Nat} (hi : i < d.n) : Wrote d hn i (jwrite d hn i).1 (jwrite d hn i).2 := by
  have hup := c.off
  have hl := hpage_len hn (markOf (d.pg i))
  unfold jwrite
  rw [hup, if_neg (by simp), c.now]
  simp only
  rcases Dk.write_cases hup i 0 (hpage hn (markOf (d.pg i))) hi (by omega) with ⟨ht, e1, e2⟩ | ⟨ht, e1, e2⟩
  · have e3 : ((0 : Nat) : Int) = 0 := rfl
    rw [e3] at e1 e2
    rw [e1, if_neg (by decide), e2]
    refine ⟨rfl, Dk.off_wf c.wf, .inr ⟨rfl, rfl, by omega, fun picks => ?_⟩⟩
    have hm : ∀ k, k < d.n → ((({ d with off := true } : Dk)).mount picks).pg k = d.pg k := fun k hk => by
      rw [Dk.mount_pg picks (d := { d with off := true }) hk]; exact Dk.torn_same (d := { d with off := true }) picks (c.pn k)
    exact ⟨fun k hk _ => hm k hk, 0, by omega, by rw [hm i hi]; simp⟩
  · have e3 : ((0 : Nat) : Int) = 0 := rfl
    rw [e3] at e1 e2
    rw [e1, if_pos rfl]
    obtain ⟨s1, s2, s3, s4⟩ := Dk.step_on ht
    have hwf := c.wf.write (i : Int) 0 (hpage hn (markOf (d.pg i)))
    have hnw : (d.write (i : Int) 0 (hpage hn (markOf (d.pg i)))).n = d.n := Dk.n_write _ _ _
    generalize d.write (i : Int) 0 (hpage hn (markOf (d.pg i))) = w at *
    have hwo : w.off = false := by rw [e2]; exact s1.trans hup
    have hwp : ∀ k, w.pg k = d.pg k := fun k => by rw [e2]; exact Dk.pg_same (d := d) s2 k
    have hput : Dk.putAt (d.now i) 0 (hpage hn (markOf (d.pg i))) = hpage hn (markOf (d.pg i)) := by
      unfold Dk.putAt
      rw [List.take_zero, List.nil_append, List.drop_of_length_le (by rw [c.wf.now_len hi]; omega), List.append_nil]
    have hwn : ∀ k, w.pn k = if k = i then some (hpage hn (markOf (d.pg i))) else none := fun k => by
      rw [e2, Dk.setPend_pn _ _ _ (by rw [s3, c.wf.len]; exact hi), hput]
      split
      · rfl
      · rw [Dk.pn_same s3, c.pn]
    have hwnow : ∀ k, w.now k = if k = i then hpage hn (markOf (d.pg i)) else d.pg k := fun k => by
      unfold Dk.now
      rw [hwn, hwp]
      split <;> rfl
    have hwt : d.trip = -1 → w.trip = -1 := fun x => by rw [e2]; exact s4 x
    rcases Dk.flush_cases hwo with ⟨ht2, g1, g2⟩ | ⟨ht2, g1, g2⟩
    · rw [g1, g2]
      refine ⟨hnw, Dk.off_wf hwf, .inr ⟨rfl, rfl, fun x => by have := hwt x; omega, fun picks => ⟨fun k hk hki => ?_, ?_⟩⟩⟩
      · rw [Dk.mount_pg picks (d := { w with off := true }) (by show k < w.n; rw [hnw]; exact hk)]
        exact (Dk.torn_same (d := { w with off := true }) picks (show w.pn k = none by rw [hwn, if_neg hki])).trans (hwp k)
      · rw [Dk.mount_pg picks (d := { w with off := true }) (by show i < w.n; rw [hnw]; exact hi)]
        obtain ⟨k, hk, e⟩ := Dk.torn_form (d := { w with off := true }) (Dk.off_wf hwf) picks (i := i) (by show i < w.n; rw [hnw]; exact hi)
        refine ⟨k, hk, ?_⟩
        rw [e]
        show (w.now i).take k ++ (w.pg i).drop k = _
        rw [hwnow, if_pos rfl, hwp]
    · obtain ⟨q1, q2, q3, q4⟩ := Dk.flush_on hwf hwo ht2 g2
      rw [g1]
      refine ⟨q2.trans hnw, q1.wf, .inl ⟨rfl, q1, fun x => q3 (hwt x), ?_, fun k hk hki => ?_⟩⟩
      · rw [q4 i (by rw [hnw]; exact hi), hwnow, if_pos rfl]
      · rw [q4 k (by rw [hnw]; exact hk), hwnow, if_neg hki]
end
end Go.Proofs.Ytjcmnobfdidnkaa

/- The journal in plain words: opening and storing, whenever the power fails. No program. -/
namespace Go.Proofs.Ytjcmnobfdidnkaa
open Dk (Calm)
section
variable {d : Dk} {h : Hd} {recs : List Pg} {K : Nat}
theorem plate_same {e : Dk} {X : Nat} (hp : e.pg (X / 128) = d.pg (X / 128)) : e.plate X = d.plate X := by unfold Dk.plate; rw [hp]
/-- a disk whose other pages are as they were -/
theorem jbytes_pages {e : Dk} (c : Calm d) (c' : Calm e) (hn : e.n = d.n) (hd : Hd) (hr : d.jfirst hd.bank * 128 + hd.size ≤ d.n * 128) (hp : ∀ k, k < d.n → 2 ≤ k → e.pg k = d.pg k) : jbytes e hd = jbytes d hd :=
  jbytes_same c.wf c'.wf hn hd hr fun X h1 h2 => by
    rw [c'.byte, c.byte]
    have := two_le d hd.bank
    exact plate_same (hp _ (by omega) (by omega))
theorem jopen_not (h4 : 4 ≤ d.n) (hup : d.off = false) (hb : (!(readH (d.now 0)).2 && !(readH (d.now 1)).2) = false) {l : List Pg} (hl : jload d (jhead d) = some l) :
    (jmend d = false → jopenE d = 0 ∧ jopenD d = d) ∧ (jmend d = true → jopenE d = (jwrite d (jhead d) (1 - jnew d)).2 ∧ jopenD d = (jwrite d (jhead d) (1 - jnew d)).1) := by
  have h5 : ¬ d.n < 4 := by omega
  constructor <;> intro hm <;> unfold jopenE jopenD <;> simp only [if_neg h5, hup, Bool.false_eq_true, if_false, hb, hl, hm, if_true, and_self]
theorem Beside.torn {p old : Pg} {g : Bool} (hf : h.Fits) (ho : old.length = 128) (b : Beside old h g) {k : Nat} (hk : k ≤ 128) (e : p = (hpage h (markOf old)).take k ++ old.drop k) : Beside p h g := by
  rcases torn_head h ho hk with t | t | t <;> rw [← e] at t
  · rw [t]; exact b
  · exact .inr (.inl (by rw [t]; exact .inr ⟨hf, _, (markOf_ne old).1, rfl⟩))
  · exact .inl t
/-- **opening**: the head and the records are found; the disk is as it was but for copies of the head; and so it is if the power fails -/
theorem Fit.open_ (s : Fit d h recs K) (hf : h.Fits) : jhead d = h ∧ jload d h = some recs ∧
    ((jopenE d = 0 ∧ Both (jopenD d) h recs K ∧ (jopenD d).n = d.n ∧ (d.trip = -1 → (jopenD d).trip = -1)) ∨
      (jopenE d = 13 ∧ (jopenD d).off = true ∧ (jopenD d).n = d.n ∧ (jopenD d).WF ∧ d.trip ≠ -1 ∧ ∀ picks, Fit ((jopenD d).mount picks) h recs K)) := by
  obtain ⟨h1, h2, h3, h4⟩ := s.head
  have hl := jload_fit s.f s.b
  obtain ⟨o1, o2⟩ := jopen_not s.f.n4 s.c.off h2 (by rw [h1]; exact hl)
  refine ⟨h1, hl, ?_⟩
  cases hm : jmend d with
  | false =>
    obtain ⟨q1, q2⟩ := o1 hm
    rw [q1, q2]
    exact .inl ⟨rfl, h3 hm, rfl, fun x => x⟩
  | true =>
    obtain ⟨q1, q2⟩ := o2 hm
    rw [h1] at q1 q2
    rw [q1, q2]
    -- the pages: i0 the one that counts, i the other
    have key : ∀ i0 i, i0 < 2 → i < 2 → i0 ≠ i → Hp (d.pg i0) h → Beside (d.pg i) h (i == 1) → (∀ e : Dk, Calm e → e.n = d.n → (∀ k, k < d.n → k ≠ i → e.pg k = d.pg k) → Beside (e.pg i) h (i == 1) → Fit e h recs K) ∧ (∀ e : Dk, Calm e → e.n = d.n → (∀ k, k < d.n → k ≠ i → e.pg k = d.pg k) → Hp (e.pg i) h → Both e h recs K) := by
      intro i0 i a1 a2 a3 a4 a5
      have n4 := s.f.n4
      have hb : ∀ e : Dk, Calm e → e.n = d.n → (∀ k, k < d.n → k ≠ i → e.pg k = d.pg k) → jbytes e h = streamS recs := fun e c' hn hp => by
        rw [jbytes_pages s.c c' hn h s.f.range (fun k hk h2 => hp k hk (by omega)), s.b]
      constructor
      · intro e c' hn hp hbs
        refine ⟨c', s.f.disk hn (Nat.le_refl _), hb e c' hn hp, ?_⟩
        rcases (show i0 = 0 ∧ i = 1 ∨ i0 = 1 ∧ i = 0 by omega) with ⟨rfl, rfl⟩ | ⟨rfl, rfl⟩
        · exact .inl ⟨by rw [hp 0 (by omega) (by omega)]; exact a4, hbs⟩
        · exact .inr ⟨by rw [hp 1 (by omega) (by omega)]; exact a4, hbs⟩
      · intro e c' hn hp hh
        refine ⟨c', s.f.disk hn (Nat.le_refl _), hb e c' hn hp, ?_, ?_⟩ <;>
        rcases (show i0 = 0 ∧ i = 1 ∨ i0 = 1 ∧ i = 0 by omega) with ⟨rfl, rfl⟩ | ⟨rfl, rfl⟩
        · rw [hp 0 (by omega) (by omega)]; exact a4
        · exact hh
        · exact hh
        · rw [hp 1 (by omega) (by omega)]; exact a4
    have fin : ∀ i0 i, i0 < 2 → i < 2 → i0 ≠ i → Hp (d.pg i0) h → Beside (d.pg i) h (i == 1) → (((jwrite d h i).2 = 0 ∧ Both (jwrite d h i).1 h recs K ∧ (jwrite d h i).1.n = d.n ∧ (d.trip = -1 → (jwrite d h i).1.trip = -1)) ∨ ((jwrite d h i).2 = 13 ∧ (jwrite d h i).1.off = true ∧ (jwrite d h i).1.n = d.n ∧ (jwrite d h i).1.WF ∧ d.trip ≠ -1 ∧ ∀ picks, Fit ((jwrite d h i).1.mount picks) h recs K)) := by
      intro i0 i a1 a2 a3 a4 a5
      have n4 := s.f.n4
      obtain ⟨k1, k2⟩ := key i0 i a1 a2 a3 a4 a5
      obtain ⟨w1, w2, w3⟩ := jwrite_run s.c h (i := i) (by omega)
      have hlen : (d.pg i).length = 128 := (s.c.wf.pg_len (by omega)).1
      rcases w3 with ⟨r1, r2, r3, r4, r5⟩ | ⟨r1, r2, r3, r4⟩
      · exact .inl ⟨r1, k2 _ r2 w1 r5 (by rw [r4]; exact .inr ⟨hf, _, (markOf_ne _).1, rfl⟩), w1, r3⟩
      · refine .inr ⟨r1, r2, w1, w2, r3, fun picks => ?_⟩
        obtain ⟨r5, k, hk, r6⟩ := r4 picks
        obtain ⟨m1, m2, _⟩ := Dk.mount_calm w2 picks
        exact k1 _ m1 (m2.trans w1) r5 (a5.torn hf hlen hk r6)
    rcases h4 with ⟨hj, hp⟩ | ⟨hj, hp⟩ <;> rw [hj]
    · refine fin 0 1 (by omega) (by omega) (by omega) hp ?_
      rcases s.o with ⟨_, b⟩ | ⟨a, _⟩
      · exact b
      · exact .inr (.inl a)
    · refine fin 1 0 (by omega) (by omega) (by omega) hp ?_
      rcases s.o with ⟨a, _⟩ | ⟨_, b⟩
      · exact .inr (.inl a)
      · exact b
/-- what is stored, and where -/
structure Stores (d : Dk) (h : Hd) (recs : List Pg) (K : Nat) (hn : Hd) (a : Nat) (s : Pg) (recs' : List Pg) : Prop where
  fits : hn.Fits
  fit : HdFit d hn recs' (K + 1)
  seq : h.seq < hn.seq
  room : a + s.length ≤ d.jcap
  away : ∀ X, d.jfirst h.bank * 128 ≤ X → X < d.jfirst h.bank * 128 + h.size → ¬ (d.jfirst hn.bank * 128 + a ≤ X ∧ X < d.jfirst hn.bank * 128 + a + s.length)
  new : ∀ e : Dk, e.WF → e.n = d.n → (∀ X, d.jfirst hn.bank * 128 + a ≤ X → X < d.jfirst hn.bank * 128 + a + s.length → e.byte X = (s[X - (d.jfirst hn.bank * 128 + a)]?).getD 0) →
    (∀ X, X < d.n * 128 → ¬ (d.jfirst hn.bank * 128 + a ≤ X ∧ X < d.jfirst hn.bank * 128 + a + s.length) → e.byte X = d.byte X) → jbytes e hn = streamS recs'
theorem Both.mount (s : Both d h recs K) (picks : List Int) : Both (d.mount picks) h recs K := by
  obtain ⟨m1, m2, _⟩ := Dk.mount_calm s.c.wf picks
  have n4 := s.f.n4
  have hp := s.c.mount picks
  exact ⟨m1, s.f.disk m2 (Nat.le_refl _), by rw [jbytes_pages s.c m1 m2 h s.f.range (fun k hk _ => hp k hk), s.b], by rw [hp 0 (by omega)]; exact s.p0, by rw [hp 1 (by omega)]; exact s.p1⟩
/-- **storing** -/
theorem Both.store (b : Both d h recs K) {hn : Hd} {a : Nat} {s : Pg} {recs' : List Pg} (S : Stores d h recs K hn a s recs') :
    (jstore d h hn a s).1.n = d.n ∧ (jstore d h hn a s).1.WF ∧
    (((jstore d h hn a s).2.2 = 0 ∧ Both (jstore d h hn a s).1 hn recs' (K + 1) ∧ (d.trip = -1 → (jstore d h hn a s).1.trip = -1)) ∨
      ((jstore d h hn a s).2.2 = 13 ∧ (jstore d h hn a s).1.off = true ∧ d.trip ≠ -1 ∧ ∀ picks, Fit ((jstore d h hn a s).1.mount picks) h recs K ∨ Fit ((jstore d h hn a s).1.mount picks) hn recs' (K + 1))) := by
  have n4 := b.f.n4
  have hbk := bank_in n4 S.fit.bank
  have hrm := S.room
  have h2 := two_le d hn.bank
  obtain ⟨f, hf⟩ : ∃ f, d.jfirst hn.bank = f := ⟨_, rfl⟩
  have P := Dk.jputs_run f s.length d a s (Nat.le_refl _) b.c.wf b.c.off (by rw [← hf]; omega)
  obtain ⟨d1, hd1⟩ : ∃ d1, (jputs f d a s).1 = d1 := ⟨_, rfl⟩
  obtain ⟨E, hE⟩ : ∃ E, (jputs f d a s).2 = E := ⟨_, rfl⟩
  have hpt : jputs f d a s = (d1, E) := by rw [← hd1, ← hE]
  rw [hd1, hE] at P
  have hn1 : d1.n = d.n := by unfold Dk.n; rw [P.pages]
  rw [← hf] at P
  -- the old records, if the power fails before the heads
  have old : ∀ e : Dk, e.WF → e.pages = d.pages → e.pend = d1.pend → ∀ picks, Fit (e.mount picks) h recs K := by
    intro e hw hp hq picks
    have hen : e.n = d.n := by unfold Dk.n; rw [hp]
    obtain ⟨m1, m2, _⟩ := Dk.mount_calm hw picks
    have hpg : ∀ i, i < 2 → (e.mount picks).pg i = d.pg i := fun i hi => by
      rw [Dk.mount_pg picks (by omega), Dk.torn_same picks (by rw [Dk.pn_same hq, P.low i (by omega), b.c.pn])]
      exact Dk.pg_same hp i
    have hby : ∀ X, e.byte X = d1.byte X := fun X => by unfold Dk.byte; rw [Dk.now_same (d := d1) (hp.trans P.pages.symm) hq]
    refine Both.fit ⟨m1, b.f.disk (m2.trans hen) (Nat.le_refl _), ?_, by rw [hpg 0 (by omega)]; exact b.p0, by rw [hpg 1 (by omega)]; exact b.p1⟩
    rw [jbytes_same b.c.wf m1.wf (m2.trans hen) h b.f.range (fun X x1 x2 => ?_), b.b]
    have hX : X < d.n * 128 := by have := b.f.range; omega
    have e1 : d1.byte X = d.byte X := P.out X hX (S.away X x1 x2)
    rcases Dk.mount_byte hw picks (X := X) (by rw [hen]; exact hX) with q | q <;> rw [q]
    · rw [hby, e1]
    · rw [b.c.byte]
      exact plate_same (Dk.pg_same hp _)
  rcases P.fin with ⟨p1, p2, p3, p4⟩ | ⟨p1, p2, p3⟩
  · subst p1
    rcases Dk.flush_cases p2 with ⟨ht, g1, g2⟩ | ⟨ht, g1, g2⟩
    · -- the flush of the stream fails
      rw [jstore2 hf hpt g2 g1 (by decide)]
      have hw : ({ d1 with off := true } : Dk).WF := Dk.off_wf P.wf
      exact ⟨hn1, hw, .inr ⟨rfl, rfl, fun x => by have := p3 x; omega, fun picks => .inl (old _ hw P.pages rfl picks)⟩⟩
    · obtain ⟨q1, q2, q3, q4⟩ := Dk.flush_on P.wf p2 ht g2
      obtain ⟨d2, hd2⟩ : ∃ d2, d1.flush = d2 := ⟨_, rfl⟩
      rw [hd2] at q1 q2 q3 q4
      have hn2 : d2.n = d.n := q2.trans hn1
      have hpg2 : ∀ i, i < 2 → d2.pg i = d.pg i := fun i hi => by
        rw [q4 i (by omega)]
        unfold Dk.now
        rw [P.low i (by omega), b.c.pn]
        exact Dk.pg_same P.pages i
      have hby2 : ∀ X, X < d.n * 128 → d2.byte X = d1.byte X := fun X hX => by
        rw [q1.byte]
        unfold Dk.plate Dk.byte
        rw [q4 _ (by omega)]
      have hnew2 : jbytes d2 hn = streamS recs' := S.new d2 q1.wf hn2 (fun X x1 x2 => by rw [hby2 X (by omega)]; exact p4 X x1 x2) (fun X hX x2 => by rw [hby2 X hX]; exact P.out X hX x2)
      have hold2 : jbytes d2 h = streamS recs := by
        rw [jbytes_same b.c.wf q1.wf hn2 h b.f.range (fun X x1 x2 => ?_), b.b]
        have hX : X < d.n * 128 := by have := b.f.range; omega
        rw [hby2 X hX]
        exact P.out X hX (S.away X x1 x2)
      have hrn : d2.jfirst hn.bank * 128 + hn.size ≤ d2.n * 128 := (S.fit.disk (d' := d2) hn2 (Nat.le_refl _)).range
      have hro : d2.jfirst h.bank * 128 + h.size ≤ d2.n * 128 := (b.f.disk (d' := d2) hn2 (Nat.le_refl _)).range
      have hmk : ∀ p : Pg, Hp (hpage hn (markOf p)) hn := fun p => .inr ⟨S.fits, _, (markOf_ne p).1, rfl⟩
      -- the first copy of the head
      obtain ⟨w1, w2, w3⟩ := jwrite_run q1 hn (i := 0) (by omega)
      obtain ⟨d3, hd3⟩ : ∃ d3, (jwrite d2 hn 0).1 = d3 := ⟨_, rfl⟩
      obtain ⟨E3, hE3⟩ : ∃ E3, (jwrite d2 hn 0).2 = E3 := ⟨_, rfl⟩
      have hw3 : jwrite d2 hn 0 = (d3, E3) := by rw [← hd3, ← hE3]
      rw [hd3] at w1 w2 w3
      rw [hE3] at w3
      have hn3 : d3.n = d.n := w1.trans hn2
      rcases w3 with ⟨r1, r2, r3, r4, r5⟩ | ⟨r1, r2, r3, r4⟩
      · subst r1
        -- the second one
        obtain ⟨v1, v2, v3⟩ := jwrite_run r2 hn (i := 1) (by omega)
        obtain ⟨d4, hd4⟩ : ∃ d4, (jwrite d3 hn 1).1 = d4 := ⟨_, rfl⟩
        obtain ⟨E4, hE4⟩ : ∃ E4, (jwrite d3 hn 1).2 = E4 := ⟨_, rfl⟩
        have hw4 : jwrite d3 hn 1 = (d4, E4) := by rw [← hd4, ← hE4]
        rw [hd4] at v1 v2 v3
        rw [hE4] at v3
        rw [jstore4 hf hpt hd2 g1 hw3 hw4]
        have hn4 : d4.n = d.n := v1.trans hn3
        have hp30 : Hp (d3.pg 0) hn := by rw [r4]; exact hmk _
        refine ⟨hn4, v2, ?_⟩
        rcases v3 with ⟨t1, t2, t3, t4, t5⟩ | ⟨t1, t2, t3, t4⟩
        · refine .inl ⟨t1, ⟨t2, S.fit.disk hn4 (Nat.le_refl _), ?_, by rw [t5 0 (by omega) (by omega)]; exact hp30, by rw [t4]; exact hmk _⟩, fun x => t3 (r3 (q3 (p3 x)))⟩
          rw [jbytes_pages q1 t2 (hn4.trans hn2.symm) hn hrn (fun k hk h9 => by rw [t5 k (by omega) (by omega), r5 k hk (by omega)]), hnew2]
        · refine .inr ⟨t1, t2, fun x => t3 (r3 (q3 (p3 x))), fun picks => .inr ?_⟩
          obtain ⟨t5, k, hk, t6⟩ := t4 picks
          obtain ⟨m1, m2, _⟩ := Dk.mount_calm v2 picks
          refine ⟨m1, S.fit.disk (m2.trans hn4) (Nat.le_refl _), ?_, .inl ⟨by rw [t5 0 (by omega) (by omega)]; exact hp30, ?_⟩⟩
          · rw [jbytes_pages q1 m1 ((m2.trans hn4).trans hn2.symm) hn hrn (fun k hk h9 => by rw [t5 k (by omega) (by omega), r5 k hk (by omega)]), hnew2]
          · have hb1 : Beside (d3.pg 1) hn true := by
              rw [r5 1 (by omega) (by omega), hpg2 1 (by omega)]
              exact .inr (.inr ⟨h, b.p1, S.seq⟩)
            exact hb1.torn S.fits (r2.wf.pg_len (by omega)).1 hk t6
      · subst r1
        rw [jstore3 hf hpt hd2 g1 hw3 (by decide)]
        refine ⟨hn3, w2, .inr ⟨rfl, r2, fun x => r3 (q3 (p3 x)), fun picks => ?_⟩⟩
        obtain ⟨r5, k, hk, r6⟩ := r4 picks
        obtain ⟨m1, m2, _⟩ := Dk.mount_calm w2 picks
        have hmn : (d3.mount picks).n = d.n := m2.trans hn3
        have hp1 : Hp ((d3.mount picks).pg 1) h := by rw [r5 1 (by omega) (by omega), hpg2 1 (by omega)]; exact b.p1
        have hfo : Beside ((d3.mount picks).pg 0) h false → Fit (d3.mount picks) h recs K := fun x =>
          ⟨m1, b.f.disk hmn (Nat.le_refl _), by rw [jbytes_pages q1 m1 (hmn.trans hn2.symm) h hro (fun k hk h9 => r5 k hk (by omega)), hold2], .inr ⟨hp1, x⟩⟩
        rcases torn_head hn (old := d2.pg 0) (q1.wf.pg_len (by omega)).1 hk with t | t | t <;> rw [← r6] at t
        · exact .inl (hfo (.inr (.inl (by rw [t, hpg2 0 (by omega)]; exact b.p0))))
        · exact .inr ⟨m1, S.fit.disk hmn (Nat.le_refl _), by rw [jbytes_pages q1 m1 (hmn.trans hn2.symm) hn hrn (fun k hk h9 => r5 k hk (by omega)), hnew2], .inl ⟨by rw [t]; exact hmk _, .inr (.inr ⟨h, hp1, S.seq⟩)⟩⟩
        · exact .inl (hfo (.inl t))
  · subst p1
    rw [jstore1 hf hpt (by decide)]
    exact ⟨hn1, P.wf, .inr ⟨rfl, p2, p3, fun picks => .inl (old d1 P.wf P.pages rfl picks)⟩⟩
end
end Go.Proofs.Ytjcmnobfdidnkaa

/- The journal in plain words: calls, with and without a failing power. No program. -/
namespace Go.Proofs.Ytjcmnobfdidnkaa
open Dk (Calm)
section
variable {d : Dk} {h : Hd} {recs : List Pg} {K : Nat}
theorem map_range_add (g : Nat → UInt8) (a b : Nat) : (List.range (a + b)).map g = (List.range a).map g ++ (List.range b).map fun k => g (a + k) := by
  rw [List.range_add, List.map_append, List.map_map]
  rfl
theorem map_range_get (s : Pg) : (List.range s.length).map (fun k => (s[k]?).getD 0) = s := by
  apply List.ext_getElem?
  intro i
  rw [List.getElem?_map]
  by_cases hi : i < s.length
  · rw [List.getElem?_range hi, List.getElem?_eq_getElem hi]; simp [hi]
  · rw [List.getElem?_eq_none (by simp; omega), List.getElem?_eq_none (l := s) (by omega)]; rfl
theorem Both.stores_app (b : Both d h recs K) (hi : d.n ≤ 4096) (hK : K ≤ 700000000000) (x : Pg) (hx : x.length ≤ 8000) (hr : h.size + (x.length + 2) ≤ d.jcap) : Stores d h recs K (appHd h x) h.size (recB x) (recs ++ [x]) := by
  have hfit := b.f.app x hx hr (d' := d) rfl
  have hl : (recB x).length = x.length + 2 := rfl
  refine ⟨hfit.fits hi (by omega), hfit, Nat.lt_succ_self _, by rw [hl]; exact hr, fun X x1 x2 hc => ?_, fun e hw hn e1 e2 => ?_⟩
  · have : d.jfirst (appHd h x).bank = d.jfirst h.bank := rfl
    omega
  · have hj : e.jfirst (appHd h x).bank = d.jfirst h.bank := (jfirst_n hn _).1
    have hj2 : d.jfirst (appHd h x).bank = d.jfirst h.bank := rfl
    have hrg := (hfit.disk (d' := e) hn (Nat.le_refl _)).range
    rw [jbytes_bytes hw _ hrg, hj, streamS_app, ← b.b, jbytes_bytes b.c.wf h b.f.range]
    show (List.range (h.size + (x.length + 2))).map _ = _
    rw [map_range_add]
    have hbk := bank_in b.f.n4 b.f.bank
    congr 1
    · apply List.map_congr_left
      intro X hX
      have hX2 := List.mem_range.1 hX
      exact e2 _ (by omega) (by rw [hj2]; omega)
    · rw [← map_range_get (recB x), hl]
      apply List.map_congr_left
      intro k hk
      have hk2 := List.mem_range.1 hk
      rw [e1 _ (by rw [hj2]; omega) (by rw [hj2, hl]; omega), hj2]
      congr 2
      omega
theorem Both.stores_rep (b : Both d h recs K) (hi : d.n ≤ 4096) (hK : K ≤ 700000000000) (l : List Pg) (hl : longL l = false) (hr : (streamS l).length ≤ d.jcap) : Stores d h recs K (repHd h l) 0 (streamS l) l := by
  have hfit := b.f.rep l hl hr (d' := d) rfl
  refine ⟨hfit.fits hi (by omega), hfit, Nat.lt_succ_self _, by omega, fun X x1 x2 hc => ?_, fun e hw hn e1 e2 => ?_⟩
  · have h1 := b.f.bank
    have h2 := b.f.cap
    have h3 : (repHd h l).bank = 1 - h.bank := rfl
    rw [h3] at hc
    unfold Dk.jcap at h2 hr
    unfold Dk.jfirst at x1 x2 hc
    rcases (show h.bank = 0 ∨ h.bank = 1 by omega) with e | e <;> rw [e] at x1 x2 hc <;> omega
  · have hj : e.jfirst (repHd h l).bank = d.jfirst (repHd h l).bank := (jfirst_n hn _).1
    have hrg := (hfit.disk (d' := e) hn (Nat.le_refl _)).range
    rw [jbytes_bytes hw _ hrg, hj]
    show (List.range (streamS l).length).map _ = _
    have key : ∀ k, k < (streamS l).length → e.byte (d.jfirst (repHd h l).bank * 128 + k) = ((streamS l)[k]?).getD 0 := fun k hk => by
      rw [e1 _ (by omega) (by omega)]
      congr 2
      omega
    generalize hs : streamS l = s at *
    refine Eq.trans ?_ (map_range_get s)
    apply List.map_congr_left
    intro k hk
    exact key k (List.mem_range.1 hk)
end
/-- a journal that works -/
structure Norm (j : Jn) (L : List Pg) (K : Nat) : Prop where
  both : Both j.d j.h j.recs K
  hi : j.d.n ≤ 4096
  cl : j.cl = false
  recs : j.recs = L
/-- a call that the power failed in -/
structure Fell (j j' : Jn) (L L' : List Pg) (K : Nat) : Prop where
  off : j'.d.off = true
  n : j'.d.n = j.d.n
  wf : j'.d.WF
  trip : j.d.trip ≠ -1
  recs : j'.recs = L
  head : j'.h = j.h
  fit : ∀ picks, Fit (j'.d.mount picks) j.h L K ∨ ∃ h', h'.Fits ∧ Fit (j'.d.mount picks) h' L' (K + 1)
def rappE (sz : Nat) (L : List Pg) (x : Pg) : Int := if 8000 < x.length then 2 else if sz < (streamS L).length + (2 + x.length) then 12 else 0
def rappL (sz : Nat) (L : List Pg) (x : Pg) : List Pg := if rappE sz L x = 0 then L ++ [x] else L
def rappI (sz : Nat) (L : List Pg) (x : Pg) : Int := if rappE sz L x = 0 then L.length else 0
def rrepE (sz : Nat) (l : List Pg) : Int := if longL l then 2 else if sz < (streamS l).length then 12 else 0
def rrepL (sz : Nat) (L l : List Pg) : List Pg := if rrepE sz l = 0 then l else L
section
variable {j : Jn} {L : List Pg} {K : Nat}
theorem Norm.more (s : Norm j L K) {K' : Nat} (h : K ≤ K') : Norm j L K' := ⟨⟨s.both.c, s.both.f.disk rfl h, s.both.b, s.both.p0, s.both.p1⟩, s.hi, s.cl, s.recs⟩
theorem Norm.app (s : Norm j L K) (hK : K ≤ 700000000000) (x : Pg) :
    (j.appE x = rappE j.d.jcap L x ∧ j.appI x = rappI j.d.jcap L x ∧ Norm (j.app x) (rappL j.d.jcap L x) (K + 1) ∧ (j.app x).d.n = j.d.n ∧ (j.d.trip = -1 → (j.app x).d.trip = -1)) ∨
      (j.appE x = 13 ∧ rappE j.d.jcap L x = 0 ∧ (j.app x).cl = true ∧ Fell j (j.app x) L (rappL j.d.jcap L x) K) := by
  obtain ⟨d, h, recs, cl⟩ := j
  obtain ⟨b, hi, hc, hr⟩ := s
  simp only at b hi hc hr
  subst hc; subst hr
  have hsz := b.f.size
  by_cases h1 : 8000 < x.length
  · have e0 : rappE d.jcap recs x = 2 := by unfold rappE; rw [if_pos h1]
    have e1 : (Jn.mk d h recs false).appE x = 2 := by unfold Jn.appE; simp [h1]
    have e2 : (Jn.mk d h recs false).app x = Jn.mk d h recs false := by unfold Jn.app; simp [h1]
    left
    refine ⟨by rw [e1, e0], by unfold Jn.appI rappI; rw [e1, e0], ?_, by rw [e2], by rw [e2]; exact fun q => q⟩
    rw [e2]
    unfold rappL
    rw [e0]
    exact Norm.more ⟨b, hi, rfl, rfl⟩ (by omega)
  · by_cases h2 : d.jcap < h.size + (x.length + 2)
    · have e0 : rappE d.jcap recs x = 12 := by unfold rappE; rw [if_neg h1, if_pos (by omega)]
      have e1 : (Jn.mk d h recs false).appE x = 12 := by unfold Jn.appE; simp [h1, h2]
      have e2 : (Jn.mk d h recs false).app x = Jn.mk d h recs false := by unfold Jn.app; simp [h1, h2]
      left
      refine ⟨by rw [e1, e0], by unfold Jn.appI rappI; rw [e1, e0], ?_, by rw [e2], by rw [e2]; exact fun q => q⟩
      rw [e2]
      unfold rappL
      rw [e0]
      exact Norm.more ⟨b, hi, rfl, rfl⟩ (by omega)
    · have e0 : rappE d.jcap recs x = 0 := by unfold rappE; rw [if_neg h1, if_neg (by omega)]
      have e1 : (Jn.mk d h recs false).appE x = if jkeepF d h (appHd h x) h.size (recB x) then 13 else 0 := by unfold Jn.appE; simp [h1, h2]
      have e2 : (Jn.mk d h recs false).app x = (Jn.mk d h recs false).keep (appHd h x) h.size (recB x) (recs ++ [x]) := by unfold Jn.app; simp [h1, h2]
      have eL : rappL d.jcap recs x = recs ++ [x] := by unfold rappL; rw [e0]; rfl
      have S := b.stores_app hi hK x (by omega) (by omega)
      obtain ⟨t1, t2, t3⟩ := b.store S
      have hD : jkeepD d h (appHd h x) h.size (recB x) = (jstore d h (appHd h x) h.size (recB x)).1 := rfl
      rcases t3 with ⟨t3, t4, t5⟩ | ⟨t3, t4, t5, t6⟩
      · have hF : jkeepF d h (appHd h x) h.size (recB x) = false := by unfold jkeepF; rw [t3]; rfl
        have e3 : (Jn.mk d h recs false).app x = ⟨jkeepD d h (appHd h x) h.size (recB x), appHd h x, recs ++ [x], false⟩ := by rw [e2]; unfold Jn.keep; simp [hF]
        left
        rw [e1, hF, e0, e3, eL]
        refine ⟨rfl, by unfold Jn.appI rappI; rw [e1, hF, e0]; rfl, ⟨t4, by show (jkeepD _ _ _ _ _).n ≤ 4096; rw [hD, t1]; exact hi, rfl, rfl⟩, t1, t5⟩
      · have hF : jkeepF d h (appHd h x) h.size (recB x) = true := by unfold jkeepF; rw [t3]; rfl
        have e3 : (Jn.mk d h recs false).app x = ⟨jkeepD d h (appHd h x) h.size (recB x), h, recs, true⟩ := by rw [e2]; unfold Jn.keep; simp [hF]
        right
        rw [e1, hF, e0, e3, eL]
        refine ⟨rfl, rfl, rfl, ⟨t4, t1, t2, t5, rfl, rfl, fun picks => ?_⟩⟩
        rcases t6 picks with q | q
        · exact .inl q
        · exact .inr ⟨_, S.fits, q⟩
theorem Norm.rep (s : Norm j L K) (hK : K ≤ 700000000000) (l : List Pg) :
    (j.repE l = rrepE j.d.jcap l ∧ Norm (j.rep l) (rrepL j.d.jcap L l) (K + 1) ∧ (j.rep l).d.n = j.d.n ∧ (j.d.trip = -1 → (j.rep l).d.trip = -1)) ∨
      (j.repE l = 13 ∧ rrepE j.d.jcap l = 0 ∧ (j.rep l).cl = true ∧ Fell j (j.rep l) L (rrepL j.d.jcap L l) K) := by
  obtain ⟨d, h, recs, cl⟩ := j
  obtain ⟨b, hi, hc, hr⟩ := s
  simp only at b hi hc hr
  subst hc; subst hr
  cases h1 : longL l with
  | true =>
    have e0 : rrepE d.jcap l = 2 := by unfold rrepE; rw [h1]; rfl
    have e1 : (Jn.mk d h recs false).repE l = 2 := by unfold Jn.repE; simp [h1]
    have e2 : (Jn.mk d h recs false).rep l = Jn.mk d h recs false := by unfold Jn.rep; simp [h1]
    left
    refine ⟨by rw [e1, e0], ?_, by rw [e2], by rw [e2]; exact fun q => q⟩
    rw [e2]
    unfold rrepL
    rw [e0]
    exact Norm.more ⟨b, hi, rfl, rfl⟩ (by omega)
  | false =>
    by_cases h2 : d.jcap < (streamS l).length
    · have e0 : rrepE d.jcap l = 12 := by unfold rrepE; rw [h1, if_neg (by simp), if_pos h2]
      have e1 : (Jn.mk d h recs false).repE l = 12 := by unfold Jn.repE; simp [h1, h2]
      have e2 : (Jn.mk d h recs false).rep l = Jn.mk d h recs false := by unfold Jn.rep; simp [h1, h2]
      left
      refine ⟨by rw [e1, e0], ?_, by rw [e2], by rw [e2]; exact fun q => q⟩
      rw [e2]
      unfold rrepL
      rw [e0]
      exact Norm.more ⟨b, hi, rfl, rfl⟩ (by omega)
    · have e0 : rrepE d.jcap l = 0 := by unfold rrepE; rw [h1, if_neg (by simp), if_neg h2]
      have e1 : (Jn.mk d h recs false).repE l = if jkeepF d h (repHd h l) 0 (streamS l) then 13 else 0 := by unfold Jn.repE; simp [h1, h2]
      have e2 : (Jn.mk d h recs false).rep l = (Jn.mk d h recs false).keep (repHd h l) 0 (streamS l) l := by unfold Jn.rep; simp [h1, h2]
      have eL : rrepL d.jcap recs l = l := by unfold rrepL; rw [e0]; rfl
      have S := b.stores_rep hi hK l h1 (by omega)
      obtain ⟨t1, t2, t3⟩ := b.store S
      have hD : jkeepD d h (repHd h l) 0 (streamS l) = (jstore d h (repHd h l) 0 (streamS l)).1 := rfl
      rcases t3 with ⟨t3, t4, t5⟩ | ⟨t3, t4, t5, t6⟩
      · have hF : jkeepF d h (repHd h l) 0 (streamS l) = false := by unfold jkeepF; rw [t3]; rfl
        have e3 : (Jn.mk d h recs false).rep l = ⟨jkeepD d h (repHd h l) 0 (streamS l), repHd h l, l, false⟩ := by rw [e2]; unfold Jn.keep; simp [hF]
        left
        rw [e1, hF, e0, e3, eL]
        exact ⟨rfl, ⟨t4, by show (jkeepD _ _ _ _ _).n ≤ 4096; rw [hD, t1]; exact hi, rfl, rfl⟩, t1, t5⟩
      · have hF : jkeepF d h (repHd h l) 0 (streamS l) = true := by unfold jkeepF; rw [t3]; rfl
        have e3 : (Jn.mk d h recs false).rep l = ⟨jkeepD d h (repHd h l) 0 (streamS l), h, recs, true⟩ := by rw [e2]; unfold Jn.keep; simp [hF]
        right
        rw [e1, hF, e0, e3, eL]
        refine ⟨rfl, rfl, rfl, ⟨t4, t1, t2, t5, rfl, rfl, fun picks => ?_⟩⟩
        rcases t6 picks with q | q
        · exact .inl q
        · exact .inr ⟨_, S.fits, q⟩
theorem Norm.fits (s : Norm j L K) (hK : K ≤ 700000000000) : j.h.Fits := s.both.f.fits s.hi (by omega)
theorem Norm.opn (s : Norm j L K) (hK : K ≤ 700000000000) :
    (jopenE j.d = 0 ∧ Norm j.opn L (K + 1) ∧ j.opn.d.n = j.d.n ∧ (j.d.trip = -1 → j.opn.d.trip = -1)) ∨ (jopenE j.d = 13 ∧ Fell j j.opn L L K) := by
  obtain ⟨h1, h2, h3⟩ := s.both.fit.open_ (s.fits hK)
  rcases h3 with ⟨q1, q2, q3, q4⟩ | ⟨q1, q2, q3, q4, q5, q6⟩
  · have e : j.opn = ⟨jopenD j.d, jhead j.d, j.recs, false⟩ := by unfold Jn.opn; rw [if_pos q1, h1, h2]; rfl
    left
    rw [e]
    refine ⟨q1, ⟨⟨q2.c, ?_, ?_, ?_, ?_⟩, by show (jopenD j.d).n ≤ 4096; rw [q3]; exact s.hi, rfl, s.recs⟩, q3, q4⟩
    · show HdFit _ (jhead j.d) _ _; rw [h1]; exact q2.f.disk rfl (by omega)
    · show jbytes _ (jhead j.d) = _; rw [h1]; exact q2.b
    · show Hp _ (jhead j.d); rw [h1]; exact q2.p0
    · show Hp _ (jhead j.d); rw [h1]; exact q2.p1
  · have e : j.opn = { j with d := jopenD j.d } := by unfold Jn.opn; rw [if_neg (by rw [q1]; decide)]
    right
    rw [e]
    exact ⟨q1, ⟨q2, q3, q4, q5, s.recs, rfl, fun picks => .inl (by have := q6 picks; rw [s.recs] at this; exact this)⟩⟩
end
/-- the disk that is new -/
theorem new_both (n : Nat) (h4 : 4 ≤ n) : Both (Dk.new n) hd0 [] 0 := by
  have hn : (Dk.new n).n = n := List.length_replicate
  have hc : Calm (Dk.new n) := ⟨Dk.WF.new n, rfl, fun i => by
    unfold Dk.pn Dk.new
    simp only [List.getElem?_replicate]
    split <;> rfl⟩
  have hz : ∀ i, i < n → (Dk.new n).pg i = Dk.zero := fun i hi => by
    unfold Dk.pg Dk.new
    simp only [List.getElem?_replicate]
    rw [if_pos hi]; rfl
  refine ⟨hc, ⟨by omega, Nat.le_refl _, by decide, rfl, Nat.zero_le _, rfl, by decide, fun x hx => by cases hx⟩, rfl, .inl ⟨hz 0 (by omega), rfl⟩, .inl ⟨hz 1 (by omega), rfl⟩⟩
theorem Both.trip {d : Dk} {h : Hd} {recs : List Pg} {K : Nat} (b : Both d h recs K) {k : Int} (hk : k ≤ 9223372036854775807) : Both (d.doTrip k) h recs K :=
  ⟨⟨b.c.wf.doTrip hk, b.c.off, b.c.pn⟩, b.f.disk rfl (Nat.le_refl _), b.b, b.p0, b.p1⟩
theorem Fit.trip {d : Dk} {h : Hd} {recs : List Pg} {K : Nat} (b : Fit d h recs K) {k : Int} (hk : k ≤ 9223372036854775807) : Fit (d.doTrip k) h recs K :=
  ⟨⟨b.c.wf.doTrip hk, b.c.off, b.c.pn⟩, b.f.disk rfl (Nat.le_refl _), b.b, b.o⟩
end Go.Proofs.Ytjcmnobfdidnkaa
