/- A disk in plain words: pages, pending contents, power, trip; and its operations. No program. -/
set_option linter.unusedVariables false
set_option linter.unusedSimpArgs false
set_option linter.unusedSectionVars false
namespace Go.Proofs.Ytohijdopmokkgaa
abbrev Pg := List UInt8
structure Dk where
  pages : List Pg
  pend : List (Option Pg)
  off : Bool
  trip : Int
namespace Dk
structure WF (d : Dk) : Prop where
  len : d.pend.length = d.pages.length
  page : ∀ (i : Nat) (p : Pg), d.pages[i]? = some p → p.length = 128
  pen : ∀ (i : Nat) (p : Pg), d.pend[i]? = some (some p) → p.length = 128
  lo : -1 ≤ d.trip
  hi : d.trip ≤ 9223372036854775807
def zero : Pg := List.replicate 128 0
def new (n : Nat) : Dk := ⟨List.replicate n zero, List.replicate n none, false, -1⟩
/-- the pending content of a page -/
def pn (d : Dk) (i : Nat) : Option Pg := (d.pend[i]?).getD none
def pg (d : Dk) (i : Nat) : Pg := (d.pages[i]?).getD []
def now (d : Dk) (i : Nat) : Pg := (d.pn i).getD (d.pg i)
def n (d : Dk) : Nat := d.pages.length
def is (d : Dk) (i : Int) : Bool := decide (0 ≤ i) && decide (i < d.n)
def stepE (d : Dk) : Int := if d.trip = 0 then 13 else 0
def step (d : Dk) : Dk := if d.trip = 0 then { d with off := true } else if 0 < d.trip then { d with trip := d.trip - 1 } else d
/-- Read: the text and the error -/
def readE (d : Dk) (i : Int) : Int := if d.off then 13 else if d.is i then 0 else 1
def readS (d : Dk) (i : Int) : Pg := if d.off then [] else if d.is i then d.now i.toNat else []
def putAt (old : Pg) (k : Nat) (s : Pg) : Pg := old.take k ++ s ++ old.drop (k + s.length)
def wok (d : Dk) (i k : Int) (s : Pg) : Bool := d.is i && decide (0 ≤ k) && decide (k ≤ 128) && decide ((s.length : Int) ≤ 128 - k)
def setPend (d : Dk) (i : Nat) (p : Pg) : Dk := { d with pend := d.pend.set i (some p) }
def writeE (d : Dk) (i k : Int) (s : Pg) : Int := if d.off then 13 else if d.wok i k s then d.stepE else 1
def write (d : Dk) (i k : Int) (s : Pg) : Dk :=
  if d.off then d else if d.wok i k s then (if d.trip = 0 then d.step else d.step.setPend i.toNat (putAt (d.now i.toNat) k.toNat s)) else d
def noPend (d : Dk) : List (Option Pg) := List.replicate d.n none
def flushE (d : Dk) : Int := if d.off then 13 else d.stepE
def settled (d : Dk) : Dk := { d with pages := (List.range d.n).map d.now, pend := d.noPend }
def flush (d : Dk) : Dk := if d.off then d else if d.trip = 0 then d.step else d.step.settled
def doTrip (d : Dk) (k : Int) : Dk := { d with trip := max k (-1) }
/-- how many pending pages lie before a page -/
def rank (d : Dk) (i : Nat) : Nat := ((List.range i).filter fun k => (d.pn k).isSome).length
def clamp (x : Int) : Nat := (min (max x 0) 128).toNat
def pick (picks : List Int) (k : Nat) : Nat := (picks[k]?.map clamp).getD 128
def torn (d : Dk) (picks : List Int) (i : Nat) : Pg :=
  match d.pn i with
  | none => d.pg i
  | some p => p.take (pick picks (d.rank i)) ++ (d.pg i).drop (pick picks (d.rank i))
def mount (d : Dk) (picks : List Int) : Dk := ⟨(List.range d.n).map (d.torn picks), d.noPend, false, -1⟩
def rotok (d : Dk) (i b : Int) : Bool := d.is i && decide (0 ≤ b) && decide (b < 1024)
def rotE (d : Dk) (i b : Int) : Int := if d.rotok i b then 0 else 1
def flip (p : Pg) (b : Nat) : Pg := p.set (b / 8) ((p[b / 8]?).getD 0 ^^^ ((1 : UInt8) <<< UInt8.ofNat (b % 8)))
def rot (d : Dk) (i b : Int) : Dk := if d.rotok i b then { d with pages := d.pages.set i.toNat (flip (d.pg i.toNat) b.toNat) } else d
def pending (d : Dk) : List Nat := (List.range d.n).filter fun k => (d.pn k).isSome
end Dk

/-- an operation of a script -/
structure Op where
  kind : Int
  i : Int
  k : Int
  text : Pg
  picks : List Int
def Dk.doS (d : Dk) (x : Op) : Pg := if x.kind = 1 then d.readS x.i else []
def Dk.doE (d : Dk) (x : Op) : Int :=
  if x.kind = 1 then d.readE x.i else if x.kind = 2 then d.writeE x.i x.k x.text else if x.kind = 3 then d.flushE else if x.kind = 6 then d.rotE x.i x.k else 0
def Dk.play (d : Dk) (x : Op) : Dk :=
  if x.kind = 2 then d.write x.i x.k x.text else if x.kind = 3 then d.flush else if x.kind = 4 then d.doTrip x.i else if x.kind = 5 then d.mount x.picks else if x.kind = 6 then d.rot x.i x.k else d
def Dk.plays (d : Dk) (l : List Op) : Dk := l.foldl Dk.play d

namespace Dk
variable {d : Dk}
theorem n_step (d : Dk) : d.step.n = d.n := by
  unfold step n; split
  · rfl
  · split <;> rfl
theorem WF.step (h : d.WF) : d.step.WF := by
  unfold Dk.step
  split
  · exact ⟨h.len, h.page, h.pen, h.lo, h.hi⟩
  · split
    · exact ⟨h.len, h.page, h.pen, by have := h.lo; simp only; omega, by have := h.hi; simp only; omega⟩
    · exact h
theorem WF.pn_len (h : d.WF) {i : Nat} {p : Pg} (hp : d.pn i = some p) : p.length = 128 ∧ i < d.n := by
  unfold pn at hp
  cases hq : d.pend[i]? with
  | none => rw [hq] at hp; cases hp
  | some o =>
    rw [hq] at hp
    simp only [Option.getD_some] at hp
    subst hp
    exact ⟨h.pen _ _ hq, by have := (List.getElem?_eq_some_iff.1 hq).1; rw [h.len] at this; exact this⟩
theorem WF.pg_len (h : d.WF) {i : Nat} (hi : i < d.n) : (d.pg i).length = 128 ∧ d.pages[i]? = some (d.pg i) := by
  unfold n at hi
  have e : d.pages[i]? = some d.pages[i] := by simp [hi]
  unfold pg
  rw [e]
  exact ⟨h.page _ _ e, rfl⟩
theorem WF.now_len (h : d.WF) {i : Nat} (hi : i < d.n) : (d.now i).length = 128 := by
  unfold now
  cases hp : d.pn i with
  | none => exact (h.pg_len hi).1
  | some p => exact (h.pn_len hp).1
theorem WF.new (k : Nat) : (Dk.new k).WF where
  len := by simp [Dk.new]
  page i p hp := by
    simp only [Dk.new, List.getElem?_replicate] at hp
    split at hp
    · cases hp; simp [zero]
    · cases hp
  pen i p hp := by
    simp only [Dk.new, List.getElem?_replicate] at hp
    split at hp <;> cases hp
  lo := by simp [Dk.new]
  hi := by simp [Dk.new]
theorem putAt_len {old s : Pg} {k : Nat} (h : k + s.length ≤ old.length) : (putAt old k s).length = old.length := by
  simp only [putAt, List.length_append, List.length_take, List.length_drop]; omega
theorem WF.setPend (h : d.WF) {i : Nat} {p : Pg} (hp : p.length = 128) : (d.setPend i p).WF where
  len := by simp only [Dk.setPend, List.length_set]; exact h.len
  page := h.page
  pen j q hq := by
    simp only [Dk.setPend, List.getElem?_set] at hq
    split at hq
    · split at hq
      · cases hq; exact hp
      · cases hq
    · exact h.pen j q hq
  lo := h.lo
  hi := h.hi
theorem is_iff {i : Int} : d.is i = true ↔ 0 ≤ i ∧ i < d.n := by simp [is]
theorem wok_iff {i k : Int} {s : Pg} : d.wok i k s = true ↔ (0 ≤ i ∧ i < d.n) ∧ 0 ≤ k ∧ k ≤ 128 ∧ (s.length : Int) ≤ 128 - k := by simp [wok, is, and_assoc]
theorem rotok_iff {i b : Int} : d.rotok i b = true ↔ (0 ≤ i ∧ i < d.n) ∧ 0 ≤ b ∧ b < 1024 := by simp [rotok, is, and_assoc]
theorem WF.write (h : d.WF) (i k : Int) (s : Pg) : (d.write i k s).WF := by
  unfold Dk.write
  split
  · exact h
  · split
    · rename_i hw
      obtain ⟨⟨h1, h2⟩, h3, h4, h5⟩ := wok_iff.1 hw
      split
      · exact h.step
      · refine h.step.setPend ?_
        have hn := h.now_len (i := i.toNat) (by omega)
        rw [putAt_len (by omega), hn]
    · exact h
theorem noPend_get (d : Dk) (i : Nat) (o : Option Pg) (h : d.noPend[i]? = some o) : o = none := by
  simp only [noPend, List.getElem?_replicate] at h
  split at h <;> cases h; rfl
theorem WF.settled (h : d.WF) : d.settled.WF where
  len := by simp [Dk.settled, noPend]
  page i p hp := by
    simp only [Dk.settled, List.getElem?_map, Option.map_eq_some_iff] at hp
    obtain ⟨j, hj, rfl⟩ := hp
    have := (List.getElem?_eq_some_iff.1 hj)
    obtain ⟨h1, h2⟩ := this
    simp at h1 h2
    subst h2
    exact h.now_len h1
  pen i p hp := by cases noPend_get d i _ hp
  lo := h.lo
  hi := h.hi
theorem WF.flush (h : d.WF) : d.flush.WF := by
  unfold Dk.flush
  split
  · exact h
  · split
    · exact h.step
    · exact h.step.settled
theorem WF.doTrip (h : d.WF) {k : Int} (hk : k ≤ 9223372036854775807) : (d.doTrip k).WF :=
  ⟨h.len, h.page, h.pen, by simp only [Dk.doTrip]; omega, by simp only [Dk.doTrip]; omega⟩
theorem pick_le (picks : List Int) (k : Nat) : pick picks k ≤ 128 := by
  unfold pick
  cases picks[k]? with
  | none => exact Nat.le_refl _
  | some x => simp only [Option.map_some, Option.getD_some, clamp]; omega
theorem WF.torn_len (h : d.WF) (picks : List Int) {i : Nat} (hi : i < d.n) : (d.torn picks i).length = 128 := by
  unfold torn
  have h1 := (h.pg_len hi).1
  cases hp : d.pn i with
  | none => exact h1
  | some p =>
    have h2 := (h.pn_len hp).1
    have h3 := pick_le picks (d.rank i)
    simp only [List.length_append, List.length_take, List.length_drop]; omega
theorem WF.mount (h : d.WF) (picks : List Int) : (d.mount picks).WF where
  len := by simp [Dk.mount, noPend]
  page i p hp := by
    simp only [Dk.mount, List.getElem?_map, Option.map_eq_some_iff] at hp
    obtain ⟨j, hj, rfl⟩ := hp
    obtain ⟨h1, h2⟩ := List.getElem?_eq_some_iff.1 hj
    simp at h1 h2
    subst h2
    exact h.torn_len picks h1
  pen i p hp := by cases noPend_get d i _ hp
  lo := by simp [Dk.mount]
  hi := by simp [Dk.mount]
theorem flip_len (p : Pg) (b : Nat) : (flip p b).length = p.length := by simp [flip]
theorem WF.rot (h : d.WF) (i b : Int) : (d.rot i b).WF := by
  unfold Dk.rot
  split
  · rename_i hr
    obtain ⟨⟨h1, h2⟩, _⟩ := rotok_iff.1 hr
    refine ⟨by simpa using h.len, fun j p hp => ?_, h.pen, h.lo, h.hi⟩
    simp only [List.getElem?_set] at hp
    split at hp
    · split at hp
      · cases hp; rw [flip_len]; exact (h.pg_len (by omega)).1
      · cases hp
    · exact h.page j p hp
  · exact h
theorem n_write (i k : Int) (s : Pg) : (d.write i k s).n = d.n := by
  unfold Dk.write; repeat' split
  all_goals first | rfl | exact n_step d
theorem n_flush : d.flush.n = d.n := by
  unfold Dk.flush; repeat' split
  · rfl
  · exact n_step d
  · show ((List.range d.step.n).map _).length = _; simp [n_step]
theorem n_mount (picks : List Int) : (d.mount picks).n = d.n := by show ((List.range d.n).map _).length = _; simp
theorem n_rot (i b : Int) : (d.rot i b).n = d.n := by
  unfold Dk.rot; split
  · show (List.set _ _ _).length = _
    simp; rfl
  · rfl
theorem WF.play (h : d.WF) (x : Op) (hx : x.i ≤ 9223372036854775807) : (d.play x).WF := by
  unfold Dk.play; repeat' split
  · exact h.write _ _ _
  · exact h.flush
  · exact h.doTrip hx
  · exact h.mount _
  · exact h.rot _ _
  · exact h
theorem n_play (x : Op) : (d.play x).n = d.n := by
  unfold Dk.play; repeat' split
  · exact n_write _ _ _
  · exact n_flush
  · rfl
  · exact n_mount _
  · exact n_rot _ _
  · rfl
end Dk
end Go.Proofs.Ytohijdopmokkgaa
