/- Texts that belong together: V0, V1. -/
import Derived.WalkKit
set_option linter.unusedVariables false
set_option linter.unusedSimpArgs false
set_option linter.unusedSectionVars false
/- Chapter 42's devices in plain words: tables, writes, what a device does. No program. -/
namespace Go.Proofs.Ytghgegghlefclaa
open Go.RowKit
structure Ru where
  pri : Int
  msk : Nat → Int
  bts : Nat → Int
  step : Int
  oa : Option Addr
  on : Nat
  oc : Nat
structure Wr where
  ep : Int
  seq : Int
  kind : Int
  rule : Ru
structure Ak where
  ep : Int
  seq : Int
  e : Int
deriving DecidableEq
structure Dev where
  room : Int
  ep : Int
  table : List Ru
  queue : List Wr
  done : List Int
  lost : List Int
  early : Bool
/-! ### Tables -/
/-- strictly decreasing priorities -/
def DecT : List Ru → Prop
  | [] => True
  | x :: t => (∀ y ∈ t, y.pri < x.pri) ∧ DecT t
def insT (r : Ru) : List Ru → List Ru
  | [] => [r]
  | x :: t => if x.pri < r.pri then r :: x :: t else if x.pri = r.pri then r :: t else x :: insT r t
def remT (p : Int) (t : List Ru) : List Ru := t.filter fun x => decide (x.pri ≠ p)
/-- a write put on a table with room enough -/
def putU (t : List Ru) (w : Wr) : List Ru := if w.kind = 3 then t else if w.kind = 2 then remT w.rule.pri t else insT w.rule t
def putOk (t : List Ru) (room : Int) (w : Wr) : Bool := decide (w.kind = 3) || decide (((putU t w).length : Int) ≤ room)
def putT (t : List Ru) (room : Int) (w : Wr) : List Ru := if putOk t room w = true then putU t w else t
theorem mem_insT {r x : Ru} {t : List Ru} (h : DecT t) : x ∈ insT r t ↔ x = r ∨ (x ∈ t ∧ x.pri ≠ r.pri) := by
  induction t with
  | nil => simp [insT]
  | cons y t ih =>
    obtain ⟨h1, h2⟩ := h
    unfold insT
    by_cases c1 : y.pri < r.pri
    · rw [if_pos c1]
      simp only [List.mem_cons]
      constructor
      · rintro (rfl | rfl | hx)
        · exact .inl rfl
        · exact .inr ⟨.inl rfl, by omega⟩
        · exact .inr ⟨.inr hx, by have := h1 x hx; omega⟩
      · rintro (rfl | ⟨hx, _⟩)
        · exact .inl rfl
        · exact .inr hx
    · rw [if_neg c1]
      by_cases c2 : y.pri = r.pri
      · rw [if_pos c2]
        simp only [List.mem_cons]
        constructor
        · rintro (rfl | hx)
          · exact .inl rfl
          · exact .inr ⟨.inr hx, by have := h1 x hx; omega⟩
        · rintro (rfl | ⟨rfl | hx, hne⟩)
          · exact .inl rfl
          · exact absurd c2 hne
          · exact .inr hx
      · rw [if_neg c2]
        simp only [List.mem_cons, ih h2]
        constructor
        · rintro (rfl | rfl | ⟨hx, hne⟩)
          · exact .inr ⟨.inl rfl, c2⟩
          · exact .inl rfl
          · exact .inr ⟨.inr hx, hne⟩
        · rintro (rfl | ⟨rfl | hx, hne⟩)
          · exact .inr (.inl rfl)
          · exact .inl rfl
          · exact .inr (.inr ⟨hx, hne⟩)
theorem DecT.insT {r : Ru} {t : List Ru} (h : DecT t) : DecT (Proofs.Ytghgegghlefclaa.insT r t) := by
  induction t with
  | nil => exact ⟨fun y hy => by simp at hy, trivial⟩
  | cons y t ih =>
    obtain ⟨h1, h2⟩ := h
    unfold Proofs.Ytghgegghlefclaa.insT
    by_cases c1 : y.pri < r.pri
    · rw [if_pos c1]
      refine ⟨fun z hz => ?_, h1, h2⟩
      rcases List.mem_cons.1 hz with rfl | hz
      · exact c1
      · have := h1 z hz; omega
    · rw [if_neg c1]
      by_cases c2 : y.pri = r.pri
      · rw [if_pos c2]
        exact ⟨fun z hz => by have := h1 z hz; omega, h2⟩
      · rw [if_neg c2]
        refine ⟨fun z hz => ?_, ih h2⟩
        rcases (mem_insT h2).1 hz with rfl | ⟨hz, _⟩
        · omega
        · exact h1 z hz
theorem mem_remT {p : Int} {x : Ru} {t : List Ru} : x ∈ remT p t ↔ x ∈ t ∧ x.pri ≠ p := by
  unfold remT; rw [List.mem_filter]; simp
theorem DecT.remT {p : Int} {t : List Ru} (h : DecT t) : DecT (Proofs.Ytghgegghlefclaa.remT p t) := by
  induction t with
  | nil => trivial
  | cons y t ih =>
    obtain ⟨h1, h2⟩ := h
    unfold Proofs.Ytghgegghlefclaa.remT
    rw [List.filter_cons]
    split
    · exact ⟨fun z hz => h1 z (mem_remT.1 hz).1, ih h2⟩
    · exact ih h2
theorem DecT.putU {t : List Ru} (h : DecT t) (w : Wr) : DecT (Proofs.Ytghgegghlefclaa.putU t w) := by
  unfold Proofs.Ytghgegghlefclaa.putU
  split
  · exact h
  · split
    · exact h.remT
    · exact h.insT
theorem DecT.putT {t : List Ru} (h : DecT t) (room : Int) (w : Wr) : DecT (Proofs.Ytghgegghlefclaa.putT t room w) := by
  unfold Proofs.Ytghgegghlefclaa.putT
  split
  · exact h.putU w
  · exact h
/-- decreasing tables with the same rules are one -/
theorem DecT.ext {t u : List Ru} (ht : DecT t) (hu : DecT u) (h : ∀ x, x ∈ t ↔ x ∈ u) : t = u := by
  induction t generalizing u with
  | nil =>
    cases u with
    | nil => rfl
    | cons y u => exact absurd ((h y).2 List.mem_cons_self) (by simp)
  | cons x t ih =>
    obtain ⟨h1, h2⟩ := ht
    cases u with
    | nil => exact absurd ((h x).1 List.mem_cons_self) (by simp)
    | cons y u =>
      obtain ⟨g1, g2⟩ := hu
      have hxy : x = y := by
        rcases List.mem_cons.1 ((h x).1 List.mem_cons_self) with e | hx
        · exact e
        · rcases List.mem_cons.1 ((h y).2 List.mem_cons_self) with e | hy
          · exact e.symm
          · have := h1 y hy; have := g1 x hx; omega
      subst hxy
      congr 1
      refine ih h2 g2 fun z => ?_
      constructor
      · intro hz
        rcases List.mem_cons.1 ((h z).1 (List.mem_cons_of_mem _ hz)) with e | hz'
        · have := h1 z hz; subst e; omega
        · exact hz'
      · intro hz
        rcases List.mem_cons.1 ((h z).2 (List.mem_cons_of_mem _ hz)) with e | hz'
        · have := g1 z hz; subst e; omega
        · exact hz'
theorem len_insT (r : Ru) (t : List Ru) : t.length ≤ (insT r t).length ∧ (insT r t).length ≤ t.length + 1 := by
  induction t with
  | nil => simp [insT]
  | cons y t ih =>
    unfold insT
    split
    · simp
    · split
      · simp
      · simp only [List.length_cons]; omega
theorem len_remT (p : Int) (t : List Ru) : (remT p t).length ≤ t.length := List.length_filter_le _ _
theorem len_putU (t : List Ru) (w : Wr) : (putU t w).length ≤ t.length + (if w.kind = 3 then 0 else if w.kind = 2 then 0 else 1) := by
  unfold putU
  split
  · simp
  · split
    · exact len_remT _ _
    · exact (len_insT _ _).2
theorem putT_le {t : List Ru} {room : Int} {w : Wr} (h : (t.length : Int) ≤ room) : ((putT t room w).length : Int) ≤ room := by
  unfold putT putOk
  split
  · rename_i hh
    simp only [Bool.or_eq_true, decide_eq_true_eq] at hh
    rcases hh with hh | hh
    · unfold putU; rw [if_pos hh]; exact h
    · exact hh
  · exact h
/-! ### Done numbers -/
/-- strictly increasing -/
def IncI : List Int → Prop
  | [] => True
  | x :: t => (∀ y ∈ t, x < y) ∧ IncI t
def insI (n : Int) : List Int → List Int
  | [] => [n]
  | x :: t => if n < x then n :: x :: t else x :: insI n t
theorem mem_insI {n x : Int} {t : List Int} : x ∈ insI n t ↔ x = n ∨ x ∈ t := by
  induction t with
  | nil => simp [insI]
  | cons y t ih =>
    unfold insI
    split
    · simp [List.mem_cons]
    · simp only [List.mem_cons, ih]
      constructor
      · rintro (h | h | h)
        · exact .inr (.inl h)
        · exact .inl h
        · exact .inr (.inr h)
      · rintro (h | h | h)
        · exact .inr (.inl h)
        · exact .inl h
        · exact .inr (.inr h)
theorem IncI.insI {n : Int} {t : List Int} (h : IncI t) (hn : n ∉ t) : IncI (Proofs.Ytghgegghlefclaa.insI n t) := by
  induction t with
  | nil => exact ⟨fun y hy => by simp at hy, trivial⟩
  | cons y t ih =>
    obtain ⟨h1, h2⟩ := h
    simp only [List.mem_cons, not_or] at hn
    unfold Proofs.Ytghgegghlefclaa.insI
    split
    · rename_i hlt
      refine ⟨fun z hz => ?_, h1, h2⟩
      rcases List.mem_cons.1 hz with rfl | hz
      · exact hlt
      · have := h1 z hz; omega
    · refine ⟨fun z hz => ?_, ih h2 hn.2⟩
      rcases mem_insI.1 hz with rfl | hz
      · omega
      · exact h1 z hz
theorem len_insI (n : Int) (t : List Int) : (insI n t).length = t.length + 1 := by
  induction t with
  | nil => rfl
  | cons y t ih =>
    unfold insI
    split
    · rfl
    · simp [ih]
/-! ### A device -/
def okN (n : Int) : Bool := decide (1 ≤ n) && decide (n ≤ 1073741824)
def okP (n : Int) : Bool := decide (1 ≤ n) && decide (n ≤ 65535)
def hasSeq (q : List Wr) (s : Int) : Bool := q.any fun w => decide (w.seq = s)
def hasI (l : List Int) (n : Int) : Bool := l.any fun x => decide (x = n)
theorem hasI_iff {l : List Int} {n : Int} : hasI l n = true ↔ n ∈ l := by
  unfold hasI
  simp
theorem hasSeq_iff {q : List Wr} {s : Int} : hasSeq q s = true ↔ ∃ w ∈ q, w.seq = s := by
  unfold hasSeq
  simp
def earlyW (d : Dev) (w : Wr) : Bool := d.early && decide (w.kind ≠ 3)
def fresh (d : Dev) (w : Wr) : Dev := if w.ep > d.ep then { d with ep := w.ep, queue := [], done := [], lost := [] } else d
/-- what Receive makes of a formed write -/
def recvD (d : Dev) (w : Wr) : Dev :=
  if w.ep < d.ep then d else
  if hasI (fresh d w).done w.seq = true then fresh d w else
  if hasSeq (fresh d w).queue w.seq = true then fresh d w else
  if 64 ≤ (fresh d w).queue.length then fresh d w else
  { fresh d w with queue := (fresh d w).queue ++ [w] }
def recvA (d : Dev) (w : Wr) : List Ak :=
  if w.ep < d.ep then [⟨w.ep, w.seq, 22⟩] else
  if hasI (fresh d w).done w.seq = true then [⟨w.ep, w.seq, 0⟩] else
  if hasSeq (fresh d w).queue w.seq = true then (if earlyW d w = true then [⟨w.ep, w.seq, 0⟩] else []) else
  if 64 ≤ (fresh d w).queue.length then [⟨w.ep, w.seq, 12⟩] else
  (if earlyW d w = true then [⟨w.ep, w.seq, 0⟩] else [])
/-- whether the write k can be done next -/
def rdyB (q : List Wr) (k : Nat) : Bool :=
  match q[k]? with
  | none => false
  | some w => if w.kind = 3 then decide (k = 0) else (q.take k).all fun x => decide (x.kind ≠ 3) && decide (x.rule.pri ≠ w.rule.pri)
def rdyL (q : List Wr) : List Nat := (List.range q.length).filter fun k => rdyB q k
def isPut (d : Dev) (w : Wr) : Bool := hasI d.lost w.seq || putOk d.table d.room w
def doneD (d : Dev) (w : Wr) : Dev :=
  { d with table := if hasI d.lost w.seq = true then d.table else putT d.table d.room w,
           done := if isPut d w = true then insI w.seq d.done else d.done }
def doW (d : Dev) (k : Nat) (w : Wr) : Dev := { doneD d w with queue := d.queue.eraseIdx k }
def doA (d : Dev) (w : Wr) : List Ak := if earlyW d w = true then [] else [⟨w.ep, w.seq, if isPut d w = true then 0 else 12⟩]
def rebD (d : Dev) (keep : Bool) : Dev := { d with queue := [], done := [], table := if keep then d.table else [] }
def belT (room : Int) (acks : List Ak) : List Ru → List Wr → List Ru
  | t, [] => t
  | t, w :: l => belT room acks (if acks.any (fun a => decide (a = ⟨w.ep, w.seq, 0⟩)) = true then putT t room w else t) l
end Go.Proofs.Ytghgegghlefclaa

/- Laws of devices in plain words: what is right stays right; the order does not matter; repeats. No program. -/
namespace Go.Proofs.Ytghgegghlefclaa
open Go.RowKit
def inW (x : Int) : Bool := decide (0 ≤ x) && decide (x ≤ 65535)
def subW (b m : Int) : Bool := decide (b.toNat &&& m.toNat = b.toNat)
def ten (p : Nat → Bool) : Bool := (List.range 10).all p
theorem ten_iff {p : Nat → Bool} : ten p = true ↔ ∀ i, i < 10 → p i = true := by unfold ten; simp [List.all_eq_true]
def rightB (r : Ru) : Bool := ten (fun i => inW (r.msk i)) && ten (fun i => inW (r.bts i)) && ten (fun i => subW (r.bts i) (r.msk i))
def zeroB (f : Nat → Int) : Bool := ten fun i => decide (f i = 0)
def bareB (r : Ru) : Bool := zeroB r.msk && zeroB r.bts && decide (r.step = 0) && decide (r.on = 0)
def formedB (w : Wr) : Bool :=
  okN w.ep && okN w.seq && (if w.kind = 1 then okP w.rule.pri && rightB w.rule else if w.kind = 2 then okP w.rule.pri && bareB w.rule else if w.kind = 3 then decide (w.rule.pri = 0) && bareB w.rule else false)
theorem formed_kind {w : Wr} (h : formedB w = true) : (w.kind = 1 ∨ w.kind = 2 ∨ w.kind = 3) ∧ (w.kind ≠ 3 → okP w.rule.pri = true) ∧ okN w.ep = true ∧ okN w.seq = true := by
  unfold formedB at h
  simp only [Bool.and_eq_true] at h
  obtain ⟨⟨h1, h2⟩, h3⟩ := h
  by_cases k1 : w.kind = 1
  · rw [if_pos k1, Bool.and_eq_true] at h3
    exact ⟨.inl k1, fun _ => h3.1, h1, h2⟩
  · rw [if_neg k1] at h3
    by_cases k2 : w.kind = 2
    · rw [if_pos k2, Bool.and_eq_true] at h3
      exact ⟨.inr (.inl k2), fun _ => h3.1, h1, h2⟩
    · rw [if_neg k2] at h3
      by_cases k3 : w.kind = 3
      · exact ⟨.inr (.inr k3), fun h => absurd k3 h, h1, h2⟩
      · rw [if_neg k3] at h3; cases h3
/-- a right table -/
structure RT (t : List Ru) (room : Int) : Prop where
  dec : DecT t
  pri : ∀ r ∈ t, okP r.pri = true
  len : (t.length : Int) ≤ room
/-- a right device -/
structure RD (d : Dev) : Prop where
  room : 0 ≤ d.room ∧ d.room ≤ 4000
  ep : 0 ≤ d.ep ∧ d.ep ≤ 1073741824
  tab : RT d.table d.room
  ql : d.queue.length ≤ 64
  done : IncI d.done ∧ ∀ n ∈ d.done, okN n = true
  lost : IncI d.lost ∧ ∀ n ∈ d.lost, okN n = true
  q : ∀ w ∈ d.queue, formedB w = true ∧ w.ep = d.ep ∧ w.seq ∉ d.done
  ne : d.queue.Pairwise fun a b => a.seq ≠ b.seq
theorem okN_iff {n : Int} : okN n = true ↔ 1 ≤ n ∧ n ≤ 1073741824 := by unfold okN; simp
theorem okP_iff {n : Int} : okP n = true ↔ 1 ≤ n ∧ n ≤ 65535 := by unfold okP; simp
theorem mem_putU {t : List Ru} (h : DecT t) {w : Wr} {x : Ru} : x ∈ putU t w ↔ if w.kind = 3 then x ∈ t else if w.kind = 2 then x ∈ t ∧ x.pri ≠ w.rule.pri else x = w.rule ∨ (x ∈ t ∧ x.pri ≠ w.rule.pri) := by
  unfold putU
  split
  · exact Iff.rfl
  · split
    · exact mem_remT
    · exact mem_insT h
theorem RT.putT {t : List Ru} {room : Int} (h : RT t room) {w : Wr} (hw : w.kind ≠ 3 → okP w.rule.pri = true) : RT (Proofs.Ytghgegghlefclaa.putT t room w) room := by
  refine ⟨h.dec.putT room w, fun r hr => ?_, putT_le h.len⟩
  unfold Proofs.Ytghgegghlefclaa.putT at hr
  split at hr
  · rw [mem_putU h.dec] at hr
    split at hr
    · exact h.pri r hr
    · rename_i h3
      split at hr
      · exact h.pri r hr.1
      · rcases hr with rfl | hr
        · exact hw h3
        · exact h.pri r hr.1
  · exact h.pri r hr
theorem fresh_same {d : Dev} {w : Wr} (h : ¬ w.ep > d.ep) : fresh d w = d := by unfold fresh; rw [if_neg h]
theorem fresh_ep {d : Dev} {w : Wr} (h : ¬ w.ep < d.ep) : (fresh d w).ep = w.ep := by
  unfold fresh; split
  · rfl
  · omega
theorem RD.fresh {d : Dev} {w : Wr} (h : RD d) (hw : formedB w = true) : RD (Proofs.Ytghgegghlefclaa.fresh d w) := by
  unfold Proofs.Ytghgegghlefclaa.fresh
  split
  · obtain ⟨_, _, h3, _⟩ := formed_kind hw
    rw [okN_iff] at h3
    exact ⟨h.room, ⟨by show 0 ≤ w.ep; omega, h3.2⟩, h.tab, Nat.zero_le _, ⟨trivial, fun n hn => by simp at hn⟩, ⟨trivial, fun n hn => by simp at hn⟩, fun x hx => by simp at hx, List.Pairwise.nil⟩
  · exact h
theorem RD.recv {d : Dev} {w : Wr} (h : RD d) (hw : formedB w = true) : RD (recvD d w) := by
  unfold recvD
  split
  · exact h
  rename_i hep
  have hf := h.fresh hw
  split
  · exact hf
  rename_i hd
  split
  · exact hf
  rename_i hs
  split
  · exact hf
  rename_i hl
  refine ⟨hf.room, hf.ep, hf.tab, ?_, hf.done, hf.lost, fun x hx => ?_, ?_⟩
  · show (_ ++ [w]).length ≤ 64
    rw [List.length_append]; simp only [List.length_singleton]; omega
  · rcases List.mem_append.1 hx with hx | hx
    · exact hf.q x hx
    · rw [List.mem_singleton] at hx
      subst hx
      exact ⟨hw, (fresh_ep hep).symm, fun hm => hd (hasI_iff.2 hm)⟩
  · show List.Pairwise _ (_ ++ [w])
    rw [List.pairwise_append]
    refine ⟨hf.ne, List.pairwise_singleton _ _, fun a ha b hb => ?_⟩
    rw [List.mem_singleton] at hb
    subst hb
    exact fun e => hs (hasSeq_iff.2 ⟨a, ha, e⟩)
theorem recv_ep {d : Dev} {w : Wr} : (recvD d w).ep = if d.ep < w.ep then w.ep else d.ep := by
  unfold recvD
  split
  · rw [if_neg (by omega)]
  rename_i h
  have := fresh_ep h
  have e : (if d.ep < w.ep then w.ep else d.ep) = w.ep := by split <;> omega
  rw [e]
  split
  · exact this
  · split
    · exact this
    · split
      · exact this
      · exact this
theorem recv_old {d : Dev} {w : Wr} (h : w.ep < d.ep) : recvD d w = d ∧ recvA d w = [⟨w.ep, w.seq, 22⟩] := by
  unfold recvD recvA; rw [if_pos h, if_pos h]; exact ⟨rfl, rfl⟩
theorem RD.reb {d : Dev} (h : RD d) (keep : Bool) : RD (rebD d keep) := by
  refine ⟨h.room, h.ep, ?_, Nat.zero_le _, ⟨trivial, fun n hn => by simp [rebD] at hn⟩, h.lost, fun x hx => by simp [rebD] at hx, List.Pairwise.nil⟩
  cases keep
  · exact ⟨trivial, fun r hr => by simp [rebD] at hr, by have := h.room; simp [rebD]; omega⟩
  · exact h.tab
theorem pairwise_at {q : List Wr} (h : q.Pairwise fun a b => a.seq ≠ b.seq) {k : Nat} {w : Wr} (hk : q[k]? = some w) : ∀ x ∈ q.eraseIdx k, x.seq ≠ w.seq := by
  induction q generalizing k with
  | nil => simp at hk
  | cons y q ih =>
    rw [List.pairwise_cons] at h
    cases k with
    | zero =>
      simp only [List.getElem?_cons_zero, Option.some.injEq] at hk
      subst hk
      simp only [List.eraseIdx_zero, List.tail_cons]
      exact fun x hx => (h.1 x hx).symm
    | succ k =>
      simp only [List.getElem?_cons_succ] at hk
      simp only [List.eraseIdx_cons_succ, List.mem_cons]
      rintro x (rfl | hx)
      · exact h.1 w (List.mem_of_getElem? hk)
      · exact ih h.2 hk x hx
theorem mem_erase {q : List Wr} {k : Nat} {x : Wr} (h : x ∈ q.eraseIdx k) : x ∈ q := List.mem_of_mem_eraseIdx h
theorem RD.doW {d : Dev} (h : RD d) {k : Nat} {w : Wr} (hk : d.queue[k]? = some w) : RD (Proofs.Ytghgegghlefclaa.doW d k w) := by
  obtain ⟨hw, hwe, hwd⟩ := h.q w (List.mem_of_getElem? hk)
  obtain ⟨h1, h2, h3, h4⟩ := formed_kind hw
  have hne := pairwise_at h.ne hk
  refine ⟨h.room, h.ep, ?_, ?_, ?_, h.lost, fun x hx => ?_, ?_⟩
  · show RT (if hasI d.lost w.seq = true then d.table else putT d.table d.room w) d.room
    split
    · exact h.tab
    · exact h.tab.putT h2
  · show (d.queue.eraseIdx k).length ≤ 64
    have := List.length_eraseIdx_le d.queue k
    have := h.ql
    omega
  · show IncI (if isPut d w = true then insI w.seq d.done else d.done) ∧ ∀ n ∈ (if isPut d w = true then insI w.seq d.done else d.done), okN n = true
    split
    · refine ⟨h.done.1.insI hwd, fun n hn => ?_⟩
      rcases mem_insI.1 hn with rfl | hn
      · exact h4
      · exact h.done.2 n hn
    · exact h.done
  · obtain ⟨g1, g2, g3⟩ := h.q x (mem_erase hx)
    refine ⟨g1, g2, ?_⟩
    show x.seq ∉ (if isPut d w = true then insI w.seq d.done else d.done)
    split
    · rw [mem_insI]
      rintro (e | e)
      · exact hne x hx e
      · exact g3 e
    · exact g3
  · exact h.ne.sublist (List.eraseIdx_sublist _ _)
theorem doW_len {d : Dev} {k : Nat} {w : Wr} (hk : d.queue[k]? = some w) : (doW d k w).queue.length + 1 = d.queue.length := by
  have := (List.getElem?_eq_some_iff.1 hk).1
  show (d.queue.eraseIdx k).length + 1 = _
  rw [List.length_eraseIdx, if_pos this]; omega
/-! ### The order of the writes -/
theorem putU_comm {t : List Ru} (h : DecT t) {a b : Wr} (hne : a.rule.pri ≠ b.rule.pri) : putU (putU t a) b = putU (putU t b) a := by
  refine DecT.ext ((h.putU a).putU b) ((h.putU b).putU a) fun x => ?_
  rw [mem_putU (h.putU a), mem_putU (h.putU b)]
  simp only [mem_putU h]
  by_cases a3 : a.kind = 3 <;> by_cases b3 : b.kind = 3 <;> by_cases a2 : a.kind = 2 <;> by_cases b2 : b.kind = 2 <;> simp only [a3, b3, a2, b2, if_true, if_false] <;>
    first
    | rfl
    | omega
    | (constructor <;> grind)
def putsU (t : List Ru) (q : List Wr) : List Ru := q.foldl putU t
theorem DecT.putsU {t : List Ru} (h : DecT t) (q : List Wr) : DecT (Proofs.Ytghgegghlefclaa.putsU t q) := by
  induction q generalizing t with
  | nil => exact h
  | cons w q ih => exact ih (h.putU w)
theorem ready_fold {q : List Wr} {k : Nat} {w : Wr} {t : List Ru} (h : DecT t) (hk : q[k]? = some w) (hr : rdyB q k = true) : putsU t q = putsU (putU t w) (q.eraseIdx k) := by
  induction q generalizing k t with
  | nil => simp at hk
  | cons x q ih =>
    cases k with
    | zero =>
      simp only [List.getElem?_cons_zero, Option.some.injEq] at hk
      subst hk
      rfl
    | succ k =>
      simp only [List.getElem?_cons_succ] at hk
      have hr' := hr
      unfold rdyB at hr
      simp only [List.getElem?_cons_succ, hk] at hr
      by_cases h3 : w.kind = 3
      · rw [if_pos h3] at hr; simp at hr
      · rw [if_neg h3] at hr
        simp only [List.take_succ_cons, List.all_cons, Bool.and_eq_true, decide_eq_true_eq] at hr
        obtain ⟨⟨x3, xp⟩, hr⟩ := hr
        have hq : rdyB q k = true := by
          unfold rdyB
          simp only [hk]
          rw [if_neg h3]
          exact hr
        show putsU (putU t x) q = putsU (putU (putU t w) x) (q.eraseIdx k)
        rw [ih (h.putU x) hk hq, putU_comm h xp]
theorem rdy_zero {q : List Wr} (h : 0 < q.length) : rdyB q 0 = true := by
  cases q with
  | nil => simp at h
  | cons x q => unfold rdyB; simp
theorem mem_rdyL {q : List Wr} {k : Nat} : k ∈ rdyL q ↔ k < q.length ∧ rdyB q k = true := by
  unfold rdyL; rw [List.mem_filter, List.mem_range]
theorem rdyL_ne {q : List Wr} (h : 0 < q.length) : 0 < (rdyL q).length := by
  have : 0 ∈ rdyL q := mem_rdyL.2 ⟨h, rdy_zero h⟩
  exact List.length_pos_of_mem this
theorem rdyL_le (q : List Wr) : (rdyL q).length ≤ q.length := by
  unfold rdyL
  exact Nat.le_trans (List.length_filter_le _ _) (by simp)
/-- the puts of a queue -/
def nP (q : List Wr) : Nat := (q.filter fun w => decide (w.kind = 1)).length
theorem nP_cons (w : Wr) (q : List Wr) : nP (w :: q) = (if w.kind = 1 then 1 else 0) + nP q := by
  unfold nP; rw [List.filter_cons]
  split
  · rename_i h; simp only [decide_eq_true_eq] at h; rw [if_pos h, List.length_cons]; omega
  · rename_i h; simp only [decide_eq_true_eq] at h; rw [if_neg h]; omega
theorem nP_erase {q : List Wr} {k : Nat} {w : Wr} (hk : q[k]? = some w) : nP q = (if w.kind = 1 then 1 else 0) + nP (q.eraseIdx k) := by
  induction q generalizing k with
  | nil => simp at hk
  | cons x q ih =>
    cases k with
    | zero =>
      simp only [List.getElem?_cons_zero, Option.some.injEq] at hk
      subst hk
      rw [nP_cons]; rfl
    | succ k =>
      simp only [List.getElem?_cons_succ] at hk
      rw [nP_cons, ih hk, List.eraseIdx_cons_succ, nP_cons]; omega
/-- there is room for a write -/
theorem put_room {t : List Ru} {room : Int} {w : Wr} (hw : w.kind = 1 ∨ w.kind = 2 ∨ w.kind = 3) {n : Nat} (h : (t.length : Int) + ((if w.kind = 1 then 1 else 0) + n : Nat) ≤ room) :
    putOk t room w = true ∧ putT t room w = putU t w ∧ ((putU t w).length : Int) + (n : Nat) ≤ room := by
  have hl := len_putU t w
  have h1 : ((putU t w).length : Int) + (n : Nat) ≤ room := by
    rcases hw with k | k | k <;> simp only [k] at hl h <;> simp at hl h <;> omega
  have h2 : putOk t room w = true := by
    unfold putOk
    rw [Bool.or_eq_true, decide_eq_true_eq, decide_eq_true_eq]
    right; omega
  refine ⟨h2, ?_, h1⟩
  unfold putT; rw [if_pos h2]
/-- the play of writes that have room, in the queue's order: what the law lays first -/
theorem want_step {t : List Ru} {room : Int} {w : Wr} {q : List Wr} (hw : w.kind = 1 ∨ w.kind = 2 ∨ w.kind = 3) (h : (t.length : Int) + (nP (w :: q) : Nat) ≤ room) :
    putOk t room w = true ∧ putT t room w = putU t w ∧ ((putU t w).length : Int) + (nP q : Nat) ≤ room := by
  rw [nP_cons] at h
  exact put_room hw h
/-- a device with room for all that wait, and that loses none -/
structure Roomy (d : Dev) : Prop where
  rd : RD d
  lost : d.lost = []
  room : (d.table.length : Int) + (nP d.queue : Nat) ≤ d.room
theorem Roomy.step {d : Dev} (h : Roomy d) {k : Nat} {w : Wr} (hk : d.queue[k]? = some w) :
    Roomy (doW d k w) ∧ isPut d w = true ∧ (doW d k w).table = putU d.table w ∧ (doW d k w).done = insI w.seq d.done := by
  obtain ⟨hw, _, _⟩ := h.rd.q w (List.mem_of_getElem? hk)
  obtain ⟨h1, _⟩ := formed_kind hw
  have hr := h.room
  rw [nP_erase hk] at hr
  obtain ⟨g1, g2, g3⟩ := put_room h1 hr
  have hl : hasI d.lost w.seq = false := by rw [h.lost]; rfl
  have hp : isPut d w = true := by unfold isPut; rw [hl, g1]; rfl
  have ht : (doW d k w).table = putU d.table w := by
    show (if hasI d.lost w.seq = true then d.table else putT d.table d.room w) = _
    rw [hl]; simpa using g2
  refine ⟨⟨h.rd.doW hk, h.lost, ?_⟩, hp, ht, ?_⟩
  · rw [ht]; exact g3
  · show (if isPut d w = true then insI w.seq d.done else d.done) = _
    rw [if_pos hp]
theorem Roomy.play {d : Dev} (h : Roomy d) {k : Nat} {w : Wr} (hk : d.queue[k]? = some w) (hr : rdyB d.queue k = true) :
    putsU (doW d k w).table (doW d k w).queue = putsU d.table d.queue ∧ (doW d k w).done.length = d.done.length + 1 ∧ (doW d k w).queue.length + 1 = d.queue.length := by
  obtain ⟨_, _, g2, g3⟩ := h.step hk
  refine ⟨?_, by rw [g3, len_insI], doW_len hk⟩
  rw [g2]
  exact (ready_fold h.rd.tab.dec hk hr).symm
/-! ### What is believed -/
theorem bel_all (room : Int) (acks : List Ak) (l : List Wr) (t : List Ru) (h : ∀ w ∈ l, (⟨w.ep, w.seq, 0⟩ : Ak) ∈ acks) : belT room acks t l = l.foldl (fun t w => putT t room w) t := by
  induction l generalizing t with
  | nil => rfl
  | cons w l ih =>
    unfold belT
    rw [if_pos]
    · exact ih _ fun x hx => h x (List.mem_cons_of_mem _ hx)
    · simpa using h w List.mem_cons_self
/-! ### Repeats -/
theorem putU_again {t : List Ru} (h : DecT t) (w : Wr) : putU (putU t w) w = putU t w := by
  refine DecT.ext ((h.putU w).putU w) (h.putU w) fun x => ?_
  rw [mem_putU (h.putU w)]
  simp only [mem_putU h]
  by_cases a3 : w.kind = 3 <;> by_cases a2 : w.kind = 2 <;> simp only [a3, a2, if_true, if_false] <;> first | rfl | omega | (constructor <;> grind)
theorem putT_again {t : List Ru} {room : Int} (h : DecT t) {w : Wr} (hp : putOk t room w = true) : putOk (putT t room w) room w = true ∧ putT (putT t room w) room w = putT t room w := by
  have e : putT t room w = putU t w := by unfold putT; rw [if_pos hp]
  rw [e]
  have h2 := putU_again h w
  have h1 : putOk (putU t w) room w = true := by
    unfold putOk at hp ⊢
    rw [h2]; exact hp
  refine ⟨h1, ?_⟩
  unfold putT; rw [if_pos h1, h2]
/-- a write of a new epoch: it alone waits -/
theorem recv_new {d : Dev} {w : Wr} (h : w.ep > d.ep) : recvD d w = { d with ep := w.ep, queue := [w], done := [], lost := [] } := by
  unfold recvD
  have hf : fresh d w = { d with ep := w.ep, queue := [], done := [], lost := [] } := by unfold fresh; rw [if_pos h]
  rw [if_neg (by omega), hf]
  rfl
theorem recv_twice {d : Dev} {w : Wr} (h : w.ep > d.ep) : recvD (recvD d w) w = recvD d w := by
  rw [recv_new h]
  unfold recvD
  rw [if_neg (by simp), fresh_same (by simp), if_neg (by simp [hasI]), if_pos (by simp [hasSeq])]
/-- after it was done -/
theorem rep_do {d : Dev} {w : Wr} (h : w.ep > d.ep) : doW (recvD d w) 0 w = { d with ep := w.ep, queue := [], done := if putOk d.table d.room w = true then [w.seq] else [], lost := [], table := putT d.table d.room w } := by
  rw [recv_new h]
  unfold doW doneD isPut
  simp [hasI, insI]
theorem rep_again {d c : Dev} {w : Wr} (h : w.ep > d.ep) (hc : c = doW (recvD d w) 0 w) (hd : 0 < c.done.length) : c.done = [w.seq] ∧ recvD c w = c ∧ recvA c w = [⟨w.ep, w.seq, 0⟩] ∧ putOk d.table d.room w = true := by
  rw [rep_do h] at hc
  cases hp : putOk d.table d.room w with
  | false => subst hc; simp [hp] at hd
  | true =>
    subst hc
    simp only [hp, if_true]
    refine ⟨trivial, ?_, ?_, trivial⟩
    · unfold recvD
      rw [if_neg (by simp), fresh_same (by simp), if_pos (by simp [hasI])]
    · unfold recvA
      rw [if_neg (by simp), fresh_same (by simp), if_pos (by simp [hasI])]
theorem rep_boot {d c : Dev} {w : Wr} (hdec : DecT d.table) (h : w.ep > d.ep) (hc : c = doW (recvD d w) 0 w) (hd : 0 < c.done.length) :
    (recvD (rebD c true) w).queue = [w] ∧ (doW (recvD (rebD c true) w) 0 w).table = c.table ∧ (doW (recvD (rebD c true) w) 0 w).done = c.done := by
  obtain ⟨h1, _, _, hp⟩ := rep_again h hc hd
  rw [rep_do h] at hc
  have ht : c.table = putT d.table d.room w := by subst hc; rfl
  have hl : c.lost = [] := by subst hc; rfl
  have he : c.ep = w.ep := by subst hc; rfl
  have hro : c.room = d.room := by subst hc; rfl
  obtain ⟨p1, p2⟩ := putT_again hdec hp
  rw [← ht, ← hro] at p1 p2
  clear hc
  have hy : recvD (rebD c true) w = { c with queue := [w], done := [] } := by
    unfold recvD
    have hf : fresh (rebD c true) w = rebD c true := fresh_same (by show ¬ w.ep > c.ep; omega)
    rw [if_neg (by show ¬ w.ep < c.ep; omega), hf]
    unfold rebD
    simp [hasI, hasSeq]
  refine ⟨by rw [hy], ?_, ?_⟩
  · rw [hy]
    unfold doW doneD
    simp only [hl]
    show (if hasI [] w.seq = true then c.table else putT c.table c.room w) = c.table
    rw [if_neg (by simp [hasI])]; exact p2
  · rw [hy, h1]
    unfold doW doneD isPut
    simp only [hl]
    show (if (hasI [] w.seq || putOk c.table c.room w) = true then insI w.seq [] else []) = _
    rw [p1]; simp [insI]
end Go.Proofs.Ytghgegghlefclaa
