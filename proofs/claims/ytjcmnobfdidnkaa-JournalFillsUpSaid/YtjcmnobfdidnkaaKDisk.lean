/- The program's disk and the specification's disk in memory. -/
import Derived.Test.YtjcmnobfdidnkaaProg
import Derived.Test.YtjcmnobfdidnkaaKPMap
import Derived.Test.YtjcmnobfdidnkaaKD0
set_option linter.unusedVariables false
set_option linter.unusedSimpArgs false
set_option linter.unusedSectionVars false
namespace Go.Proofs.Ytjcmnobfdidnkaa
open Go.RowKit
def EPg (c : List Value) (p : Pg) : Prop := c = pgCells p
def strV (p : Pg) : Value := .string ⟨p.toArray⟩
theorem ePg_one : ∀ c x, EPg c x → ∀ u ∈ c, u.oneCell' = true := by rintro c x rfl; exact pgCells_one x
theorem pgCells_inj {p q : Pg} (h : pgCells p = pgCells q) : p = q := by
  have := bytesOf_mk p
  rw [h, bytesOf_mk] at this
  exact (Option.some.inj this).symm
/-- the blocks of a program's disk -/
def InD (D G B : Nat) : Nat → Prop := fun k => k = D ∨ k = G ∨ k = B
/-- what a disk holds besides its struct: its pages in block G, its map in block B -/
structure PC (w : World) (G B cap : Nat) (d : Dk) : Prop where
  own : OwnS w (some G) 97 128 EPg (.slice (some ⟨G, 0, none⟩) d.n cap) d.pages
  map : PMap Try.prog 3 w B d.n d.pn
  wf : d.WF
  lo : 0 < d.n
  hi : d.n ≤ 4096
  ne : G ≠ B
/-- the program's disk d: its struct in block D -/
def PD (w : World) (D G B : Nat) (d : Dk) : Prop :=
  ∃ cap, w.heap[D]? = some (.cells #[.slice (some ⟨G, 0, none⟩) d.n cap, .map (some B), .bool d.off, .int .i64 d.trip] 75 (0, 0)) ∧ PC w G B cap d ∧ D ≠ G ∧ D ≠ B
theorem tyPages : SlTy Try.prog 72 97 128 128 := SlTy.of (pgV Dk.zero) (by kernel_rfl) (by kernel_rfl) (by kernel_rfl) (by omega)
theorem tyStrs : SlTy Try.prog 42 9 1 16 := SlTy.of (.string ByteArray.empty) (by kernel_rfl) (by kernel_rfl) rfl (by omega)
theorem tyInts : SlTy Try.prog 60 3 1 8 := SlTy.of (.int .i64 0) (by kernel_rfl) (by kernel_rfl) rfl (by omega)
section
variable {w w' : World} {D G B R Q cap : Nat} {d : Dk}
theorem keptD {M : Nat → Prop} {w0 : World} (hM : M D) (c : Array Value) (t : TypeId) : Kept M w0 (putB w0 D c t) := (Kept.refl M w0).putM hM c t
theorem PC.kept {M : Nat → Prop} (h : PC w G B cap d) (k : Kept M w w') (hG : ¬ M G) (hB : ¬ M B) : PC w' G B cap d :=
  ⟨h.own.kept k (fun g hg => by cases hg; exact hG) (fun _ _ x => x), h.map.kept k hB, h.wf, h.lo, h.hi, h.ne⟩
theorem PC.lt (h : PC w G B cap d) : G < w.heap.size ∧ B < w.heap.size := ⟨h.own.lt G rfl, h.map.lt⟩
/-- the same pages, another state of the power -/
theorem PC.turn (h : PC w G B cap d) {d' : Dk} (hp : d'.pages = d.pages) (hq : d'.pend = d.pend) (hw : d'.WF) : PC w G B cap d' := by
  have hn : d'.n = d.n := by unfold Dk.n; rw [hp]
  have hpn : d'.pn = d.pn := by funext i; unfold Dk.pn; rw [hq]
  refine ⟨?_, ?_, hw, by rw [hn]; exact h.lo, by rw [hn]; exact h.hi, h.ne⟩
  · rw [hn, hp]; exact h.own
  · rw [hn, hpn]; exact h.map
theorem PD.kept {M : Nat → Prop} (h : PD w D G B d) (k : Kept M w w') (hD : ¬ M D) (hG : ¬ M G) (hB : ¬ M B) : PD w' D G B d := by
  obtain ⟨cap, h1, h2, h4⟩ := h
  exact ⟨cap, k.blk h1 hD, h2.kept k hG hB, h4⟩
theorem PD.kept0 (h : PD w D G B d) (k : Kept NoM w w') : PD w' D G B d := h.kept k (fun x => x) (fun x => x) (fun x => x)
theorem PD.opn (h : PD w D G B d) : ∃ w0 cap, w = putB w0 D #[.slice (some ⟨G, 0, none⟩) d.n cap, .map (some B), .bool d.off, .int .i64 d.trip] 75 ∧ D < w0.heap.size ∧ PC w0 G B cap d ∧ D ≠ G ∧ D ≠ B ∧ Kept (fun k => k = D) w w0 := by
  obtain ⟨cap, h1, h2, h4⟩ := h
  exact ⟨w, cap, putB_self h1, lt_of_block h1, h2, h4.1, h4.2, Kept.refl _ _⟩
theorem PD.shut {w0 : World} (hD : D < w0.heap.size) (h : PC w0 G B cap d) (h1 : D ≠ G) (h2 : D ≠ B) : PD (putB w0 D #[.slice (some ⟨G, 0, none⟩) d.n cap, .map (some B), .bool d.off, .int .i64 d.trip] 75) D G B d :=
  ⟨cap, putB_blk _ _ _ _ hD, h.kept (keptD (M := fun k => k = D) rfl _ _) (fun e => h1 e.symm) (fun e => h2 e.symm), h1, h2⟩
theorem PD.lt (h : PD w D G B d) : D < w.heap.size ∧ G < w.heap.size ∧ B < w.heap.size := by
  obtain ⟨cap, h1, h2, _⟩ := h
  exact ⟨lt_of_block h1, h2.lt⟩
theorem PD.wf (h : PD w D G B d) : d.WF := by obtain ⟨_, _, h, _⟩ := h; exact h.wf
theorem PD.n_hi (h : PD w D G B d) : 0 < d.n ∧ d.n ≤ 4096 := by obtain ⟨_, _, h, _⟩ := h; exact ⟨h.lo, h.hi⟩
theorem pn_setPend (hw : d.WF) {i : Nat} (hi : i < d.n) (p : Pg) (j : Nat) : (d.setPend i p).pn j = if j = i then some p else d.pn j := by
  unfold Dk.pn Dk.setPend
  show ((d.pend.set i (some p))[j]?).getD none = _
  by_cases h : j = i
  · subst h
    rw [if_pos rfl, List.getElem?_set_self (by rw [hw.len]; exact hi)]; rfl
  · rw [if_neg h, List.getElem?_set_ne (Ne.symm h)]
/-- a pending content is put into the map -/
theorem PC.put (h : PC w G B cap d) {i : Nat} {p : Pg} (hi : i < d.n) (hp : p.length = 128) (hm : PMap Try.prog 3 w' B d.n (fun j => if j = i then some p else d.pn j)) (k : Kept (fun b => b = B) w w') : PC w' G B cap (d.setPend i p) := by
  refine ⟨h.own.kept k (fun g hg => by cases hg; exact h.ne) (fun _ _ x => x), ?_, h.wf.setPend hp, h.lo, h.hi, h.ne⟩
  have e : (d.setPend i p).pn = fun j => if j = i then some p else d.pn j := by funext j; exact pn_setPend h.wf hi p j
  rw [e]
  exact hm
theorem PD.put (h : PD w D G B d) {i : Nat} {p : Pg} (hi : i < d.n) (hp : p.length = 128) (hm : PMap Try.prog 3 w' B d.n (fun j => if j = i then some p else d.pn j)) (k : Kept (fun b => b = B) w w') : PD w' D G B (d.setPend i p) := by
  obtain ⟨cap, h1, h2, h3, h4⟩ := h
  exact ⟨cap, k.blk h1 h4, h2.put hi hp hm k, h3, h4⟩
theorem PD.ne (h : PD w D G B d) : D ≠ G ∧ D ≠ B ∧ G ≠ B := by obtain ⟨_, _, h, h1, h2⟩ := h; exact ⟨h1, h2, h.ne⟩
theorem PD.pmap (h : PD w D G B d) : PMap Try.prog 3 w B d.n d.pn := by obtain ⟨_, _, h, _⟩ := h; exact h.map
theorem PD.cells (h : PD w D G B d) : ∃ cap, w.cell? ⟨D, 0, none⟩ = some (.slice (some ⟨G, 0, none⟩) d.n cap) ∧ w.cell? ⟨D, 1, none⟩ = some (.map (some B)) ∧ w.cell? ⟨D, 2, none⟩ = some (.bool d.off) ∧ w.cell? ⟨D, 3, none⟩ = some (.int .i64 d.trip) := by
  obtain ⟨cap, h, _⟩ := h
  exact ⟨cap, cell_blk h 0 _ rfl, cell_blk h 1 _ rfl, cell_blk h 2 _ rfl, cell_blk h 3 _ rfl⟩
end
end Go.Proofs.Ytjcmnobfdidnkaa
