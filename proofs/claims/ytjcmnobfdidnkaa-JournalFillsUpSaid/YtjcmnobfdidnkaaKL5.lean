/- What the laws' walks share: the program's journal and the specification's beside it. -/
import Derived.Test.YtjcmnobfdidnkaaKL4
import Derived.Test.YtjcmnobfdidnkaaKRG
set_option linter.unusedVariables false
set_option linter.unusedSimpArgs false
set_option linter.unusedSectionVars false
namespace Go.Proofs.Ytjcmnobfdidnkaa
open Go.RowKit
set_option maxHeartbeats 2000000
set_option maxRecDepth 4000
/-- the program's journal holds L', the specification's L; both are newer than w -/
structure LM (w wr : World) (J D G B R : Nat) (L' L : List Pg) (n K : Nat) : Prop where
  g : GJ wr J D G B L' n K
  r : RS wr R (capN n) L (InJ J D G B)
  nr : ¬ InJ J D G B R
  old : ∀ i, InJ J D G B i → w.heap.size ≤ i
  oldR : w.heap.size ≤ R
  k : Kept NoM w wr
/-- a value that reads as a list of records -/
def RecsAt (L : List Pg) (v : Value) (wx : World) : Prop := ∃ a cap, v = .slice a L.length cap ∧ RdS wx NoM 1 EStr (.slice a L.length cap) L
theorem RecsAt.out {L : List Pg} {v : Value} {wx : World} (h : RecsAt L v wx) : ∃ a cap, v = .slice a L.length cap ∧ RdS wx NoM 1 EStr (.slice a L.length cap) L := h
theorem RecsAt.of {L : List Pg} {wx : World} {a : Option Addr} {cap : Nat} (h : RdS wx NoM 1 EStr (.slice a L.length cap) L) : RecsAt L (.slice a L.length cap) wx := ⟨a, cap, rfl, h⟩
theorem stab_recs (L : List Pg) : stab (fun v wx => RecsAt L v wx) := fun _ _ _ k h => by
  obtain ⟨a, cap, e, h⟩ := h
  exact ⟨a, cap, e, h.kept k (fun _ _ x => x)⟩
section
variable {w wr : World} {J D G B R n K : Nat} {L L' : List Pg}
theorem LM.kept0 {w' : World} (s : LM w wr J D G B R L' L n K) (k : Kept NoM wr w') : LM w w' J D G B R L' L n K := ⟨s.g.kept0 k, s.r.kept0 k, s.nr, s.old, s.oldR, s.k.trans k⟩
/-- a step of the program's journal -/
theorem LM.step {w' : World} {J2 : Nat} {L2 : List Pg} {K2 : Nat} (s : LM w wr J D G B R L' L n K) (g : GJ w' J2 D G B L2 n K2) (hJ : J2 = J ∨ wr.heap.size ≤ J2) (k : Kept (InJ J D G B) wr w') : LM w w' J2 D G B R L2 L n K2 := by
  have hlt := s.r.lt
  have hR2 : ¬ InJ J2 D G B R := fun x => s.nr (by
    rcases x with x | x
    · rcases hJ with h | h
      · exact .inl (by omega)
      · omega
    · exact .inr x)
  refine ⟨g, ?_, hR2, fun i x => ?_, s.oldR, s.k.trans' k (fun i hi x => absurd (s.old i x) (by omega))⟩
  · exact ((s.r.turn (X' := fun i => InJ J D G B i ∨ InJ J2 D G B i) (fun i hi x => by
      rcases x with x | x
      · exact x
      · rcases x with x | x
        · rcases hJ with h | h
          · exact .inl (by omega)
          · omega
        · exact .inr x)).beside (k.mono fun i _ x => .inl x) (fun x => by rcases x with x | x; exact s.nr x; exact hR2 x)).turn (fun i _ x => .inr x)
  · rcases x with x | x
    · rcases hJ with h | h
      · exact s.old i (.inl (by omega))
      · have := s.k.size; omega
    · exact s.old i (.inr x)
/-- a step of the specification -/
theorem LM.rstep {w' : World} {L2 : List Pg} (s : LM w wr J D G B R L' L n K) (r : RS w' R (capN n) L2 (InJ J D G B)) (k : Kept (fun i => i = R) wr w') : LM w w' J D G B R L' L2 n K :=
  ⟨s.g.beside s.r s.nr k, r, s.nr, s.old, s.oldR, s.k.trans' k (fun i hi x => by rw [x] at hi; have := s.oldR; omega)⟩
theorem LM.do_ (s : LM w wr J D G B R L L n K) (hK : K ≤ 700000000000) (o : Jo) (hf : fewJo o = true) : Calls Try.prog 13 #[.pointer (some ⟨D, 0, none⟩), .pointer (some ⟨J, 0, none⟩), .agg (joC o)] wr fun e w' => ∃ J', e = .returned (.tuple #[.pointer (some ⟨J', 0, none⟩), .int .i64 (rdoI (capN n) L o), .int .i64 (rdoE (capN n) L o)]) ∧ LM w w' J' D G B R (rdoL (capN n) L o) L n (K + 1) := by
  refine (gdo s.g hK o hf).mono ?_
  rintro e w' ⟨J', rfl, q1, q2, q3⟩
  exact ⟨J', rfl, s.step q1 q2 q3⟩
theorem LM.rdo (s : LM w wr J D G B R L' L n K) (o : Jo) (hf : fewJo o = true) (hl : L.length ≤ 300000 ∧ (streamS L).length ≤ 300000) : Calls Try.prog 14 #[.pointer (some ⟨R, 0, none⟩), .agg (joC o)] wr fun e w' => e = .returned (.tuple #[.int .i64 (rdoI (capN n) L o), .int .i64 (rdoE (capN n) L o)]) ∧ LM w w' J D G B R L' (rdoL (capN n) L o) n K := by
  have hg := s.g.lens
  refine (rdo_ok o hf R (capN n) L (by omega) (by omega) (by omega) wr s.g.lt s.r).mono ?_
  rintro e w' ⟨rfl, q1, q2⟩
  exact ⟨rfl, s.rstep q1 q2⟩
theorem LM.cells (s : LM w wr J D G B R L' L n K) : ∃ a cap, wr.cell? ⟨R, 0, none⟩ = some (.int .i64 (capN n)) ∧ wr.cell? ⟨R, 1, none⟩ = some (.slice a L.length cap) ∧ RdS wr NoM 1 EStr (.slice a L.length cap) L := by
  obtain ⟨a, cap, h1, h2⟩ := s.r.ex
  exact ⟨a, cap, cell_blk h1 0 _ rfl, cell_blk h1 1 _ rfl, h2.away (by omega) (fun _ _ x => x.elim)⟩
end
end Go.Proofs.Ytjcmnobfdidnkaa
