/- What JournalSurvives' walk shares: a disk from which permitted records are read, whenever the power failed. -/
import Derived.Test.YtjcmnobfdidnkaaKL5
set_option linter.unusedVariables false
set_option linter.unusedSimpArgs false
set_option linter.unusedSectionVars false
namespace Go.Proofs.Ytjcmnobfdidnkaa
open Go.RowKit
set_option maxHeartbeats 2000000
set_option maxRecDepth 4000
theorem rappE_nd (sz : Nat) (L : List Pg) (x : Pg) : rappE sz L x ≠ 13 := by unfold rappE; split; decide; split <;> decide
theorem rrepE_nd (sz : Nat) (l : List Pg) : rrepE sz l ≠ 13 := by unfold rrepE; split; decide; split <;> decide
theorem rdoE_nd (sz : Nat) (L : List Pg) (o : Jo) : rdoE sz L o ≠ 13 := by
  unfold rdoE
  split
  · exact rappE_nd _ _ _
  · split
    · exact rrepE_nd _ _
    · decide
theorem few_one (o : Jo) : fewJ [o] = fewJo o := by unfold fewJ; simp
theorem rdOneJ {w : World} {b : Nat} {o : Jo} (hb : w.heap[b]? = some (.cells (joC o) 38 (0, 0))) : RdS w NoM 4 EJo (.slice (some ⟨b, 0, none⟩) 1 1) [o] := by
  refine ⟨_, 1, rfl, Nat.le_refl _, by decide, .inr ⟨b, 0, rfl, fun i y hy => ⟨fun x => x, ?_⟩⟩⟩
  match i with
  | 0 =>
    cases hy
    refine ⟨(joC o).toList, rfl, rfl, fun j u hu => ?_⟩
    simp only [Nat.zero_mul, Nat.zero_add]
    exact cell_blk hb j u (by rw [← hu]; simp)
  | i + 1 => simp at hy
theorem rdoL_len (sz : Nat) (L : List Pg) (o : Jo) (hf : fewJo o = true) (hL : L.length ≤ 300000) : (rdoL sz L o).length ≤ 300001 := by
  have hb := few_bounds hf
  unfold rdoL rappL rrepL
  split
  · split
    · simp; omega
    · omega
  · split
    · split <;> omega
    · omega
/-- the disk holds permitted records, now; `FQ`: the power may fail later -/
def FQ (w : World) (D G B n : Nat) (P : List Pg → Prop) : Prop := ∃ d L K, FD w D G B d L K ∧ d.n = n ∧ P L ∧ K ≤ 100
def FP (w : World) (D G B n : Nat) (P : List Pg → Prop) : Prop := ∃ d L K, FD w D G B d L K ∧ d.n = n ∧ d.trip = -1 ∧ P L ∧ K ≤ 100
/-- .. and it does so when it is mounted again -/
def FM (w : World) (D G B n : Nat) (P : List Pg → Prop) : Prop := ∃ d, PD w D G B d ∧ d.n = n ∧ ∀ picks, ∃ h L K, h.Fits ∧ Fit (d.mount picks) h L K ∧ P L ∧ K ≤ 100
section
variable {w w' : World} {D G B n : Nat} {P : List Pg → Prop}
theorem FQ.kept0 (f : FQ w D G B n P) (k : Kept NoM w w') : FQ w' D G B n P := by
  obtain ⟨d, L, K, ⟨p, h⟩, q⟩ := f
  exact ⟨d, L, K, ⟨p.kept0 k, h⟩, q⟩
theorem FP.kept0 (f : FP w D G B n P) (k : Kept NoM w w') : FP w' D G B n P := by
  obtain ⟨d, L, K, ⟨p, h⟩, q⟩ := f
  exact ⟨d, L, K, ⟨p.kept0 k, h⟩, q⟩
theorem FM.kept0 (f : FM w D G B n P) (k : Kept NoM w w') : FM w' D G B n P := by
  obtain ⟨d, p, q⟩ := f
  exact ⟨d, p.kept0 k, q⟩
theorem FM.beside (f : FM w D G B n P) {R : Nat} (hR : ¬ InD D G B R) (k : Kept (fun i => i = R) w w') : FM w' D G B n P := by
  obtain ⟨d, p, q⟩ := f
  exact ⟨d, p.kept k (fun x => hR (.inl x.symm)) (fun x => hR (.inr (.inl x.symm))) (fun x => hR (.inr (.inr x.symm))), q⟩
theorem fp_trip (f : FP w D G B n P) (k : Int) (hk : k ≤ 9223372036854775807) : Calls Try.prog 27 #[.pointer (some ⟨D, 0, none⟩), .int .i64 k] w fun e w' => e = .returned (.tuple #[]) ∧ FQ w' D G B n P ∧ Kept (InD D G B) w w' := by
  obtain ⟨d, L, K, ⟨p, h, hf, s⟩, hn, _, hP, hK⟩ := f
  refine (trip_ok k hk w p).mono ?_
  rintro e w' ⟨rfl, q, k1⟩
  exact ⟨rfl, ⟨d.doTrip k, L, K, ⟨q, h, hf, s.trip hk⟩, hn, hP, hK⟩, k1⟩
theorem fq_open (f : FQ w D G B n P) : Calls Try.prog 11 #[.pointer (some ⟨D, 0, none⟩)] w fun e w' => ∃ v E, e = .returned (.tuple #[v, .int .i64 E]) ∧ (E = 0 ∨ E = 13) ∧ FM w' D G B n P ∧ Kept (InD D G B) w w' := by
  obtain ⟨d, L, K, ⟨p, h, hf, s⟩, hn, hP, hK⟩ := f
  obtain ⟨o1, o2, o3⟩ := s.open_ hf
  refine (open_ok s.f.n4 s.hds s.c.off w p).mono ?_
  rintro e w' (⟨r, rfl, q, k⟩ | ⟨r, J, l, rfl, _, q, _, k⟩)
  · rcases o3 with ⟨t, _⟩ | ⟨t1, t2, t3, t4, t5, t6⟩
    · exact absurd t r
    · exact ⟨_, _, rfl, .inr t1, ⟨_, q, t3.trans hn, fun picks => ⟨h, L, K, hf, t6 picks, hP, hK⟩⟩, k⟩
  · rcases o3 with ⟨t, b, t3, _⟩ | ⟨t, _⟩
    · exact ⟨_, _, rfl, .inl rfl, ⟨_, JS.p q, t3.trans hn, fun picks => ⟨h, L, K, hf, (b.mount picks).fit, hP, hK⟩⟩, k⟩
    · rw [r] at t; cases t
theorem fm_mount (f : FM w D G B n P) (picks : List Int) (a : Option Addr) (pc : Nat) (hpl : picks.length ≤ 1000) (hp : RdS w (InD D G B) 1 EInt (.slice a picks.length pc) picks) : Calls Try.prog 28 #[.pointer (some ⟨D, 0, none⟩), .slice a picks.length pc] w fun e w' => e = .returned (.tuple #[]) ∧ FP w' D G B n P ∧ Kept (InD D G B) w w' := by
  obtain ⟨d, p, hn, q⟩ := f
  obtain ⟨h, L, K, hf, s, hP, hK⟩ := q picks
  refine (mount_ok picks a pc hpl w p hp).mono ?_
  rintro e w' ⟨rfl, r, k⟩
  exact ⟨rfl, ⟨_, L, K, ⟨r, h, hf, s⟩, (Dk.n_mount picks).trans hn, rfl, hP, hK⟩, k⟩
theorem fp_lopen (f : FP w D G B n P) (h4 : n ≤ 4096) : Calls Try.prog 25 #[.pointer (some ⟨D, 0, none⟩)] w fun e w' => ∃ J L, e = .returned (.tuple #[.pointer (some ⟨J, 0, none⟩), .bool true]) ∧ P L ∧ GJ w' J D G B L n 100 ∧ w.heap.size ≤ J ∧ Kept (InD D G B) w w' := by
  obtain ⟨d, L, K, f, hn, ht, hP, hK⟩ := f
  refine (f.opn hn h4 ht).mono ?_
  rintro e w' ⟨J, rfl, g, hJ, k⟩
  exact ⟨J, L, rfl, hP, g.more hK, hJ, k⟩
/-- the last call: it succeeds or is refused, or the power fails -/
theorem last_do {J m : Nat} {j : Jn} {L : List Pg} (js : JM w J D G B j) (s : Norm j L 10) (hn : j.d.n = m) (o : Jo) (hf : fewJo o = true) (hu : HdsOk j.d ∧ j.d.off = false) : Calls Try.prog 13 #[.pointer (some ⟨D, 0, none⟩), .pointer (some ⟨J, 0, none⟩), .agg (joC o)] w fun e w' => ∃ v I E, e = .returned (.tuple #[v, .int .i64 I, .int .i64 E]) ∧
    ((E = rdoE (capN m) L o ∧ FM w' D G B m (fun L' => L' = rdoL (capN m) L o)) ∨ (E = 13 ∧ rdoE (capN m) L o = 0 ∧ FM w' D G B m (fun L' => L' = L ∨ L' = rdoL (capN m) L o))) ∧ Kept (InJ J D G B) w w' := by
  have hc : j.d.jcap = capN m := by unfold Dk.jcap Dk.jp capN; rw [hn]
  refine (do_ok j o hf (K := 10) (by omega) s.both.f (fun _ => hu) w js).mono ?_
  rintro e w' ⟨J', rfl, q1, _, q3⟩
  refine ⟨_, _, _, rfl, ?_, q3⟩
  rcases s.act (by omega) o with ⟨a1, a2, a3, a4, a5⟩ | ⟨a1, a2, a3, a4⟩
  · rw [hc] at a1 a3
    exact .inl ⟨a1, _, JS.p q1, a4.trans hn, fun picks => ⟨_, _, 11, a3.fits (by omega), by have := (a3.both.mount picks).fit; rw [a3.recs] at this; exact this, rfl, by omega⟩⟩
  · rw [hc] at a2 a3
    refine .inr ⟨a1, a2, _, JS.p q1, a3.n.trans hn, fun picks => ?_⟩
    rcases a3.fit picks with t | ⟨h', t1, t2⟩
    · exact ⟨_, _, 10, s.fits (by omega), t, .inl rfl, by omega⟩
    · exact ⟨_, _, 11, t1, t2, .inr rfl, by omega⟩
end
end Go.Proofs.Ytjcmnobfdidnkaa
