/- What the laws' walks have in common. -/
import Derived.Test.YtohijdopmokkgaaKE8
set_option linter.unusedVariables false
set_option linter.unusedSimpArgs false
set_option linter.unusedSectionVars false
namespace Go.Proofs.Ytohijdopmokkgaa
open Go.RowKit
set_option maxHeartbeats 2000000
set_option maxRecDepth 4000
theorem fewB_all {l : List Op} (h : fewB l = true) : (∀ x ∈ l, x.text.length ≤ 1000 ∧ x.picks.length ≤ 1000) ∧ l.length ≤ 40 := by
  unfold fewB at h
  simp only [Bool.and_eq_true, List.all_eq_true, decide_eq_true_eq] at h
  refine ⟨fun x hx => ?_, h.2⟩
  have := h.1 x hx
  unfold fewOp at this
  simp only [Bool.and_eq_true, decide_eq_true_eq] at this
  omega
/-- the program's disk in new blocks -/
structure PK (w0 w : World) (D G B : Nat) (d : Dk) : Prop where
  p : PD w D G B d
  lp : w0.heap.size ≤ D ∧ w0.heap.size ≤ G ∧ w0.heap.size ≤ B
  k : Kept NoM w0 w
theorem PK.kept0 {w0 w w' : World} {D G B : Nat} {d : Dk} (h : PK w0 w D G B d) (k : Kept NoM w w') : PK w0 w' D G B d := ⟨h.p.kept0 k, h.lp, h.k.trans k⟩
theorem PK.step {w0 w w' : World} {D G B : Nat} {d d' : Dk} (h : PK w0 w D G B d) (hp : PD w' D G B d') (k : Kept (InD D G B) w w') : PK w0 w' D G B d' := by
  obtain ⟨_, ⟨l1, l2, l3⟩, k0⟩ := h
  exact ⟨hp, ⟨l1, l2, l3⟩, k0.trans' k fun i hi hm => by unfold InD at hm; omega⟩
theorem PK.picks {w0 w : World} {D G B : Nat} {d : Dk} (h : PK w0 w D G B d) {v : Value} {xs : List Int} (hp : RdS w0 NoM 1 EInt v xs) : RdS w (InD D G B) 1 EInt v xs := by
  obtain ⟨_, ⟨l1, l2, l3⟩, k⟩ := h
  exact RdS.step hp k (fun i hi hm => by unfold InD at hm; omega) (by omega) (fun _ _ x => x)
theorem Both.pk {w0 w : World} {D G B R Q : Nat} {d : Dk} (h : Both w0 w D G B R Q d) : PK w0 w D G B d := ⟨h.p, h.lp, h.k⟩
theorem PK.pre {w0 w1 w : World} {D G B : Nat} {d : Dk} (h : PK w1 w D G B d) (k : Kept NoM w0 w1) : PK w0 w D G B d := by
  have := k.size
  obtain ⟨p, ⟨l1, l2, l3⟩, k1⟩ := h
  exact ⟨p, ⟨by omega, by omega, by omega⟩, k.trans k1⟩
theorem Both.pre {w0 w1 w : World} {D G B R Q : Nat} {d : Dk} (h : Both w1 w D G B R Q d) (k : Kept NoM w0 w1) : Both w0 w D G B R Q d := by
  have := k.size
  obtain ⟨p, s, ⟨l1, l2, l3⟩, ⟨l4, l5⟩, sep, k1⟩ := h
  exact ⟨p, s, ⟨by omega, by omega, by omega⟩, ⟨by omega, by omega⟩, sep, k.trans k1⟩
/-- a list of one's own beside the disk -/
def Aside (w0 : World) (D G B : Nat) (O : Option Nat) : Prop := ∀ g, O = some g → ¬ InD D G B g ∧ w0.heap.size ≤ g
theorem Aside.none (w0 : World) (D G B : Nat) : Aside w0 D G B none := fun g hg => by cases hg
theorem PK.aside {w0 w : World} {D G B : Nat} {d : Dk} (h : PK w0 w D G B d) {O : Option Nat} (hn : NewO w none O) : Aside w0 D G B O := by
  intro g hg
  have hl := h.p.lt
  have hz := h.k.size
  rcases hn with rfl | ⟨g', rfl, hg'⟩
  · cases hg
  · cases hg; unfold InD; omega
theorem PK.push {w0 w w1 : World} {D G B : Nat} {d : Dk} (h : PK w0 w D G B d) {O O1 : Option Nat} (hO : Aside w0 D G B O) (k : Kept (fun k => some k = O) w w1) (hn : NewO w O O1) : PK w0 w1 D G B d ∧ Aside w0 D G B O1 := by
  have hl := h.p.lt
  have hz := h.k.size
  obtain ⟨hp, lp, k0⟩ := h
  refine ⟨⟨hp.kept k ?_ ?_ ?_, lp, k0.trans' k ?_⟩, ?_⟩
  · intro e; exact (hO D e.symm).1 (by unfold InD; omega)
  · intro e; exact (hO G e.symm).1 (by unfold InD; omega)
  · intro e; exact (hO B e.symm).1 (by unfold InD; omega)
  · intro i hi e; have := (hO i e.symm).2; omega
  · intro g hg
    rcases hn with rfl | ⟨g', rfl, hg'⟩
    · exact hO g hg
    · cases hg; unfold InD; omega
theorem OwnS.beside {α : Type} {w0 w w' : World} {D G B : Nat} {O : Option Nat} {e : TypeId} {sz : Nat} {E : List Value → α → Prop} {v : Value} {xs : List α} (h : OwnS w O e sz E v xs) (hO : Aside w0 D G B O) (k : Kept (InD D G B) w w') : OwnS w' O e sz E v xs := h.kept k (fun g hg => (hO g hg).1) (fun _ _ x => x)
section
variable {D G B : Nat} {d : Dk}
theorem pending0_ok (w : World) (h : PD w D G B d) (h0 : d.pending = []) : Calls Try.prog 25 #[.pointer (some ⟨D, 0, none⟩)] w fun e w' => ∃ a cap, e = .returned (.slice a 0 cap) ∧ Kept NoM w w' := by
  refine (pending_ok w h).mono ?_
  rintro e w' ⟨a, cap, O, rfl, _, _, k⟩
  exact ⟨a, cap, by rw [h0]; rfl, k⟩
theorem up1_ok (w : World) (h : PD w D G B d) (h0 : d.off = false) : Calls Try.prog 20 #[.pointer (some ⟨D, 0, none⟩)] w fun e w' => e = .returned (.bool true) ∧ w = w' := by
  have := up_ok w h
  rw [h0] at this; exact this
theorem up0_ok (w : World) (h : PD w D G B d) (h0 : d.off = true) : Calls Try.prog 20 #[.pointer (some ⟨D, 0, none⟩)] w fun e w' => e = .returned (.bool false) ∧ w = w' := by
  have := up_ok w h
  rw [h0] at this; exact this
theorem flush_e (w : World) (h : PD w D G B d) {E : Int} (h0 : d.flushE = E) : Calls Try.prog 19 #[.pointer (some ⟨D, 0, none⟩)] w fun e w' => e = .returned (.int .i64 E) ∧ PD w' D G B d.flush ∧ Kept (InD D G B) w w' := by
  have := flush_ok w h
  rw [h0] at this; exact this
theorem write_z (w : World) (h : PD w D G B d) {E : Int} (h0 : d.writeE 0 0 [122] = E) : Calls Try.prog 21 #[.pointer (some ⟨D, 0, none⟩), .int .i64 0, .int .i64 0, .string ⟨#[122]⟩] w fun e w' => e = .returned (.int .i64 E) ∧ PD w' D G B (d.write 0 0 [122]) ∧ Kept (InD D G B) w w' := by
  have := write_ok 0 0 [122] (by decide) w h
  rw [h0] at this; exact this
/-- Read, its answer as it is called -/
theorem read_e (i : Int) (w : World) (h : PD w D G B d) {s : Pg} {E : Int} (h1 : d.readS i = s) (h0 : d.readE i = E) : Calls Try.prog 18 #[.pointer (some ⟨D, 0, none⟩), .int .i64 i] w fun e w' => e = .returned (.tuple #[.string ⟨s.toArray⟩, .int .i64 E]) ∧ Kept NoM w w' := by
  have := read_ok i w h
  rw [h0, h1] at this; exact this
/-- SameTexts over an owned list and one that reads as it does -/
theorem texts_own (a b : Value) {O O' : Option Nat} {t t' : TypeId} (xs : List Pg) (w : World) (ha : OwnS w O t 1 EStr a xs) (hb : OwnS w O' t' 1 EStr b xs) (hn : xs.length ≤ 1000000) : Calls Try.prog 23 #[a, b] w fun e w' => e = .returned (.bool true) ∧ Kept NoM w w' := by
  refine (sametexts_ok a b xs w (ha.rd fun _ _ x => x) (hb.rd fun _ _ x => x) hn).mono ?_
  rintro e w' ⟨rfl, n, rfl⟩
  exact ⟨rfl, (Kept.refl _ _).drewN n⟩
theorem ints_own (a b : Value) {O O' : Option Nat} {t t' : TypeId} (xs : List Int) (w : World) (ha : OwnS w O t 1 EInt a xs) (hb : OwnS w O' t' 1 EInt b xs) (hn : xs.length ≤ 1000000) : Calls Try.prog 27 #[a, b] w fun e w' => e = .returned (.bool true) ∧ Kept NoM w w' := by
  refine (sameints_ok a b xs w (ha.rd fun _ _ x => x) (hb.rd fun _ _ x => x) hn).mono ?_
  rintro e w' ⟨rfl, n, rfl⟩
  exact ⟨rfl, (Kept.refl _ _).drewN n⟩
end
theorem OwnS.still {α : Type} {w w' : World} {O : Option Nat} {e : TypeId} {sz : Nat} {E : List Value → α → Prop} {v : Value} {xs : List α} (h : OwnS w O e sz E v xs) (k : Kept NoM w w') : OwnS w' O e sz E v xs := h.kept k (fun _ _ x => x) (fun _ _ x => x)
theorem RdOps.lims {w : World} {v : Value} {l : List Op} (h : RdOps w v l) : ∀ x ∈ l, x.i ≤ 9223372036854775807 := by
  intro x hx
  obtain ⟨a, cap, rfl, _, _⟩ := RdS.shape h
  obtain ⟨i, hi⟩ := List.getElem?_of_mem hx
  obtain ⟨_, _, _, _, cs, ⟨_, _, _, _, h4⟩, _⟩ := RdS.at h hi
  exact h4
theorem new_plays_wf {n : Nat} {l : List Op} (hl : ∀ x ∈ l, x.i ≤ 9223372036854775807) : ((Dk.new n).plays l).WF ∧ ((Dk.new n).plays l).n = n := by
  refine ⟨Dk.WF.plays (Dk.WF.new n) hl, ?_⟩
  rw [Dk.n_plays]; show (List.replicate n Dk.zero).length = n; simp
end Go.Proofs.Ytohijdopmokkgaa
