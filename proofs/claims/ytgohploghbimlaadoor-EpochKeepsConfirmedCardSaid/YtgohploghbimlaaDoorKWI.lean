/- Walks: slices.Sort on an owned slice of numbers; settle. -/
import Derived.Test.YtgohploghbimlaaDoorKWF
import Derived.Test.YtgohploghbimlaaDoorKShelf
import Derived.Sort.OwnSortedInts
set_option linter.unusedVariables false
set_option linter.unusedSimpArgs false
set_option linter.unusedSectionVars false
namespace Go.Proofs.YtgohploghbimlaaDoor
open Go.RowKit
set_option maxHeartbeats 1000000

def sortF (l : List Int) : List Int := l.mergeSort (fun a b => decide (a ≤ b))
theorem sortF_len (l : List Int) : (sortF l).length = l.length := by unfold sortF; exact List.length_mergeSort l

theorem own_ints_cells {w : World} {O : Option Nat} {v : Value} {xs : List Int} (h : OwnS w O 3 1 EInt v xs) : v.ownBlock = O ∧ w.ownsRow 0 3 1 v xs.length (xs.map (Value.int .i64)) := by
  obtain ⟨cs, h1, h2, h3, h4⟩ := h.lens
  refine ⟨h.1, ?_⟩
  have : cs.flatten = xs.map (Value.int .i64) := by
    apply List.ext_getElem?
    intro i
    by_cases hi : i < xs.length
    · have hc : cs[i]? = some (cs[i]'(by omega)) := by simp [h2, hi]
      obtain ⟨g1, g2⟩ := h3 i _ (xs[i]) hc (by simp [hi])
      have := flatten_at h4 i 0 _ (.int .i64 xs[i]) hc (by rw [g2]; rfl)
      simp only [Nat.mul_one, Nat.add_zero] at this
      rw [this]; simp [hi]
    · rw [List.getElem?_eq_none (by rw [flatten_length h4, h2]; omega), List.getElem?_eq_none (by simp; omega)]
  rw [← this]; exact h1
theorem own_ints_mk {w : World} {O : Option Nat} {v : Value} {xs : List Int} (h0 : v.ownBlock = O) (h : w.ownsRow 0 3 1 v xs.length (xs.map (Value.int .i64))) : OwnS w O 3 1 EInt v xs := by
  refine ⟨h0, xs.map (fun x => [Value.int .i64 x]), ?_, by simp, fun i c x hc hx => ?_⟩
  · have : (xs.map (fun x => [Value.int .i64 x])).flatten = xs.map (Value.int .i64) := by
      clear h h0; induction xs with
      | nil => rfl
      | cons x xs ih => simp [ih]
    rw [this]; exact h
  · rw [List.getElem?_map, hx] at hc
    simp only [Option.map_some, Option.some.injEq] at hc
    subst hc
    exact ⟨rfl, rfl⟩

theorem sort_ok (O : Option Nat) (a : Option Addr) (cap : Nat) (xs : List Int) (w : World) (h : OwnS w O 3 1 EInt (.slice a xs.length cap) xs) (hn : xs.length ≤ 1000000) :
    Calls Tryd.prog 69 #[.slice a xs.length cap] w fun e w' => e = .returned (.tuple #[]) ∧ OwnS w' O 3 1 EInt (.slice a xs.length cap) (sortF xs) ∧ Kept (fun k => some k = O) w w' := by
  obtain ⟨h0, h1⟩ := own_ints_cells h
  rcases h1.2 with ⟨e1, hz⟩ | ⟨g, c, cur, e1, _, hg, hc1, hc2, hc3, hc4⟩
  · obtain rfl : xs = [] := List.eq_nil_of_length_eq_zero hz
    refine (Go.Proofs.Tryd.slices_Sort_int_none a cap w).mono ?_
    rintro e w' ⟨rfl, rfl⟩
    exact ⟨rfl, by simpa [sortF] using h, Kept.refl _ _⟩
  · simp only [Value.slice.injEq, true_and] at e1
    obtain ⟨rfl, rfl⟩ := e1
    simp only [Value.ownBlock] at h0
    have hH := Go.holds_of_blockI (ss := xs) hg (by simpa using hc4)
    refine (Go.Proofs.Tryd.slices_Sort_int g 0 cap xs w hH (lt_of_block hg) (by omega)).mono ?_
    rintro e w' ⟨rfl, n, os, rfl⟩
    have hrow := Go.ownsRow_sortedI (n := n) (os := os) (ss := xs) (ts := sortF xs) (sortF_len xs) (Nat.zero_le _) hg hc1 hc2 hc3
    refine ⟨rfl, own_ints_mk h0 ?_, ?_⟩
    · rw [sortF_len]; exact hrow
    · have hgr := Go.grownBy_sortedI (w := w) (g := g) (n := n) (os := os) (sortF xs).toArray
      exact (Kept.refl _ _).grown hgr (fun k hk _ => by rw [← h0]; exact hk.symm)
end Go.Proofs.YtgohploghbimlaaDoor
