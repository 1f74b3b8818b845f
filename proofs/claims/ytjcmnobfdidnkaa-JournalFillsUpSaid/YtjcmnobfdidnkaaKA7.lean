/- Walks: Pending of the program's disk. -/
import Derived.Test.YtjcmnobfdidnkaaKA6
import Derived.Test.YtjcmnobfdidnkaaKShelf
import Derived.Sort.OwnSortedInts
set_option linter.unusedVariables false
set_option linter.unusedSimpArgs false
set_option linter.unusedSectionVars false
namespace Go.Proofs.Ytjcmnobfdidnkaa
open Go.RowKit
set_option maxHeartbeats 4000000
set_option maxRecDepth 4000
def sortF (l : List Int) : List Int := l.mergeSort (fun a b => decide (a ≤ b))
theorem sortF_len (l : List Int) : (sortF l).length = l.length := by unfold sortF; exact List.length_mergeSort l
theorem own_ints_cells {w : World} {O : Option Nat} {v : Value} {xs : List Int} (h : OwnS w O 3 1 EInt v xs) : v.ownBlock = O ∧ w.ownsRow 0 3 1 v xs.length (xs.map (Value.int .i64)) := by
  obtain ⟨cs, h1, h2, h3, h4⟩ := h.lens
  refine ⟨h.1, ?_⟩
  have : cs.flatten = xs.map (Value.int .i64) := flat_one cs xs h2 (fun i c x hc hx => (h3 i c x hc hx).2)
  rw [← this]; exact h1
theorem own_ints_mk {w : World} {O : Option Nat} {v : Value} {xs : List Int} (h0 : v.ownBlock = O) (h : w.ownsRow 0 3 1 v xs.length (xs.map (Value.int .i64))) : OwnS w O 3 1 EInt v xs := by
  have hf : (xs.map (fun x => [Value.int .i64 x])).flatten = xs.map (Value.int .i64) := flat_one _ xs (by simp) (fun i c x hc hx => by
    rw [List.getElem?_map, hx] at hc; simp at hc; exact hc.symm)
  refine ⟨h0, xs.map (fun x => [Value.int .i64 x]), ?_, by simp, fun i c x hc hx => ?_⟩
  · rw [hf]; exact h
  · rw [List.getElem?_map, hx] at hc
    simp only [Option.map_some, Option.some.injEq] at hc
    subst hc
    exact ⟨rfl, rfl⟩
theorem sort_ok (O : Option Nat) (a : Option Addr) (cap : Nat) (xs : List Int) (w : World) (h : OwnS w O 3 1 EInt (.slice a xs.length cap) xs) (hn : xs.length ≤ 1000000) :
    Calls Try.prog 64 #[.slice a xs.length cap] w fun e w' => e = .returned (.tuple #[]) ∧ OwnS w' O 3 1 EInt (.slice a xs.length cap) (sortF xs) ∧ Kept (fun k => some k = O) w w' := by
  obtain ⟨h0, h1⟩ := own_ints_cells h
  rcases h1.2 with ⟨e1, hz⟩ | ⟨g, c, cur, e1, _, hg, hc1, hc2, hc3, hc4⟩
  · obtain rfl : xs = [] := List.eq_nil_of_length_eq_zero hz
    refine (Go.Proofs.Try.slices_Sort_int_none a cap w).mono ?_
    rintro e w' ⟨rfl, rfl⟩
    exact ⟨rfl, by simpa [sortF] using h, Kept.refl _ _⟩
  · simp only [Value.slice.injEq, true_and] at e1
    obtain ⟨rfl, rfl⟩ := e1
    simp only [Value.ownBlock] at h0
    have hH := Go.holds_of_blockI (ss := xs) hg (by simpa using hc4)
    refine (Go.Proofs.Try.slices_Sort_int g 0 cap xs w hH (lt_of_block hg) (by omega)).mono ?_
    rintro e w' ⟨rfl, n, os, rfl⟩
    have hrow := Go.ownsRow_sortedI (n := n) (os := os) (ss := xs) (ts := sortF xs) (sortF_len xs) (Nat.zero_le _) hg hc1 hc2 hc3
    refine ⟨rfl, own_ints_mk h0 ?_, ?_⟩
    · rw [sortF_len]; exact hrow
    · have hgr := Go.grownBy_sortedI (w := w) (g := g) (n := n) (os := os) (sortF xs).toArray
      exact (Kept.refl _ _).grown hgr (fun k hk _ => by rw [← h0]; exact hk.symm)
/-- what was collected, sorted: the pending pages -/
theorem sorted_pending {d : Dk} {acc : List Nat} (hd : acc.Nodup) (hm : ∀ i, i ∈ acc ↔ i < d.n ∧ (d.pn i).isSome = true) : sortF (acc.map fun i : Nat => (i : Int)) = d.pending.map fun i : Nat => (i : Int) := by
  have hp : acc.Perm d.pending := by
    rw [List.perm_iff_count]
    intro a
    have h2 : d.pending.Nodup := List.Pairwise.filter _ List.nodup_range
    rw [hd.count, h2.count]
    have : a ∈ acc ↔ a ∈ d.pending := by
      rw [hm]; unfold Dk.pending; rw [List.mem_filter, List.mem_range]
    simp [this]
  have hs : (d.pending.map fun i : Nat => (i : Int)).Pairwise (fun a b => a ≤ b) := by
    rw [List.pairwise_map]
    exact (filter_range_sorted _ _).imp (fun h => by omega)
  have h1 : (sortF (acc.map fun i : Nat => (i : Int))).Perm (d.pending.map fun i : Nat => (i : Int)) := (List.mergeSort_perm _ _).trans (hp.map _)
  have h2 : (sortF (acc.map fun i : Nat => (i : Int))).Pairwise (fun a b => a ≤ b) := by
    have := List.pairwise_mergeSort (le := fun a b : Int => decide (a ≤ b)) (fun a b c h1 h2 => by simp at *; omega) (fun a b => by simp; omega) (acc.map fun i : Nat => (i : Int))
    exact this.imp (fun h => by simpa using h)
  exact h1.eq_of_pairwise (fun a b _ _ h3 h4 => by omega) h2 hs
end Go.Proofs.Ytjcmnobfdidnkaa
