/- Owned slices of one-cell elements: the block written out; stores. No program. -/
import Derived.Test.YtjcmnobfdidnkaaKBase2
set_option linter.unusedVariables false
set_option linter.unusedSimpArgs false
set_option linter.unusedSectionVars false
namespace Go.Proofs.Ytjcmnobfdidnkaa
open Go.RowKit
section
variable {α : Type} {w : World} {O : Option Nat} {e : TypeId} {E : List Value → α → Prop} {v : Value} {xs : List α} {f : α → Value}
theorem flat_one (cs : List (List Value)) (xs : List α) (h2 : cs.length = xs.length) (h3 : ∀ (i : Nat) (c : List Value) (x : α), cs[i]? = some c → xs[i]? = some x → c = [f x]) : cs.flatten = xs.map f := by
  induction cs generalizing xs with
  | nil => cases xs with
    | nil => rfl
    | cons x xs => simp at h2
  | cons c cs ih => cases xs with
    | nil => simp at h2
    | cons x xs =>
      have h0 := h3 0 c x rfl rfl
      have := ih xs (by simpa using h2) (fun i c x hc hx => h3 (i + 1) c x (by simpa using hc) (by simpa using hx))
      simp [h0, this]
/-- an owned slice with an element: its block, written out -/
theorem OwnS.open1 (h : OwnS w O e 1 E v xs) (hE : ∀ c x, E c x → c = [f x]) (hn : 0 < xs.length) :
    ∃ g cap cur, v = .slice (some ⟨g, 0, none⟩) xs.length cap ∧ O = some g ∧ w.heap[g]? = some (.cells cur e (0, 0)) ∧ xs.length ≤ cap ∧ cap ≤ maxLen ∧ cur.size = cap ∧ cur.toList.take xs.length = xs.map f := by
  obtain ⟨h0, cs, h1, h2, h3⟩ := h
  have hf := flat_one cs xs h2 (fun i c x hc hx => hE c x (h3 i c x hc hx).2)
  rw [hf] at h1
  rcases h1.2 with ⟨rfl, hz⟩ | ⟨g, cap, cur, rfl, _, hg, hc, hm, hs, ht⟩
  · omega
  · exact ⟨g, cap, cur, rfl, by simpa [Value.ownBlock] using h0.symm, hg, hc, hm, by simpa using hs, by simpa using ht⟩
theorem OwnS.close1 {g cap : Nat} {cur : Array Value} (hE : ∀ x, E [f x] x) (hg : w.heap[g]? = some (.cells cur e (0, 0))) (n : Nat) (hl : xs.length = n) (hc : n ≤ cap) (hm : cap ≤ maxLen) (hs : cur.size = cap) (ht : cur.toList.take n = xs.map f) :
    OwnS w (some g) e 1 E (.slice (some ⟨g, 0, none⟩) n cap) xs := by
  subst hl
  have hf : (xs.map (fun x => [f x])).flatten = xs.map f := flat_one _ xs (by simp) (fun i c x hc hx => by
    rw [List.getElem?_map, hx] at hc; simp at hc; exact hc.symm)
  refine ⟨rfl, xs.map (fun x => [f x]), ⟨?_, .inr ⟨g, cap, cur, rfl, Nat.zero_le _, hg, hc, hm, by simpa using hs, ?_⟩⟩, by simp, fun i c x hc hx => ?_⟩
  · rw [hf]; simp
  · rw [hf]; simpa using ht
  · rw [List.getElem?_map, hx] at hc
    simp only [Option.map_some, Option.some.injEq] at hc
    subst hc
    exact ⟨rfl, hE x⟩
theorem take_at {cur : Array Value} {xs : List α} (ht : cur.toList.take xs.length = xs.map f) {i : Nat} {x : α} (hx : xs[i]? = some x) : cur[i]? = some (f x) := by
  have hi := (List.getElem?_eq_some_iff.1 hx).1
  have : (cur.toList.take xs.length)[i]? = some (f x) := by rw [ht, List.getElem?_map, hx]; rfl
  rw [List.getElem?_take, if_pos hi] at this
  simpa using this
theorem take_set {cur : Array Value} {xs : List α} (ht : cur.toList.take xs.length = xs.map f) (i : Nat) (x : α) : (cur.setIfInBounds i (f x)).toList.take xs.length = (xs.set i x).map f := by
  rw [Array.toList_setIfInBounds, List.take_set, ht, List.map_set]
theorem expose2' {w : World} {b1 b2 : Nat} {c1 c2 : Array Value} {e1 e2 : TypeId} (h1 : w.heap[b1]? = some (.cells c1 e1 (0, 0))) (h2 : w.heap[b2]? = some (.cells c2 e2 (0, 0))) : w = putB (putB w b1 c1 e1) b2 c2 e2 := by
  rw [← putB_self h1]; exact putB_self h2
end
end Go.Proofs.Ytjcmnobfdidnkaa
