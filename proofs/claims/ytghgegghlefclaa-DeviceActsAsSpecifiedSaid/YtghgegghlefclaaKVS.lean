/- Slicing a slice: its run, its address. Over any program. -/
import Derived.Test.YtghgegghlefclaaKVL
import Derived.Lib.SliceRun
set_option linter.unusedVariables false
set_option linter.unusedSimpArgs false
set_option linter.unusedSectionVars false
namespace Go.Proofs.Ytghgegghlefclaa
open Go.RowKit
theorem slice_at {P : Program} {T e : TypeId} {i : TypeInfo} {sz : Nat} (hT : P.underlying T = some (.slice e)) (hin : P.info? e = some i) (hsz : i.size = sz) (g off n cap lo hi mx m c : Nat) (low high max : Option Value)
    (hl : low = some (.int .i64 lo) ∨ (low = none ∧ lo = 0)) (hh : (high = some (.int .i64 hi) ∧ max = some (.int .i64 mx)) ∨ (high = some (.int .i64 hi) ∧ max = none ∧ mx = cap) ∨ (high = none ∧ hi = n ∧ max = none ∧ mx = cap)) (h1 : lo ≤ hi) (h2 : hi ≤ mx) (h3 : mx ≤ cap) (hm : hi - lo = m) (hc : mx - lo = c) :
    ∃ o', (∀ wx, (Instr.slice T (.slice (some ⟨g, off, none⟩) n cap) low high max).run P wx = .ok (.slice (some ⟨g, o', none⟩) m c) wx) ∧ (lo < mx → o' = off + lo * sz) := by
  subst hm; subst hc
  refine ⟨if mx = lo then off else off + lo * sz, fun wx => ?_, fun h => by rw [if_neg (by omega)]⟩
  have he : (if mx = lo then (some (⟨g, off, none⟩ : Addr)) else (some (⟨g, off, none⟩ : Addr)).map (·.add (lo * i.size))) = some ⟨g, if mx = lo then off else off + lo * sz, none⟩ := by
    rw [hsz]
    split
    · rfl
    · simp only [Option.map_some, Addr.add]
      split
      · rename_i h0; rw [h0]; rfl
      · rfl
  rw [← he]
  have a1 : (0 : Int) ≤ lo := by omega
  have a2 : (0 : Int) ≤ hi := by omega
  have a3 : (0 : Int) ≤ mx := by omega
  have a4 : (lo : Int) ≤ hi := by omega
  have a5 : (hi : Int) ≤ mx := by omega
  have a6 : (mx : Int) ≤ cap := by omega
  have a7 : hi ≤ cap := by omega
  have a8 : (hi : Int) ≤ cap := by omega
  rcases hl with rfl | ⟨rfl, rfl⟩ <;> rcases hh with ⟨rfl, rfl⟩ | ⟨rfl, rfl, rfl⟩ | ⟨rfl, rfl, rfl, rfl⟩ <;>
    simp [Instr.slice, Instr.sliceBounds, Instr.sliceBound, asIntOf, run_underlying hT, sizeOf, typeInfo, hin, *]
end Go.Proofs.Ytghgegghlefclaa
