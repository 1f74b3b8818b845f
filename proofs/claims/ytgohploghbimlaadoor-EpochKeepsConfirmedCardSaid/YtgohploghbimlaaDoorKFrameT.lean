/- A slice of events that came in: its cells. -/
import Derived.Test.YtgohploghbimlaaDoorKFrame
import Derived.Test.YtgohploghbimlaaDoorKTK
import Derived.Deep.SlicePairs
set_option linter.unusedVariables false
set_option linter.unusedSimpArgs false
set_option linter.unusedSectionVars false
namespace Go.Proofs.YtgohploghbimlaaDoor
open Go.ChangeShapes Go.WideShapes Go.ChangeAt Go.RowKit Go.Deep

theorem cells39 : Tryd.prog.cellsOf 39 = 3 := by kernel_rfl
theorem cells3 : Tryd.prog.cellsOf 3 = 1 := by kernel_rfl
set_option maxRecDepth 100000 in
theorem events_of {H : Type} {enc : TypeId × Value → H} {W : World} {a : Option Addr} {len cap fuel : Nat} {x : DataW H × List MemPlace}
    (h : DataW.trod enc Tryd.prog W 0 (fun _ => true) true fuel 22 [.slice a len cap] = some x) : ∃ evs : List (Int × Int × Int), evs.length = len ∧ AtEvs W a evs := by
  rcases open_slice Tryd.underlying22 h with ⟨h0, _⟩ | ⟨a', len', cap', m, n, D, Pl, h0, hb, hl, hm, hmm, _, hx⟩
  · simp only [List.cons.injEq, Value.slice.injEq, and_true] at h0
    obtain ⟨rfl, rfl, rfl⟩ := h0
    exact ⟨[], rfl, fun i x hx => by simp at hx⟩
  · simp only [List.cons.injEq, Value.slice.injEq, and_true] at h0
    obtain ⟨rfl, rfl, rfl⟩ := h0
    have hsp : 0 < m → ∃ b off, a' = ⟨b, off, none⟩ := by
      intro h0
      obtain ⟨cs', h1, _⟩ := hx 0 h0
      rw [cells39] at h1
      obtain ⟨_, hlen, hcell⟩ := World.cells?_some h1
      match cs', hlen with
      | [v0, v1, v2], _ =>
        have c0 := hcell 0 (by omega)
        obtain ⟨b, off, spot⟩ := a'
        have hspot : spot = none := by simpa [Addr.add] using World.cell?_spot c0
        exact ⟨b, off, by rw [hspot]⟩
    have each : ∀ i, i < m → ∃ q : Int × Int × Int, ∃ b off, a' = ⟨b, off, none⟩ ∧ W.cell? ⟨b, off + i * 3, none⟩ = some (.int .i64 q.1) ∧ W.cell? ⟨b, off + i * 3 + 1, none⟩ = some (.int .i64 q.2.1) ∧ W.cell? ⟨b, off + i * 3 + 2, none⟩ = some (.int .i64 q.2.2) ∧
        -9223372036854775808 ≤ q.2.2 ∧ q.2.2 ≤ 9223372036854775807 := by
      intro i hi
      obtain ⟨cs', h1, h2⟩ := hx i hi
      rw [cells39] at h1
      obtain ⟨_, hlen, hcell⟩ := World.cells?_some h1
      obtain ⟨xs, k, hk, hxy, _, hxl, hf⟩ := DataW.trod_struct Tryd.underlying39 h2
      match xs, hxl, cs', hlen with
      | [y0, y1, y2], _, [v0, v1, v2], _ =>
        have g0 := hf 0 _ rfl
        have g1 := hf 1 _ rfl
        have g2 := hf 2 _ rfl
        simp [cells3] at g0 g1 g2
        obtain ⟨k0, e0, _, w0⟩ := DataW.trod_int Tryd.underlying3 g0
        obtain ⟨k1, e1, _, w1⟩ := DataW.trod_int Tryd.underlying3 g1
        obtain ⟨k2, e2, _, w2⟩ := DataW.trod_int Tryd.underlying3 g2
        simp only [List.cons.injEq, and_true] at e0 e1 e2
        subst e0 e1 e2
        have c0 := hcell 0 (by omega)
        have c1 := hcell 1 (by omega)
        have c2 := hcell 2 (by omega)
        obtain ⟨b, off, rfl⟩ := hsp (by omega)
        simp only [add_plain] at c0 c1 c2
        have := bounds_i64 w2
        exact ⟨(k0, k1, k2), b, off, rfl, by simpa using c0, by simpa using c1, by simpa using c2, this.1, this.2⟩
    obtain ⟨q, hq⟩ := choose_lt each
    have hlm : len ≤ m := by rw [hmm]; simpa using hl
    refine ⟨(List.range len).map q, by simp, fun i y hy => ?_⟩
    rw [List.getElem?_map] at hy
    simp only [Option.map_eq_some_iff] at hy
    obtain ⟨j, hj, rfl⟩ := hy
    obtain ⟨h1, h2⟩ := List.getElem?_eq_some_iff.1 hj
    simp only [List.length_range] at h1
    simp only [List.getElem_range] at h2
    subst h2
    obtain ⟨b, off, e, c0, c1, c2, c3, c4⟩ := hq i (by omega)
    exact ⟨b, off, by rw [e], c0, c1, c2, c3, c4⟩
end Go.Proofs.YtgohploghbimlaaDoor
