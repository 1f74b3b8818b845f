/- Readings: a script, and a list of ints, that came in. -/
import Derived.Test.YtohijdopmokkgaaKE4
import Derived.WalkKit
import Derived.ProofKit
import Derived.OpenShut
import Derived.ChangeSlices
import Derived.ChangeMaps5
import Derived.Deep.Slices
set_option linter.unusedVariables false
set_option linter.unusedSimpArgs false
set_option linter.unusedSectionVars false
namespace Go.Proofs.Ytohijdopmokkgaa
open Go.ChangeShapes Go.WideShapes Go.ChangeAt Go.RowKit Go.Deep

theorem cellsOp : Try.prog.cellsOf 34 = 5 := by kernel_rfl
theorem cellsInt : Try.prog.cellsOf 3 = 1 := by kernel_rfl
theorem cellsStr : Try.prog.cellsOf 9 = 1 := by kernel_rfl
theorem cellsInts : Try.prog.cellsOf 32 = 1 := by kernel_rfl
section
variable {H : Type} {enc : TypeId × Value → H} {W : World}
theorem spot_of {A : Addr} {v : Value} (h : W.cell? A = some v) : ∃ b off, A = ⟨b, off, none⟩ := by
  obtain ⟨b, off, spot⟩ := A
  have hspot : spot = none := World.cell?_spot h
  exact ⟨b, off, by rw [hspot]⟩
theorem ints_of {v : Value} {fuel : Nat} {x : DataW H × List MemPlace} (h : DataW.trod enc Try.prog W 0 (fun _ => true) true fuel 32 [v] = some x) : ∃ a pc zs, v = .slice a (List.length zs) pc ∧ RdS W NoM 1 EInt (.slice a zs.length pc) zs := by
  rcases open_ints Try.underlying32 Try.underlying3 cellsInt h with ⟨h0, _⟩ | ⟨A, len, cap, zs, h0, _, hl, hm, hz, _, hc, _⟩
  · simp only [List.cons.injEq, and_true] at h0
    subst h0
    exact ⟨none, 0, [], rfl, RdS.nil _ _ _ _⟩
  · simp only [List.cons.injEq, and_true] at h0
    subst h0
    simp only [if_true] at hz
    have hzl : (zs.take len).length = len := by rw [List.length_take]; omega
    refine ⟨some A, cap, zs.take len, by rw [hzl], some A, cap, by rw [hzl], by omega, hm, ?_⟩
    by_cases h0 : cap = 0
    · left
      exact ⟨List.eq_nil_of_length_eq_zero (by omega), h0⟩
    · right
      obtain ⟨b, off, rfl⟩ : ∃ b off, A = ⟨b, off, none⟩ := by
        obtain ⟨b, off, e⟩ := spot_of (hc 0 (by omega))
        obtain ⟨b', off', spot⟩ := A
        simp only [Addr.add, if_true] at e
        exact ⟨b', off', by simp only [Addr.mk.injEq] at e; rw [e.2.2]⟩
      refine ⟨b, off, rfl, fun i y hy => ⟨fun q => q, [.int .i64 y], rfl, rfl, fun j u hu => ?_⟩⟩
      have hi : i < (zs.take len).length := (List.getElem?_eq_some_iff.1 hy).1
      have hc' := hc i (by omega)
      rw [List.getElem?_take] at hy
      rw [if_pos (by omega)] at hy
      have e : zs.getD i 0 = y := by simp [List.getD, hy]
      rw [e, add_plain] at hc'
      match j, hu with
      | 0, hu =>
        simp only [List.getElem?_cons_zero, Option.some.injEq] at hu
        subst hu
        simpa using hc'
instance : Inhabited Op := ⟨⟨0, 0, 0, [], []⟩⟩
set_option maxRecDepth 100000 in
theorem ops_of {v : Value} {fuel : Nat} {x : DataW H × List MemPlace} (h : DataW.trod enc Try.prog W 0 (fun _ => true) true fuel 22 [v] = some x) : ∃ l, RdOps W v l := by
  rcases open_slice Try.underlying22 h with ⟨h0, _⟩ | ⟨A, len, cap, m, n, D, Pl, h0, hb, hl, hm, hmm, _, hx⟩
  · simp only [List.cons.injEq, and_true] at h0
    subst h0
    exact ⟨[], RdS.nil _ _ _ _⟩
  · simp only [List.cons.injEq, and_true] at h0
    subst h0
    simp only [if_true] at hmm
    have hsp : 0 < m → ∃ b off, A = ⟨b, off, none⟩ := by
      intro h0
      obtain ⟨cs', h1, _⟩ := hx 0 h0
      rw [cellsOp] at h1
      obtain ⟨_, hlen, hcell⟩ := World.cells?_some h1
      match cs', hlen with
      | [v0, v1, v2, v3, v4], _ =>
        have c0 := hcell 0 (by omega)
        obtain ⟨b, off, spot⟩ := A
        have hspot : spot = none := by simpa [Addr.add] using World.cell?_spot c0
        exact ⟨b, off, by rw [hspot]⟩
    have each : ∀ i, i < m → ∃ q : Op, ∃ b off, A = ⟨b, off, none⟩ ∧ ∃ cs, EOp W cs q ∧ cs.length = 5 ∧ ∀ j u, cs[j]? = some u → W.cell? ⟨b, off + i * 5 + j, none⟩ = some u := by
      intro i hi
      obtain ⟨cs', h1, h2⟩ := hx i hi
      rw [cellsOp] at h1
      obtain ⟨_, hlen, hcell⟩ := World.cells?_some h1
      obtain ⟨xs, k, hk, hxy, _, hxl, hf⟩ := DataW.trod_struct Try.underlying34 h2
      match xs, hxl, cs', hlen with
      | [y0, y1, y2, y3, y4], _, [v0, v1, v2, v3, v4], _ =>
        have g0 := hf 0 _ rfl
        have g1 := hf 1 _ rfl
        have g2 := hf 2 _ rfl
        have g3 := hf 3 _ rfl
        have g4 := hf 4 _ rfl
        simp [cellsInt, cellsStr, cellsInts] at g0 g1 g2 g3 g4
        obtain ⟨k0, e0, _, w0⟩ := DataW.trod_int Try.underlying3 g0
        obtain ⟨k1, e1, _, w1⟩ := DataW.trod_int Try.underlying3 g1
        obtain ⟨k2, e2, _, w2⟩ := DataW.trod_int Try.underlying3 g2
        obtain ⟨s3, e3, _, w3⟩ := DataW.trod_string Try.underlying9 g3
        obtain ⟨pa, pc, zs, e4, hr⟩ := ints_of g4
        simp only [List.cons.injEq, and_true] at e0 e1 e2 e3
        subst e0 e1 e2 e3 e4
        have c0 := hcell 0 (by omega)
        have c1 := hcell 1 (by omega)
        have c2 := hcell 2 (by omega)
        have c3 := hcell 3 (by omega)
        have c4 := hcell 4 (by omega)
        obtain ⟨b, off, rfl⟩ := hsp (by omega)
        simp only [add_plain] at c0 c1 c2 c3 c4
        have hw := bounds_i64 w1
        refine ⟨⟨k0, k1, k2, s3.data.toList, zs⟩, b, off, rfl, [.int .i64 k0, .int .i64 k1, .int .i64 k2, strV s3.data.toList, .slice pa zs.length pc], ⟨pa, pc, rfl, hr, hw.2⟩, rfl, fun j u hu => ?_⟩
        match j, hu with
        | 0, hu => simp only [List.getElem?_cons_zero, Option.some.injEq] at hu; subst hu; simpa using c0
        | 1, hu => simp only [List.getElem?_cons_succ, List.getElem?_cons_zero, Option.some.injEq] at hu; subst hu; simpa using c1
        | 2, hu => simp only [List.getElem?_cons_succ, List.getElem?_cons_zero, Option.some.injEq] at hu; subst hu; simpa using c2
        | 3, hu => simp only [List.getElem?_cons_succ, List.getElem?_cons_zero, Option.some.injEq] at hu; subst hu; simpa [strV] using c3
        | 4, hu => simp only [List.getElem?_cons_succ, List.getElem?_cons_zero, Option.some.injEq] at hu; subst hu; simpa using c4
    obtain ⟨q, hq⟩ := choose_lt each
    have hql : ((List.range len).map q).length = len := by simp
    refine ⟨(List.range len).map q, some A, cap, by rw [hql], by rw [hql]; exact hl, hm, ?_⟩
    by_cases h0 : cap = 0
    · left
      exact ⟨List.eq_nil_of_length_eq_zero (by omega), h0⟩
    · right
      obtain ⟨b, off, eA, _⟩ := hq 0 (by omega)
      refine ⟨b, off, by rw [eA], fun i y hy => ⟨fun q => q, ?_⟩⟩
      rw [List.getElem?_map] at hy
      simp only [Option.map_eq_some_iff] at hy
      obtain ⟨j, hj, rfl⟩ := hy
      obtain ⟨h1, h2⟩ := List.getElem?_eq_some_iff.1 hj
      simp only [List.length_range] at h1
      simp only [List.getElem_range] at h2
      subst h2
      obtain ⟨b', off', eA', r⟩ := hq i (by omega)
      rw [eA] at eA'
      simp only [Addr.mk.injEq, and_true] at eA'
      obtain ⟨rfl, rfl⟩ := eA'
      exact r
end
end Go.Proofs.Ytohijdopmokkgaa
