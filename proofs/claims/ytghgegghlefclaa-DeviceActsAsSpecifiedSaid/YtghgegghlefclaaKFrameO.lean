/- Readings: devices, tables, writes, acks that came in. -/
import Derived.Test.YtghgegghlefclaaKW16
import Derived.Test.YtghgegghlefclaaKV3
import Derived.WalkKit
import Derived.ProofKit
import Derived.OpenShut
import Derived.ChangeSlices
import Derived.ChangeMaps5
import Derived.Deep.Slices
set_option linter.unusedVariables false
set_option linter.unusedSimpArgs false
set_option linter.unusedSectionVars false
namespace Go.Proofs.Ytghgegghlefclaa
open Go.ChangeShapes Go.WideShapes Go.ChangeAt Go.RowKit Go.Deep
set_option maxRecDepth 100000
theorem cInt : Try.prog.cellsOf 3 = 1 := by kernel_rfl
theorem cHeadA : Try.prog.cellsOf 33 = 10 := by kernel_rfl
theorem cHead : Try.prog.cellsOf 34 = 10 := by kernel_rfl
theorem cPat : Try.prog.cellsOf 36 = 20 := by kernel_rfl
theorem cMod : Try.prog.cellsOf 121 = 20 := by kernel_rfl
theorem cOuts : Try.prog.cellsOf 37 = 1 := by kernel_rfl
theorem cAlts : Try.prog.cellsOf 87 = 1 := by kernel_rfl
theorem cAlt : Try.prog.cellsOf 123 = 21 := by kernel_rfl
theorem cRule : Try.prog.cellsOf 39 = 23 := by kernel_rfl
theorem cWrite : Try.prog.cellsOf 41 = 26 := by kernel_rfl
theorem cAck : Try.prog.cellsOf 60 = 3 := by kernel_rfl
theorem cTable : Try.prog.cellsOf 23 = 1 := by kernel_rfl
theorem cWrites : Try.prog.cellsOf 24 = 1 := by kernel_rfl
theorem cInts : Try.prog.cellsOf 25 = 1 := by kernel_rfl
theorem cBool : Try.prog.cellsOf 4 = 1 := by kernel_rfl
theorem cErr : Try.prog.cellsOf 44 = 1 := by kernel_rfl
section
variable {H : Type} {enc : TypeId × Value → H} {W : World}
/-- it reads -/
def Tr (enc : TypeId × Value → H) (W : World) (t : TypeId) (cs : List Value) : Prop := ∃ fuel x, DataW.trod enc Try.prog W 0 (fun _ => true) true fuel t cs = some x
def In64 (n : Int) : Prop := -9223372036854775808 ≤ n ∧ n ≤ 9223372036854775807
theorem tr_int {t : TypeId} {cs : List Value} (ht : Try.prog.underlying t = some (.int .i64)) (h : Tr enc W t cs) : ∃ n, cs = [.int .i64 n] ∧ In64 n := by
  obtain ⟨_, _, h⟩ := h
  obtain ⟨n, e, _, w⟩ := DataW.trod_int ht h
  exact ⟨n, e, bounds_i64 w⟩
theorem tr_arr {t e : TypeId} {n : Nat} {cs : List Value} (ht : Try.prog.underlying t = some (.array n e)) (hc : Try.prog.cellsOf e = 1) (h : Tr enc W t cs) : ∀ i, i < n → Tr enc W e ((cs.drop i).take 1) := by
  obtain ⟨_, _, h⟩ := h
  obtain ⟨xs, m, _, _, _, hl, hf⟩ := DataW.trod_array ht h
  intro i hi
  have := hf i hi
  rw [hc, Nat.mul_one] at this
  exact ⟨m, xs[i], by rw [this]; simp⟩
theorem tr_fld {t : TypeId} {fs : Array Field} {cs : List Value} (ht : Try.prog.underlying t = some (.struct fs)) (h : Tr enc W t cs) (i : Nat) (f : Field) (hf : fs[i]? = some f) : Tr enc W f.type ((cs.drop f.offset).take (Try.prog.cellsOf f.type)) := by
  obtain ⟨_, _, h⟩ := h
  obtain ⟨xs, n, _, _, _, hl, hx⟩ := DataW.trod_struct ht h
  have := hx i f hf
  have hi : i < xs.length := by rw [hl]; exact (Array.getElem?_eq_some_iff.1 hf).1
  exact ⟨n, xs[i], by rw [this]; simp⟩
/-- ten numbers -/
theorem tr_head {cs : List Value} (hl : cs.length = 10) (h : Tr enc W 34 cs) : ∃ m : Nat → Int, cs = headL m := by
  have g : ∀ i, i < 10 → ∃ n : Int, (cs.drop i).take 1 = [.int .i64 n] := fun i hi => by
    obtain ⟨n, e, _⟩ := tr_int Try.underlying3 (tr_arr Try.underlying34 cInt h i hi)
    exact ⟨n, e⟩
  obtain ⟨m, hm⟩ := choose_lt g
  refine ⟨m, ?_⟩
  apply List.ext_getElem?
  intro i
  by_cases hi : i < 10
  · have h1 := hm i hi
    have h2 : cs[i]? = some (.int .i64 (m i)) := by
      have : ((cs.drop i).take 1)[0]? = some (.int .i64 (m i)) := by rw [h1]; rfl
      simpa using this
    rw [h2]
    have h3 := head_at m hi
    have h4 : (headC m)[i]? = (headL m)[i]? := by simp [headC]
    rw [← h4, h3]
  · rw [List.getElem?_eq_none (by omega), List.getElem?_eq_none (by show 10 ≤ i; omega)]
theorem spot_of {A : Addr} {v : Value} (h : W.cell? A = some v) : ∃ b off, A = ⟨b, off, none⟩ := by
  obtain ⟨b, off, spot⟩ := A
  have hspot : spot = none := World.cell?_spot h
  exact ⟨b, off, by rw [hspot]⟩
/-- a slice -/
theorem tr_slice {α : Type} [Inhabited α] {T e : TypeId} {sz : Nat} {E : List Value → α → Prop} {Good : α → Prop} (hT : Try.prog.underlying T = some (.slice e)) (hsz : Try.prog.cellsOf e = sz) (h0 : 0 < sz) (hE : ∀ cs, cs.length = sz → Tr enc W e cs → ∃ q, E cs q ∧ Good q) {v : Value} (h : Tr enc W T [v]) :
    ∃ a l cap, v = .slice a (List.length l) cap ∧ RdS W NoM sz E (.slice a (List.length l) cap) l ∧ (∀ q ∈ l, Good q) ∧ l.length ≤ 9223372036854775807 := by
  obtain ⟨_, _, h⟩ := h
  rcases open_slice hT h with ⟨e0, _⟩ | ⟨A, len, cap, m, n, D, Pl, e0, hb, hl, hm, hmm, _, hx⟩
  · simp only [List.cons.injEq, and_true] at e0
    subst e0
    exact ⟨none, [], 0, rfl, RdS.nil _ _ _ _, fun q hq => by simp at hq, Nat.zero_le _⟩
  · simp only [List.cons.injEq, and_true] at e0
    subst e0
    simp only [if_true] at hmm
    rw [hsz] at hx
    have hml : cap ≤ 9223372036854775807 := hm
    have hsp : 0 < m → ∃ b off, A = ⟨b, off, none⟩ := by
      intro hp
      obtain ⟨cs', h1, _⟩ := hx 0 hp
      obtain ⟨_, hlen, hcell⟩ := World.cells?_some h1
      have c0 := hcell 0 h0
      have : cs'[0]? = some cs'[0] := by simp
      rw [this] at c0
      obtain ⟨b, off, spot⟩ := A
      have hspot : spot = none := by simpa [Addr.add] using World.cell?_spot c0
      exact ⟨b, off, by rw [hspot]⟩
    have each : ∀ i, i < m → ∃ q : α, Good q ∧ ∃ b off, A = ⟨b, off, none⟩ ∧ ∃ cs, E cs q ∧ cs.length = sz ∧ ∀ j u, cs[j]? = some u → W.cell? ⟨b, off + i * sz + j, none⟩ = some u := by
      intro i hi
      obtain ⟨cs', h1, h2⟩ := hx i hi
      obtain ⟨_, hlen, hcell⟩ := World.cells?_some h1
      obtain ⟨q, hq, hg⟩ := hE cs' hlen ⟨_, _, h2⟩
      obtain ⟨b, off, rfl⟩ := hsp (by omega)
      refine ⟨q, hg, b, off, rfl, cs', hq, hlen, fun j u hu => ?_⟩
      have hj : j < sz := by rw [← hlen]; exact (List.getElem?_eq_some_iff.1 hu).1
      have c := hcell j hj
      rw [add_plain, add_plain, hu] at c
      exact c
    obtain ⟨q, hq⟩ := choose_lt each
    have hql : ((List.range len).map q).length = len := by simp
    refine ⟨some A, (List.range len).map q, cap, by rw [hql], ⟨some A, cap, rfl, by rw [hql]; exact hl, hm, ?_⟩, fun z hz => ?_, by rw [hql]; omega⟩
    · by_cases hc0 : cap = 0
      · left
        exact ⟨List.eq_nil_of_length_eq_zero (by omega), hc0⟩
      · right
        obtain ⟨_, b, off, eA, _⟩ := hq 0 (by omega)
        refine ⟨b, off, by rw [eA], fun i y hy => ⟨fun q => q, ?_⟩⟩
        rw [List.getElem?_map] at hy
        simp only [Option.map_eq_some_iff] at hy
        obtain ⟨j, hj, rfl⟩ := hy
        obtain ⟨h1, h2⟩ := List.getElem?_eq_some_iff.1 hj
        simp only [List.length_range] at h1
        simp only [List.getElem_range] at h2
        subst h2
        obtain ⟨_, b', off', eA', r⟩ := hq i (by omega)
        rw [eA] at eA'
        simp only [Addr.mk.injEq, and_true] at eA'
        obtain ⟨rfl, rfl⟩ := eA'
        exact r
    · obtain ⟨i, hi, rfl⟩ := List.mem_map.1 hz
      exact (hq i (by have := List.mem_range.1 hi; omega)).1
instance : Inhabited Al := ⟨⟨0, fun _ => 0, fun _ => 0⟩⟩
instance : Inhabited Ru := ⟨⟨0, fun _ => 0, fun _ => 0, 0, none, 0, 0⟩⟩
instance : Inhabited Wr := ⟨⟨0, 0, 0, default⟩⟩
instance : Inhabited Ak := ⟨⟨0, 0, 0⟩⟩
theorem cut {cs : List Value} {n o k : Nat} (h : cs.length = n) (hk : o + k ≤ n) : ((cs.drop o).take k).length = k := by
  rw [List.length_take, List.length_drop]; omega
theorem join {cs : List Value} (o k : Nat) : cs.drop o = (cs.drop o).take k ++ cs.drop (o + k) := by
  rw [← List.drop_drop, List.take_append_drop]
theorem tr_two {t : TypeId} {cs : List Value} (hl : cs.length = 20) (h0 : Tr enc W 34 ((cs.drop 0).take 10)) (h1 : Tr enc W 34 ((cs.drop 10).take 10)) : ∃ m b : Nat → Int, cs = headL m ++ headL b := by
  obtain ⟨m, em⟩ := tr_head (cut hl (by omega)) h0
  obtain ⟨b, eb⟩ := tr_head (cut hl (by omega)) h1
  refine ⟨m, b, ?_⟩
  rw [← em, ← eb]
  have e1 := join (cs := cs) 0 10
  have e2 := join (cs := cs) 10 10
  rw [List.drop_zero] at e1
  rw [List.drop_eq_nil_of_le (show cs.length ≤ 10 + 10 by omega), List.append_nil] at e2
  rw [List.drop_zero]
  rw [← e2]
  simp
theorem tr_alt {cs : List Value} (hl : cs.length = 21) (h : Tr enc W 123 cs) : ∃ q : Al, EAl cs q ∧ True := by
  have g0 := tr_fld Try.underlying123 h 0 _ rfl
  have g1 := tr_fld Try.underlying123 h 1 _ rfl
  have g0 : Tr enc W 3 ((cs.drop 0).take (Try.prog.cellsOf 3)) := g0
  rw [cInt] at g0
  have g1' : Tr enc W 121 ((cs.drop 1).take 20) := by simpa [cMod] using g1
  have hl1 : ((cs.drop 1).take 20).length = 20 := cut hl (by omega)
  have m0 := tr_fld Try.underlying121 g1' 0 _ rfl
  have m1 := tr_fld Try.underlying121 g1' 1 _ rfl
  obtain ⟨m, b, e⟩ := tr_two (t := 121) hl1 (by simpa [cHead] using m0) (by simpa [cHead] using m1)
  obtain ⟨n, en, _⟩ := tr_int Try.underlying3 g0
  refine ⟨⟨n, m, b⟩, ?_, trivial⟩
  show cs = .int .i64 n :: (headL m ++ headL b)
  have e2 : (cs.drop 1).take 20 = cs.drop 1 := List.take_of_length_le (by rw [List.length_drop]; omega)
  rw [e2] at e
  have e1 := join (cs := cs) 0 1
  simp only [List.drop_zero, Nat.zero_add] at e1 en
  rw [e1, en, e]
  rfl
theorem tr_alts {v : Value} (h : Tr enc W 87 [v]) : ∃ l, EOut W [v] l ∧ True := by
  obtain ⟨a, l, cap, rfl, hr, _, _⟩ := tr_slice Try.underlying87 cAlt (by omega) (fun cs hl hh => tr_alt hl hh) h
  exact ⟨l, ⟨a, cap, rfl, hr⟩, trivial⟩
theorem tr_rule {cs : List Value} (hl : cs.length = 23) (h : Tr enc W 39 cs) : ∃ q : Ru, ERu cs q ∧ (OutR W q ∧ In64 q.pri) := by
  have g0 := tr_fld Try.underlying39 h 0 _ rfl
  have g1 := tr_fld Try.underlying39 h 1 _ rfl
  have g2 := tr_fld Try.underlying39 h 2 _ rfl
  have g3 := tr_fld Try.underlying39 h 3 _ rfl
  have g0 : Tr enc W 3 ((cs.drop 0).take (Try.prog.cellsOf 3)) := g0
  rw [cInt] at g0
  have g2 : Tr enc W 3 ((cs.drop 21).take (Try.prog.cellsOf 3)) := g2
  rw [cInt] at g2
  have g1' : Tr enc W 36 ((cs.drop 1).take 20) := by simpa [cPat] using g1
  have hl1 : ((cs.drop 1).take 20).length = 20 := cut hl (by omega)
  have m0 := tr_fld Try.underlying36 g1' 0 _ rfl
  have m1 := tr_fld Try.underlying36 g1' 1 _ rfl
  obtain ⟨m, b, e⟩ := tr_two (t := 36) hl1 (by simpa [cHead] using m0) (by simpa [cHead] using m1)
  obtain ⟨n, en, hn⟩ := tr_int Try.underlying3 g0
  obtain ⟨s, es, _⟩ := tr_int Try.underlying3 g2
  have g3' : Tr enc W 37 ((cs.drop 22).take 1) := by simpa [cOuts] using g3
  obtain ⟨vo, evo⟩ : ∃ vo, (cs.drop 22).take 1 = [vo] := by
    have hc := cut (o := 22) (k := 1) hl (by omega)
    match h : (cs.drop 22).take 1, hc with
    | [vo], _ => exact ⟨vo, rfl⟩
  rw [evo] at g3'
  obtain ⟨a, l, cap, rfl, hr, _, _⟩ := tr_slice (E := EOut W) (Good := fun _ => True) Try.underlying37 cAlts (by omega) (fun cs hl hh => by
    match cs, hl with
    | [u], _ => exact tr_alts hh) g3'
  refine ⟨⟨n, m, b, s, a, l.length, cap⟩, ?_, ⟨l, hr⟩, hn⟩
  show cs = ruL _
  have e1 := join (cs := cs) 0 1
  have e2 := join (cs := cs) 1 20
  have e3 := join (cs := cs) 21 1
  have e4 := join (cs := cs) 22 1
  rw [List.drop_eq_nil_of_le (show cs.length ≤ 22 + 1 by omega), List.append_nil] at e4
  simp only [List.drop_zero, Nat.zero_add, Nat.reduceAdd] at e1 e2 e3 e4 en es evo e
  rw [e1, en, e2, e, e3, es, e4, evo]
  rfl
theorem tr_write {cs : List Value} (hl : cs.length = 26) (h : Tr enc W 41 cs) : ∃ q : Wr, EWr cs q ∧ (OutR W q.rule ∧ In64 q.rule.pri ∧ In64 q.kind) := by
  have g0 := tr_fld Try.underlying41 h 0 _ rfl
  have g1 := tr_fld Try.underlying41 h 1 _ rfl
  have g2 := tr_fld Try.underlying41 h 2 _ rfl
  have g3 := tr_fld Try.underlying41 h 3 _ rfl
  have g0 : Tr enc W 3 ((cs.drop 0).take (Try.prog.cellsOf 3)) := g0
  rw [cInt] at g0
  have g1 : Tr enc W 3 ((cs.drop 1).take (Try.prog.cellsOf 3)) := g1
  rw [cInt] at g1
  have g2 : Tr enc W 3 ((cs.drop 2).take (Try.prog.cellsOf 3)) := g2
  rw [cInt] at g2
  have g3' : Tr enc W 39 ((cs.drop 3).take 23) := by simpa [cRule] using g3
  obtain ⟨r, er, hr, hp⟩ := tr_rule (cut hl (by omega)) g3'
  obtain ⟨n0, e0, _⟩ := tr_int Try.underlying3 g0
  obtain ⟨n1, e1, _⟩ := tr_int Try.underlying3 g1
  obtain ⟨n2, e2, hk⟩ := tr_int Try.underlying3 g2
  refine ⟨⟨n0, n1, n2, r⟩, ?_, hr, hp, hk⟩
  show cs = .int .i64 n0 :: .int .i64 n1 :: .int .i64 n2 :: ruL r
  have j0 := join (cs := cs) 0 1
  have j1 := join (cs := cs) 1 1
  have j2 := join (cs := cs) 2 1
  have j3 := join (cs := cs) 3 23
  rw [List.drop_eq_nil_of_le (show cs.length ≤ 3 + 23 by omega), List.append_nil] at j3
  unfold ERu at er
  simp only [List.drop_zero, Nat.zero_add, Nat.reduceAdd] at j0 j1 j2 j3 e0 e1 e2 er
  rw [j0, e0, j1, e1, j2, e2, j3, er]
  rfl
theorem tr_ack {cs : List Value} (hl : cs.length = 3) (h : Tr enc W 60 cs) : ∃ q : Ak, EAk cs q ∧ True := by
  have g0 := tr_fld Try.underlying60 h 0 _ rfl
  have g1 := tr_fld Try.underlying60 h 1 _ rfl
  have g2 := tr_fld Try.underlying60 h 2 _ rfl
  have g0 : Tr enc W 3 ((cs.drop 0).take (Try.prog.cellsOf 3)) := g0
  rw [cInt] at g0
  have g1 : Tr enc W 3 ((cs.drop 1).take (Try.prog.cellsOf 3)) := g1
  rw [cInt] at g1
  have g2' : Tr enc W 44 ((cs.drop 2).take 1) := by simpa [cErr] using g2
  obtain ⟨n0, e0, _⟩ := tr_int Try.underlying3 g0
  obtain ⟨n1, e1, _⟩ := tr_int Try.underlying3 g1
  obtain ⟨n2, e2, _⟩ := tr_int Try.underlying44 g2'
  refine ⟨⟨n0, n1, n2⟩, ?_, trivial⟩
  show cs = [.int .i64 n0, .int .i64 n1, .int .i64 n2]
  have j0 := join (cs := cs) 0 1
  have j1 := join (cs := cs) 1 1
  have j2 := join (cs := cs) 2 1
  rw [List.drop_eq_nil_of_le (show cs.length ≤ 2 + 1 by omega), List.append_nil] at j2
  simp only [List.drop_zero, Nat.zero_add, Nat.reduceAdd] at j0 j1 j2 e0 e1 e2
  rw [j0, e0, j1, e1, j2, e2]
  rfl
theorem one_cell {cs : List Value} {n o : Nat} (hl : cs.length = n) (h : o + 1 ≤ n) : ∃ v, (cs.drop o).take 1 = [v] := by
  have hc := cut (o := o) (k := 1) hl h
  match h : (cs.drop o).take 1, hc with
  | [vo], _ => exact ⟨vo, rfl⟩
theorem tr_int1 {cs : List Value} (hl : cs.length = 1) (h : Tr enc W 3 cs) : ∃ q : Int, EInt cs q ∧ True := by
  obtain ⟨n, e, _⟩ := tr_int Try.underlying3 h
  exact ⟨n, e, trivial⟩
/-- a device -/
theorem tr_dev {cs : List Value} (hl : cs.length = 7) (h : Tr enc W 27 cs) : ∃ (d : Dev) (ta : Option Addr) (tc : Nat) (qa : Option Addr) (qc : Nat) (da : Option Addr) (dc : Nat) (la : Option Addr) (lc : Nat), cs = (devC d ta tc qa qc da dc la lc).toList ∧ DevR W NoM d ta tc qa qc da dc la lc ∧
    (∀ r ∈ d.table, OutR W r) ∧ (∀ y ∈ d.queue, OutR W y.rule) ∧ d.table.length ≤ 9223372036854775807 ∧ d.queue.length ≤ 9223372036854775807 := by
  have g0 := tr_fld Try.underlying27 h 0 _ rfl
  have g1 := tr_fld Try.underlying27 h 1 _ rfl
  have g2 := tr_fld Try.underlying27 h 2 _ rfl
  have g3 := tr_fld Try.underlying27 h 3 _ rfl
  have g4 := tr_fld Try.underlying27 h 4 _ rfl
  have g5 := tr_fld Try.underlying27 h 5 _ rfl
  have g6 := tr_fld Try.underlying27 h 6 _ rfl
  have g0 : Tr enc W 3 ((cs.drop 0).take (Try.prog.cellsOf 3)) := g0
  rw [cInt] at g0
  have g1 : Tr enc W 3 ((cs.drop 1).take (Try.prog.cellsOf 3)) := g1
  rw [cInt] at g1
  have g2' : Tr enc W 23 ((cs.drop 2).take 1) := by simpa [cTable] using g2
  have g3' : Tr enc W 24 ((cs.drop 3).take 1) := by simpa [cWrites] using g3
  have g4' : Tr enc W 25 ((cs.drop 4).take 1) := by simpa [cInts] using g4
  have g5' : Tr enc W 25 ((cs.drop 5).take 1) := by simpa [cInts] using g5
  have g6' : Tr enc W 4 ((cs.drop 6).take 1) := by simpa [cBool] using g6
  obtain ⟨n0, e0, _⟩ := tr_int Try.underlying3 g0
  obtain ⟨n1, e1, _⟩ := tr_int Try.underlying3 g1
  obtain ⟨v2, e2⟩ := one_cell (o := 2) hl (by omega)
  obtain ⟨v3, e3⟩ := one_cell (o := 3) hl (by omega)
  obtain ⟨v4, e4⟩ := one_cell (o := 4) hl (by omega)
  obtain ⟨v5, e5⟩ := one_cell (o := 5) hl (by omega)
  rw [e2] at g2'
  rw [e3] at g3'
  rw [e4] at g4'
  rw [e5] at g5'
  obtain ⟨a2, l2, c2, rfl, r2, p2, b2⟩ := tr_slice Try.underlying23 cRule (by omega) (fun cs hl hh => tr_rule hl hh) g2'
  obtain ⟨a3, l3, c3, rfl, r3, p3, b3⟩ := tr_slice Try.underlying24 cWrite (by omega) (fun cs hl hh => tr_write hl hh) g3'
  obtain ⟨a4, l4, c4, rfl, r4, _, _⟩ := tr_slice Try.underlying25 cInt (by omega) (fun cs hl hh => tr_int1 hl hh) g4'
  obtain ⟨a5, l5, c5, rfl, r5, _, _⟩ := tr_slice Try.underlying25 cInt (by omega) (fun cs hl hh => tr_int1 hl hh) g5'
  obtain ⟨_, _, hb⟩ := g6'
  obtain ⟨b, e6, _⟩ := DataW.trod_bool Try.underlying4 hb
  refine ⟨⟨n0, n1, l2, l3, l4, l5, b⟩, a2, c2, a3, c3, a4, c4, a5, c5, ?_, ⟨r2, r3, r4, r5⟩, fun r hr => (p2 r hr).1, fun y hy => (p3 y hy).1, b2, b3⟩
  have j0 := join (cs := cs) 0 1
  have j1 := join (cs := cs) 1 1
  have j2 := join (cs := cs) 2 1
  have j3 := join (cs := cs) 3 1
  have j4 := join (cs := cs) 4 1
  have j5 := join (cs := cs) 5 1
  have j6 := join (cs := cs) 6 1
  rw [List.drop_eq_nil_of_le (show cs.length ≤ 6 + 1 by omega), List.append_nil] at j6
  simp only [List.drop_zero, Nat.zero_add, Nat.reduceAdd] at j0 j1 j2 j3 j4 j5 j6 e0 e1
  rw [j0, e0, j1, e1, j2, e2, j3, e3, j4, e4, j5, e5, j6, e6]
  rfl
end
end Go.Proofs.Ytghgegghlefclaa
