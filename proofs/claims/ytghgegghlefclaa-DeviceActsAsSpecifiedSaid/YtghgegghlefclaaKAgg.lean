/- Texts that belong together: Agg, Agg2, V2, V4. -/
import Derived.Test.YtghgegghlefclaaKOwn
import Derived.Deep.MidRow
import Derived.Laws.CopyOwn
import Derived.Laws.BytesArg
import Derived.Test.YtghgegghlefclaaProg
import Derived.Test.YtghgegghlefclaaKV0
set_option linter.unusedVariables false
set_option linter.unusedSimpArgs false
set_option linter.unusedSectionVars false
/- Elements of many cells: whole ones loaded and stored, parts overwritten. No program. -/
namespace Go.Proofs.Ytghgegghlefclaa
open Go.RowKit

theorem setRow_putB {w : World} {b : Nat} {cur cs : Array Value} {t : TypeId} (hg : w.heap[b]? = some (.cells cur t (0, 0))) : w.setRow b cs = putB w b cs t := by
  have h1 := setRow_heap w b cur cs t (0, 0) hg
  have h2 : (w.setRow b cs) = putB (w.setRow b cs) b cs t := putB_self h1
  rw [h2]
  unfold putB World.setRow
  congr 1
  apply Array.ext_getElem?
  intro i
  simp only [Array.getElem?_setIfInBounds, Array.size_modify, Array.getElem?_modify]
  split
  · rfl
  · rename_i hne; simp
theorem splice_one (l : List Value) (o : Nat) (u : Value) (h : o < l.length) : splice l o [u] = l.set o u := by
  unfold splice
  simp only [List.length_singleton, List.singleton_append]
  rw [List.set_eq_take_append_cons_drop, if_pos h]
theorem splice_get {l cs : List Value} {o j : Nat} (h : o + cs.length ≤ l.length) : (splice l o cs)[j]? = if o ≤ j ∧ j < o + cs.length then cs[j - o]? else l[j]? := by
  unfold splice
  by_cases h1 : j < o
  · rw [List.getElem?_append_left (by simp; omega), List.getElem?_take, if_pos h1, if_neg (by omega)]
  · rw [List.getElem?_append_right (by simp; omega)]
    have hm : (l.take o).length = o := by simp; omega
    rw [hm]
    by_cases h2 : j < o + cs.length
    · rw [List.getElem?_append_left (by omega), if_pos (by omega)]
    · rw [List.getElem?_append_right (by omega), List.getElem?_drop, if_neg (by omega)]
      congr 1; omega
/-- the store of a value of many cells into a block that is known -/
theorem run_storeVar_blk {P : Program} {w : World} {b o : Nat} {ty : TypeId} {cells cur : Array Value} {t : TypeId} (hg : w.heap[b]? = some (.cells cur t (0, 0))) (hfit : o + cells.size ≤ cur.size) (hi : (P.info? ty).map (·.size) = some cells.size) (h1 : ∀ u ∈ cells.toList, u.oneCell' = true) :
    (storeVar ty ⟨b, o, none⟩ (.agg cells)).run P w = .ok () (putB w b (splice cur.toList o cells.toList).toArray t) := by
  have hst := run_storeCells_at P b o t cells.toList 0 cur w hg (by simpa using hfit) h1
  rw [setRow_putB hg] at hst
  cases hq : P.info? ty with
  | none => simp [hq] at hi
  | some i =>
    have hs : cells.size = i.size := by simp [hq] at hi; omega
    simp only [Nat.add_zero, Array.length_toList, List.append_assoc] at hst
    simp [storeVar, sizeOf, typeInfo, hq, Value.cells, hs, splice]
    rw [← hs]
    exact hst
theorem wpList_store_blk {P : Program} {ops : Array Oper} {rest : List Oper} {op : Oper} {a : Act} {w : World} {Q : Exit → Act → World → Prop} (hgd : op.guard = none) (ty : TypeId) (x y : Operand) (ho : op.op = .store ty x y)
    (b o : Nat) (cells cur : Array Value) (t : TypeId) (hx : a.eval x = .pointer (some ⟨b, o, none⟩)) (hy : a.eval y = .agg cells)
    (hg : w.heap[b]? = some (.cells cur t (0, 0))) (hfit : o + cells.size ≤ cur.size) (hi : (P.info? ty).map (·.size) = some cells.size) (h1 : ∀ u ∈ cells.toList, u.oneCell' = true)
    (h : wpList P ops Q rest (a.put op.dst undef) (putB w b (splice cur.toList o cells.toList).toArray t)) : wpList P ops Q (op :: rest) a w :=
  wpList_plain hgd fun _ hK => by
    unfold Oper.wp execOp
    simp only [ho, hx, hy, Instr.storeAt, Instr.sureAddr, Sem.run_bind, Sem.run_pure, Result.andThen_ok, run_storeVar_blk hg hfit hi h1]
    exact hK _ _ h
section
variable {α : Type} {M : Nat → Prop} {w w' : World} {O : Option Nat} {e : TypeId} {sz : Nat} {E : List Value → α → Prop} {v : Value} {xs : List α}
/-- an owned slice with an element: its block -/
theorem OwnS.open (h : OwnS w O e sz E v xs) (hn : 0 < xs.length) :
    ∃ g cap cur, v = .slice (some ⟨g, 0, none⟩) xs.length cap ∧ O = some g ∧ w.heap[g]? = some (.cells cur e (0, 0)) ∧ xs.length ≤ cap ∧ cap ≤ maxLen ∧ cur.size = cap * sz ∧
      ∀ i x, xs[i]? = some x → ∃ cs, E cs x ∧ cs.length = sz ∧ ∀ j u, cs[j]? = some u → cur[i * sz + j]? = some u := by
  obtain ⟨cs, h1, h2, h3, h4⟩ := h.lens
  have h0 := h.1
  rcases h1.2 with ⟨rfl, hz⟩ | ⟨g, cap, cur, rfl, _, hg, hc, hm, hs, ht⟩
  · omega
  · refine ⟨g, cap, cur, rfl, by simpa [Value.ownBlock] using h0.symm, hg, hc, hm, hs, fun i x hx => ?_⟩
    have hi := (List.getElem?_eq_some_iff.1 hx).1
    have hci : cs[i]? = some (cs[i]'(by omega)) := by simp [h2, hi]
    obtain ⟨g1, g2⟩ := h3 i _ x hci hx
    refine ⟨_, g2, g1, fun j u hu => ?_⟩
    have hf := flatten_at h4 i j _ u hci hu
    rw [← ht, List.getElem?_take] at hf
    split at hf
    · simpa using hf
    · cases hf
theorem idx_lt {i j n sz : Nat} (hi : i < n) (hj : j < sz) : i * sz + j < n * sz := by
  have : (i + 1) * sz ≤ n * sz := Nat.mul_le_mul_right _ hi
  rw [Nat.succ_mul] at this
  omega
theorem idx_out {i k j c sz : Nat} (hne : i ≠ k) (hj : j < sz) : i * sz + j < k * sz ∨ (k + 1) * sz ≤ i * sz + j := by
  rcases Nat.lt_or_gt_of_ne hne with h | h
  · left
    have : (i + 1) * sz ≤ k * sz := Nat.mul_le_mul_right _ h
    rw [Nat.succ_mul] at this; omega
  · right
    have : (k + 1) * sz ≤ i * sz := Nat.mul_le_mul_right _ h
    omega
/-- cells of a block that read as a list are an owned slice -/
theorem OwnS.close {g cap : Nat} {cur : Array Value} {n : Nat} (hl : xs.length = n) (hg : w.heap[g]? = some (.cells cur e (0, 0))) (hc : n ≤ cap) (hm : cap ≤ maxLen) (hs : cur.size = cap * sz)
    (hx : ∀ i x, xs[i]? = some x → ∃ cs, E cs x ∧ cs.length = sz ∧ ∀ j u, cs[j]? = some u → cur[i * sz + j]? = some u) : OwnS w (some g) e sz E (.slice (some ⟨g, 0, none⟩) n cap) xs := by
  subst hl
  obtain ⟨css, c1, c2⟩ : ∃ css : List (List Value), css.length = xs.length ∧ ∀ (i : Nat) (c : List Value) (x : α), css[i]? = some c → xs[i]? = some x → c.length = sz ∧ E c x ∧ ∀ j u, c[j]? = some u → cur[i * sz + j]? = some u := by
    have hx' : ∀ i : Fin xs.length, ∃ cs, E cs xs[i.1] ∧ cs.length = sz ∧ ∀ (j : Nat) (u : Value), cs[j]? = some u → cur[i.1 * sz + j]? = some u := fun i => hx i.1 xs[i.1] (by simp)
    refine ⟨List.ofFn fun i : Fin xs.length => (hx' i).choose, by simp, fun i c x hc hxx => ?_⟩
    have hi := (List.getElem?_eq_some_iff.1 hxx).1
    have hxe : xs[i] = x := (List.getElem?_eq_some_iff.1 hxx).2
    have hsp := (hx' ⟨i, hi⟩).choose_spec
    have hc' : (hx' ⟨i, hi⟩).choose = c := by
      have := (List.getElem?_eq_some_iff.1 hc).2
      rw [List.getElem_ofFn] at this
      exact this
    rw [hc'] at hsp
    subst hxe
    exact ⟨hsp.2.1, hsp.1, hsp.2.2⟩
  have hall : ∀ c ∈ css, c.length = sz := fun c hc => by
    obtain ⟨i, hi, rfl⟩ := List.getElem_of_mem hc
    exact (c2 i _ (xs[i]'(by omega)) (by simp [hi]) (by simp)).1
  have hfl := flatten_length hall
  refine ⟨rfl, css, ⟨?_, .inr ⟨g, cap, cur, rfl, Nat.zero_le _, hg, hc, hm, hs, ?_⟩⟩, c1, fun i c x hc hx => ⟨(c2 i c x hc hx).1, (c2 i c x hc hx).2.1⟩⟩
  · rw [hfl, c1]
  · apply List.ext_getElem?
    intro k
    rw [List.getElem?_take]
    by_cases hk : k < xs.length * sz
    · rw [if_pos hk]
      have h0 : 0 < sz := by
        rcases Nat.eq_zero_or_pos sz with h | h
        · rw [h] at hk; omega
        · exact h
      have hq : k / sz < xs.length := Nat.div_lt_of_lt_mul (by rw [Nat.mul_comm]; exact hk)
      have hr := Nat.mod_lt k h0
      have hci : css[k / sz]? = some (css[k / sz]'(by omega)) := by simp [c1, hq]
      have hxi : xs[k / sz]? = some xs[k / sz] := by simp [hq]
      obtain ⟨d1, d2, d3⟩ := c2 _ _ _ hci hxi
      have hcj : (css[k / sz]'(by omega))[k % sz]? = some ((css[k / sz]'(by omega))[k % sz]'(by omega)) := by simp [d1, hr]
      have e1 := flatten_at hall _ _ _ _ hci hcj
      have e2 := d3 _ _ hcj
      have e3 : k / sz * sz + k % sz = k := by rw [Nat.mul_comm]; exact Nat.div_add_mod k sz
      rw [e3] at e1 e2
      rw [e1]
      simpa using e2
    · rw [if_neg hk, List.getElem?_eq_none (by rw [hfl, c1]; omega)]
/-- an element's cells, as a range -/
theorem RdS.range {a : Option Addr} {n cap : Nat} (h : RdS w M sz E (.slice a n cap) xs) {i : Nat} {x : α} (hx : xs[i]? = some x) :
    ∃ b off cs, a = some ⟨b, off, none⟩ ∧ ¬ M b ∧ E cs x ∧ cs.length = sz ∧ w.rangeAt b (off + i * sz) cs := by
  obtain ⟨b, off, h1, h2, cs, h3, h4, h5⟩ := h.at hx
  exact ⟨b, off, cs, h1, h2, h3, h4, fun j u hu => h5 j u hu⟩
/-- A PART OF AN ELEMENT IS OVERWRITTEN: 'us' from its cell j on. -/
theorem OwnS.part (h : OwnS w O e sz E v xs) {i j : Nat} {x x' : α} {us : List Value} (hx : xs[i]? = some x) (hj : j + us.length ≤ sz) (hE : ∀ cs, E cs x → cs.length = sz → E (splice cs j us) x') :
    ∃ g cap cur, v = .slice (some ⟨g, 0, none⟩) xs.length cap ∧ xs.length ≤ cap ∧ cap ≤ maxLen ∧ O = some g ∧ w.heap[g]? = some (.cells cur e (0, 0)) ∧ i * sz + j + us.length ≤ cur.size ∧
      OwnS (putB w g (splice cur.toList (i * sz + j) us).toArray e) O e sz E v (xs.set i x') := by
  have hi := (List.getElem?_eq_some_iff.1 hx).1
  obtain ⟨g, cap, cur, rfl, rfl, hg, hc, hm, hs, hr⟩ := h.open (by omega)
  have hcap : (i + 1) * sz ≤ cap * sz := Nat.mul_le_mul_right _ (by omega)
  rw [Nat.succ_mul] at hcap
  have hfit : i * sz + j + us.length ≤ cur.size := by omega
  refine ⟨g, cap, cur, rfl, hc, hm, rfl, hg, hfit, ?_⟩
  have hlen : (splice cur.toList (i * sz + j) us).length = cur.size := by rw [length_splice _ _ _ (by simpa using hfit)]; simp
  refine OwnS.close (by simp) (putB_blk _ _ _ _ (lt_of_block hg)) hc hm (by simpa [hlen] using hs) fun k y hy => ?_
  have hk : k < xs.length := by have := (List.getElem?_eq_some_iff.1 hy).1; simpa using this
  have hget : ∀ q : Nat, ((splice cur.toList (i * sz + j) us).toArray)[q]? = if i * sz + j ≤ q ∧ q < i * sz + j + us.length then us[q - (i * sz + j)]? else cur[q]? := fun q => by
    rw [List.getElem?_toArray, splice_get (by simpa using hfit)]; simp
  by_cases hki : k = i
  · subst hki
    rw [List.getElem?_set_self (by simpa using hk)] at hy
    simp only [Option.some.injEq] at hy
    subst hy
    obtain ⟨cs, d1, d2, d3⟩ := hr _ _ hx
    refine ⟨_, hE cs d1 d2, by rw [length_splice _ _ _ (by omega), d2], fun q u hu => ?_⟩
    rw [splice_get (by omega)] at hu
    rw [hget]
    by_cases hq : j ≤ q ∧ q < j + us.length
    · rw [if_pos hq] at hu
      rw [if_pos (by omega), ← hu]
      congr 1; omega
    · rw [if_neg hq] at hu
      rw [if_neg (by omega)]
      exact d3 q u hu
  · rw [List.getElem?_set_ne (Ne.symm hki)] at hy
    obtain ⟨cs, d1, d2, d3⟩ := hr _ _ hy
    refine ⟨cs, d1, d2, fun q u hu => ?_⟩
    have hq : q < sz := by have := (List.getElem?_eq_some_iff.1 hu).1; omega
    rw [hget, if_neg ?_]
    · exact d3 q u hu
    · have := idx_out (c := 0) hki hq
      rw [Nat.succ_mul] at this
      omega
theorem splice_full {cs us : List Value} (h : cs.length = us.length) : splice cs 0 us = us := by
  unfold splice
  rw [Nat.zero_add, ← h]
  simp
end
/-- a copy out of a string into a block that is known -/
theorem run_copy_string {P : Program} {w : World} {dT sT ty elem : TypeId} {g o dLen dCap : Nat} {s : ByteArray} {cur : Array Value} {t : TypeId} (hu : P.underlying dT = some (.slice elem)) (hs : (P.info? elem).map (·.size) = some 1)
    (hg : w.heap[g]? = some (.cells cur t (0, 0))) (hn : s.size ≤ dLen) (hfit : o + s.size ≤ cur.size) :
    (Builtin.copy_ #[dT, sT] ty #[.slice (some ⟨g, o, none⟩) dLen dCap, .string s]).run P w =
      .ok (goInt s.size) (putB w g (splice cur.toList o (s.data.toList.map fun b => Value.int .u8 b.toNat)).toArray t) := by
  have hsz : s.data.toList.length = s.size := Array.length_toList
  have hst := run_storeCells_at P g o t (s.data.toList.map fun b => Value.int .u8 b.toNat) 0 cur w hg (by rw [List.length_map, hsz]; simpa using hfit) (fun v hv => by
    obtain ⟨b, _, rfl⟩ := List.mem_map.1 hv; rfl)
  rw [setRow_putB hg] at hst
  simp only [Nat.add_zero, List.append_assoc] at hst
  have hext : ((s.extract 0 s.size).data.map fun b => Value.int .u8 b.toNat).toList = s.data.toList.map fun b => Value.int .u8 b.toNat := by
    rw [ByteArray.extract_zero_size]; simp
  cases hq : P.info? elem with
  | none => simp [hq] at hs
  | some i =>
    have hi : i.size = 1 := by simpa [hq] using hs
    have hmin : Nat.min s.size dLen = s.size := Nat.min_eq_left hn
    have hm2 : Nat.min s.size dLen = s.size := hmin
    have hcs : ((s.extract 0 s.size).data.map fun b => Value.int .u8 b.toNat).toList = s.data.toList.map fun b => Value.int .u8 b.toNat := hext
    unfold Builtin.copy_
    simp only [List.getElem?_toArray, List.getElem?_cons_zero, List.getElem?_cons_succ, Sem.run_bind, run_underlying hu, Result.andThen_ok, Builtin.lenOf, Builtin.firstCells, Sem.run_pure, sizeOf, typeInfo, hq, hi, hm2, hcs, hst]
    have hp : Sem.run P program w = .ok P w := rfl
    simp only [hp, Result.andThen_ok, hq, Sem.run_pure, hst]
    rfl
/-- a new variable of many cells -/
theorem wpList_alloc_Z {P : Program} {w : World} {ops : Array Oper} {rest : List Oper} {o : Oper} {a : Act} {Q : Exit → Act → World → Prop} (hgd : o.guard = none) (t : TypeId) (ho : o.op = .alloc t)
    (z : Array Value) (hz : (zeroValue t).run P w = .ok (.agg z) w) (h : wpList P ops Q rest (a.put o.dst (.pointer (some ⟨w.heap.size, 0, none⟩))) (w.alloc (.cells z t))) : wpList P ops Q (o :: rest) a w :=
  wpList_plain hgd fun _ hK => by
    have hrun : (Instr.alloc t true (.tuple #[])).run P w = .ok (.pointer (some ⟨w.heap.size, 0, none⟩)) (w.alloc (.cells z t)) := by
      unfold Instr.alloc
      rw [Sem.run_bind, hz]
      rfl
    unfold Oper.wp
    simp [execOp, ho, hrun, Result.andThen]
    exact hK _ _ h
theorem putB_alloc (w : World) (c cs : Array Value) (t t' : TypeId) : putB (w.alloc (.cells c t)) w.heap.size cs t' = w.alloc (.cells cs t') := by
  unfold putB World.alloc
  congr 1
  apply Array.ext_getElem?
  intro k
  simp only [Array.getElem?_setIfInBounds, Array.size_push]
  by_cases hk : w.heap.size = k
  · subst hk; simp
  · rw [if_neg hk, Array.getElem?_push, Array.getElem?_push, if_neg (Ne.symm hk), if_neg (Ne.symm hk)]
/-- a value of many cells into a variable that was just made -/
theorem wpList_store_new {P : Program} {w : World} {ops : Array Oper} {rest : List Oper} {o : Oper} {a : Act} {Q : Exit → Act → World → Prop} (hgd : o.guard = none) (ty : TypeId) (x y : Operand) (ho : o.op = .store ty x y)
    (z cells : Array Value) (hx : a.eval x = .pointer (some ⟨w.heap.size, 0, none⟩)) (hy : a.eval y = .agg cells) (hl : cells.size = z.size) (hi : (P.info? ty).map (·.size) = some cells.size) (h1 : ∀ u ∈ cells.toList, u.oneCell' = true) (t : TypeId)
    (h : wpList P ops Q rest (a.put o.dst undef) (w.alloc (.cells cells t))) : wpList P ops Q (o :: rest) a (w.alloc (.cells z t)) := by
  refine wpList_store_blk hgd ty x y ho w.heap.size 0 cells z t hx hy (blk_new w _) (by omega) hi h1 ?_
  rw [splice_full (by simpa using hl.symm), putB_alloc]
  simpa using h
/-- a value of many cells out of a block that is known -/
theorem wpList_load_blk {P : Program} {w : World} {ops : Array Oper} {rest : List Oper} {op : Oper} {a : Act} {Q : Exit → Act → World → Prop} (hgd : op.guard = none) (ty : TypeId) (x : Operand) (ho : op.op = .load ty x)
    (b : Nat) (hx : a.eval x = .pointer (some ⟨b, 0, none⟩)) (cs : List Value) (t : TypeId) (d : TypeDesc) (hc : w.heap[b]? = some (.cells cs.toArray t (0, 0)))
    (hu : P.underlying ty = some d) (hd : d.isRow = true) (hi : (P.info? ty).map (·.size) = some cs.length)
    (h : wpList P ops Q rest (a.put op.dst (.agg cs.toArray)) w) : wpList P ops Q (op :: rest) a w :=
  wpList_load_mid hgd ty x ho b 0 hx cs d (fun j v hv => by simp [World.cell?, hc, hv]) hu hd hi h
/-- a copy out of a string, as an operation -/
theorem wpList_copy_str {P : Program} {w : World} {ops : Array Oper} {rest : List Oper} {o : Oper} {a : Act} {Q : Exit → Act → World → Prop} (hgd : o.guard = none) (d s : Operand) (dT sT : TypeId)
    (ho : o.op = .call { callee := .builtin .copy, args := #[d, s], argTypes := #[dT, sT] }) {elem : TypeId} (hu : P.underlying dT = some (.slice elem)) (hsz : (P.info? elem).map (·.size) = some 1)
    (g off dLen dCap : Nat) (str : ByteArray) (hd : a.eval d = .slice (some ⟨g, off, none⟩) dLen dCap) (hs : a.eval s = .string str) {cur : Array Value} {t : TypeId} (hg : w.heap[g]? = some (.cells cur t (0, 0))) (hn : str.size ≤ dLen) (hfit : off + str.size ≤ cur.size)
    (h : wpList P ops Q rest (a.put o.dst (goInt str.size)) (putB w g (splice cur.toList off (str.data.toList.map fun b => Value.int .u8 b.toNat)).toArray t)) : wpList P ops Q (o :: rest) a w := by
  refine wpList_plain hgd fun K hK => ?_
  have hrun := run_copy_string (P := P) (w := w) (dT := dT) (sT := sT) (ty := o.type) (dCap := dCap) hu hsz hg hn hfit
  unfold Oper.wp
  simp only [execOp, ho, resolve, invoke, builtin, Sem.run_bind, Sem.run_pure, Result.andThen_ok, List.map_toArray, List.map_cons, List.map_nil, hd, hs, hrun]
  exact hK _ _ h
end Go.Proofs.Ytghgegghlefclaa

/- One cell stored into a block that is known. No program. -/
namespace Go.Proofs.Ytghgegghlefclaa
open Go.RowKit
theorem putB_putB (w : World) (b : Nat) (c c' : Array Value) (t t' : TypeId) : putB (putB w b c t) b c' t' = putB w b c' t' := by
  unfold putB
  simp [Array.setIfInBounds_setIfInBounds]
theorem splice_two {l : List Value} {o : Nat} {a b : Value} (h : o + 2 ≤ l.length) : splice (splice l o [a]) (o + 1) [b] = splice l o [a, b] := by
  apply List.ext_getElem?
  intro j
  have h1 : (splice l o [a]).length = l.length := length_splice _ _ _ (by simp; omega)
  rw [splice_get (by rw [h1]; simp; omega), splice_get (by simp; omega), splice_get (by simp; omega)]
  simp only [List.length_cons, List.length_nil, Nat.zero_add]
  by_cases h2 : j = o + 1
  · subst h2
    rw [if_pos (by omega), if_pos (by omega)]
    simp
  · rw [if_neg (by omega)]
    by_cases h3 : j = o
    · subst h3
      rw [if_pos (by omega), if_pos (by omega)]
      simp
    · rw [if_neg (by omega), if_neg (by omega)]
theorem wpList_store_one {P : Program} {ops : Array Oper} {rest : List Oper} {op : Oper} {a : Act} {w : World} {Q : Exit → Act → World → Prop} (hgd : op.guard = none) (ty : TypeId) (x y : Operand) (ho : op.op = .store ty x y)
    (b o : Nat) (v : Value) (cur : Array Value) (t : TypeId) (hx : a.eval x = .pointer (some ⟨b, o, none⟩)) (hy : a.eval y = v)
    (hg : w.heap[b]? = some (.cells cur t (0, 0))) (hfit : o + 1 ≤ cur.size) (hi : (P.info? ty).map (·.size) = some 1) (hv : v.cells = #[v]) (h1 : v.oneCell' = true)
    (h : wpList P ops Q rest (a.put op.dst undef) (putB w b (splice cur.toList o [v]).toArray t)) : wpList P ops Q (op :: rest) a w :=
  wpList_plain hgd fun _ hK => by
    have hst := run_storeCells_at P b o t [v] 0 cur w hg (by simpa using hfit) (by intro u hu; simp at hu; subst hu; exact h1)
    rw [setRow_putB hg] at hst
    have hrun : (storeVar ty ⟨b, o, none⟩ v).run P w = .ok () (putB w b (splice cur.toList o [v]).toArray t) := by
      cases hq : P.info? ty with
      | none => simp [hq] at hi
      | some i =>
        have hs : i.size = 1 := by simpa [hq] using hi
        simp only [Nat.add_zero, List.append_assoc] at hst
        simp [storeVar, sizeOf, typeInfo, hq, hv, hs, splice]
        simpa using hst
    unfold Oper.wp execOp
    simp only [ho, hx, hy, Instr.storeAt, Instr.sureAddr, Sem.run_bind, Sem.run_pure, Result.andThen_ok, hrun]
    exact hK _ _ h
end Go.Proofs.Ytghgegghlefclaa

/- Rules, writes, acks and devices in memory. -/
namespace Go.Proofs.Ytghgegghlefclaa
open Go.RowKit
def iv (n : Int) : Value := .int .i64 n
def ruL (r : Ru) : List Value := [.int .i64 r.pri, .int .i64 (r.msk 0), .int .i64 (r.msk 1), .int .i64 (r.msk 2), .int .i64 (r.msk 3), .int .i64 (r.msk 4), .int .i64 (r.msk 5), .int .i64 (r.msk 6), .int .i64 (r.msk 7), .int .i64 (r.msk 8), .int .i64 (r.msk 9), .int .i64 (r.bts 0), .int .i64 (r.bts 1), .int .i64 (r.bts 2), .int .i64 (r.bts 3), .int .i64 (r.bts 4), .int .i64 (r.bts 5), .int .i64 (r.bts 6), .int .i64 (r.bts 7), .int .i64 (r.bts 8), .int .i64 (r.bts 9), .int .i64 r.step, .slice r.oa r.on r.oc]
def ruC (r : Ru) : Array Value := (ruL r).toArray
def wrL (w : Wr) : List Value := .int .i64 w.ep :: .int .i64 w.seq :: .int .i64 w.kind :: ruL w.rule
def wrC (w : Wr) : Array Value := (wrL w).toArray
def akL (a : Ak) : List Value := [.int .i64 a.ep, .int .i64 a.seq, .int .i64 a.e]
def ERu (c : List Value) (r : Ru) : Prop := c = ruL r
def EWr (c : List Value) (w : Wr) : Prop := c = wrL w
def EAk (c : List Value) (a : Ak) : Prop := c = akL a
def EInt (c : List Value) (x : Int) : Prop := c = [.int .i64 x]
theorem ruL_len (r : Ru) : (ruL r).length = 23 := rfl
theorem wrL_len (w : Wr) : (wrL w).length = 26 := rfl
@[go_sem, simp] theorem ruC_size (r : Ru) : (ruC r).size = 23 := rfl
@[go_sem, simp] theorem wrC_size (w : Wr) : (wrC w).size = 26 := rfl
@[go_sem] theorem ruC_0 (r : Ru) : (ruC r)[0]? = some (.int .i64 r.pri) := rfl
@[go_sem] theorem ruC_21 (r : Ru) : (ruC r)[21]? = some (.int .i64 r.step) := rfl
@[go_sem] theorem ruC_22 (r : Ru) : (ruC r)[22]? = some (.slice r.oa r.on r.oc) := rfl
@[go_sem] theorem wrC_0 (w : Wr) : (wrC w)[0]? = some (.int .i64 w.ep) := rfl
@[go_sem] theorem wrC_1 (w : Wr) : (wrC w)[1]? = some (.int .i64 w.seq) := rfl
@[go_sem] theorem wrC_2 (w : Wr) : (wrC w)[2]? = some (.int .i64 w.kind) := rfl
@[go_sem] theorem wrC_3 (w : Wr) : (wrC w)[3]? = some (.int .i64 w.rule.pri) := rfl
@[go_sem] theorem wrC_24 (w : Wr) : (wrC w)[24]? = some (.int .i64 w.rule.step) := rfl
@[go_sem] theorem wrC_25 (w : Wr) : (wrC w)[25]? = some (.slice w.rule.oa w.rule.on w.rule.oc) := rfl
/-- the device's value -/
def devC (d : Dev) (ta : Option Addr) (tc : Nat) (qa : Option Addr) (qc : Nat) (da : Option Addr) (dc : Nat) (la : Option Addr) (lc : Nat) : Array Value :=
  #[.int .i64 d.room, .int .i64 d.ep, .slice ta d.table.length tc, .slice qa d.queue.length qc, .slice da d.done.length dc, .slice la d.lost.length lc, .bool d.early]
structure DevR (w : World) (M : Nat → Prop) (d : Dev) (ta : Option Addr) (tc : Nat) (qa : Option Addr) (qc : Nat) (da : Option Addr) (dc : Nat) (la : Option Addr) (lc : Nat) : Prop where
  rt : RdS w M 23 ERu (.slice ta d.table.length tc) d.table
  rq : RdS w M 26 EWr (.slice qa d.queue.length qc) d.queue
  rd : RdS w M 1 EInt (.slice da d.done.length dc) d.done
  rl : RdS w M 1 EInt (.slice la d.lost.length lc) d.lost
/-- a device told by a value -/
def DevV (w : World) (M : Nat → Prop) (v : Value) (d : Dev) : Prop := ∃ ta tc qa qc da dc la lc, v = .agg (devC d ta tc qa qc da dc la lc) ∧ DevR w M d ta tc qa qc da dc la lc
theorem eRu_one : ∀ c x, ERu c x → ∀ u ∈ c, u.oneCell' = true := by
  rintro c x rfl u hu
  unfold ruL at hu
  simp only [List.mem_cons, List.not_mem_nil, or_false] at hu
  rcases hu with rfl | rfl | rfl | rfl | rfl | rfl | rfl | rfl | rfl | rfl | rfl | rfl | rfl | rfl | rfl | rfl | rfl | rfl | rfl | rfl | rfl | rfl | rfl <;> rfl
theorem eWr_one : ∀ c x, EWr c x → ∀ u ∈ c, u.oneCell' = true := by
  rintro c x rfl u hu
  unfold wrL at hu
  rcases List.mem_cons.1 hu with rfl | hu
  · rfl
  rcases List.mem_cons.1 hu with rfl | hu
  · rfl
  rcases List.mem_cons.1 hu with rfl | hu
  · rfl
  exact eRu_one _ x.rule rfl u hu
theorem eAk_one : ∀ c x, EAk c x → ∀ u ∈ c, u.oneCell' = true := by
  rintro c x rfl u hu
  simp [akL] at hu
  rcases hu with rfl | rfl | rfl <;> rfl
theorem eInt_one : ∀ c x, EInt c x → ∀ u ∈ c, u.oneCell' = true := by
  rintro c x rfl u hu
  simp at hu; subst hu; rfl
section
variable {w w' : World} {M M' : Nat → Prop} {d : Dev} {ta qa da la : Option Addr} {tc qc dc lc : Nat} {v : Value}
theorem DevR.kept (h : DevR w M d ta tc qa qc da dc la lc) (k : Kept M w w') : DevR w' M d ta tc qa qc da dc la lc :=
  ⟨h.rt.kept k (fun _ _ x => x), h.rq.kept k (fun _ _ x => x), h.rd.kept k (fun _ _ x => x), h.rl.kept k (fun _ _ x => x)⟩
theorem DevR.mono (h : DevR w M d ta tc qa qc da dc la lc) (hm : ∀ i, i < w.heap.size → M' i → M i) : DevR w M' d ta tc qa qc da dc la lc :=
  ⟨h.rt.mono hm (by omega) (fun _ _ x => x), h.rq.mono hm (by omega) (fun _ _ x => x), h.rd.mono hm (by omega) (fun _ _ x => x), h.rl.mono hm (by omega) (fun _ _ x => x)⟩
theorem DevV.kept (h : DevV w M v d) (k : Kept M w w') : DevV w' M v d := by
  obtain ⟨ta, tc, qa, qc, da, dc, la, lc, rfl, r⟩ := h
  exact ⟨ta, tc, qa, qc, da, dc, la, lc, rfl, r.kept k⟩
theorem DevV.kept0 (h : DevV w M v d) (k : Kept NoM w w') : DevV w' M v d := h.kept k.of_no
theorem DevV.mono (h : DevV w M v d) (hm : ∀ i, i < w.heap.size → M' i → M i) : DevV w M' v d := by
  obtain ⟨ta, tc, qa, qc, da, dc, la, lc, rfl, r⟩ := h
  exact ⟨ta, tc, qa, qc, da, dc, la, lc, rfl, r.mono hm⟩
end
theorem tyTable : SlTy Try.prog 23 39 23 200 := SlTy.of (.agg (ruC ⟨0, fun _ => 0, fun _ => 0, 0, none, 0, 0⟩)) (by kernel_rfl) (by kernel_rfl) rfl (by omega)
theorem tyRules : SlTy Try.prog 22 39 23 200 := SlTy.of (.agg (ruC ⟨0, fun _ => 0, fun _ => 0, 0, none, 0, 0⟩)) (by kernel_rfl) (by kernel_rfl) rfl (by omega)
theorem tyWrites : SlTy Try.prog 24 41 26 224 := SlTy.of (.agg (wrC ⟨0, 0, 0, ⟨0, fun _ => 0, fun _ => 0, 0, none, 0, 0⟩⟩)) (by kernel_rfl) (by kernel_rfl) rfl (by omega)
theorem tyInts : SlTy Try.prog 25 3 1 8 := SlTy.of (.int .i64 0) (by kernel_rfl) (by kernel_rfl) rfl (by omega)
theorem tyAcks : SlTy Try.prog 43 60 3 24 := SlTy.of (.agg (akL ⟨0, 0, 0⟩).toArray) (by kernel_rfl) (by kernel_rfl) rfl (by omega)
theorem getAt {α : Type} {xs : List α} {k : Nat} (h : k < xs.length) : ∃ x, xs[k]? = some x := ⟨xs[k], by simp [h]⟩
end Go.Proofs.Ytghgegghlefclaa

/- A slice built of one value of many cells. -/
namespace Go.Proofs.Ytghgegghlefclaa
open Go.RowKit
theorem fold_set (l : List Value) (k : Nat) (acc : Array Value) (h : k + l.length ≤ acc.size) (j : Nat) :
    ((l.zipIdx k).foldl (fun (cs : Array Value) (x : Value × Nat) => cs.setIfInBounds x.snd x.fst) acc)[j]? = if k ≤ j ∧ j < k + l.length then l[j - k]? else acc[j]? := by
  induction l generalizing k acc with
  | nil => simp; omega
  | cons v l ih =>
    simp only [List.length_cons] at h
    rw [List.zipIdx_cons, List.foldl_cons, ih (k + 1) _ (by simp; omega)]
    simp only [List.length_cons]
    by_cases h1 : j = k
    · subst h1
      rw [if_neg (by omega), if_pos (by omega)]
      rw [Nat.sub_self, Array.getElem?_setIfInBounds_self_of_lt (by omega)]
      rfl
    · by_cases h2 : k + 1 ≤ j ∧ j < k + 1 + l.length
      · rw [if_pos h2, if_pos (by omega), show j - k = (j - (k + 1)) + 1 by omega, List.getElem?_cons_succ]
      · rw [if_neg h2, if_neg (by omega), Array.getElem?_setIfInBounds_ne (by omega)]
theorem fold_zip (zs cs : Array Value) (n : Nat) (h : zs.size = n) (h' : cs.size = n) : Array.foldl (fun (cs : Array Value) (x : Value × Nat) => cs.setIfInBounds x.snd x.fst) zs cs.zipIdx 0 n = cs := by
  have hn : n = cs.zipIdx.size := by simp [h']
  subst hn
  rw [← Array.foldl_toList, Array.toList_zipIdx]
  apply Array.ext_getElem?
  intro j
  rw [fold_set _ 0 _ (by simp at h ⊢; omega)]
  simp only [Nat.zero_add, Nat.zero_le, true_and, Nat.sub_zero]
  split
  · simp
  · rename_i hj
    rw [Array.getElem?_eq_none (by simp at h hj ⊢; omega), Array.getElem?_eq_none (by simpa using hj)]
@[go_sem] theorem build_ru (r : Ru) : Array.foldl (fun (cs : Array Value) (x : Value × Nat) => cs.setIfInBounds x.snd x.fst) #[Value.int .i64 0, Value.int .i64 0, Value.int .i64 0, Value.int .i64 0, Value.int .i64 0, Value.int .i64 0, Value.int .i64 0, Value.int .i64 0, Value.int .i64 0, Value.int .i64 0, Value.int .i64 0, Value.int .i64 0, Value.int .i64 0, Value.int .i64 0, Value.int .i64 0, Value.int .i64 0, Value.int .i64 0, Value.int .i64 0, Value.int .i64 0, Value.int .i64 0, Value.int .i64 0, Value.int .i64 0, Value.slice none 0 0] (ruC r).zipIdx 0 23 = ruC r := fold_zip _ _ _ rfl rfl
@[go_sem] theorem build_wr (r : Wr) : Array.foldl (fun (cs : Array Value) (x : Value × Nat) => cs.setIfInBounds x.snd x.fst) #[Value.int .i64 0, Value.int .i64 0, Value.int .i64 0, Value.int .i64 0, Value.int .i64 0, Value.int .i64 0, Value.int .i64 0, Value.int .i64 0, Value.int .i64 0, Value.int .i64 0, Value.int .i64 0, Value.int .i64 0, Value.int .i64 0, Value.int .i64 0, Value.int .i64 0, Value.int .i64 0, Value.int .i64 0, Value.int .i64 0, Value.int .i64 0, Value.int .i64 0, Value.int .i64 0, Value.int .i64 0, Value.int .i64 0, Value.int .i64 0, Value.int .i64 0, Value.slice none 0 0] (wrC r).zipIdx 0 26 = wrC r := fold_zip _ _ _ rfl rfl
end Go.Proofs.Ytghgegghlefclaa
