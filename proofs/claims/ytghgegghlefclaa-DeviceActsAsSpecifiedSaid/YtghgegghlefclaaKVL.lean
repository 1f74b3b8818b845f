/- Inserting, deleting, copying: rows of elements of many cells. Over any program. -/
import Derived.Test.YtghgegghlefclaaKAgg
import Derived.Lib.AppendZerosOnto
import Derived.Lib.Overlaps
import Derived.Laws.Externs
set_option linter.unusedVariables false
set_option linter.unusedSimpArgs false
set_option linter.unusedSectionVars false
namespace Go.Proofs.Ytghgegghlefclaa
open Go.RowKit
section
variable {α : Type} {f : α → List Value} {sz : Nat}
/-- the cells of a list of elements -/
def flat (f : α → List Value) (xs : List α) : List Value := (xs.map f).flatten
theorem flat_len (hf : ∀ x, (f x).length = sz) (xs : List α) : (flat f xs).length = xs.length * sz := by
  unfold flat
  rw [flatten_length (sz := sz)]
  · simp
  · intro c hc
    obtain ⟨x, _, rfl⟩ := List.mem_map.1 hc
    exact hf x
theorem flat_append (xs ys : List α) : flat f (xs ++ ys) = flat f xs ++ flat f ys := by unfold flat; simp
theorem flat_cons (x : α) (ys : List α) : flat f (x :: ys) = f x ++ flat f ys := by unfold flat; simp
theorem flatF_one (x : α) : flat f [x] = f x := by unfold flat; simp
theorem flat_at (hf : ∀ x, (f x).length = sz) {xs : List α} {i : Nat} {x : α} (hx : xs[i]? = some x) {j : Nat} {u : Value} (hu : (f x)[j]? = some u) : (flat f xs)[i * sz + j]? = some u := by
  unfold flat
  refine flatten_at ?_ i j (f x) u (by rw [List.getElem?_map, hx]; rfl) hu
  intro c hc
  obtain ⟨x, _, rfl⟩ := List.mem_map.1 hc
  exact hf x
theorem flat_one_cell (h1 : ∀ x, ∀ u ∈ f x, u.oneCell' = true) (xs : List α) : ∀ u ∈ flat f xs, u.oneCell' = true := by
  intro u hu
  unfold flat at hu
  obtain ⟨c, hc, hu⟩ := List.mem_flatten.1 hu
  obtain ⟨x, _, rfl⟩ := List.mem_map.1 hc
  exact h1 x u hu
/-- a list that reads in memory: its cells -/
theorem RdS.cellsF {w : World} {M : Nat → Prop} {E : List Value → α → Prop} (hE : ∀ c x, E c x → c = f x) (hf : ∀ x, (f x).length = sz) (h0 : 0 < sz) {b off n cap : Nat} {xs : List α} (h : RdS w M sz E (.slice (some ⟨b, off, none⟩) n cap) xs) :
    ∀ j u, (flat f xs)[j]? = some u → w.cell? ⟨b, off + j, none⟩ = some u := by
  intro j u hu
  have hj : j < (flat f xs).length := (List.getElem?_eq_some_iff.1 hu).1
  rw [flat_len hf] at hj
  have hq : j / sz < xs.length := Nat.div_lt_of_lt_mul (by rw [Nat.mul_comm]; exact hj)
  have hm := Nat.mod_lt j h0
  have hx : xs[j / sz]? = some (xs[j / sz]) := by simp [hq]
  obtain ⟨b', off', e1, _, cs, e2, _, e3⟩ := h.at hx
  simp only [Option.some.injEq, Addr.mk.injEq] at e1
  obtain ⟨rfl, rfl, _⟩ := e1
  obtain rfl := hE _ _ e2
  have hjm : (f xs[j / sz])[j % sz]? = some ((f xs[j / sz])[j % sz]'(by rw [hf]; exact hm)) := by simp [hf, hm]
  have e4 := flat_at hf hx hjm
  have e5 : j / sz * sz + j % sz = j := by rw [Nat.mul_comm]; exact Nat.div_add_mod j sz
  rw [e5, hu] at e4
  have := e3 _ _ hjm
  rw [← Option.some.inj e4, Nat.add_assoc, e5] at this
  exact this
theorem OwnS.openF {w : World} {O : Option Nat} {e : TypeId} {E : List Value → α → Prop} {v : Value} {xs : List α} (h : OwnS w O e sz E v xs) (hE : ∀ c x, E c x → c = f x) (hf : ∀ x, (f x).length = sz) (hn : 0 < xs.length) :
    ∃ g cap cur, v = .slice (some ⟨g, 0, none⟩) xs.length cap ∧ O = some g ∧ w.heap[g]? = some (.cells cur e (0, 0)) ∧ xs.length ≤ cap ∧ cap ≤ maxLen ∧ cur.size = cap * sz ∧ cur.toList.take (xs.length * sz) = flat f xs := by
  obtain ⟨cs, h1, h2, h3, h4⟩ := h.lens
  have h0 := h.1
  rcases h1.2 with ⟨rfl, hz⟩ | ⟨g, cap, cur, rfl, _, hg, hc, hm, hs, ht⟩
  · omega
  · refine ⟨g, cap, cur, rfl, by simpa [Value.ownBlock] using h0.symm, hg, hc, hm, hs, ?_⟩
    rw [ht]
    unfold flat
    congr 1
    apply List.ext_getElem?
    intro i
    by_cases hi : i < xs.length
    · have hx : xs[i]? = some xs[i] := by simp [hi]
      have hc : cs[i]? = some (cs[i]'(by omega)) := by simp [h2, hi]
      rw [hc, List.getElem?_map, hx]
      exact congrArg some (hE _ _ (h3 i _ _ hc hx).2)
    · rw [List.getElem?_eq_none (by omega), List.getElem?_eq_none (by simp; omega)]
theorem OwnS.closeF {w : World} {e : TypeId} {E : List Value → α → Prop} {xs : List α} {g cap n : Nat} {cur : Array Value} (hE : ∀ x, E (f x) x) (hf : ∀ x, (f x).length = sz) (hl : xs.length = n) (hg : w.heap[g]? = some (.cells cur e (0, 0))) (hc : n ≤ cap) (hm : cap ≤ maxLen) (hs : cur.size = cap * sz) (ht : cur.toList.take (n * sz) = flat f xs) :
    OwnS w (some g) e sz E (.slice (some ⟨g, 0, none⟩) n cap) xs := by
  subst hl
  refine ⟨rfl, xs.map f, ⟨?_, .inr ⟨g, cap, cur, rfl, Nat.zero_le _, hg, hc, hm, hs, ht⟩⟩, by simp, fun i c x hc hx => ?_⟩
  · exact flat_len hf xs
  · rw [List.getElem?_map, hx] at hc
    simp only [Option.map_some, Option.some.injEq] at hc
    subst hc
    exact ⟨hf x, hE x⟩
end
/-- shifting in place, then the new element -/
theorem shift_take {L A B X : List Value} {p q n : Nat} (hA : A.length = p) (hX : X.length = q) (hn : p + B.length = n) (hL : n + q ≤ L.length) (h : L.take n = A ++ B) :
    (splice (splice L (p + q) B) p X).take (n + q) = A ++ X ++ B := by
  have e1 : L.take p = A := by
    have : (L.take n).take p = A := by rw [h, ← hA]; simp
    rw [List.take_take] at this
    rw [← this]; congr 1; omega
  unfold splice
  have l1 : (L.take (p + q)).length = p + q := by simp; omega
  have e2 : (L.take (p + q) ++ B ++ L.drop (p + q + B.length)).take p = A := by
    rw [List.append_assoc, List.take_append_of_le_length (by omega), List.take_take, ← e1]; congr 1; omega
  have e3 : (L.take (p + q) ++ B ++ L.drop (p + q + B.length)).drop (p + q) = B ++ L.drop (p + q + B.length) := by
    rw [List.append_assoc, List.drop_append_of_le_length (by omega), List.drop_of_length_le (by omega)]; rfl
  simp only [← List.append_assoc] at e2 e3 ⊢
  rw [e2, hX, e3]
  rw [← List.append_assoc]
  have l2 : (A ++ X ++ B).length = n + q := by simp; omega
  rw [List.take_append_of_le_length (by omega), List.take_of_length_le (by omega)]
/-- into a row: the new element, then what stood behind -/
theorem grow_take {L A B X : List Value} {p q n : Nat} (hA : A.length = p) (hX : X.length = q) (hn : p + B.length = n) (hL : n + q ≤ L.length) (h : L.take p = A) :
    (splice (splice L p X) (p + q) B).take (n + q) = A ++ X ++ B := by
  unfold splice
  have l1 : (L.take p).length = p := by simp; omega
  have e2 : (L.take p ++ X ++ L.drop (p + X.length)).take (p + q) = A ++ X := by
    rw [h, List.take_append_of_le_length (by simp; omega), List.take_of_length_le (by simp; omega)]
  simp only [← List.append_assoc] at e2 ⊢
  rw [e2]
  have l2 : (A ++ X ++ B).length = n + q := by simp; omega
  rw [List.take_append_of_le_length (by omega), List.take_of_length_le (by omega)]
/-- what was behind a cut comes up to it -/
theorem cut_take {L A B : List Value} {p : Nat} (hA : A.length = p) (h : L.take p = A) : (splice L p B).take (p + B.length) = A ++ B := by
  unfold splice
  rw [h]
  simp only [← List.append_assoc]
  have l2 : (A ++ B).length = p + B.length := by simp; omega
  rw [List.take_append_of_le_length (by omega), List.take_of_length_le (by omega)]
section
variable {P : Program} {w : World}
/-- 'copy(d, s)' into a block that is known -/
theorem run_copy_big {dT sT ty elem : TypeId} {sz g o dLen dCap sLen sCap : Nat} {ad : Addr} {cs : List Value} {cur : Array Value} {t : TypeId} (hu : P.underlying dT = some (.slice elem)) (hs : (P.info? elem).map (·.size) = some sz)
    (hg : w.heap[g]? = some (.cells cur t (0, 0))) (hn : cs.length = Nat.min sLen dLen * sz) (hsrc : ∀ j u, cs[j]? = some u → w.cell? (ad.add j) = some u) (h1 : ∀ u ∈ cs, u.oneCell' = true) (hfit : o + cs.length ≤ cur.size) :
    (Builtin.copy_ #[dT, sT] ty #[.slice (some ⟨g, o, none⟩) dLen dCap, .slice (some ad) sLen sCap]).run P w = .ok (goInt (Nat.min sLen dLen)) (putB w g (splice cur.toList o cs).toArray t) := by
  have hst := run_storeCells_at P g o t cs 0 cur w hg (by simpa using hfit) h1
  rw [setRow_putB hg] at hst
  simp only [Nat.add_zero, List.append_assoc] at hst
  have hld := run_firstCells_some (P := P) w sz (Nat.min sLen dLen) ad sLen sCap cs hn hsrc
  cases hq : P.info? elem with
  | none => simp [hq] at hs
  | some i =>
    have hi : i.size = sz := by simpa [hq] using hs
    have hp : Sem.run P program w = .ok P w := rfl
    unfold Builtin.copy_
    simp only [List.getElem?_toArray, List.getElem?_cons_zero, List.getElem?_cons_succ, Sem.run_bind, run_underlying hu, Result.andThen_ok, Builtin.lenOf, Sem.run_pure, sizeOf, typeInfo, hq, hi, hp, hld, hst]
    rfl
theorem wpList_copy_big {ops : Array Oper} {rest : List Oper} {o : Oper} {a : Act} {Q : Exit → Act → World → Prop} (hgd : o.guard = none) (d s : Operand) (dT sT : TypeId)
    (ho : o.op = .call { callee := .builtin .copy, args := #[d, s], argTypes := #[dT, sT] }) {elem : TypeId} {sz : Nat} (hu : P.underlying dT = some (.slice elem)) (hsz : (P.info? elem).map (·.size) = some sz)
    (g off dLen dCap sLen sCap : Nat) (ad : Addr) (cs : List Value) (n : Nat) (hd : a.eval d = .slice (some ⟨g, off, none⟩) dLen dCap) (hs : a.eval s = .slice (some ad) sLen sCap) {cur : Array Value} {t : TypeId} (hg : w.heap[g]? = some (.cells cur t (0, 0)))
    (hmin : Nat.min sLen dLen = n) (hn : cs.length = n * sz) (hsrc : ∀ j u, cs[j]? = some u → w.cell? (ad.add j) = some u) (h1 : ∀ u ∈ cs, u.oneCell' = true) (hfit : off + cs.length ≤ cur.size)
    (h : wpList P ops Q rest (a.put o.dst (goInt n)) (putB w g (splice cur.toList off cs).toArray t)) : wpList P ops Q (o :: rest) a w := by
  refine wpList_plain hgd fun K hK => ?_
  subst hmin
  have hrun := run_copy_big (P := P) (w := w) (dT := dT) (sT := sT) (ty := o.type) (dCap := dCap) (sCap := sCap) hu hsz hg hn hsrc h1 hfit
  unfold Oper.wp
  simp only [execOp, ho, resolve, invoke, builtin, Sem.run_bind, Sem.run_pure, Result.andThen_ok, List.map_toArray, List.map_cons, List.map_nil, hd, hs, hrun]
  exact hK _ _ h
/-- an append at two slice types is one at the first -/
theorem run_append_types {t t2 ty e e2 : TypeId} (ht : P.underlying t = some (.slice e)) (ht2 : P.underlying t2 = some (.slice e2)) (b : Option Addr) (n c : Nat) (u : Value) : (Builtin.append_ #[t, t2] ty #[.slice b n c, u]).run P w = (Builtin.append_ #[t, t] ty #[.slice b n c, u]).run P w := by
  unfold Builtin.append_
  simp only [List.getElem?_toArray, List.getElem?_cons_zero, List.getElem?_cons_succ, Sem.run_bind, run_underlying ht, run_underlying ht2, Result.andThen_ok]
/-- append in place -/
theorem run_append_fits {t ty e : TypeId} {i : TypeInfo} (ht : P.underlying t = some (.slice e)) (hi : P.info? e = some i) {g n cap : Nat} {cur : Array Value} (hg : w.heap[g]? = some (.cells cur e (0, 0))) {ad : Addr} {m c : Nat} {cs : List Value} (hl : cs.length = m * i.size)
    (hcs : ∀ j u, cs[j]? = some u → w.cell? (ad.add j) = some u) (h1 : ∀ u ∈ cs, u.oneCell' = true) (hroom : n + m ≤ cap) (hfit : n * i.size + cs.length ≤ cur.size) :
    (Builtin.append_ #[t, t] ty #[.slice (some ⟨g, 0, none⟩) n cap, .slice (some ad) m c]).run P w = .ok (.slice (some ⟨g, 0, none⟩) (n + m) cap) (putB w g (splice cur.toList (n * i.size) cs).toArray e) := by
  rw [run_append_room w t ty e i ht hi g n cap cur hg ad m c cs hl hcs h1 hroom hfit, setRow_putB hg]
  unfold splice
  simp only [List.append_assoc]
/-- as an operation, its run being known -/
theorem wp_builtin_run {o : Oper} {a : Act} {K : Act → World → Prop} {Q : Exit → Act → World → Prop} (s x : Operand) (t t' : TypeId)
    (ho : o.op = .call { callee := .builtin .append, args := #[s, x], argTypes := #[t, t'] }) (v u : Value) (hv : a.eval s = v) (hu : a.eval x = u) {v' : Value} {w' : World}
    (hr : (Builtin.append_ #[t, t'] o.type #[v, u]).run P w = .ok v' w') (h : K (a.put o.dst v') w') : o.wp P a w K Q := by
  unfold Oper.wp execOp
  simp only [ho, resolve, invoke, builtin, Sem.run_bind, Sem.run_pure, Result.andThen_ok, List.map_toArray, List.map_cons, List.map_nil, hv, hu, hr]
  exact h
theorem wpList_append_r {ops : Array Oper} {rest : List Oper} {o : Oper} {a : Act} {Q : Exit → Act → World → Prop} (hgd : o.guard = none) (s x : Operand) (t t' : TypeId)
    (ho : o.op = .call { callee := .builtin .append, args := #[s, x], argTypes := #[t, t'] }) (v u : Value) (hv : a.eval s = v) (hu : a.eval x = u) {v' : Value} {w' : World}
    (hr : (Builtin.append_ #[t, t'] o.type #[v, u]).run P w = .ok v' w') (h : wpList P ops Q rest (a.put o.dst v') w') : wpList P ops Q (o :: rest) a w :=
  wpList_plain hgd fun _ hK => wp_builtin_run s x t t' ho v u hv hu hr (hK _ _ h)
theorem wp_copy_run {o : Oper} {a : Act} {K : Act → World → Prop} {Q : Exit → Act → World → Prop} (s x : Operand) (t t' : TypeId)
    (ho : o.op = .call { callee := .builtin .copy, args := #[s, x], argTypes := #[t, t'] }) (v u : Value) (hv : a.eval s = v) (hu : a.eval x = u) {v' : Value} {w' : World}
    (hr : (Builtin.copy_ #[t, t'] o.type #[v, u]).run P w = .ok v' w') (h : K (a.put o.dst v') w') : o.wp P a w K Q := by
  unfold Oper.wp execOp
  simp only [ho, resolve, invoke, builtin, Sem.run_bind, Sem.run_pure, Result.andThen_ok, List.map_toArray, List.map_cons, List.map_nil, hv, hu, hr]
  exact h
theorem wpList_copy_r {ops : Array Oper} {rest : List Oper} {o : Oper} {a : Act} {Q : Exit → Act → World → Prop} (hgd : o.guard = none) (s x : Operand) (t t' : TypeId)
    (ho : o.op = .call { callee := .builtin .copy, args := #[s, x], argTypes := #[t, t'] }) (v u : Value) (hv : a.eval s = v) (hu : a.eval x = u) {v' : Value} {w' : World}
    (hr : (Builtin.copy_ #[t, t'] o.type #[v, u]).run P w = .ok v' w') (h : wpList P ops Q rest (a.put o.dst v') w') : wpList P ops Q (o :: rest) a w :=
  wpList_plain hgd fun _ hK => wp_copy_run s x t t' ho v u hv hu hr (hK _ _ h)
/-- 'clear(s)' -/
theorem run_clear_big {t e ty : TypeId} {z : Value} {sz : Nat} (ht : P.underlying t = some (.slice e)) (hv : ∀ w, (zeroValue e).run P w = .ok z w) (hz : z.cells.size = sz) (h1 : ∀ u ∈ z.cells.toList, u.oneCell' = true) {g o n c : Nat} (hn : 0 < n) {cur : Array Value} (hg : w.heap[g]? = some (.cells cur e (0, 0))) (hfit : o + n * sz ≤ cur.size) (h0 : 0 < sz) :
    ∃ zs : List Value, zs.length = n * sz ∧ (Builtin.clear_ #[t] ty #[.slice (some ⟨g, o, none⟩) n c]).run P w = .ok (.tuple #[]) (putB w g (splice cur.toList o zs).toArray e) := by
  have hl : (Builtin.zeroCells z.cells n).toList.length = n * sz := by unfold Builtin.zeroCells; simp [hz]
  have ho : ∀ u ∈ (Builtin.zeroCells z.cells n).toList, u.oneCell' = true := by
    intro u hu
    unfold Builtin.zeroCells at hu
    simp only [Array.toList_map, List.mem_map] at hu
    obtain ⟨i, _, rfl⟩ := hu
    have hm : i % z.cells.size < z.cells.size := Nat.mod_lt _ (by omega)
    rw [getElem!_pos z.cells _ hm]
    exact h1 _ (by simp)
  have hst := run_storeCells_at P g o e (Builtin.zeroCells z.cells n).toList 0 cur w hg (by rw [hl]; simpa using hfit) ho
  rw [setRow_putB hg] at hst
  simp only [Nat.add_zero, List.append_assoc] at hst
  refine ⟨_, hl, ?_⟩
  obtain ⟨m, rfl⟩ : ∃ m, n = m + 1 := ⟨n - 1, by omega⟩
  simp [Builtin.clear_, run_underlying ht, hv, hst, splice]
theorem wpList_clear_r {ops : Array Oper} {rest : List Oper} {o : Oper} {a : Act} {Q : Exit → Act → World → Prop} (hgd : o.guard = none) (s : Operand) (t : TypeId)
    (ho : o.op = .call { callee := .builtin .clear, args := #[s], argTypes := #[t] }) (v : Value) (hv : a.eval s = v) {v' : Value} {w' : World}
    (hr : (Builtin.clear_ #[t] o.type #[v]).run P w = .ok v' w') (h : wpList P ops Q rest (a.put o.dst v') w') : wpList P ops Q (o :: rest) a w :=
  wpList_plain hgd fun K hK => by
    unfold Oper.wp execOp
    simp only [ho, resolve, invoke, builtin, Sem.run_bind, Sem.run_pure, Result.andThen_ok, List.map_toArray, List.map_cons, List.map_nil, hv, hr]
    exact hK _ _ h
end
end Go.Proofs.Ytghgegghlefclaa
