/- One cell stored into a block that is known. No program. -/
import Derived.Test.YtjcmnobfdidnkaaKAgg
set_option linter.unusedVariables false
set_option linter.unusedSimpArgs false
set_option linter.unusedSectionVars false
namespace Go.Proofs.Ytjcmnobfdidnkaa
open Go.RowKit
theorem putB_putB (w : World) (b : Nat) (c c' : Array Value) (t t' : TypeId) : putB (putB w b c t) b c' t' = putB w b c' t' := by
  unfold putB
  simp [Array.setIfInBounds_setIfInBounds]
theorem splice_two {l : List Value} {o : Nat} {a b : Value} (h : o + 2 ≤ l.length) : splice (splice l o [a]) (o + 1) [b] = splice l o [a, b] := by
  apply List.ext_getElem?
  intro j
  have h1 : (splice l o [a]).length = l.length := length_splice _ _ _ (by simp; omega)
  rw [splice_get (by rw [h1]; simp; omega), splice_get (by simp; omega), splice_get (by simp; omega)]
  simp only [List.length_cons, List.length_nil, Nat.zero_add]
  by_cases h2 : j = o + 1
  · subst h2
    rw [if_pos (by omega), if_pos (by omega)]
    simp
  · rw [if_neg (by omega)]
    by_cases h3 : j = o
    · subst h3
      rw [if_pos (by omega), if_pos (by omega)]
      simp
    · rw [if_neg (by omega), if_neg (by omega)]
theorem wpList_store_one {P : Program} {ops : Array Oper} {rest : List Oper} {op : Oper} {a : Act} {w : World} {Q : Exit → Act → World → Prop} (hgd : op.guard = none) (ty : TypeId) (x y : Operand) (ho : op.op = .store ty x y)
    (b o : Nat) (v : Value) (cur : Array Value) (t : TypeId) (hx : a.eval x = .pointer (some ⟨b, o, none⟩)) (hy : a.eval y = v)
    (hg : w.heap[b]? = some (.cells cur t (0, 0))) (hfit : o + 1 ≤ cur.size) (hi : (P.info? ty).map (·.size) = some 1) (hv : v.cells = #[v]) (h1 : v.oneCell' = true)
    (h : wpList P ops Q rest (a.put op.dst undef) (putB w b (splice cur.toList o [v]).toArray t)) : wpList P ops Q (op :: rest) a w :=
  wpList_plain hgd fun _ hK => by
    have hst := run_storeCells_at P b o t [v] 0 cur w hg (by simpa using hfit) (by intro u hu; simp at hu; subst hu; exact h1)
    rw [setRow_putB hg] at hst
    have hrun : (storeVar ty ⟨b, o, none⟩ v).run P w = .ok () (putB w b (splice cur.toList o [v]).toArray t) := by
      cases hq : P.info? ty with
      | none => simp [hq] at hi
      | some i =>
        have hs : i.size = 1 := by simpa [hq] using hi
        simp only [Nat.add_zero, List.append_assoc] at hst
        simp [storeVar, sizeOf, typeInfo, hq, hv, hs, splice]
        simpa using hst
    unfold Oper.wp execOp
    simp only [ho, hx, hy, Instr.storeAt, Instr.sureAddr, Sem.run_bind, Sem.run_pure, Result.andThen_ok, hrun]
    exact hK _ _ h
end Go.Proofs.Ytjcmnobfdidnkaa
