/- A map from ints to values that are told by codes, in memory. Over any program. -/
import Derived.Test.YtghgegghlefclaaKAgg
import Derived.Maps.RangeWalk
set_option linter.unusedVariables false
set_option linter.unusedSimpArgs false
set_option linter.unusedSectionVars false
namespace Go.Proofs.Ytghgegghlefclaa
open Go.RowKit
open Go.Maps (Keyed)
/-- how a value reads: by its code -/
def codeR (dec : Value → Option Int) (v : Value) : Option (DataW Unit × List MemPlace) := (dec v).map fun c => (.lit (.int .i64 c), [])
theorem wf64 {x : Int} (h1 : -9223372036854775808 ≤ x) (h2 : x ≤ 9223372036854775807) : (Lit.int .i64 x).wf = true := WalkArith.wf_i64 (by omega)
/-- block B is a map that holds just what g tells -/
def VMap (P : Program) (k : TypeId) (dec : Value → Option Int) (w : World) (B n : Nat) (g : Int → Option Int) : Prop :=
  ∃ D : DataW Unit, w.ownsMap P k (codeR dec) B n D ∧ (∀ x : Int, Maps.has D (.int .i64 x) = (g x).isSome) ∧ ∀ x c, g x = some c → ∀ zd, D.atKey (.int .i64 x) zd = .lit (.int .i64 c)
section
variable {P : Program} {k e t : TypeId} {w w' : World} {B n : Nat} {g : Int → Option Int} {dec : Value → Option Int}
theorem VMap.lt (h : VMap P k dec w B n g) : B < w.heap.size := by obtain ⟨D, h, _⟩ := h; exact h.lt
theorem VMap.blk (h : VMap P k dec w B n g) (hb : w'.heap[B]? = w.heap[B]?) : VMap P k dec w' B n g := by
  obtain ⟨D, ⟨es, c, h1, h2⟩, h3⟩ := h
  exact ⟨D, ⟨es, c, hb.trans h1, h2⟩, h3⟩
theorem VMap.kept {M : Nat → Prop} (h : VMap P k dec w B n g) (hk : Kept M w w') (hm : ¬ M B) : VMap P k dec w' B n g := h.blk (hk.block B h.lt hm)
theorem VMap.made (w : World) (P : Program) (k : TypeId) (dec : Value → Option Int) : VMap P k dec (w.alloc (.map #[] 0)) w.heap.size 0 (fun _ => none) :=
  ⟨.map [], World.ownsMap_made w P k _, fun x => rfl, fun x c h => by cases h⟩
theorem VMap.get (h : VMap P k dec w B n g) (hk : P.underlying k = some (.int .i64)) (ht : P.underlying t = some (.map k e)) {z : Value} {zc : Int} (hz : (zeroValue e).run P w = .ok z w) (hzc : dec z = some zc) (x : Int) (h1 : -9223372036854775808 ≤ x) (h2 : x ≤ 9223372036854775807) :
    ∃ v, (Instr.lookup t (.map (some B)) (.int .i64 x) false).run P w = .ok v w ∧ dec v = some ((g x).getD zc) := by
  obtain ⟨D, hD, d1, d2⟩ := h
  obtain ⟨v, ps, hrun, hv⟩ := hD.lookup (Maps.int_keyed hk) ht hz (zd := .lit (.int .i64 zc)) (zp := []) (by unfold codeR; rw [hzc]; rfl) (Maps.keyOf_int_mk hk (wf64 h1 h2))
  refine ⟨v, hrun, ?_⟩
  unfold codeR at hv
  cases hd : dec v with
  | none => rw [hd] at hv; cases hv
  | some c =>
    rw [hd] at hv
    simp only [Option.map_some, Option.some.injEq, Prod.mk.injEq] at hv
    obtain ⟨hv, _⟩ := hv
    cases hg : g x with
    | none =>
      have : Maps.has D (.int .i64 x) = false := by rw [d1, hg]; rfl
      rw [Maps.atKey_of_not_has this] at hv
      simp only [DataW.lit.injEq, Lit.int.injEq, true_and] at hv
      rw [hv]; rfl
    | some c' =>
      rw [d2 x c' hg] at hv
      simp only [DataW.lit.injEq, Lit.int.injEq, true_and] at hv
      rw [hv]; rfl
theorem VMap.put (h : VMap P k dec w B n g) (hk : P.underlying k = some (.int .i64)) (ht : P.underlying t = some (.map k e)) (hn : n < 1000000) (x : Int) (h1 : -9223372036854775808 ≤ x) (h2 : x ≤ 9223372036854775807) (v : Value) (c : Int) (hv : dec v = some c) :
    ∃ w', (Instr.mapUpdate t (.map (some B)) (.int .i64 x) v).run P w = .ok () w' ∧ VMap P k dec w' B (n + 1) (fun y => if y = x then some c else g y) ∧ Kept (fun b => b = B) w w' ∧ w'.heap.size = w.heap.size := by
  obtain ⟨D, hD, d1, d2⟩ := h
  obtain ⟨w', hrun, hD', hg⟩ := hD.store (Maps.int_keyed hk) ht (by unfold maxLen; omega) (Maps.keyOf_int_mk hk (wf64 h1 h2)) (d := .lit (.int .i64 c)) (ps := []) (by unfold codeR; rw [hv]; rfl)
  have hm := hD.isMap
  have hkl : WideAt.IsKeyLit (.int .i64 x) := (Maps.int_keyed hk).key (Maps.keyOf_int_mk hk (wf64 h1 h2))
  refine ⟨w', hrun, ⟨_, hD', ?_, ?_⟩, ⟨hg.grown.os, hg.grown.tape, hg.grown.output, hg.grown.size, fun i hi hne => hg.grown.block i hi (fun e => hne (by cases e; rfl))⟩, ?_⟩
  · intro y
    by_cases hx : y = x
    · subst hx
      show _ = (if y = y then some c else g y).isSome
      rw [if_pos rfl, Maps.has_put_same hm hkl]; rfl
    · show _ = (if y = x then some c else g y).isSome
      rw [if_neg hx, Maps.has_put_other (by simpa using hx), d1]
  · intro y q hq
    by_cases hx : y = x
    · subst hx
      have hq : (if y = y then some c else g y) = some q := hq
      rw [if_pos rfl] at hq
      cases hq
      exact fun zd => Maps.atKey_put_same hm hkl _ _
    · have hq : (if y = x then some c else g y) = some q := hq
      rw [if_neg hx] at hq
      exact fun zd => by rw [Maps.atKey_put_other (by simpa using hx)]; exact d2 y q hq zd
  · obtain ⟨es, c, es', c', hb, rfl⟩ := hg
    simp [Go.ChangeMaps.setBlock]
variable {ops : Array Oper} {rest : List Oper} {o : Oper} {a : Act} {Q : Exit → Act → World → Prop}
theorem wpList_get_V (hg : o.guard = none) (m x : Operand) (t : TypeId) (hop : o.op = Op.lookup t m x false) (hk : P.underlying k = some (.int .i64)) (ht : P.underlying t = some (.map k e)) {z : Value} {zc : Int} (hz : ∀ w, (zeroValue e).run P w = .ok z w) (hzc : dec z = some zc)
    (hm : a.eval m = .map (some B)) (h : VMap P k dec w B n g) (i : Int) (hx : a.eval x = .int .i64 i) (h1 : -9223372036854775808 ≤ i) (h2 : i ≤ 9223372036854775807)
    (hK : ∀ v, dec v = some ((g i).getD zc) → wpList P ops Q rest (a.put o.dst v) w) : wpList P ops Q (o :: rest) a w := by
  refine wpList_plain hg fun K' hK' => ?_
  obtain ⟨v, hrun, hv⟩ := h.get hk ht (hz w) hzc i h1 h2
  unfold Oper.wp
  simp [execOp, hop, hm, hx, hrun, Result.andThen]
  exact hK' _ _ (hK v hv)
theorem wpList_put_V (hg : o.guard = none) (m x v : Operand) (t : TypeId) (hop : o.op = Op.mapUpdate t m x v ∨ o.op = Op.insert t m x v) (hk : P.underlying k = some (.int .i64)) (ht : P.underlying t = some (.map k e)) (hn : n < 1000000)
    (hm : a.eval m = .map (some B)) (h : VMap P k dec w B n g) (i : Int) (hx : a.eval x = .int .i64 i) (h1 : -9223372036854775808 ≤ i) (h2 : i ≤ 9223372036854775807) (u : Value) (c : Int) (hv : a.eval v = u) (hc : dec u = some c)
    (hK : ∀ w', VMap P k dec w' B (n + 1) (fun y => if y = i then some c else g y) → Kept (fun b => b = B) w w' → w'.heap.size = w.heap.size → wpList P ops Q rest (a.put o.dst undef) w') : wpList P ops Q (o :: rest) a w := by
  refine wpList_plain hg fun K' hK' => ?_
  obtain ⟨w', hrun, r1, r2, r3⟩ := h.put hk ht hn i h1 h2 u c hc
  unfold Oper.wp
  rcases hop with hop | hop
  · simp [execOp, hop, hm, hx, hv, hrun, Result.andThen]
    exact hK' _ _ (hK w' r1 r2 r3)
  · simp [execOp, hop, hm, hx, hv, hrun, Result.andThen]
    exact hK' _ _ (hK w' r1 r2 r3)
end
/-- bools by codes -/
def decB : Value → Option Int
  | .bool b => some (if b then 1 else 0)
  | _ => none
theorem decB_inv {v : Value} {c : Int} (h : decB v = some c) : v = .bool (decide (c = 1)) := by
  unfold decB at h
  split at h
  · rename_i b
    simp only [Option.some.injEq] at h
    subst h
    cases b <;> rfl
  · cases h
/-- functions that capture nothing by codes; nil by -1 -/
def decF : Value → Option Int
  | .nilFunc => some (-1)
  | .func (.func g) fs lb => if fs = #[] ∧ lb = #[] then some (g : Int) else none
  | _ => none
theorem decF_nil {v : Value} (h : decF v = some (-1)) : v = .nilFunc := by
  unfold decF at h
  split at h
  · rfl
  · split at h
    · simp only [Option.some.injEq] at h; omega
    · cases h
  · cases h
theorem decF_fn {v : Value} {g : Nat} (h : decF v = some (g : Int)) : v = .func (.func g) #[] #[] := by
  unfold decF at h
  split at h
  · simp only [Option.some.injEq] at h; omega
  · split at h
    · rename_i hh
      simp only [Option.some.injEq] at h
      obtain ⟨rfl, rfl⟩ := hh
      have : ‹Nat› = g := by omega
      rw [this]
    · cases h
  · cases h
end Go.Proofs.Ytghgegghlefclaa
