/- Texts that belong together: V5, V6. -/
import Derived.Test.YtghgegghlefclaaKV3
import Derived.ChangeKeysEq
import Derived.Laws.StructEq
set_option linter.unusedVariables false
set_option linter.unusedSimpArgs false
set_option linter.unusedSectionVars false
/- Patterns and heads in memory; bits of numbers; comparing values of many numbers. -/
namespace Go.Proofs.Ytghgegghlefclaa
open Go.RowKit
def headL (m : Nat → Int) : List Value := [.int .i64 (m 0), .int .i64 (m 1), .int .i64 (m 2), .int .i64 (m 3), .int .i64 (m 4), .int .i64 (m 5), .int .i64 (m 6), .int .i64 (m 7), .int .i64 (m 8), .int .i64 (m 9)]
def headC (m : Nat → Int) : Array Value := (headL m).toArray
def patC (m b : Nat → Int) : Array Value := (headL m ++ headL b).toArray
@[go_sem, simp] theorem headC_size (m : Nat → Int) : (headC m).size = 10 := rfl
@[go_sem, simp] theorem patC_size (m b : Nat → Int) : (patC m b).size = 20 := rfl
theorem head_at (m : Nat → Int) {k : Nat} (h : k < 10) : (headC m)[k]? = some (.int .i64 (m k)) := by
  match k, h with
  | 0, _ => rfl
  | 1, _ => rfl
  | 2, _ => rfl
  | 3, _ => rfl
  | 4, _ => rfl
  | 5, _ => rfl
  | 6, _ => rfl
  | 7, _ => rfl
  | 8, _ => rfl
  | 9, _ => rfl
theorem pat_fst (m b : Nat → Int) {j : Nat} {v : Value} (h : (headC m).toList[j]? = some v) : (patC m b)[j]? = some v := by
  have hj := (List.getElem?_eq_some_iff.1 h).1
  unfold patC headC at *
  simp only [List.getElem?_toArray] at *
  rw [List.getElem?_append_left hj]; exact h
theorem pat_snd (m b : Nat → Int) {j : Nat} {v : Value} (h : (headC b).toList[j]? = some v) : (patC m b)[10 + j]? = some v := by
  unfold patC headC at *
  simp only [List.getElem?_toArray] at *
  rw [List.getElem?_append_right (by simp [headL])]
  simpa [headL] using h
theorem ru_pat (r : Ru) {j : Nat} {v : Value} (h : (patC r.msk r.bts).toList[j]? = some v) : (ruC r)[1 + j]? = some v := by
  have hj := (List.getElem?_eq_some_iff.1 h).1
  have e : (ruC r).toList = .int .i64 r.pri :: ((patC r.msk r.bts).toList ++ [.int .i64 r.step, .slice r.oa r.on r.oc]) := rfl
  have : (ruC r).toList[1 + j]? = some v := by
    rw [e, Nat.add_comm, List.getElem?_cons_succ, List.getElem?_append_left hj]; exact h
  simpa using this
theorem wr_ru (x : Wr) {j : Nat} {v : Value} (h : (ruC x.rule).toList[j]? = some v) : (wrC x)[3 + j]? = some v := by
  have e : (wrC x).toList = [.int .i64 x.ep, .int .i64 x.seq, .int .i64 x.kind] ++ (ruC x.rule).toList := rfl
  have : (wrC x).toList[3 + j]? = some v := by
    rw [e, List.getElem?_append_right (by simp)]; simpa using h
  simpa using this
theorem wr_pat (x : Wr) {j : Nat} {v : Value} (h : (patC x.rule.msk x.rule.bts).toList[j]? = some v) : (wrC x)[4 + j]? = some v := by
  have := wr_ru x (j := 1 + j) (v := v) (by simpa using ru_pat x.rule h)
  rwa [← Nat.add_assoc] at this
theorem bigPat : BigTy 36 20 := ⟨⟨_, Try.underlying36, rfl⟩, by kernel_rfl⟩
theorem bigHead : BigTy 34 10 := ⟨⟨_, Try.underlying34, rfl⟩, by kernel_rfl⟩
/-! ### Bits -/
theorem bv_andnot (a b : BitVec 64) : a &&& ~~~b = 0#64 ↔ a &&& b = a := by
  constructor
  · intro h
    apply BitVec.eq_of_getLsbD_eq
    intro i hi
    have := congrArg (·.getLsbD i) h
    simp only [BitVec.getLsbD_and, BitVec.getLsbD_not, hi, decide_true, Bool.true_and, BitVec.getLsbD_zero] at this ⊢
    revert this
    cases a.getLsbD i <;> cases b.getLsbD i <;> simp
  · intro h
    apply BitVec.eq_of_getLsbD_eq
    intro i hi
    have := congrArg (·.getLsbD i) h
    simp only [BitVec.getLsbD_and, BitVec.getLsbD_not, hi, decide_true, Bool.true_and, BitVec.getLsbD_zero] at this ⊢
    revert this
    cases a.getLsbD i <;> cases b.getLsbD i <;> simp
theorem wrap_nat {n : Nat} (h : n < 65536) : IntKind.i64.wrap (n : Int) = n := by rw [IntKind.wrap_i64]; omega
theorem inW_iff {x : Int} : inW x = true ↔ 0 ≤ x ∧ x ≤ 65535 := by unfold inW; simp
theorem bits_and {b m : Int} (hb : inW b = true) (hm : inW m = true) : bits .and .i64 b m = ((b.toNat &&& m.toNat : Nat) : Int) := by
  rw [inW_iff] at hb hm
  obtain ⟨x, rfl⟩ := Int.eq_ofNat_of_zero_le hb.1
  obtain ⟨y, rfl⟩ := Int.eq_ofNat_of_zero_le hm.1
  have hx : x < 65536 := by omega
  have hy : y < 65536 := by omega
  have e0 : (BitVec.ofNat 64 x &&& BitVec.ofNat 64 y).toNat = x &&& y := by
    rw [BitVec.toNat_and, BitVec.toNat_ofNat, BitVec.toNat_ofNat, Nat.mod_eq_of_lt (show x < 2 ^ 64 by omega), Nat.mod_eq_of_lt (show y < 2 ^ 64 by omega)]
  have e2 : bits .and .i64 (x : Int) (y : Int) = ((BitVec.ofNat 64 x &&& BitVec.ofNat 64 y).toNat : Int) := by
    unfold bits
    simp only [IntKind.bits, BitVec.ofInt_natCast]
    exact wrap_nat (Nat.lt_of_le_of_lt (Nat.le_of_eq e0) (Nat.lt_of_le_of_lt (@Nat.and_le_left x y) hx))
  rw [e2, e0]
  simp
theorem sub_and {b m : Int} (hb : inW b = true) (hm : inW m = true) : (bits .and .i64 b m = b) ↔ subW b m = true := by
  rw [bits_and hb hm]
  rw [inW_iff] at hb hm
  unfold subW
  rw [decide_eq_true_eq]
  omega
theorem sub_andnot {b m : Int} (hb : inW b = true) (hm : inW m = true) : (bits .andNot .i64 b m = 0) ↔ subW b m = true := by
  rw [inW_iff] at hb hm
  obtain ⟨x, rfl⟩ := Int.eq_ofNat_of_zero_le hb.1
  obtain ⟨y, rfl⟩ := Int.eq_ofNat_of_zero_le hm.1
  have hx : x < 65536 := by omega
  have e1 : (BitVec.ofNat 64 x &&& ~~~BitVec.ofNat 64 y).toNat < 65536 := by
    rw [BitVec.toNat_and, BitVec.toNat_ofNat, Nat.mod_eq_of_lt (show x < 2 ^ 64 by omega)]
    have := @Nat.and_le_left x (~~~BitVec.ofNat 64 y).toNat
    omega
  have e2 : bits .andNot .i64 (x : Int) (y : Int) = ((BitVec.ofNat 64 x &&& ~~~BitVec.ofNat 64 y).toNat : Int) := by
    unfold bits
    simp only [IntKind.bits, BitVec.ofInt_natCast]
    exact wrap_nat e1
  rw [e2]
  unfold subW
  simp only [Int.toNat_natCast, decide_eq_true_eq]
  have e3 : ((BitVec.ofNat 64 x &&& ~~~BitVec.ofNat 64 y).toNat : Int) = 0 ↔ BitVec.ofNat 64 x &&& ~~~BitVec.ofNat 64 y = 0#64 := by
    rw [BitVec.toNat_eq]; simp
  rw [e3, bv_andnot, BitVec.toNat_eq, BitVec.toNat_and, BitVec.toNat_ofNat, BitVec.toNat_ofNat, Nat.mod_eq_of_lt (show x < 2 ^ 64 by omega), Nat.mod_eq_of_lt (show y < 2 ^ 64 by omega)]
/-! ### Comparing -/
def sameF (m m' : Nat → Int) : Bool := ten fun i => decide (m i = m' i)
theorem items_run {P : Program} {t : TypeId} {k k' : IntKind} (dd : Nat) (ht : P.underlying t = some (.int k')) (hp : P.plainKey t = true) (xs ys : Array Value) (a b : Nat → Int) (w : World) (is : List Nat)
    (h : ∀ i ∈ is, xs[i * 1]? = some (.int k (a i)) ∧ ys[i * 1]? = some (.int k (b i))) : (Op.eqItems (dd + 1) t 1 xs ys is).run P w = .ok (is.all fun i => decide (a i = b i)) w := by
  induction is with
  | nil => simp [Op.eqItems]
  | cons i is ih =>
    obtain ⟨h1, h2⟩ := h i List.mem_cons_self
    have ih' := ih (fun j hj => h j (List.mem_cons_of_mem _ hj))
    simp only [Op.eqItems, Sem.run_bind, run_part_plain w hp h1, run_part_plain w hp h2, Result.andThen_ok, run_equalIn_int w dd t k k' _ _ ht]
    by_cases e : a i = b i
    · simp [e, ih']
    · simp [e]
theorem head_eq (dd : Nat) (m m' : Nat → Int) (w : World) : (Op.equalIn (dd + 2) 34 (.agg (headC m)) (.agg (headC m'))).run Try.prog w = .ok (sameF m m') w := by
  obtain ⟨i, hi, hs⟩ : ∃ i, Try.prog.info? 3 = some i ∧ i.size = 1 := by
    have h : (Try.prog.info? 3).map (·.size) = some 1 := by kernel_rfl
    cases hi : Try.prog.info? 3 with
    | none => rw [hi] at h; cases h
    | some i => rw [hi] at h; exact ⟨i, rfl, by simpa using h⟩
  have hc : Try.prog.cellsOf 3 = 1 := by kernel_rfl
  rw [run_equalIn_array w (dd + 1) (e := 3) (n := 10) _ _ Try.underlying34 hi, hc]
  exact items_run dd Try.underlying3 (by kernel_rfl) _ _ m m' w _ (fun i hi => by
    have := List.mem_range.1 hi
    rw [Nat.mul_one]
    exact ⟨head_at m this, head_at m' this⟩)
theorem part_agg {t : TypeId} {n : Nat} (hA : ∀ w, (isAgg t).run Try.prog w = .ok true w) (hs : (Try.prog.info? t).map (·.size) = some n) (cs : Array Value) (off : Nat) (w : World) : (part t cs off).run Try.prog w = .ok (.agg (cs.extract off (off + n))) w := by
  cases hi : Try.prog.info? t with
  | none => rw [hi] at hs; cases hs
  | some i =>
    rw [hi] at hs
    have : i.size = n := by simpa using hs
    simp [part, hA, sizeOf, typeInfo, hi, this]
theorem isHead (w : World) : (isAgg 34).run Try.prog w = .ok true w := by kernel_rfl
theorem pat_eql (m b m' b' : Nat → Int) (w : World) : (binOp .eql 36 (.agg (patC m b)) (.agg (patC m' b'))).run Try.prog w = .ok (.bool (sameF m m' && sameF b b')) w := by
  have hp : ∀ cs off, (part 34 cs off).run Try.prog w = .ok (.agg (cs.extract off (off + 10))) w := fun cs off => part_agg isHead (by kernel_rfl) cs off w
  have e1 : ∀ m b, (patC m b).extract 0 (0 + 10) = headC m := fun m b => rfl
  have e2 : ∀ m b, (patC m b).extract 10 (10 + 10) = headC b := fun m b => rfl
  rw [run_eql_struct, show (10000 : Nat) = 9999 + 1 from rfl, run_equalIn_struct w 9999 36 _ _ (by kernel_rfl) (by kernel_rfl)]
  have hm : (Try.prog.fieldsOf 36).toList.map (fun f => (decide (f.name ≠ "_"), f.type, f.offset)) = [(true, 34, 0), (true, 34, 10)] := by kernel_rfl
  generalize (Try.prog.fieldsOf 36).toList = fs at hm ⊢
  rcases fs with _ | ⟨f1, _ | ⟨f2, _ | ⟨f3, fs⟩⟩⟩
  · cases hm
  · simp at hm
  · simp only [List.map_cons, List.map_nil, List.cons.injEq, Prod.mk.injEq, decide_eq_true_eq, and_true] at hm
    obtain ⟨⟨n1, t1, o1⟩, n2, t2, o2⟩ := hm
    simp only [Op.eqFields, n1, n2, t1, t2, o1, o2, ne_eq, not_false_eq_true, if_true, Sem.run_bind, Sem.run_ite, hp, e1, e2, Result.andThen_ok, head_eq 9997 m m' w, head_eq 9997 b b' w]
    cases sameF m m' <;> cases sameF b b' <;> simp
  · simp at hm
end Go.Proofs.Ytghgegghlefclaa

/- Comparing patterns, as an operation. -/
namespace Go.Proofs.Ytghgegghlefclaa
open Go.RowKit
theorem wpList_eql_pat {w : World} {ops : Array Oper} {rest : List Oper} {o : Oper} {a : Act} {Q : Exit → Act → World → Prop} (hw : Region.wanted o (yielded ops a.tmps) = true) (x y : Operand) (t : TypeId) (ho : o.op = .binOp .eql 36 x y t) (m b m' b' : Nat → Int) (hx : a.eval x = .agg (patC m b)) (hy : a.eval y = .agg (patC m' b'))
    (h : wpList Try.prog ops Q rest (a.put o.dst (.bool (sameF m m' && sameF b b'))) w) : wpList Try.prog ops Q (o :: rest) a w := by
  refine wpList_step fun K hK => ?_
  rw [if_pos hw]
  unfold Oper.wp execOp
  have hg := run_eqGuard_agg (P := Try.prog) w .eql 36 x y (patC m b) (patC m' b') (by kernel_rfl)
  simp only [ho, hx, hy, Sem.run_bind, hg, Result.andThen_ok, pat_eql, Sem.run_pure]
  exact hK _ _ h
end Go.Proofs.Ytghgegghlefclaa
