/- Walks: comparing rules: the program. -/
import Derived.Test.YtghgegghlefclaaKW13
import Derived.Test.YtghgegghlefclaaKAgg
set_option linter.unusedVariables false
set_option linter.unusedSimpArgs false
set_option linter.unusedSectionVars false
namespace Go.Proofs.Ytghgegghlefclaa
open Go.RowKit
set_option maxHeartbeats 1000000
set_option maxRecDepth 8000
theorem wpStill_neq_al {ops : Array Oper} {rest : List Oper} {o : Oper} {a : Act} {W : World} {Q : Act → Prop} (hgd : o.guard = none) (x y : Operand) (t : TypeId) (ho : o.op = .binOp .neq 123 x y t) (a0 : Al) (hx : a.eval x = .agg (alC a0)) (hy : a.eval y = .agg (alC a0))
    (h : wpStill Try.prog ops W Q rest (a.put o.dst (.bool false))) : wpStill Try.prog ops W Q (o :: rest) a := by
  refine wpStill_step fun K hK => ?_
  have hw : Region.wanted o (yielded ops a.tmps) = true := by simp [Region.wanted, hgd]
  rw [if_pos hw]
  have hg := run_eqGuard_agg (P := Try.prog) W .neq 123 x y (alC a0) (alC a0) (by kernel_rfl)
  have hn : (binOp .neq 123 (.agg (alC a0)) (.agg (alC a0))).run Try.prog W = .ok (.bool false) W := by rw [run_neq_struct, al_same]; rfl
  unfold Oper.still execOp
  simp only [ho, hx, hy, Sem.run_bind, hg, Result.andThen_ok, hn, Sem.run_pure]
  exact ⟨rfl, hK _ h⟩
theorem wpList_neq_al {w : World} {ops : Array Oper} {rest : List Oper} {o : Oper} {a : Act} {Q : Exit → Act → World → Prop} (hgd : o.guard = none) (x y : Operand) (t : TypeId) (ho : o.op = .binOp .neq 123 x y t) (a0 : Al) (hx : a.eval x = .agg (alC a0)) (hy : a.eval y = .agg (alC a0))
    (h : wpList Try.prog ops Q rest (a.put o.dst (.bool false)) w) : wpList Try.prog ops Q (o :: rest) a w :=
  wpList_plain hgd fun _ hK => by
    unfold Oper.wp execOp
    have hg := run_eqGuard_agg (P := Try.prog) w .neq 123 x y (alC a0) (alC a0) (by kernel_rfl)
    have hn : (binOp .neq 123 (.agg (alC a0)) (.agg (alC a0))).run Try.prog w = .ok (.bool false) w := by rw [run_neq_struct, al_same]; rfl
    simp only [ho, hx, hy, Sem.run_bind, hg, Result.andThen_ok, hn, Sem.run_pure]
    exact hK _ _ h
theorem eqa_ok (a b : Value) (xs : List Al) (w : World) (ha : RdS w NoM 21 EAl a xs) (hb : RdS w NoM 21 EAl b xs) (hn : xs.length ≤ 1000000) : Calls Try.prog 107 #[a, b] w fun e w' => e = .returned (.bool true) ∧ ∃ n, w' = w.drewN n := by
  obtain ⟨aa, ac, rfl, _, _⟩ := ha.shape
  obtain ⟨ba, bc, rfl, _, _⟩ := hb.shape
  have HA := Lib.hid ha
  have HB := Lib.hid hb
  clear ha hb
  go_enter Try.func107, Try.ntmps107
  go_wp2_with fail
  go_loopw [13] (fun i wr => ∃ k n : Nat, k ≤ xs.length ∧ i = .int .i64 k ∧ wr = w.drewN n) (fun i _ => xs.length - (intOf i).toNat)
  case atStart => exact ⟨0, 0, Nat.zero_le _, rfl, rfl⟩
  case round =>
    obtain ⟨k, n, hk, rfl, rfl⟩ := hrel
    by_cases hlt : k < xs.length
    · have hki : (k : Int) < xs.length := by omega
      obtain ⟨x, hx⟩ := getAt hlt
      obtain ⟨b1, o1, e1, h1⟩ := al_at HA.out hx
      subst e1
      obtain ⟨b2, o2, e2, h2⟩ := al_at HB.out hx
      subst e2
      have H1 := Lib.hid h1
      have H2 := Lib.hid h2
      clear h1 h2 hx
      go_wp2_with fail
      go_still_tail 8, (by kernel_rfl)
      refine wpStill_load_big bigAl rfl _ rfl b1 (o1 + k * 21) (alC x) rfl (fun j v hv => H1.out j v hv) rfl ?_
      repeat still_step
      refine wpStill_load_big bigAl rfl _ rfl b2 (o2 + k * 21) (alC x) rfl (fun j v hv => H2.out j v hv) rfl ?_
      refine wpStill_nil ?_
      change wpList _ _ _ _ _ (w.drewN n).drew
      refine wpList_neq_al rfl _ _ _ rfl x rfl rfl ?_
      go_wp2_with fail
      go_roundw
      case rel => exact ⟨k + 1, n + 1, by omega, by go_num, rfl⟩
      case measure => simp [intOf]; omega
    · obtain rfl : k = xs.length := by omega
      have f1 := decide_eq_false (show ¬ ((xs.length : Nat) : Int) < xs.length by omega)
      have f2 := decide_eq_false (show ¬ xs.length < xs.length by omega)
      go_wp2_with fail
      go_ret
      exact ⟨rfl, n, rfl⟩
theorem talikec_ok (a b : Value) (xs : List Al) (w : World) (ha : RdS w NoM 21 EAl a xs) (hb : RdS w NoM 21 EAl b xs) (hn : xs.length ≤ 1000000) : Calls Try.prog 106 #[a, b] w fun e w' => e = .returned (.bool true) ∧ Kept NoM w w' := by
  have HC := Lib.hid (eqa_ok a b xs w ha hb hn)
  clear ha hb
  go_enter Try.func106, Try.ntmps106
  go_wp2_with (go_at_call 107; refine HC.out.mono ?_; rintro e w1 ⟨rfl, n, rfl⟩)
  go_ret
  exact ⟨rfl, (Kept.refl _ _).drewN _⟩
/-- the outputs: of another number -/
theorem eqaa_ne (a b : Option Addr) (n m c d : Nat) (w : World) (h : n ≠ m) : Calls Try.prog 105 #[.slice a n c, .slice b m d, .func (.func 106) #[] #[]] w fun e w' => e = .returned (.bool false) ∧ w = w' := by
  have f1 : ¬ (n : Int) = m := by omega
  have f2 : ((n : Int) != m) = true := by simp; omega
  clear h
  go_enter Try.func105, Try.ntmps105
  go_wp2_with fail
  go_ret
  exact ⟨rfl, rfl⟩
theorem eqaa_nil (a b : Option Addr) (c d : Nat) (w : World) : Calls Try.prog 105 #[.slice a 0 c, .slice b 0 d, .func (.func 106) #[] #[]] w fun e w' => e = .returned (.bool true) ∧ Kept NoM w w' := by
  go_enter Try.func105, Try.ntmps105
  go_wp2_with fail
  go_loop [17] (fun i => i = .int .i64 0) (fun _ => 0)
  case atStart => exact rfl
  case round =>
    obtain rfl := hrel
    go_wp2_with fail
    go_ret
    exact ⟨rfl, Kept.refl _ _⟩
theorem eqaa_ok (a b : Value) (xs : List (List Al)) (w : World) (ha : RdS w NoM 1 (EOut w) a xs) (hb : RdS w NoM 1 (EOut w) b xs) (hn : xs.length ≤ 1000000) (hs : ∀ l ∈ xs, l.length ≤ 1000000) :
    Calls Try.prog 105 #[a, b, .func (.func 106) #[] #[]] w fun e w' => e = .returned (.bool true) ∧ Kept NoM w w' := by
  obtain ⟨aa, ac, rfl, _, _⟩ := ha.shape
  obtain ⟨ba, bc, rfl, _, _⟩ := hb.shape
  have HA := Lib.hid ha
  have HB := Lib.hid hb
  have HS := Lib.hid hs
  clear ha hb hs
  go_enter Try.func105, Try.ntmps105
  go_wp2_with fail
  go_loopw [17] (fun i wr => ∃ k : Nat, k ≤ xs.length ∧ i = .int .i64 k ∧ Hid (Kept NoM w wr)) (fun i _ => xs.length - (intOf i).toNat)
  case atStart => exact ⟨0, Nat.zero_le _, rfl, Lib.hid (Kept.refl _ _)⟩
  case round =>
    obtain ⟨k, hk, rfl, hK⟩ := hrel
    by_cases hlt : k < xs.length
    · have hki : (k : Int) < xs.length := by omega
      obtain ⟨x, hx⟩ := getAt hlt
      obtain ⟨b1, o1, e1, _, cs1, ⟨a1, c1, rfl, r1⟩, _, h1⟩ := (HA.out.kept hK.out (fun _ _ x => x)).at hx
      subst e1
      obtain ⟨b2, o2, e2, _, cs2, ⟨a2, c2, rfl, r2⟩, _, h2⟩ := (HB.out.kept hK.out (fun _ _ x => x)).at hx
      subst e2
      have x1 := h1 0 _ rfl
      have x2 := h2 0 _ rfl
      simp only [Nat.mul_one, Nat.add_zero] at x1 x2
      have HC := Lib.hid (talikec_ok _ _ x wr (r1.kept hK.out (fun _ _ x => x)) (r2.kept hK.out (fun _ _ x => x)) (HS.out x (List.mem_of_getElem? hx)))
      clear h1 h2 hx r1 r2
      go_wp2_with (go_at_call 106; refine HC.out.mono ?_; rintro e w1 ⟨rfl, k1⟩; have K1 := Lib.hid (hK.out.trans k1); clear k1)
      go_roundw
      case rel => exact ⟨k + 1, by omega, by go_num, K1⟩
      case measure => simp [intOf]; omega
    · obtain rfl : k = xs.length := by omega
      have f1 := decide_eq_false (show ¬ ((xs.length : Nat) : Int) < xs.length by omega)
      have f2 := decide_eq_false (show ¬ xs.length < xs.length by omega)
      go_wp2_with fail
      go_ret
      exact ⟨rfl, hK.out⟩
/-- how two rules' outputs compare: a premise -/
def OutsC (w : World) (r s : Ru) (t : Bool) : Prop := ∀ wx, Kept NoM w wx → Calls Try.prog 105 #[.slice r.oa r.on r.oc, .slice s.oa s.on s.oc, .func (.func 106) #[] #[]] wx fun e w' => e = .returned (.bool t) ∧ Kept NoM wx w'
theorem talike_ok (r s : Ru) (t : Bool) (w : World) (ho : OutsC w r s t) : Calls Try.prog 95 #[.agg (ruC r), .agg (ruC s)] w fun e w' => e = .returned (.bool (decide (r.step = s.step) && t)) ∧ Kept NoM w w' := by
  have KK := Lib.hid (((Kept.refl NoM w).alloc (.cells (ruC r) 39)).alloc (.cells (ruC s) 39))
  have HC := Lib.hid (ho _ KK.out)
  clear ho
  by_cases h1 : r.step = s.step
  · have f1 : (r.step == s.step) = true := by simpa using h1
    have HT := Lib.hid (decide_eq_true h1)
    clear h1
    go_enter Try.func95, Try.ntmps95
    go_wp2_with (go_at_call 105; refine HC.out.mono ?_; rintro e w1 ⟨rfl, k1⟩; have K1 := Lib.hid (KK.out.trans k1); clear k1)
    go_ret
    rw [HT.out]
    exact ⟨rfl, K1.out⟩
  · have f1 : (r.step == s.step) = false := by simpa using h1
    have HT := Lib.hid (decide_eq_false h1)
    clear h1
    go_enter Try.func95, Try.ntmps95
    go_wp2_with fail
    go_ret
    rw [HT.out]
    exact ⟨rfl, KK.out⟩
theorem tsrule_ok (r s : Ru) (t : Bool) (w : World) (ho : OutsC w r s t) : Calls Try.prog 66 #[.agg (ruC r), .agg (ruC s)] w fun e w' => e = .returned (.bool (decide (r.pri = s.pri) && (sameF r.msk s.msk && sameF r.bts s.bts) && (decide (r.step = s.step) && t))) ∧ Kept NoM w w' := by
  have KK := Lib.hid (((Kept.refl NoM w).alloc (.cells (ruC r) 39)).alloc (.cells (ruC s) 39))
  have hb1 := blk_old (blk_new w (.cells (ruC r) 39)) (.cells (ruC s) 39)
  have hb2 := blk_new' (w.alloc (.cells (ruC r) 39)) (.cells (ruC s) 39) (w.heap.size + 1) (by simp)
  have HB1 := Lib.hid hb1
  have HB2 := Lib.hid hb2
  have HC := Lib.hid (talike_ok r s t _ (fun wx k => ho wx (KK.out.trans k)))
  clear ho hb1 hb2
  generalize (decide (r.step = s.step) && t) = z2 at *
  by_cases h1 : r.pri = s.pri
  · have f1 : (r.pri == s.pri) = true := by simpa using h1
    have HT := Lib.hid (decide_eq_true h1)
    clear h1
    cases hz : (sameF r.msk s.msk && sameF r.bts s.bts) <;> have HZ := Lib.hid hz <;> clear hz
    all_goals
      go_enter Try.func66, Try.ntmps66
      go_wp2_with (first
        | (refine wpList_load_bigG bigPat (by rfl) _ rfl w.heap.size 1 (patC r.msk r.bts) rfl (fun j v hv => cell_blk HB1.out (1 + j) v (ru_pat r hv)) rfl ?_)
        | (refine wpList_load_bigG bigPat (by rfl) _ rfl (w.heap.size + 1) 1 (patC s.msk s.bts) rfl (fun j v hv => cell_blk HB2.out (1 + j) v (ru_pat s hv)) rfl ?_)
        | (refine wpList_eql_pat (by rfl) _ _ _ rfl r.msk r.bts s.msk s.bts rfl rfl ?_; rw [HZ.out])
        | (refine wpList_load_bigG bigRu (by rfl) _ rfl w.heap.size 0 (ruC r) rfl (range_blk HB1.out) rfl ?_)
        | (refine wpList_load_bigG bigRu (by rfl) _ rfl (w.heap.size + 1) 0 (ruC s) rfl (range_blk HB2.out) rfl ?_)
        | (go_at_call 95; refine HC.out.mono ?_; rintro e w1 ⟨rfl, k1⟩; have K1 := Lib.hid (KK.out.trans k1); clear k1))
      go_ret
      rw [HT.out]
      first
      | exact ⟨rfl, K1.out⟩
      | exact ⟨rfl, KK.out⟩
  · have f1 : (r.pri == s.pri) = false := by simpa using h1
    have HT := Lib.hid (decide_eq_false h1)
    clear h1
    go_enter Try.func66, Try.ntmps66
    go_wp2_with fail
    go_ret
    rw [HT.out]
    exact ⟨rfl, KK.out⟩
end Go.Proofs.Ytghgegghlefclaa
