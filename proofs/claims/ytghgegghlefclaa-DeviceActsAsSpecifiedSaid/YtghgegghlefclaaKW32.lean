/- Walks: whether a write is formed: the program's parts. -/
import Derived.Test.YtghgegghlefclaaKW14
import Derived.Test.YtghgegghlefclaaKW9
import Derived.Test.YtghgegghlefclaaKW11
set_option linter.unusedVariables false
set_option linter.unusedSimpArgs false
set_option linter.unusedSectionVars false
namespace Go.Proofs.Ytghgegghlefclaa
open Go.RowKit
set_option maxHeartbeats 1000000
set_option maxRecDepth 8000
theorem bigCh : BigTy 100 26 := ⟨⟨_, Try.underlying100, rfl⟩, by kernel_rfl⟩
def ruZ0 : Ru := ⟨0, fun _ => 0, fun _ => 0, 0, none, 0, 0⟩
theorem outsZ (r : Ru) (w : World) : OutsC w r ruZ0 (decide (r.on = 0)) := by
  intro wx k
  by_cases h : r.on = 0
  · rw [decide_eq_true h, h]
    exact eqaa_nil _ _ _ _ wx
  · rw [decide_eq_false h]
    exact (eqaa_ne _ _ _ _ _ _ wx h).mono (fun e w' ⟨h1, h2⟩ => ⟨h1, h2 ▸ Kept.refl _ _⟩)
theorem bareZ (r : Ru) : (decide (r.pri = ruZ0.pri) && (sameF r.msk ruZ0.msk && sameF r.bts ruZ0.bts) && (decide (r.step = ruZ0.step) && decide (r.on = 0))) = (decide (r.pri = 0) && bareB r) := by
  show _ = (decide (r.pri = 0) && (zeroB r.msk && zeroB r.bts && decide (r.step = 0) && decide (r.on = 0)))
  show (decide (r.pri = 0) && (zeroB r.msk && zeroB r.bts) && (decide (r.step = 0) && decide (r.on = 0))) = _
  simp only [Bool.and_assoc]
theorem bare_ok (x : Wr) (w : World) : Calls Try.prog 77 #[.agg (wrC x)] w fun e w' => e = .returned (.bool (decide (x.rule.pri = 0) && bareB x.rule)) ∧ Kept NoM w w' := by
  have K0 := Lib.hid ((Kept.refl NoM w).alloc (.cells (wrC x) 100))
  have hb := blk_new w (.cells (wrC x) 100)
  have HR : Hid ((w.alloc (.cells (wrC x) 100)).rangeAt w.heap.size 3 (ruC x.rule).toList) := Lib.hid (fun j v hv => cell_blk hb (3 + j) v (wr_ru x hv))
  have TS := Lib.hid (tsrule_ok x.rule ruZ0 _ _ (outsZ x.rule (w.alloc (.cells (wrC x) 100))))
  rw [bareZ] at TS
  generalize (decide (x.rule.pri = 0) && bareB x.rule) = res at *
  clear hb
  go_enter Try.func77, Try.ntmps77
  go_wp2_with (first
    | (refine wpList_load_big bigRu rfl _ rfl w.heap.size 3 (ruC x.rule) rfl HR.out rfl ?_)
    | (go_at_call 66; refine TS.out.mono ?_; rintro e w1 ⟨rfl, k1⟩; have K1 := Lib.hid k1; clear k1))
  go_ret
  exact ⟨rfl, K0.out.trans K1.out⟩
theorem full_ok (x : Wr) (w : World) : Calls Try.prog 75 #[.agg (wrC x)] w fun e w' => e = .returned (.bool (okP x.rule.pri && rightB x.rule)) ∧ Kept NoM w w' := by
  have K0 := Lib.hid ((Kept.refl NoM w).alloc (.cells (wrC x) 100))
  have hb := blk_new w (.cells (wrC x) 100)
  have x3 := cell_blk hb 3 _ (wrC_3 x)
  have HR : Hid ((w.alloc (.cells (wrC x) 100)).rangeAt w.heap.size 4 (patC x.rule.msk x.rule.bts).toList) := Lib.hid (fun j v hv => cell_blk hb (4 + j) v (wr_pat x hv))
  have WI : Hid (∀ wx, Calls Try.prog 70 #[.int .i64 x.rule.pri, .int .i64 1, .int .i64 65535] wx fun e w' => e = .returned (.bool (okP x.rule.pri)) ∧ wx = w') := Lib.hid (fun wx => within_ok _ 1 65535 wx)
  have BR := Lib.hid (fun wx => bright_ok x.rule.msk x.rule.bts wx)
  rw [right_P]
  generalize rightP x.rule.msk x.rule.bts = r1 at *
  generalize okP x.rule.pri = p1 at *
  clear hb
  cases p1
  · go_enter Try.func75, Try.ntmps75
    go_wp2_with (first
      | (go_at_call 70; (with_reducible refine (WI.out _).mono ?_); rintro e w1 ⟨rfl, rfl⟩))
    go_ret
    exact ⟨by simp, K0.out⟩
  · go_enter Try.func75, Try.ntmps75
    go_wp2_with (first
      | (go_at_call 70; (with_reducible refine (WI.out _).mono ?_); rintro e w1 ⟨rfl, rfl⟩)
      | (refine wpList_load_bigG bigPat (by rfl) _ rfl w.heap.size 4 (patC x.rule.msk x.rule.bts) rfl HR.out rfl ?_)
      | (go_at_call 97; refine (BR.out _).mono ?_; rintro e w2 ⟨rfl, k1⟩; have K1 := Lib.hid k1; clear k1))
    go_ret
    exact ⟨by simp, K0.out.trans K1.out⟩
def zpri (x : Wr) : Wr := { x with rule := { x.rule with pri := 0 } }
theorem zpri_set (x : Wr) : (wrC x).setIfInBounds 3 (.int .i64 0) = wrC (zpri x) := rfl
theorem named_ok (x : Wr) (w : World) : Calls Try.prog 76 #[.agg (wrC x)] w fun e w' => e = .returned (.bool (okP x.rule.pri && bareB x.rule)) ∧ Kept NoM w w' := by
  have hb := blk_new w (.cells (wrC x) 100)
  have x3 := cell_blk hb 3 _ (wrC_3 x)
  have y3 := free_blk hb 3
  have KS := Lib.hid ((Kept.refl NoM w).alloc (.cells ((wrC x).setIfInBounds 3 (.int .i64 0)) 100))
  have HR := Lib.hid (blk_new w (.cells ((wrC x).setIfInBounds 3 (.int .i64 0)) 100))
  have HZ := Lib.hid (zpri_set x)
  have WI : Hid (∀ wx, Calls Try.prog 70 #[.int .i64 x.rule.pri, .int .i64 1, .int .i64 65535] wx fun e w' => e = .returned (.bool (okP x.rule.pri)) ∧ wx = w') := Lib.hid (fun wx => within_ok _ 1 65535 wx)
  have BA : Hid (∀ wx, Calls Try.prog 77 #[.agg (wrC (zpri x))] wx fun e w' => e = .returned (.bool (bareB x.rule)) ∧ Kept NoM wx w') := Lib.hid (fun wx => bare_ok (zpri x) wx)
  generalize bareB x.rule = r1 at *
  generalize okP x.rule.pri = p1 at *
  clear hb
  cases p1
  · go_enter Try.func76, Try.ntmps76
    go_wp2_with (first
      | (go_at_call 70; go_loud ((with_reducible refine (WI.out _).mono ?_); rintro e w1 ⟨rfl, rfl⟩; generalize w.alloc (Obj.cells ((wrC x).setIfInBounds 3 (Value.int IntKind.i64 0)) 100) = w9 at *)))
    go_ret
    exact ⟨by simp, KS.out⟩
  · go_enter Try.func76, Try.ntmps76
    go_wp2_with (first
      | (go_at_call 70; go_loud ((with_reducible refine (WI.out _).mono ?_); rintro e w1 ⟨rfl, rfl⟩; generalize w.alloc (Obj.cells ((wrC x).setIfInBounds 3 (Value.int IntKind.i64 0)) 100) = w9 at *; generalize (wrC x).setIfInBounds 3 (Value.int IntKind.i64 0) = cz at *; have hz := HZ.out; subst hz))
      | (refine wpList_load_bigG bigCh (by rfl) _ rfl w.heap.size 0 (wrC (zpri x)) rfl (range_blk HR.out) rfl ?_)
      | (go_at_call 77; refine (BA.out _).mono ?_; rintro e w2 ⟨rfl, k1⟩; have K1 := Lib.hid k1; clear k1))
    go_ret
    exact ⟨by simp, KS.out.trans K1.out⟩
end Go.Proofs.Ytghgegghlefclaa
