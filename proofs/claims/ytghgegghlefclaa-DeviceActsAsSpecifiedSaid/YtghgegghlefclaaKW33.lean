/- Walks: whether a write is formed: the program. -/
import Derived.Test.YtghgegghlefclaaKW32
import Derived.Test.YtghgegghlefclaaKVM
set_option linter.unusedVariables false
set_option linter.unusedSimpArgs false
set_option linter.unusedSectionVars false
namespace Go.Proofs.Ytghgegghlefclaa
open Go.RowKit
set_option maxHeartbeats 1000000
set_option maxRecDepth 8000
def formF : Int → Option Int := fun y => if y = 3 then some (77 : Nat) else (if y = 2 then some (76 : Nat) else if y = 1 then some (75 : Nat) else none)
theorem formed_ok (x : Wr) (w : World) (hk1 : -9223372036854775808 ≤ x.kind) (hk2 : x.kind ≤ 9223372036854775807) : Calls Try.prog 41 #[.agg (wrC x)] w fun e w' => e = .returned (.bool (formedB x)) ∧ Kept NoM w w' := by
  have K0 := Lib.hid (((Kept.refl NoM w).alloc (.cells (wrC x) 41)).alloc (.map #[] 0))
  have HB0 := Lib.hid (blk_old (blk_new w (.cells (wrC x) 41)) (.map #[] 0))
  have V0 := Lib.hid (VMap.made (w.alloc (.cells (wrC x) 41)) Try.prog 3 decF)
  have hsz : (w.alloc (.cells (wrC x) 41)).heap.size = w.heap.size + 1 := by simp
  rw [hsz] at V0
  have HE := Lib.hid (formed_eq x)
  have N1 : Hid (∀ wx, Calls Try.prog 70 #[.int .i64 x.ep, .int .i64 1, .int .i64 1073741824] wx fun e w' => e = .returned (.bool (okN x.ep)) ∧ wx = w') := Lib.hid (fun wx => within_ok _ 1 1073741824 wx)
  have N2 : Hid (∀ wx, Calls Try.prog 70 #[.int .i64 x.seq, .int .i64 1, .int .i64 1073741824] wx fun e w' => e = .returned (.bool (okN x.seq)) ∧ wx = w') := Lib.hid (fun wx => within_ok _ 1 1073741824 wx)
  have C1 := Lib.hid (fun wx => full_ok x wx)
  have C2 := Lib.hid (fun wx => named_ok x wx)
  have C3 := Lib.hid (fun wx => bare_ok x wx)
  generalize formedB x = res at *
  generalize okN x.ep = n1 at *
  generalize okN x.seq = n2 at *
  generalize (okP x.rule.pri && rightB x.rule) = b1 at *
  generalize (okP x.rule.pri && bareB x.rule) = b2 at *
  generalize (decide (x.rule.pri = 0) && bareB x.rule) = b3 at *
  have hmm := @run_makeMap Try.prog
  have hn0 : ∀ w, Sem.run Try.prog (binOp .neq 98 .nilFunc .nilFunc) w = .ok (.bool false) w := fun w => by kernel_rfl
  have hn1 : ∀ w, Sem.run Try.prog (binOp .neq 98 (.func (.func 75) #[] #[]) .nilFunc) w = .ok (.bool true) w := fun w => by kernel_rfl
  have hn2 : ∀ w, Sem.run Try.prog (binOp .neq 98 (.func (.func 76) #[] #[]) .nilFunc) w = .ok (.bool true) w := fun w => by kernel_rfl
  have hn3 : ∀ w, Sem.run Try.prog (binOp .neq 98 (.func (.func 77) #[] #[]) .nilFunc) w = .ok (.bool true) w := fun w => by kernel_rfl
  rcases (show x.kind = 1 ∨ x.kind = 2 ∨ x.kind = 3 ∨ (x.kind ≠ 1 ∧ x.kind ≠ 2 ∧ x.kind ≠ 3) by omega) with hk | hk | hk | ⟨hk, hk3, hk4⟩
  · have HE1 := Lib.hid (HE.out.trans (by simp [hk]) : res = (n1 && n2 && b1))
    cases n1 <;> cases n2
    all_goals
      go_enter Try.func41, Try.ntmps41
      go_wp2_with (first
      | (refine wpList_put_V rfl _ _ _ _ (.inr rfl) (k := 3) Try.underlying3 Try.underlying101 (by omega) rfl V0.out 1 rfl (by omega) (by omega) (.func (.func 75) #[] #[]) (75 : Nat) rfl rfl ?_; intro w1 v1 k1 s1; have V1 := Lib.hid v1; have K1 := Lib.hid k1; clear v1 k1 V0)
      | (refine wpList_put_V rfl _ _ _ _ (.inr rfl) (k := 3) Try.underlying3 Try.underlying101 (by omega) rfl V1.out 2 rfl (by omega) (by omega) (.func (.func 76) #[] #[]) (76 : Nat) rfl rfl ?_; intro w2 v1 k1 s2; have V2 := Lib.hid v1; have K2 := Lib.hid k1; clear v1 k1 V1)
      | (refine wpList_put_V rfl _ _ _ _ (.inr rfl) (k := 3) Try.underlying3 Try.underlying101 (by omega) rfl V2.out 3 rfl (by omega) (by omega) (.func (.func 77) #[] #[]) (77 : Nat) rfl rfl ?_; intro w3 v1 k1 s3; have V3 := Lib.hid v1; have K3 := Lib.hid (K0.out.trans' ((K1.out.trans K2.out).trans k1) (fun i hi e => by omega)); have HB := Lib.hid (((K1.out.trans K2.out).trans k1).blk HB0.out (by omega)); have y0 := cell_blk HB.out 0 _ (wrC_0 x); have y1 := cell_blk HB.out 1 _ (wrC_1 x); have y2 := cell_blk HB.out 2 _ (wrC_2 x); clear v1 k1 V2)
      | (refine wpList_get_V rfl _ _ _ rfl (k := 3) Try.underlying3 Try.underlying101 (z := .nilFunc) (zc := -1) (fun w => by kernel_rfl) rfl rfl V3.out 1 rfl (by omega) (by omega) ?_; intro v hv; obtain rfl := decF_fn (g := 75) (by simpa using hv); clear hv)
      | (refine wpList_load_bigG bigWr (by rfl) _ rfl w.heap.size 0 (wrC x) rfl (range_blk HB.out) rfl ?_)
      | (go_at_call 70; (with_reducible refine (N1.out _).mono ?_); rintro e w4 ⟨rfl, rfl⟩)
      | (go_at_call 70; (with_reducible refine (N2.out _).mono ?_); rintro e w4 ⟨rfl, rfl⟩)
      | (go_at_call 75; refine (C1.out _).mono ?_; rintro e w4 ⟨rfl, k1⟩; have K4 := Lib.hid k1; clear k1))
      go_ret
      first
        | exact ⟨by rw [HE1.out]; simp, K3.out.trans K4.out⟩
        | exact ⟨by rw [HE1.out]; simp, K3.out⟩
  · have HE1 := Lib.hid (HE.out.trans (by simp [hk]) : res = (n1 && n2 && b2))
    cases n1 <;> cases n2
    all_goals
      go_enter Try.func41, Try.ntmps41
      go_wp2_with (first
      | (refine wpList_put_V rfl _ _ _ _ (.inr rfl) (k := 3) Try.underlying3 Try.underlying101 (by omega) rfl V0.out 1 rfl (by omega) (by omega) (.func (.func 75) #[] #[]) (75 : Nat) rfl rfl ?_; intro w1 v1 k1 s1; have V1 := Lib.hid v1; have K1 := Lib.hid k1; clear v1 k1 V0)
      | (refine wpList_put_V rfl _ _ _ _ (.inr rfl) (k := 3) Try.underlying3 Try.underlying101 (by omega) rfl V1.out 2 rfl (by omega) (by omega) (.func (.func 76) #[] #[]) (76 : Nat) rfl rfl ?_; intro w2 v1 k1 s2; have V2 := Lib.hid v1; have K2 := Lib.hid k1; clear v1 k1 V1)
      | (refine wpList_put_V rfl _ _ _ _ (.inr rfl) (k := 3) Try.underlying3 Try.underlying101 (by omega) rfl V2.out 3 rfl (by omega) (by omega) (.func (.func 77) #[] #[]) (77 : Nat) rfl rfl ?_; intro w3 v1 k1 s3; have V3 := Lib.hid v1; have K3 := Lib.hid (K0.out.trans' ((K1.out.trans K2.out).trans k1) (fun i hi e => by omega)); have HB := Lib.hid (((K1.out.trans K2.out).trans k1).blk HB0.out (by omega)); have y0 := cell_blk HB.out 0 _ (wrC_0 x); have y1 := cell_blk HB.out 1 _ (wrC_1 x); have y2 := cell_blk HB.out 2 _ (wrC_2 x); clear v1 k1 V2)
      | (refine wpList_get_V rfl _ _ _ rfl (k := 3) Try.underlying3 Try.underlying101 (z := .nilFunc) (zc := -1) (fun w => by kernel_rfl) rfl rfl V3.out 2 rfl (by omega) (by omega) ?_; intro v hv; obtain rfl := decF_fn (g := 76) (by simpa using hv); clear hv)
      | (refine wpList_load_bigG bigWr (by rfl) _ rfl w.heap.size 0 (wrC x) rfl (range_blk HB.out) rfl ?_)
      | (go_at_call 70; (with_reducible refine (N1.out _).mono ?_); rintro e w4 ⟨rfl, rfl⟩)
      | (go_at_call 70; (with_reducible refine (N2.out _).mono ?_); rintro e w4 ⟨rfl, rfl⟩)
      | (go_at_call 76; refine (C2.out _).mono ?_; rintro e w4 ⟨rfl, k1⟩; have K4 := Lib.hid k1; clear k1))
      go_ret
      first
        | exact ⟨by rw [HE1.out]; simp, K3.out.trans K4.out⟩
        | exact ⟨by rw [HE1.out]; simp, K3.out⟩
  · have HE1 := Lib.hid (HE.out.trans (by simp [hk]) : res = (n1 && n2 && b3))
    cases n1 <;> cases n2
    all_goals
      go_enter Try.func41, Try.ntmps41
      go_wp2_with (first
      | (refine wpList_put_V rfl _ _ _ _ (.inr rfl) (k := 3) Try.underlying3 Try.underlying101 (by omega) rfl V0.out 1 rfl (by omega) (by omega) (.func (.func 75) #[] #[]) (75 : Nat) rfl rfl ?_; intro w1 v1 k1 s1; have V1 := Lib.hid v1; have K1 := Lib.hid k1; clear v1 k1 V0)
      | (refine wpList_put_V rfl _ _ _ _ (.inr rfl) (k := 3) Try.underlying3 Try.underlying101 (by omega) rfl V1.out 2 rfl (by omega) (by omega) (.func (.func 76) #[] #[]) (76 : Nat) rfl rfl ?_; intro w2 v1 k1 s2; have V2 := Lib.hid v1; have K2 := Lib.hid k1; clear v1 k1 V1)
      | (refine wpList_put_V rfl _ _ _ _ (.inr rfl) (k := 3) Try.underlying3 Try.underlying101 (by omega) rfl V2.out 3 rfl (by omega) (by omega) (.func (.func 77) #[] #[]) (77 : Nat) rfl rfl ?_; intro w3 v1 k1 s3; have V3 := Lib.hid v1; have K3 := Lib.hid (K0.out.trans' ((K1.out.trans K2.out).trans k1) (fun i hi e => by omega)); have HB := Lib.hid (((K1.out.trans K2.out).trans k1).blk HB0.out (by omega)); have y0 := cell_blk HB.out 0 _ (wrC_0 x); have y1 := cell_blk HB.out 1 _ (wrC_1 x); have y2 := cell_blk HB.out 2 _ (wrC_2 x); clear v1 k1 V2)
      | (refine wpList_get_V rfl _ _ _ rfl (k := 3) Try.underlying3 Try.underlying101 (z := .nilFunc) (zc := -1) (fun w => by kernel_rfl) rfl rfl V3.out 3 rfl (by omega) (by omega) ?_; intro v hv; obtain rfl := decF_fn (g := 77) (by simpa using hv); clear hv)
      | (refine wpList_load_bigG bigWr (by rfl) _ rfl w.heap.size 0 (wrC x) rfl (range_blk HB.out) rfl ?_)
      | (go_at_call 70; (with_reducible refine (N1.out _).mono ?_); rintro e w4 ⟨rfl, rfl⟩)
      | (go_at_call 70; (with_reducible refine (N2.out _).mono ?_); rintro e w4 ⟨rfl, rfl⟩)
      | (go_at_call 77; refine (C3.out _).mono ?_; rintro e w4 ⟨rfl, k1⟩; have K4 := Lib.hid k1; clear k1))
      go_ret
      first
        | exact ⟨by rw [HE1.out]; simp, K3.out.trans K4.out⟩
        | exact ⟨by rw [HE1.out]; simp, K3.out⟩
  · have HE1 := Lib.hid (HE.out.trans (by simp [hk, hk3, hk4]) : res = false)
    go_enter Try.func41, Try.ntmps41
    go_wp2_with (first
    | (refine wpList_put_V rfl _ _ _ _ (.inr rfl) (k := 3) Try.underlying3 Try.underlying101 (by omega) rfl V0.out 1 rfl (by omega) (by omega) (.func (.func 75) #[] #[]) (75 : Nat) rfl rfl ?_; intro w1 v1 k1 s1; have V1 := Lib.hid v1; have K1 := Lib.hid k1; clear v1 k1 V0)
    | (refine wpList_put_V rfl _ _ _ _ (.inr rfl) (k := 3) Try.underlying3 Try.underlying101 (by omega) rfl V1.out 2 rfl (by omega) (by omega) (.func (.func 76) #[] #[]) (76 : Nat) rfl rfl ?_; intro w2 v1 k1 s2; have V2 := Lib.hid v1; have K2 := Lib.hid k1; clear v1 k1 V1)
    | (refine wpList_put_V rfl _ _ _ _ (.inr rfl) (k := 3) Try.underlying3 Try.underlying101 (by omega) rfl V2.out 3 rfl (by omega) (by omega) (.func (.func 77) #[] #[]) (77 : Nat) rfl rfl ?_; intro w3 v1 k1 s3; have V3 := Lib.hid v1; have K3 := Lib.hid (K0.out.trans' ((K1.out.trans K2.out).trans k1) (fun i hi e => by omega)); have HB := Lib.hid (((K1.out.trans K2.out).trans k1).blk HB0.out (by omega)); have y0 := cell_blk HB.out 0 _ (wrC_0 x); have y1 := cell_blk HB.out 1 _ (wrC_1 x); have y2 := cell_blk HB.out 2 _ (wrC_2 x); clear v1 k1 V2)
    | (refine wpList_get_V rfl _ _ _ rfl (k := 3) Try.underlying3 Try.underlying101 (z := .nilFunc) (zc := -1) (fun w => by kernel_rfl) rfl rfl V3.out x.kind rfl hk1 hk2 ?_; intro v hv; rw [if_neg hk4, if_neg hk3, if_neg hk] at hv; obtain rfl := decF_nil hv; clear hv))
    go_ret
    exact ⟨by rw [HE1.out]; rfl, K3.out⟩
end Go.Proofs.Ytghgegghlefclaa
