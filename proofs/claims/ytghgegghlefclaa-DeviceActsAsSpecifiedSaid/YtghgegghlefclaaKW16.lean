/- Texts that belong together: W16, W17, W18. -/
import Derived.Test.YtghgegghlefclaaKW15
import Derived.Test.YtghgegghlefclaaKW4
import Derived.Test.YtghgegghlefclaaKV3
import Derived.Test.YtghgegghlefclaaKW1
set_option linter.unusedVariables false
set_option linter.unusedSimpArgs false
set_option linter.unusedSectionVars false
/- Walks: comparing tables, writes and devices, where they are equal. -/
namespace Go.Proofs.Ytghgegghlefclaa
open Go.RowKit
set_option maxHeartbeats 1000000
set_option maxRecDepth 8000
/-- a rule's outputs can be read, and are few -/
def OutB (w : World) (r : Ru) : Prop := ∃ xs : List (List Al), RdS w NoM 1 (EOut w) (.slice r.oa r.on r.oc) xs ∧ xs.length ≤ 1000000 ∧ ∀ l ∈ xs, l.length ≤ 1000000
theorem OutB.kept {w w' : World} {r : Ru} (h : OutB w r) (k : Kept NoM w w') : OutB w' r := by
  obtain ⟨xs, h, h2⟩ := h
  exact ⟨xs, h.kept k (fun _ _ x => x.kept k), h2⟩
theorem OutB.nil (w : World) {r : Ru} (h1 : r.oa = none) (h2 : r.on = 0) (h3 : r.oc = 0) : OutB w r := ⟨[], by rw [h1, h2, h3]; exact RdS.nil _ _ _ _, by simp, fun l hl => by simp at hl⟩
theorem OutB.rc {w : World} {r : Ru} (h : OutB w r) : RoutsC w r r true := fun wx k => by
  obtain ⟨xs, h1, h2, h3⟩ := h
  exact sameouts_ok r xs wx (h1.kept k (fun _ _ x => x.kept k)) h2 h3
theorem OutB.pc {w : World} {r : Ru} (h : OutB w r) : OutsC w r r true := fun wx k => by
  obtain ⟨xs, h1, h2, h3⟩ := h
  have h4 := h1.kept k (fun _ _ x => x.kept k)
  exact eqaa_ok _ _ xs wx h4 h4 h2 h3
theorem rsrule_b (r : Ru) (w : World) (h : OutB w r) : Calls Try.prog 54 #[.agg (ruC r), .agg (ruC r)] w fun e w' => e = .returned (.bool true) ∧ Kept NoM w w' := rsrule_ok r w h.rc
theorem tsrule_b (r : Ru) (w : World) (h : OutB w r) : Calls Try.prog 66 #[.agg (ruC r), .agg (ruC r)] w fun e w' => e = .returned (.bool true) ∧ Kept NoM w w' := by
  refine (tsrule_ok r r true w h.pc).mono ?_
  rintro e w' ⟨rfl, k⟩
  rw [same_self, same_self]
  simp [k]
theorem rtsame_ok (a b : Value) (xs : List Ru) (M M' : Nat → Prop) (w : World) (ha : RdS w M 23 ERu a xs) (hb : RdS w M' 23 ERu b xs) (hn : xs.length ≤ 1000000) (ho : ∀ r ∈ xs, OutB w r) : Calls Try.prog 15 #[a, b] w fun e w' => e = .returned (.bool true) ∧ Kept NoM w w' := by
  obtain ⟨aa, ac, rfl, _, _⟩ := ha.shape
  obtain ⟨ba, bc, rfl, _, _⟩ := hb.shape
  have HA := Lib.hid ha
  have HB := Lib.hid hb
  have HO := Lib.hid ho
  clear ha hb ho
  go_enter Try.func15, Try.ntmps15
  go_wp2_with fail
  go_loopw [5] (fun i wr => ∃ k : Nat, k ≤ xs.length ∧ i = .int .i64 k ∧ Hid (Kept NoM w wr)) (fun i _ => xs.length - (intOf i).toNat)
  case atStart => exact ⟨0, Nat.zero_le _, rfl, Lib.hid (Kept.refl _ _)⟩
  case round =>
    obtain ⟨k, hk, rfl, hK⟩ := hrel
    by_cases hlt : k < xs.length
    · have hki : (k : Int) < xs.length := by omega
      obtain ⟨x, hx⟩ := getAt hlt
      obtain ⟨b1, o1, e1, _, h1⟩ := ru_at (HA.out.kept hK.out.of_no (fun _ _ x => x)) hx
      subst e1
      obtain ⟨b2, o2, e2, _, h2⟩ := ru_at (HB.out.kept hK.out.of_no (fun _ _ x => x)) hx
      subst e2
      have H1 := Lib.hid h1
      have H2 := Lib.hid h2
      have HC := Lib.hid (rsrule_b x wr.drew ((HO.out x (List.mem_of_getElem? hx)).kept hK.out.drew))
      clear h1 h2 hx
      go_wp2_with fail
      go_still_tail 8, (by kernel_rfl)
      refine wpStill_load_big bigRu rfl _ rfl b1 (o1 + k * 23) (ruC x) rfl (fun j v hv => H1.out j v hv) rfl ?_
      repeat still_step
      refine wpStill_load_big bigRu rfl _ rfl b2 (o2 + k * 23) (ruC x) rfl (fun j v hv => H2.out j v hv) rfl ?_
      refine wpStill_nil ?_
      change wpList _ _ _ _ _ wr.drew
      go_wp2_with (go_at_call 54; refine HC.out.mono ?_; rintro e w1 ⟨rfl, k1⟩; have K1 := Lib.hid (hK.out.drew.trans k1); clear k1)
      go_roundw
      case rel => exact ⟨k + 1, by omega, by go_num, K1⟩
      case measure => simp [intOf]; omega
    · obtain rfl : k = xs.length := by omega
      have f1 := decide_eq_false (show ¬ ((xs.length : Nat) : Int) < xs.length by omega)
      have f2 := decide_eq_false (show ¬ xs.length < xs.length by omega)
      go_wp2_with fail
      go_ret
      exact ⟨rfl, hK.out⟩
theorem eqr_ok (a b : Value) (xs : List Ru) (M M' : Nat → Prop) (w : World) (ha : RdS w M 23 ERu a xs) (hb : RdS w M' 23 ERu b xs) (hn : xs.length ≤ 1000000) (ho : ∀ r ∈ xs, OutB w r) : Calls Try.prog 96 #[a, b, .func (.func 66) #[] #[]] w fun e w' => e = .returned (.bool true) ∧ Kept NoM w w' := by
  obtain ⟨aa, ac, rfl, _, _⟩ := ha.shape
  obtain ⟨ba, bc, rfl, _, _⟩ := hb.shape
  have HA := Lib.hid ha
  have HB := Lib.hid hb
  have HO := Lib.hid ho
  clear ha hb ho
  go_enter Try.func96, Try.ntmps96
  go_wp2_with fail
  go_loopw [17] (fun i wr => ∃ k : Nat, k ≤ xs.length ∧ i = .int .i64 k ∧ Hid (Kept NoM w wr)) (fun i _ => xs.length - (intOf i).toNat)
  case atStart => exact ⟨0, Nat.zero_le _, rfl, Lib.hid (Kept.refl _ _)⟩
  case round =>
    obtain ⟨k, hk, rfl, hK⟩ := hrel
    by_cases hlt : k < xs.length
    · have hki : (k : Int) < xs.length := by omega
      obtain ⟨x, hx⟩ := getAt hlt
      obtain ⟨b1, o1, e1, _, h1⟩ := ru_at (HA.out.kept hK.out.of_no (fun _ _ x => x)) hx
      subst e1
      obtain ⟨b2, o2, e2, _, h2⟩ := ru_at (HB.out.kept hK.out.of_no (fun _ _ x => x)) hx
      subst e2
      have H1 := Lib.hid h1
      have KA := Lib.hid ((Kept.refl NoM wr).alloc (.cells (ruC x) 39))
      have KB := Lib.hid (KA.out.alloc (.cells (ruC x) 39))
      have H2 := Lib.hid (rangeAt_kept h2 KA.out (fun x => x))
      have HB1 := Lib.hid (blk_old (blk_new wr (.cells (ruC x) 39)) (.cells (ruC x) 39))
      have HB2 := Lib.hid (blk_new' (wr.alloc (.cells (ruC x) 39)) (.cells (ruC x) 39) (wr.heap.size + 1) (by simp))
      have HC := Lib.hid (tsrule_b x _ ((HO.out x (List.mem_of_getElem? hx)).kept (hK.out.trans KB.out)))
      have hsz : ∀ o : Obj, wr.heap.size + 1 = (wr.alloc o).heap.size := fun o => by simp
      clear h1 h2 hx
      go_wp2_with (first
        | (refine wpList_alloc_Z rfl 39 rfl _ (ruZ _) ?_)
        | (refine wpList_store_bign bigRu rfl _ _ rfl _ rfl rfl rfl rfl rfl (ru1 x) ?_)
        | (refine wpList_store_bign bigRu rfl _ _ rfl (wr.heap.size + 1) (hsz _) rfl rfl rfl rfl (ru1 x) ?_)
        | (refine wpList_load_big bigRu rfl _ rfl b1 (o1 + k * 23) (ruC x) rfl H1.out rfl ?_)
        | (refine wpList_load_big bigRu rfl _ rfl b2 (o2 + k * 23) (ruC x) rfl H2.out rfl ?_)
        | (refine wpList_load_big bigRu rfl _ rfl wr.heap.size 0 (ruC x) rfl (range_blk HB1.out) rfl ?_)
        | (refine wpList_load_big bigRu rfl _ rfl (wr.heap.size + 1) 0 (ruC x) rfl (range_blk HB2.out) rfl ?_)
        | (go_at_call 66; refine HC.out.mono ?_; rintro e w1 ⟨rfl, k1⟩; have K1 := Lib.hid (hK.out.trans (KB.out.trans k1)); clear k1))
      go_roundw
      case rel => exact ⟨k + 1, by omega, by go_num, K1⟩
      case measure => simp [intOf]; omega
    · obtain rfl : k = xs.length := by omega
      have f1 := decide_eq_false (show ¬ ((xs.length : Nat) : Int) < xs.length by omega)
      have f2 := decide_eq_false (show ¬ xs.length < xs.length by omega)
      go_wp2_with fail
      go_ret
      exact ⟨rfl, hK.out⟩
theorem tsame_ok (a b : Value) (xs : List Ru) (M M' : Nat → Prop) (w : World) (ha : RdS w M 23 ERu a xs) (hb : RdS w M' 23 ERu b xs) (hn : xs.length ≤ 1000000) (ho : ∀ r ∈ xs, OutB w r) : Calls Try.prog 67 #[a, b] w fun e w' => e = .returned (.bool true) ∧ Kept NoM w w' := by
  have HC := Lib.hid (eqr_ok a b xs M M' w ha hb hn ho)
  clear ha hb ho
  go_enter Try.func67, Try.ntmps67
  go_wp2_with (go_at_call 96; refine HC.out.mono ?_; rintro e w1 ⟨rfl, k1⟩)
  go_ret
  exact ⟨rfl, k1⟩
theorem dsamec_ok (x : Wr) (w : World) (h : OutB w x.rule) : Calls Try.prog 65 #[.agg (wrC x), .agg (wrC x)] w fun e w' => e = .returned (.bool true) ∧ Kept NoM w w' := by
  have KK := Lib.hid (((Kept.refl NoM w).alloc (.cells (wrC x) 41)).alloc (.cells (wrC x) 41))
  have HB1 := Lib.hid (blk_old (blk_new w (.cells (wrC x) 41)) (.cells (wrC x) 41))
  have HB2 := Lib.hid (blk_new' (w.alloc (.cells (wrC x) 41)) (.cells (wrC x) 41) (w.heap.size + 1) (by simp))
  have HC := Lib.hid (tsrule_b x.rule _ (h.kept KK.out))
  have f1 : (x.ep == x.ep) = true := by simp
  have f2 : (x.seq == x.seq) = true := by simp
  have f3 : (x.kind == x.kind) = true := by simp
  clear h
  go_enter Try.func65, Try.ntmps65
  go_wp2_with (first
    | (refine wpList_load_bigG bigRu (by rfl) _ rfl w.heap.size 3 (ruC x.rule) rfl (fun j v hv => cell_blk HB1.out (3 + j) v (wr_ru x hv)) rfl ?_)
    | (refine wpList_load_bigG bigRu (by rfl) _ rfl (w.heap.size + 1) 3 (ruC x.rule) rfl (fun j v hv => cell_blk HB2.out (3 + j) v (wr_ru x hv)) rfl ?_)
    | (go_at_call 66; refine HC.out.mono ?_; rintro e w1 ⟨rfl, k1⟩; have K1 := Lib.hid (KK.out.trans k1); clear k1))
  go_ret
  exact ⟨rfl, K1.out⟩
theorem eqw_ok (a b : Value) (xs : List Wr) (M M' : Nat → Prop) (w : World) (ha : RdS w M 26 EWr a xs) (hb : RdS w M' 26 EWr b xs) (hn : xs.length ≤ 1000000) (ho : ∀ r ∈ xs, OutB w r.rule) : Calls Try.prog 68 #[a, b, .func (.func 65) #[] #[]] w fun e w' => e = .returned (.bool true) ∧ Kept NoM w w' := by
  obtain ⟨aa, ac, rfl, _, _⟩ := ha.shape
  obtain ⟨ba, bc, rfl, _, _⟩ := hb.shape
  have HA := Lib.hid ha
  have HB := Lib.hid hb
  have HO := Lib.hid ho
  clear ha hb ho
  go_enter Try.func68, Try.ntmps68
  go_wp2_with fail
  go_loopw [17] (fun i wr => ∃ k : Nat, k ≤ xs.length ∧ i = .int .i64 k ∧ Hid (Kept NoM w wr)) (fun i _ => xs.length - (intOf i).toNat)
  case atStart => exact ⟨0, Nat.zero_le _, rfl, Lib.hid (Kept.refl _ _)⟩
  case round =>
    obtain ⟨k, hk, rfl, hK⟩ := hrel
    by_cases hlt : k < xs.length
    · have hki : (k : Int) < xs.length := by omega
      obtain ⟨x, hx⟩ := getAt hlt
      obtain ⟨b1, o1, e1, _, h1⟩ := wr_at (HA.out.kept hK.out.of_no (fun _ _ x => x)) hx
      subst e1
      obtain ⟨b2, o2, e2, _, h2⟩ := wr_at (HB.out.kept hK.out.of_no (fun _ _ x => x)) hx
      subst e2
      have H1 := Lib.hid h1
      have KA := Lib.hid ((Kept.refl NoM wr).alloc (.cells (wrC x) 41))
      have KB := Lib.hid (KA.out.alloc (.cells (wrC x) 41))
      have H2 := Lib.hid (rangeAt_kept h2 KA.out (fun x => x))
      have HB1 := Lib.hid (blk_old (blk_new wr (.cells (wrC x) 41)) (.cells (wrC x) 41))
      have HB2 := Lib.hid (blk_new' (wr.alloc (.cells (wrC x) 41)) (.cells (wrC x) 41) (wr.heap.size + 1) (by simp))
      have HC := Lib.hid (dsamec_ok x _ ((HO.out x (List.mem_of_getElem? hx)).kept (hK.out.trans KB.out)))
      have hsz : ∀ o : Obj, wr.heap.size + 1 = (wr.alloc o).heap.size := fun o => by simp
      clear h1 h2 hx
      go_wp2_with (first
        | (refine wpList_alloc_Z rfl 41 rfl _ (wrZ _) ?_)
        | (refine wpList_store_bign bigWr rfl _ _ rfl _ rfl rfl rfl rfl rfl (wr1 x) ?_)
        | (refine wpList_store_bign bigWr rfl _ _ rfl (wr.heap.size + 1) (hsz _) rfl rfl rfl rfl (wr1 x) ?_)
        | (refine wpList_load_big bigWr rfl _ rfl b1 (o1 + k * 26) (wrC x) rfl H1.out rfl ?_)
        | (refine wpList_load_big bigWr rfl _ rfl b2 (o2 + k * 26) (wrC x) rfl H2.out rfl ?_)
        | (refine wpList_load_big bigWr rfl _ rfl wr.heap.size 0 (wrC x) rfl (range_blk HB1.out) rfl ?_)
        | (refine wpList_load_big bigWr rfl _ rfl (wr.heap.size + 1) 0 (wrC x) rfl (range_blk HB2.out) rfl ?_)
        | (go_at_call 65; refine HC.out.mono ?_; rintro e w1 ⟨rfl, k1⟩; have K1 := Lib.hid (hK.out.trans (KB.out.trans k1)); clear k1))
      go_roundw
      case rel => exact ⟨k + 1, by omega, by go_num, K1⟩
      case measure => simp [intOf]; omega
    · obtain rfl : k = xs.length := by omega
      have f1 := decide_eq_false (show ¬ ((xs.length : Nat) : Int) < xs.length by omega)
      have f2 := decide_eq_false (show ¬ xs.length < xs.length by omega)
      go_wp2_with fail
      go_ret
      exact ⟨rfl, hK.out⟩
end Go.Proofs.Ytghgegghlefclaa

/- Walks: comparing writes and devices, where they are equal. -/
namespace Go.Proofs.Ytghgegghlefclaa
open Go.RowKit
set_option maxHeartbeats 1000000
set_option maxRecDepth 8000
theorem rsw_ok (a b : Value) (xs : List Wr) (M M' : Nat → Prop) (w : World) (ha : RdS w M 26 EWr a xs) (hb : RdS w M' 26 EWr b xs) (hn : xs.length ≤ 1000000) (ho : ∀ r ∈ xs, OutB w r.rule) : Calls Try.prog 61 #[a, b] w fun e w' => e = .returned (.bool true) ∧ Kept NoM w w' := by
  obtain ⟨aa, ac, rfl, _, _⟩ := ha.shape
  obtain ⟨ba, bc, rfl, _, _⟩ := hb.shape
  have HA := Lib.hid ha
  have HB := Lib.hid hb
  have HO := Lib.hid ho
  clear ha hb ho
  go_enter Try.func61, Try.ntmps61
  go_wp2_with fail
  go_loopw [5] (fun i wr => ∃ k : Nat, k ≤ xs.length ∧ i = .int .i64 k ∧ Hid (Kept NoM w wr)) (fun i _ => xs.length - (intOf i).toNat)
  case atStart => exact ⟨0, Nat.zero_le _, rfl, Lib.hid (Kept.refl _ _)⟩
  case round =>
    obtain ⟨k, hk, rfl, hK⟩ := hrel
    by_cases hlt : k < xs.length
    · have hki : (k : Int) < xs.length := by omega
      obtain ⟨x, hx⟩ := getAt hlt
      obtain ⟨b1, o1, e1, _, h1⟩ := wr_at (HA.out.kept hK.out.of_no (fun _ _ x => x)) hx
      subst e1
      obtain ⟨b2, o2, e2, _, h2⟩ := wr_at (HB.out.kept hK.out.of_no (fun _ _ x => x)) hx
      subst e2
      have H1 := Lib.hid (show wr.rangeAt b1 (o1 + k * 26 + 3) (ruC x.rule).toList from fun j v hv => by rw [Nat.add_assoc]; exact h1 (3 + j) v (by simpa using wr_ru x hv))
      have H2 := Lib.hid (show wr.rangeAt b2 (o2 + k * 26 + 3) (ruC x.rule).toList from fun j v hv => by rw [Nat.add_assoc]; exact h2 (3 + j) v (by simpa using wr_ru x hv))
      have X1 := Lib.hid h1
      have X2 := Lib.hid h2
      have HC := Lib.hid (rsrule_b x.rule wr.drew ((HO.out x (List.mem_of_getElem? hx)).kept hK.out.drew))
      have f1 : (x.ep != x.ep) = false := by simp
      have f2 : (x.seq != x.seq) = false := by simp
      have f3 : (x.kind != x.kind) = false := by simp
      clear h1 h2 hx
      go_wp2_with fail
      go_still_tail 10, (by kernel_rfl)
      refine wpStill_load_big bigRu rfl _ rfl b1 (o1 + k * 26 + 3) (ruC x.rule) rfl (fun j v hv => H1.out j v hv) rfl ?_
      repeat still_step
      refine wpStill_load_big bigRu rfl _ rfl b2 (o2 + k * 26 + 3) (ruC x.rule) rfl (fun j v hv => H2.out j v hv) rfl ?_
      refine wpStill_nil ?_
      change wpList _ _ _ _ _ wr.drew
      go_wp2_with (go_at_call 54; refine HC.out.mono ?_; rintro e w1 ⟨rfl, k1⟩; have K0 := Lib.hid (hK.out.drew.trans k1); have y10 := k1.cell (show wr.drew.cell? _ = _ from X1.out 0 _ (by simpa using wrC_0 x)) (fun x => x); have y11 := k1.cell (show wr.drew.cell? _ = _ from X1.out 1 _ (by simpa using wrC_1 x)) (fun x => x); have y12 := k1.cell (show wr.drew.cell? _ = _ from X1.out 2 _ (by simpa using wrC_2 x)) (fun x => x); have y20 := k1.cell (show wr.drew.cell? _ = _ from X2.out 0 _ (by simpa using wrC_0 x)) (fun x => x); have y21 := k1.cell (show wr.drew.cell? _ = _ from X2.out 1 _ (by simpa using wrC_1 x)) (fun x => x); have y22 := k1.cell (show wr.drew.cell? _ = _ from X2.out 2 _ (by simpa using wrC_2 x)) (fun x => x); simp only [Nat.add_zero] at y10 y20; clear k1)
      go_quiet (fail)
      go_wp2_with fail
      go_roundw
      case rel => exact ⟨k + 1, by omega, by go_num, Lib.hid (K0.out.drewN _)⟩
      case measure => simp [intOf]; omega
    · obtain rfl : k = xs.length := by omega
      have f1 := decide_eq_false (show ¬ ((xs.length : Nat) : Int) < xs.length by omega)
      have f2 := decide_eq_false (show ¬ xs.length < xs.length by omega)
      go_wp2_with fail
      go_ret
      exact ⟨rfl, hK.out⟩
/-- a device's outputs can be read, and it is small -/
structure DevB (w : World) (d : Dev) : Prop where
  t : ∀ r ∈ d.table, OutB w r
  q : ∀ x ∈ d.queue, OutB w x.rule
  tl : d.table.length ≤ 10000
  ql : d.queue.length ≤ 10000
  dl : d.done.length ≤ 10000
  ll : d.lost.length ≤ 10000
theorem DevB.kept {w w' : World} {d : Dev} (h : DevB w d) (k : Kept NoM w w') : DevB w' d := ⟨fun r hr => (h.t r hr).kept k, fun x hx => (h.q x hx).kept k, h.tl, h.ql, h.dl, h.ll⟩
theorem dsame_ok (a b : Value) (d : Dev) (M M' : Nat → Prop) (w : World) (ha : DevV w M a d) (hb : DevV w M' b d) (hd : DevB w d) : Calls Try.prog 34 #[a, b] w fun e w' => e = .returned (.bool true) ∧ Kept NoM w w' := by
  obtain ⟨ta, tc, qa, qc, da, dc, la, lc, rfl, r1⟩ := ha
  obtain ⟨ta2, tc2, qa2, qc2, da2, dc2, la2, lc2, rfl, r2⟩ := hb
  have KK := Lib.hid (((Kept.refl NoM w).alloc (.cells (devC d ta tc qa qc da dc la lc) 27)).alloc (.cells (devC d ta2 tc2 qa2 qc2 da2 dc2 la2 lc2) 27))
  have hb1 := blk_old (blk_new w (.cells (devC d ta tc qa qc da dc la lc) 27)) (.cells (devC d ta2 tc2 qa2 qc2 da2 dc2 la2 lc2) 27)
  have hb2 := blk_new' (w.alloc (.cells (devC d ta tc qa qc da dc la lc) 27)) (.cells (devC d ta2 tc2 qa2 qc2 da2 dc2 la2 lc2) 27) (w.heap.size + 1) (by simp)
  have CT : Hid (∀ wx, Kept NoM w wx → Calls Try.prog 67 #[.slice ta d.table.length tc, .slice ta2 d.table.length tc2] wx fun e w' => e = .returned (.bool true) ∧ Kept NoM wx w') := Lib.hid (fun wx k =>
    tsame_ok _ _ d.table M M' wx (r1.rt.kept k.of_no (fun _ _ x => x)) (r2.rt.kept k.of_no (fun _ _ x => x)) (by have := hd.tl; omega) (fun r hr => (hd.t r hr).kept k))
  have CQ : Hid (∀ wx, Kept NoM w wx → Calls Try.prog 68 #[.slice qa d.queue.length qc, .slice qa2 d.queue.length qc2, .func (.func 65) #[] #[]] wx fun e w' => e = .returned (.bool true) ∧ Kept NoM wx w') := Lib.hid (fun wx k =>
    eqw_ok _ _ d.queue M M' wx (r1.rq.kept k.of_no (fun _ _ x => x)) (r2.rq.kept k.of_no (fun _ _ x => x)) (by have := hd.ql; omega) (fun r hr => (hd.q r hr).kept k))
  have CD : Hid (∀ wx, Kept NoM w wx → Calls Try.prog 69 #[.slice da d.done.length dc, .slice da2 d.done.length dc2] wx fun e w' => e = .returned (.bool true) ∧ Kept NoM wx w') := Lib.hid (fun wx k =>
    (eqints_ok _ _ d.done M M' wx (r1.rd.kept k.of_no (fun _ _ x => x)) (r2.rd.kept k.of_no (fun _ _ x => x)) (by have := hd.dl; omega)).mono fun e w' ⟨h1, n, h2⟩ => ⟨h1, by rw [h2]; exact (Kept.refl _ _).drewN _⟩)
  have CL : Hid (∀ wx, Kept NoM w wx → Calls Try.prog 69 #[.slice la d.lost.length lc, .slice la2 d.lost.length lc2] wx fun e w' => e = .returned (.bool true) ∧ Kept NoM wx w') := Lib.hid (fun wx k =>
    (eqints_ok _ _ d.lost M M' wx (r1.rl.kept k.of_no (fun _ _ x => x)) (r2.rl.kept k.of_no (fun _ _ x => x)) (by have := hd.ll; omega)).mono fun e w' ⟨h1, n, h2⟩ => ⟨h1, by rw [h2]; exact (Kept.refl _ _).drewN _⟩)
  have f1 : (d.room == d.room) = true := by simp
  have f2 : (d.ep == d.ep) = true := by simp
  have f3 : (d.early == d.early) = true := by simp
  have x10 := cell_blk hb1 0 _ dv0
  have x11 := cell_blk hb1 1 _ dv1
  have x12 := cell_blk hb1 2 _ dv2
  have x16 := cell_blk hb1 6 _ dv6
  have x20 := cell_blk hb2 0 _ dv0
  have x21 := cell_blk hb2 1 _ dv1
  have x22 := cell_blk hb2 2 _ dv2
  have x26 := cell_blk hb2 6 _ dv6
  have X13 := Lib.hid (cell_blk hb1 3 _ dv3)
  have X14 := Lib.hid (cell_blk hb1 4 _ dv4)
  have X15 := Lib.hid (cell_blk hb1 5 _ dv5)
  have X23 := Lib.hid (cell_blk hb2 3 _ dv3)
  have X24 := Lib.hid (cell_blk hb2 4 _ dv4)
  have X25 := Lib.hid (cell_blk hb2 5 _ dv5)
  clear r1 r2 hd hb1 hb2
  go_enter Try.func34, Try.ntmps34
  go_wp2_with (first
    | (go_at_call 67; refine (CT.out _ KK.out).mono ?_; rintro e w3 ⟨rfl, k3⟩; have K3 := Lib.hid k3; have y1 := k3.cell X13.out (fun x => x); have y2 := k3.cell X23.out (fun x => x); clear k3)
    | (go_at_call 68; refine (CQ.out _ (KK.out.trans K3.out)).mono ?_; rintro e w4 ⟨rfl, k4⟩; have K4 := Lib.hid (K3.out.trans k4); have y3 := K4.out.cell X14.out (fun x => x); have y4 := K4.out.cell X24.out (fun x => x); clear k4)
    | (go_at_call 69; (with_reducible refine (CD.out _ (KK.out.trans K4.out)).mono ?_); rintro e w5 ⟨rfl, k5⟩; have K5 := Lib.hid (K4.out.trans k5); have y5 := K5.out.cell X15.out (fun x => x); have y6 := K5.out.cell X25.out (fun x => x); clear k5)
    | (go_at_call 69; (with_reducible refine (CL.out _ (KK.out.trans K5.out)).mono ?_); rintro e w6 ⟨rfl, k6⟩; have K6 := Lib.hid (K5.out.trans k6); clear k6))
  go_ret
  exact ⟨rfl, KK.out.trans K6.out⟩
theorem rsame_ok (a b : Value) (d : Dev) (M M' : Nat → Prop) (w : World) (ha : DevV w M a d) (hb : DevV w M' b d) (hd : DevB w d) : Calls Try.prog 20 #[a, b] w fun e w' => e = .returned (.bool true) ∧ Kept NoM w w' := by
  obtain ⟨ta, tc, qa, qc, da, dc, la, lc, rfl, r1⟩ := ha
  obtain ⟨ta2, tc2, qa2, qc2, da2, dc2, la2, lc2, rfl, r2⟩ := hb
  have KK := Lib.hid (((Kept.refl NoM w).alloc (.cells (devC d ta tc qa qc da dc la lc) 27)).alloc (.cells (devC d ta2 tc2 qa2 qc2 da2 dc2 la2 lc2) 27))
  have hb1 := blk_old (blk_new w (.cells (devC d ta tc qa qc da dc la lc) 27)) (.cells (devC d ta2 tc2 qa2 qc2 da2 dc2 la2 lc2) 27)
  have hb2 := blk_new' (w.alloc (.cells (devC d ta tc qa qc da dc la lc) 27)) (.cells (devC d ta2 tc2 qa2 qc2 da2 dc2 la2 lc2) 27) (w.heap.size + 1) (by simp)
  have CT : Hid (∀ wx, Kept NoM w wx → Calls Try.prog 15 #[.slice ta d.table.length tc, .slice ta2 d.table.length tc2] wx fun e w' => e = .returned (.bool true) ∧ Kept NoM wx w') := Lib.hid (fun wx k =>
    rtsame_ok _ _ d.table M M' wx (r1.rt.kept k.of_no (fun _ _ x => x)) (r2.rt.kept k.of_no (fun _ _ x => x)) (by have := hd.tl; omega) (fun r hr => (hd.t r hr).kept k))
  have CQ : Hid (∀ wx, Kept NoM w wx → Calls Try.prog 61 #[.slice qa d.queue.length qc, .slice qa2 d.queue.length qc2] wx fun e w' => e = .returned (.bool true) ∧ Kept NoM wx w') := Lib.hid (fun wx k =>
    rsw_ok _ _ d.queue M M' wx (r1.rq.kept k.of_no (fun _ _ x => x)) (r2.rq.kept k.of_no (fun _ _ x => x)) (by have := hd.ql; omega) (fun r hr => (hd.q r hr).kept k))
  have CD : Hid (∀ wx, Kept NoM w wx → Calls Try.prog 22 #[.slice da d.done.length dc, .slice da2 d.done.length dc2] wx fun e w' => e = .returned (.bool true) ∧ Kept NoM wx w') := Lib.hid (fun wx k =>
    (sameints_ok _ _ d.done M M' wx (r1.rd.kept k.of_no (fun _ _ x => x)) (r2.rd.kept k.of_no (fun _ _ x => x)) (by have := hd.dl; omega)).mono fun e w' ⟨h1, n, h2⟩ => ⟨h1, by rw [h2]; exact (Kept.refl _ _).drewN _⟩)
  have CL : Hid (∀ wx, Kept NoM w wx → Calls Try.prog 22 #[.slice la d.lost.length lc, .slice la2 d.lost.length lc2] wx fun e w' => e = .returned (.bool true) ∧ Kept NoM wx w') := Lib.hid (fun wx k =>
    (sameints_ok _ _ d.lost M M' wx (r1.rl.kept k.of_no (fun _ _ x => x)) (r2.rl.kept k.of_no (fun _ _ x => x)) (by have := hd.ll; omega)).mono fun e w' ⟨h1, n, h2⟩ => ⟨h1, by rw [h2]; exact (Kept.refl _ _).drewN _⟩)
  have f1 : (d.room == d.room) = true := by simp
  have f2 : (d.ep == d.ep) = true := by simp
  have f3 : (d.early == d.early) = true := by simp
  have x12 := cell_blk hb1 2 _ dv2
  have x22 := cell_blk hb2 2 _ dv2
  have HB1 := Lib.hid hb1
  have HB2 := Lib.hid hb2
  clear r1 r2 hd hb1 hb2
  go_enter Try.func20, Try.ntmps20
  go_wp2_with (first
    | (go_at_call 15; refine (CT.out _ KK.out).mono ?_; rintro e w3 ⟨rfl, k3⟩; have K3 := Lib.hid k3; have y1 := cell_blk (k3.blk HB1.out (fun x => x)) 3 _ dv3; have y2 := cell_blk (k3.blk HB2.out (fun x => x)) 3 _ dv3; clear k3)
    | (go_at_call 61; refine (CQ.out _ (KK.out.trans K3.out)).mono ?_; rintro e w4 ⟨rfl, k4⟩; have K4 := Lib.hid (K3.out.trans k4); have y3 := cell_blk (K4.out.blk HB1.out (fun x => x)) 4 _ dv4; have y4 := cell_blk (K4.out.blk HB2.out (fun x => x)) 4 _ dv4; clear k4)
    | (go_at_call 22; (with_reducible refine (CD.out _ (KK.out.trans K4.out)).mono ?_); rintro e w5 ⟨rfl, k5⟩; have K5 := Lib.hid (K4.out.trans k5); have y5 := cell_blk (K5.out.blk HB1.out (fun x => x)) 5 _ dv5; have y6 := cell_blk (K5.out.blk HB2.out (fun x => x)) 5 _ dv5; clear k5)
    | (go_at_call 22; (with_reducible refine (CL.out _ (KK.out.trans K5.out)).mono ?_); rintro e w6 ⟨rfl, k6⟩; have K6 := Lib.hid (K5.out.trans k6); have z10 := cell_blk (K6.out.blk HB1.out (fun x => x)) 0 _ dv0; have z11 := cell_blk (K6.out.blk HB1.out (fun x => x)) 1 _ dv1; have z16 := cell_blk (K6.out.blk HB1.out (fun x => x)) 6 _ dv6; have z20 := cell_blk (K6.out.blk HB2.out (fun x => x)) 0 _ dv0; have z21 := cell_blk (K6.out.blk HB2.out (fun x => x)) 1 _ dv1; have z26 := cell_blk (K6.out.blk HB2.out (fun x => x)) 6 _ dv6; clear k6))
  go_ret
  exact ⟨rfl, KK.out.trans K6.out⟩
end Go.Proofs.Ytghgegghlefclaa

/- Walks: whether tables, writes and devices are few, and right. -/
namespace Go.Proofs.Ytghgegghlefclaa
open Go.RowKit
set_option maxHeartbeats 1000000
set_option maxRecDepth 8000
/-- a bool that has a meaning, if it is true -/
def ImpP (P : Prop) (w : World) (e : Ending) (w' : World) : Prop := ∃ b : Bool, e = .returned (.bool b) ∧ (b = true → P) ∧ Kept NoM w w'
/-- a bool that says whether -/
def IffP (P : Prop) (w : World) (e : Ending) (w' : World) : Prop := ∃ b : Bool, e = .returned (.bool b) ∧ (b = true ↔ P) ∧ Kept NoM w w'
theorem fewt_ok (v : Value) (t : List Ru) (M : Nat → Prop) (most : Int) (w : World) (h : RdS w M 23 ERu v t) (hl : t.length ≤ 9223372036854775807) (w0 : World) (k0 : Kept NoM w0 w) (ho : ∀ r ∈ t, OutR w0 r) :
    Calls Try.prog 26 #[v, .int .i64 most] w (ImpP ((t.length : Int) ≤ most ∧ ∀ r ∈ t, OutB w0 r) w) := by
  obtain ⟨a, cap, rfl, _, hmx⟩ := h.shape
  have HH := Lib.hid h
  have HO := Lib.hid ho
  have HK0 := Lib.hid k0
  clear h ho k0
  go_enter Try.func26, Try.ntmps26
  go_wp2_with fail
  go_loop [5] (fun i => ∃ k : Nat, k ≤ t.length ∧ i = .int .i64 k ∧ Hid (∀ (j : Nat) x, j < k → t[j]? = some x → OutB w0 x)) (fun i => t.length - (intOf i).toNat)
  case atStart => exact ⟨0, Nat.zero_le _, rfl, Lib.hid (fun j x hj => absurd hj (Nat.not_lt_zero _))⟩
  case round =>
    obtain ⟨k, hk, rfl, hA⟩ := hrel
    by_cases hlt : k < t.length
    · have hki : (k : Int) < t.length := by omega
      obtain ⟨x, hx⟩ := getAt hlt
      obtain ⟨b1, o1, e1, _, h1⟩ := ru_at HH.out hx
      subst e1
      have x22 := h1 22 _ (by simpa using ruC_22 x)
      obtain ⟨xs, hxs⟩ := HO.out x (List.mem_of_getElem? hx)
      obtain ⟨hon, hcc, _⟩ := hxs.addr
      have hcm : x.oc ≤ maxLen := by obtain ⟨a', c', e1, _, e3, _⟩ := hxs; simp only [Value.slice.injEq] at e1; rw [e1.2.2]; exact e3
      unfold maxLen at hcm
      have HX := Lib.hid hx
      have HXS := Lib.hid hxs
      have HON := Lib.hid hon
      have hon2 : xs.length = x.on := hon.symm
      clear h1 hx hxs hon
      by_cases h20 : 20 < x.on
      · have f1 : (x.on : Int) > 20 := by omega
        go_wp2_with fail
        go_ret
        exact ⟨false, rfl, fun h => by simp at h, Kept.refl _ _⟩
      · have f1 : ¬ (x.on : Int) > 20 := by omega
        go_wp2_with fail
        go_loop [6] (fun i => ∃ m : Nat, m ≤ x.on ∧ i = .int .i64 m ∧ Hid (∀ (j : Nat) l, j < m → xs[j]? = some l → l.length ≤ 10)) (fun i => x.on - (intOf i).toNat)
        case atStart => exact ⟨0, Nat.zero_le _, rfl, Lib.hid (fun j x hj => absurd hj (Nat.not_lt_zero _))⟩
        case round =>
          obtain ⟨m, hm, rfl, hB⟩ := hrel
          by_cases hlt2 : m < x.on
          · have hmi : (m : Int) < x.on := by omega
            obtain ⟨l, hl2⟩ := getAt (xs := xs) (k := m) (by omega)
            obtain ⟨b3, o3, e3, _, cs, ⟨a4, c4, rfl, _⟩, _, h4⟩ := (HXS.out.kept HK0.out (fun _ _ x => x)).at hl2
            rw [e3] at x22
            have x4 := h4 0 _ rfl
            simp only [Nat.mul_one, Nat.add_zero] at x4
            have HL := Lib.hid hl2
            have HE3 := Lib.hid e3
            clear h4 hl2 e3
            by_cases h10 : 10 < l.length
            · have f2 : (l.length : Int) > 10 := by omega
              go_wp2_with fail
              go_ret
              exact ⟨false, rfl, fun h => by simp at h, Kept.refl _ _⟩
            · have f2 : ¬ (l.length : Int) > 10 := by omega
              go_wp2_with fail
              go_round
              case rel => exact ⟨m + 1, by omega, by go_num, Lib.hid (fun j l' hj hl' => by
                by_cases h : j = m
                · subst h; have := HL.out.symm.trans hl'; cases this; omega
                · exact hB.out j l' (by omega) hl')⟩
              case measure => simp [intOf]; omega
          · obtain rfl : m = x.on := by omega
            have f2 := decide_eq_false (show ¬ ((x.on : Nat) : Int) < x.on by omega)
            have f3 := decide_eq_false (show ¬ x.on < x.on by omega)
            go_wp2_with fail
            go_round
            case rel => exact ⟨k + 1, by omega, by go_num, Lib.hid (fun j y hj hy => by
              by_cases h : j = k
              · subst h
                have := HX.out.symm.trans hy; cases this
                exact ⟨xs, HXS.out, by omega, fun l hl => by
                  obtain ⟨i, hi⟩ := List.getElem?_of_mem hl
                  have := hB.out i l (by have := (List.getElem?_eq_some_iff.1 hi).1; omega) hi
                  omega⟩
              · exact hA.out j y (by omega) hy)⟩
            case measure => simp [intOf]; omega
    · obtain rfl : k = t.length := by omega
      have f1 := decide_eq_false (show ¬ ((t.length : Nat) : Int) < t.length by omega)
      have f2 := decide_eq_false (show ¬ t.length < t.length by omega)
      have HT : Hid (∀ r ∈ t, OutB w0 r) := Lib.hid (fun r hr => by
        obtain ⟨i, hi⟩ := List.getElem?_of_mem hr
        exact hA.out i r (List.getElem?_eq_some_iff.1 hi).1 hi)
      by_cases hm : (t.length : Int) ≤ most
      · go_wp2_with fail
        go_ret
        exact ⟨true, rfl, fun _ => (by first | exact ⟨hm, HT.out⟩ | exact HT.out), Kept.refl _ _⟩
      · go_wp2_with fail
        go_ret
        exact ⟨false, rfl, fun h => by simp at h, Kept.refl _ _⟩
theorem feww_ok (v : Value) (l : List Wr) (M : Nat → Prop) (most : Int) (w : World) (h : RdS w M 26 EWr v l) (hl : l.length ≤ 9223372036854775807) (w0 : World) (k0 : Kept NoM w0 w) (ho : ∀ x ∈ l, OutR w0 x.rule) :
    Calls Try.prog 16 #[v, .int .i64 most] w (ImpP ((l.length : Int) ≤ most ∧ ∀ x ∈ l, OutB w0 x.rule) w) := by
  obtain ⟨a, cap, rfl, _, hmx⟩ := h.shape
  have HH := Lib.hid h
  have HO := Lib.hid ho
  have HK0 := Lib.hid k0
  clear h ho k0
  go_enter Try.func16, Try.ntmps16
  go_wp2_with fail
  go_loopw [5] (fun i wr => ∃ k : Nat, k ≤ l.length ∧ i = .int .i64 k ∧ Hid (∀ (j : Nat) x, j < k → l[j]? = some x → OutB w0 x.rule) ∧ Hid (Kept NoM w wr)) (fun i _ => l.length - (intOf i).toNat)
  case atStart => exact ⟨0, Nat.zero_le _, rfl, Lib.hid (fun j x hj => absurd hj (Nat.not_lt_zero _)), Lib.hid (Kept.refl _ _)⟩
  case round =>
    obtain ⟨k, hk, rfl, hA, hK⟩ := hrel
    by_cases hlt : k < l.length
    · have hki : (k : Int) < l.length := by omega
      obtain ⟨x, hx⟩ := getAt hlt
      obtain ⟨b1, o1, e1, _, h1⟩ := wr_at (HH.out.kept hK.out.of_no (fun _ _ x => x)) hx
      subst e1
      have H1 := Lib.hid (show wr.rangeAt b1 (o1 + k * 26 + 3) (ruC x.rule).toList from fun j v hv => by rw [Nat.add_assoc]; exact h1 (3 + j) v (by simpa using wr_ru x hv))
      have K0 := Lib.hid (hK.out.alloc (.cells (ruC x.rule) 39))
      have HC := Lib.hid (fewt_ok (.slice (some ⟨wr.heap.size, 0, none⟩) 1 1) [x.rule] NoM 1 _ (rd_one (blk_new wr (.cells (ruC x.rule) 39)) (fun x => x) rfl rfl) (by simp) w0 (HK0.out.trans K0.out) (fun r hr => by
        rw [List.mem_singleton] at hr; subst hr
        exact HO.out x (List.mem_of_getElem? hx)))
      have HX := Lib.hid hx
      clear h1 hx
      go_wp2_with (first
        | (refine wpList_load_big bigRu rfl _ rfl b1 (o1 + k * 26 + 3) (ruC x.rule) rfl H1.out rfl ?_)
        | (go_at_call 26; refine HC.out.mono ?_; rintro e w1 ⟨b, rfl, hb, k1⟩; have HB := Lib.hid hb; have K1 := Lib.hid (K0.out.trans k1); clear hb k1; cases b))
      · go_ret
        exact ⟨false, rfl, fun h => by simp at h, K1.out⟩
      · go_roundw
        case rel => exact ⟨k + 1, by omega, by go_num, Lib.hid (fun j y hj hy => by
          by_cases h : j = k
          · subst h
            have := HX.out.symm.trans hy; cases this
            exact (HB.out (by first | trivial | rfl)).2 x.rule (by simp)
          · exact hA.out j y (by omega) hy), K1⟩
        case measure => simp [intOf]; omega
    · obtain rfl : k = l.length := by omega
      have f1 := decide_eq_false (show ¬ ((l.length : Nat) : Int) < l.length by omega)
      have f2 := decide_eq_false (show ¬ l.length < l.length by omega)
      have HT : Hid (∀ x ∈ l, OutB w0 x.rule) := Lib.hid (fun r hr => by
        obtain ⟨i, hi⟩ := List.getElem?_of_mem hr
        exact hA.out i r (List.getElem?_eq_some_iff.1 hi).1 hi)
      by_cases hm : (l.length : Int) ≤ most
      · go_wp2_with fail
        go_ret
        exact ⟨true, rfl, fun _ => (by first | exact ⟨hm, HT.out⟩ | exact HT.out), hK.out⟩
      · go_wp2_with fail
        go_ret
        exact ⟨false, rfl, fun h => by simp at h, hK.out⟩
theorem fewd_ok (d : Dev) (ta qa da la : Option Addr) (tc qc dc lc : Nat) (M : Nat → Prop) (w : World) (h : DevR w M d ta tc qa qc da dc la lc) (hot : ∀ r ∈ d.table, OutR w r) (hoq : ∀ x ∈ d.queue, OutR w x.rule) (ht : d.table.length ≤ 9223372036854775807) (hq : d.queue.length ≤ 9223372036854775807) :
    Calls Try.prog 42 #[.agg (devC d ta tc qa qc da dc la lc)] w (ImpP ((d.table.length ≤ 40 ∧ d.queue.length ≤ 70 ∧ d.done.length ≤ 100 ∧ d.lost.length ≤ 100) ∧ DevB w d) w) := by
  have K0 := Lib.hid ((Kept.refl NoM w).alloc (.cells (devC d ta tc qa qc da dc la lc) 27))
  have HB := Lib.hid (blk_new w (.cells (devC d ta tc qa qc da dc la lc) 27))
  have x2 := cell_blk HB.out 2 _ dv2
  have CT := Lib.hid (fewt_ok _ d.table M 40 _ (h.rt.kept K0.out.of_no (fun _ _ x => x)) ht w K0.out hot)
  have CQ : Hid (∀ wx, Kept NoM w wx → Calls Try.prog 16 #[.slice qa d.queue.length qc, .int .i64 70] wx (ImpP ((d.queue.length : Int) ≤ 70 ∧ ∀ x ∈ d.queue, OutB w x.rule) wx)) := Lib.hid (fun wx k => feww_ok _ d.queue M 70 wx (h.rq.kept k.of_no (fun _ _ x => x)) hq w k hoq)
  clear h hot hoq ht hq
  go_enter Try.func42, Try.ntmps42
  go_wp2_with (first
    | (go_at_call 26; refine CT.out.mono ?_; rintro e w1 ⟨b1, rfl, hb, k1⟩; have B1 := Lib.hid hb; have K1 := Lib.hid (K0.out.trans k1); have x3 := cell_blk (k1.blk HB.out (fun x => x)) 3 _ dv3; have HB1 := Lib.hid (k1.blk HB.out (fun x => x)); clear hb k1)
    | (go_at_call 16; refine (CQ.out _ K1.out).mono ?_; rintro e w2 ⟨b2, rfl, hb, k2⟩; have B2 := Lib.hid hb; have K2 := Lib.hid (K1.out.trans k2); have x4 := cell_blk (k2.blk HB1.out (fun x => x)) 4 _ dv4; have x5 := cell_blk (k2.blk HB1.out (fun x => x)) 5 _ dv5; clear hb k2; by_cases g1 : (d.done.length : Int) ≤ 100 <;> by_cases g2 : (d.lost.length : Int) ≤ 100 <;> cases b1 <;> cases b2))
  all_goals
    go_ret
    first
    | exact ⟨false, rfl, fun h => by simp at h, K2.out⟩
    | (refine ⟨_, rfl, fun h => ?_, K2.out⟩
       have g3 : (d.lost.length : Int) ≤ 100 := (by first | exact g2 | exact of_decide_eq_true h)
       obtain ⟨q1, q2⟩ := B1.out (by first | trivial | rfl)
       obtain ⟨q3, q4⟩ := B2.out (by first | trivial | rfl)
       exact ⟨⟨by omega, by omega, by omega, by omega⟩, ⟨q2, q4, by omega, by omega, by omega, by omega⟩⟩)
end Go.Proofs.Ytghgegghlefclaa
