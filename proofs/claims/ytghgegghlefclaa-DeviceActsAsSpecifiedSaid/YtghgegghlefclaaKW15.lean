/- Walks: comparing rules, tables: the specification. -/
import Derived.Test.YtghgegghlefclaaKW14
set_option linter.unusedVariables false
set_option linter.unusedSimpArgs false
set_option linter.unusedSectionVars false
namespace Go.Proofs.Ytghgegghlefclaa
open Go.RowKit
set_option maxHeartbeats 1000000
set_option maxRecDepth 8000
/-- the outputs of a rule are those of the rule itself -/
def RoutsC (w : World) (r s : Ru) (t : Bool) : Prop := ∀ wx, Kept NoM w wx → Calls Try.prog 101 #[.agg (ruC r), .agg (ruC s)] wx fun e w' => e = .returned (.bool t) ∧ Kept NoM wx w'
theorem sameouts_ok (r : Ru) (xs : List (List Al)) (w : World) (h : RdS w NoM 1 (EOut w) (.slice r.oa r.on r.oc) xs) (hn : xs.length ≤ 1000000) (hs : ∀ l ∈ xs, l.length ≤ 1000000) : Calls Try.prog 101 #[.agg (ruC r), .agg (ruC r)] w fun e w' => e = .returned (.bool true) ∧ Kept NoM w w' := by
  have KK := Lib.hid (((Kept.refl NoM w).alloc (.cells (ruC r) 39)).alloc (.cells (ruC r) 39))
  have hb1 := blk_old (blk_new w (.cells (ruC r) 39)) (.cells (ruC r) 39)
  have hb2 := blk_new' (w.alloc (.cells (ruC r) 39)) (.cells (ruC r) 39) (w.heap.size + 1) (by simp)
  obtain ⟨hon, _, _⟩ := h.addr
  have x1 := cell_blk hb1 22 _ (ruC_22 r)
  have x2 := cell_blk hb2 22 _ (ruC_22 r)
  have HA := Lib.hid (h.kept KK.out (fun _ _ x => x.kept KK.out))
  have HS := Lib.hid hs
  rw [hon] at x1 x2 HA
  clear hb1 hb2 h hs hon
  go_enter Try.func101, Try.ntmps101
  go_wp2_with fail
  generalize hw1 : (w.alloc (.cells (ruC r) 39)).alloc (.cells (ruC r) 39) = w1 at *
  clear hw1
  go_loopw [5] (fun i wr => ∃ k n : Nat, k ≤ xs.length ∧ i = .int .i64 k ∧ wr = w1.drewN n) (fun i _ => xs.length - (intOf i).toNat)
  case atStart => exact ⟨0, 0, Nat.zero_le _, rfl, rfl⟩
  case round =>
    obtain ⟨k, n, hk, rfl, rfl⟩ := hrel
    by_cases hlt : k < xs.length
    · have hki : (k : Int) < xs.length := by omega
      obtain ⟨x, hx⟩ := getAt hlt
      obtain ⟨b1, o1, e1, _, cs1, ⟨a1, c1, rfl, r1⟩, _, h1⟩ := HA.out.at hx
      rw [e1] at x1 x2
      have x3 := h1 0 _ rfl
      simp only [Nat.mul_one, Nat.add_zero] at x3
      have R1 := Lib.hid r1
      have hxl := HS.out x (List.mem_of_getElem? hx)
      have HE1 := Lib.hid e1
      clear h1 hx r1 e1
      go_wp2_with fail
      go_quiet (fail)
      go_wp2_with fail
      go_loopw [6] (fun j wr => ∃ m n : Nat, m ≤ x.length ∧ j = .int .i64 m ∧ wr = w1.drewN n) (fun j _ => x.length - (intOf j).toNat)
      case atStart => exact ⟨0, n + nq, Nat.zero_le _, rfl, by simp [World.drewN, Nat.add_assoc]⟩
      case round =>
        obtain ⟨m, n2, hm, rfl, rfl⟩ := hrel
        by_cases hlt2 : m < x.length
        · have hmi : (m : Int) < x.length := by omega
          obtain ⟨y, hy⟩ := getAt hlt2
          obtain ⟨b3, o3, e3, h3⟩ := al_at R1.out hy
          subst e3
          have H3 := Lib.hid h3
          clear h3 hy
          have y1 : (w1.drewN n2).cell? _ = _ := x1
          have y2 : (w1.drewN n2).cell? _ = _ := x2
          have y3 : (w1.drewN n2).cell? _ = _ := x3
          have y4 : (w1.drewN n2).rangeAt b3 (o3 + m * 21) (alC y).toList := fun j v hv => H3.out j v hv
          have Y4 := Lib.hid y4
          obtain ⟨w2, hw2⟩ : ∃ w2, w1.drewN n2 = w2 := ⟨_, rfl⟩
          rw [hw2] at y1 y2 y3 Y4 ⊢
          have HW2 := Lib.hid hw2
          clear y4 hw2 x1 x2 x3
          go_wp2_with fail
          go_still_tail 16, (by kernel_rfl)
          refine wpStill_load_big bigAl rfl _ rfl b3 (o3 + m * 21) (alC y) rfl (fun j v hv => Y4.out j v hv) rfl ?_
          repeat still_step
          refine wpStill_load_big bigAl rfl _ rfl b3 (o3 + m * 21) (alC y) rfl (fun j v hv => Y4.out j v hv) rfl ?_
          refine wpStill_nil ?_
          change wpList _ _ _ _ _ w2.drew
          refine wpList_neq_al rfl _ _ _ rfl y rfl rfl ?_
          go_wp2_with fail
          go_roundw
          case rel => exact ⟨m + 1, n2 + 1, by omega, by go_num, by rw [← HW2.out]; rfl⟩
          case measure => simp [intOf]; omega
        · obtain rfl : m = x.length := by omega
          have f1 := decide_eq_false (show ¬ ((x.length : Nat) : Int) < x.length by omega)
          have f2 := decide_eq_false (show ¬ x.length < x.length by omega)
          go_wp2_with fail
          go_roundw
          case rel => exact ⟨k + 1, n2, by omega, by go_num, rfl⟩
          case measure => simp [intOf]; omega
    · obtain rfl : k = xs.length := by omega
      have f1 := decide_eq_false (show ¬ ((xs.length : Nat) : Int) < xs.length by omega)
      have f2 := decide_eq_false (show ¬ xs.length < xs.length by omega)
      go_wp2_with fail
      go_ret
      exact ⟨rfl, KK.out.drewN _⟩
theorem ralike_ok (r : Ru) (w : World) (ho : RoutsC w r r true) : Calls Try.prog 88 #[.agg (ruC r), .agg (ruC r)] w fun e w' => e = .returned (.bool true) ∧ Kept NoM w w' := by
  have KK := Lib.hid (((Kept.refl NoM w).alloc (.cells (ruC r) 39)).alloc (.cells (ruC r) 39))
  have hb1 := blk_old (blk_new w (.cells (ruC r) 39)) (.cells (ruC r) 39)
  have hb2 := blk_new' (w.alloc (.cells (ruC r) 39)) (.cells (ruC r) 39) (w.heap.size + 1) (by simp)
  have HB1 := Lib.hid hb1
  have HB2 := Lib.hid hb2
  have HC := Lib.hid (ho _ KK.out)
  have f1 : (r.step == r.step) = true := by simp
  clear ho hb1 hb2
  go_enter Try.func88, Try.ntmps88
  go_wp2_with (first
    | (refine wpList_load_bigG bigRu (by rfl) _ rfl w.heap.size 0 (ruC r) rfl (range_blk HB1.out) rfl ?_)
    | (refine wpList_load_bigG bigRu (by rfl) _ rfl (w.heap.size + 1) 0 (ruC r) rfl (range_blk HB2.out) rfl ?_)
    | (go_at_call 101; refine HC.out.mono ?_; rintro e w1 ⟨rfl, k1⟩; have K1 := Lib.hid (KK.out.trans k1); clear k1))
  go_ret
  exact ⟨rfl, K1.out⟩
theorem same_self (m : Nat → Int) : sameF m m = true := ten_iff.2 (fun i _ => by simp)
theorem rsrule_ok (r : Ru) (w : World) (ho : RoutsC w r r true) : Calls Try.prog 54 #[.agg (ruC r), .agg (ruC r)] w fun e w' => e = .returned (.bool true) ∧ Kept NoM w w' := by
  have KK := Lib.hid (((Kept.refl NoM w).alloc (.cells (ruC r) 39)).alloc (.cells (ruC r) 39))
  have hb1 := blk_old (blk_new w (.cells (ruC r) 39)) (.cells (ruC r) 39)
  have hb2 := blk_new' (w.alloc (.cells (ruC r) 39)) (.cells (ruC r) 39) (w.heap.size + 1) (by simp)
  have HB1 := Lib.hid hb1
  have HB2 := Lib.hid hb2
  have HC := Lib.hid (ralike_ok r _ (fun wx k => ho wx (KK.out.trans k)))
  have f1 : (r.pri == r.pri) = true := by simp
  clear ho hb1 hb2
  go_enter Try.func54, Try.ntmps54
  go_wp2_with (first
    | (refine wpList_load_bigG bigPat (by rfl) _ rfl w.heap.size 1 (patC r.msk r.bts) rfl (fun j v hv => cell_blk HB1.out (1 + j) v (ru_pat r hv)) rfl ?_)
    | (refine wpList_load_bigG bigPat (by rfl) _ rfl (w.heap.size + 1) 1 (patC r.msk r.bts) rfl (fun j v hv => cell_blk HB2.out (1 + j) v (ru_pat r hv)) rfl ?_)
    | (refine wpList_eql_pat (by rfl) _ _ _ rfl r.msk r.bts r.msk r.bts rfl rfl ?_; rw [same_self, same_self])
    | (refine wpList_load_bigG bigRu (by rfl) _ rfl w.heap.size 0 (ruC r) rfl (range_blk HB1.out) rfl ?_)
    | (refine wpList_load_bigG bigRu (by rfl) _ rfl (w.heap.size + 1) 0 (ruC r) rfl (range_blk HB2.out) rfl ?_)
    | (go_at_call 88; refine HC.out.mono ?_; rintro e w1 ⟨rfl, k1⟩; have K1 := Lib.hid (KK.out.trans k1); clear k1))
  go_ret
  exact ⟨rfl, K1.out⟩
end Go.Proofs.Ytghgegghlefclaa
