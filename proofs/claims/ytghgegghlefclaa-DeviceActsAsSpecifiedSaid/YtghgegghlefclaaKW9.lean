/- Texts that belong together: W9, W10, W12. -/
import Derived.Test.YtghgegghlefclaaKW1
import Derived.Test.YtghgegghlefclaaKV5
import Derived.Test.YtghgegghlefclaaKAgg
set_option linter.unusedVariables false
set_option linter.unusedSimpArgs false
set_option linter.unusedSectionVars false
/- Walks: whether a pattern is right, in both texts. -/
namespace Go.Proofs.Ytghgegghlefclaa
open Go.RowKit
set_option maxHeartbeats 2000000
set_option maxRecDepth 8000
theorem ten_miss {p : Nat → Bool} {k : Nat} (hk : k < 10) (h : p k = false) : ten p = false := by
  cases e : ten p with
  | false => rfl
  | true => rw [ten_iff] at e; rw [e k hk] at h; cases h
theorem ten_all {p : Nat → Bool} (h : ∀ i, i < 10 → p i = true) : ten p = true := ten_iff.2 h
theorem prh_ok (m : Nat → Int) (w : World) : Calls Try.prog 103 #[.agg (headC m)] w fun e w' => e = .returned (.bool (ten fun i => inW (m i))) ∧ w' = w.alloc (.cells (headC m) 34) := by
  have HB := Lib.hid (blk_new w (.cells (headC m) 34))
  go_enter Try.func103, Try.ntmps103
  go_wp2_with fail
  go_loop [3] (fun i => ∃ k : Nat, k ≤ 10 ∧ i = .int .i64 k ∧ Hid (∀ j, j < k → inW (m j) = true)) (fun i => 10 - (intOf i).toNat)
  case atStart => exact ⟨0, Nat.zero_le _, rfl, Lib.hid (fun j hj => absurd hj (Nat.not_lt_zero _))⟩
  case round =>
    obtain ⟨k, hk, rfl, hA⟩ := hrel
    by_cases hlt : k < 10
    · have hki : (k : Int) < 10 := by omega
      have x0 := cell_blk HB.out k _ (head_at m hlt)
      by_cases h1 : m k < 0
      · have HT := Lib.hid (ten_miss (p := fun i => inW (m i)) hlt (by show inW (m k) = false; unfold inW; rw [decide_eq_false (by omega)]; rfl))
        go_wp2_with fail
        go_ret
        rw [HT.out]
        exact ⟨rfl, rfl⟩
      · by_cases h2 : m k > 65535
        · have HT := Lib.hid (ten_miss (p := fun i => inW (m i)) hlt (by show inW (m k) = false; unfold inW; rw [decide_eq_false (p := m k ≤ 65535) (by omega)]; simp))
          go_wp2_with fail
          go_ret
          rw [HT.out]
          exact ⟨rfl, rfl⟩
        · have HT := Lib.hid (show inW (m k) = true from inW_iff.2 ⟨by omega, by omega⟩)
          go_wp2_with fail
          go_round
          case rel => exact ⟨k + 1, by omega, by go_num, Lib.hid (fun j hj => by
            by_cases h : j = k
            · rw [h]; exact HT.out
            · exact hA.out j (by omega))⟩
          case measure => simp [intOf]; omega
    · obtain rfl : k = 10 := by omega
      have HT := Lib.hid (ten_all (p := fun i => inW (m i)) hA.out)
      go_wp2_with fail
      go_ret
      rw [HT.out]
      exact ⟨rfl, rfl⟩
theorem pw_ok (b m : Nat → Int) (hb : ∀ i, i < 10 → inW (b i) = true) (hm : ∀ i, i < 10 → inW (m i) = true) (w : World) : Calls Try.prog 104 #[.agg (headC b), .agg (headC m)] w fun e w' => e = .returned (.bool (ten fun i => subW (b i) (m i))) ∧ Kept NoM w w' := by
  have K2 := Lib.hid (((Kept.refl NoM w).alloc (.cells (headC b) 34)).alloc (.cells (headC m) 34))
  have HB := Lib.hid (blk_old (blk_new w (.cells (headC b) 34)) (.cells (headC m) 34))
  have HM := Lib.hid (blk_new' (w.alloc (.cells (headC b) 34)) (.cells (headC m) 34) (w.heap.size + 1) (by simp))
  have HSB := Lib.hid hb
  have HSM := Lib.hid hm
  clear hb hm
  go_enter Try.func104, Try.ntmps104
  go_wp2_with fail
  generalize hw2 : (w.alloc (.cells (headC b) 34)).alloc (.cells (headC m) 34) = w2 at *
  clear hw2
  go_loopw [5] (fun i wr => ∃ k n : Nat, k ≤ 10 ∧ i = .int .i64 k ∧ Hid (∀ j, j < k → subW (b j) (m j) = true) ∧ wr = w2.drewN n) (fun i _ => 10 - (intOf i).toNat)
  case atStart => exact ⟨0, 0, Nat.zero_le _, rfl, Lib.hid (fun j hj => absurd hj (Nat.not_lt_zero _)), rfl⟩
  case round =>
    obtain ⟨k, n, hk, rfl, hA, rfl⟩ := hrel
    by_cases hlt : k < 10
    · have hki : (k : Int) < 10 := by omega
      have x0 := cell_blk HB.out k _ (head_at b hlt)
      have x1 := cell_blk HM.out k _ (head_at m hlt)
      by_cases h1 : subW (b k) (m k) = true
      · have f1 : (bits .and .i64 (b k) (m k) != b k) = false := by
          have := (sub_and (HSB.out k hlt) (HSM.out k hlt)).2 h1
          rw [this]; simp
        have HT := Lib.hid h1
        clear h1
        go_wp2_with fail
        go_quiet (fail)
        go_wp2_with fail
        go_roundw
        case rel => exact ⟨k + 1, _, by omega, by go_num, Lib.hid (fun j hj => by
          by_cases h : j = k
          · rw [h]; exact HT.out
          · exact hA.out j (by omega)), rfl⟩
        case measure => simp [intOf]; omega
      · have f1 : (bits .and .i64 (b k) (m k) != b k) = true := by
          have : ¬ bits .and .i64 (b k) (m k) = b k := fun e => h1 ((sub_and (HSB.out k hlt) (HSM.out k hlt)).1 e)
          simpa using this
        have HT := Lib.hid (ten_miss (p := fun i => subW (b i) (m i)) hlt (by simpa using h1))
        clear h1
        go_wp2_with fail
        go_quiet (fail)
        go_wp2_with fail
        go_ret
        rw [HT.out]
        exact ⟨rfl, (K2.out.drewN _).drewN _⟩
    · obtain rfl : k = 10 := by omega
      have HT := Lib.hid (ten_all (p := fun i => subW (b i) (m i)) hA.out)
      go_wp2_with fail
      go_ret
      rw [HT.out]
      exact ⟨rfl, K2.out.drewN _⟩
end Go.Proofs.Ytghgegghlefclaa

/- Walks: whether a write is formed: the specification. -/
namespace Go.Proofs.Ytghgegghlefclaa
open Go.RowKit
set_option maxHeartbeats 400000
set_option maxRecDepth 8000
def rightP (m b : Nat → Int) : Bool := ten (fun i => inW (m i)) && ten (fun i => inW (b i)) && ten (fun i => subW (b i) (m i))
theorem right_P (r : Ru) : rightB r = rightP r.msk r.bts := rfl
theorem prh_b (m : Nat → Int) (t : Bool) (h : ten (fun i => inW (m i)) = t) (w : World) : Calls Try.prog 103 #[.agg (headC m)] w fun e w' => e = .returned (.bool t) ∧ Kept NoM w w' := (prh_ok m w).mono fun e w' ⟨h1, h2⟩ => ⟨by rw [h1, h], by rw [h2]; exact (Kept.refl _ _).alloc _⟩
theorem pw_b (b m : Nat → Int) (hm : ten (fun i => inW (m i)) = true) (hb : ten (fun i => inW (b i)) = true) (w : World) : Calls Try.prog 104 #[.agg (headC b), .agg (headC m)] w fun e w' => e = .returned (.bool (ten fun i => subW (b i) (m i))) ∧ Kept NoM w w' := pw_ok b m (ten_iff.1 hb) (ten_iff.1 hm) w
theorem pright_ok (m b : Nat → Int) (w : World) : Calls Try.prog 92 #[.agg (patC m b)] w fun e w' => e = .returned (.bool (rightP m b)) ∧ Kept NoM w w' := by
  have K0 := Lib.hid ((Kept.refl NoM w).alloc (.cells (patC m b) 36))
  have hb := blk_new w (.cells (patC m b) 36)
  have H0 : Hid (∀ wx, Kept NoM (w.alloc (.cells (patC m b) 36)) wx → wx.rangeAt w.heap.size 0 (headC m).toList) := Lib.hid (fun wx k j v hv => by
    rw [Nat.zero_add]; exact cell_blk (k.blk hb (fun x => x)) j v (pat_fst m b hv))
  have H1 : Hid (∀ wx, Kept NoM (w.alloc (.cells (patC m b) 36)) wx → wx.rangeAt w.heap.size 10 (headC b).toList) := Lib.hid (fun wx k j v hv => cell_blk (k.blk hb (fun x => x)) (10 + j) v (pat_snd m b hv))
  have KR := Lib.hid (Kept.refl NoM (w.alloc (.cells (patC m b) 36)))
  have HE := Lib.hid (show rightP m b = (ten (fun i => inW (m i)) && ten (fun i => inW (b i)) && ten (fun i => subW (b i) (m i))) from rfl)
  clear hb
  have W3 : Hid (ten (fun i => inW (m i)) = true → ten (fun i => inW (b i)) = true → ∀ wx, Calls Try.prog 104 #[.agg (headC b), .agg (headC m)] wx fun e w' => e = .returned (.bool (ten fun i => subW (b i) (m i))) ∧ Kept NoM wx w') := Lib.hid (fun h1 h2 wx => pw_b b m h1 h2 wx)
  have C1 := Lib.hid (prh_b m _ rfl)
  have C2 := Lib.hid (prh_b b _ rfl)
  generalize rightP m b = res at *
  generalize (ten fun i => subW (b i) (m i)) = t3 at *
  cases c1 : ten (fun i => inW (m i)) <;> cases c2 : ten (fun i => inW (b i)) <;> rw [c1] at C1 W3 HE <;> rw [c2] at C2 W3 HE <;> clear c1 c2
  all_goals
    have HE2 := Lib.hid HE.out
    clear HE
    go_enter Try.func92, Try.ntmps92
    go_wp2_with (first
      | (refine wpList_load_big bigHead rfl _ rfl w.heap.size 0 (headC m) rfl (H0.out _ (by first | exact K2.out | exact K1.out | exact KR.out)) rfl ?_)
      | (refine wpList_load_big bigHead rfl _ rfl w.heap.size 10 (headC b) rfl (H1.out _ (by first | exact K2.out | exact K1.out | exact KR.out)) rfl ?_)
      | (refine wpList_load_bigG bigHead (by rfl) _ rfl w.heap.size 0 (headC m) rfl (H0.out _ (by first | exact K2.out | exact K1.out | exact KR.out)) rfl ?_)
      | (refine wpList_load_bigG bigHead (by rfl) _ rfl w.heap.size 10 (headC b) rfl (H1.out _ (by first | exact K2.out | exact K1.out | exact KR.out)) rfl ?_)
      | (go_at_call 103; (with_reducible refine (C1.out _).mono ?_); rintro e w1 ⟨rfl, k1⟩; have K1 := Lib.hid (KR.out.trans k1); clear k1)
      | (go_at_call 103; (with_reducible refine (C2.out _).mono ?_); rintro e w2 ⟨rfl, k2⟩; have K2 := Lib.hid (K1.out.trans k2); clear k2)
      | (go_at_call 104; refine (W3.out (by first | trivial | rfl) (by first | trivial | rfl) _).mono ?_; rintro e w3 ⟨rfl, k3⟩; have K3 := Lib.hid (K2.out.trans k3); clear k3))
    go_ret
    first
    | exact ⟨by rw [HE2.out]; rfl, K0.out.trans K3.out⟩
    | exact ⟨by rw [HE2.out]; rfl, K0.out.trans K2.out⟩
end Go.Proofs.Ytghgegghlefclaa

/- Walks: whether a write is formed: the specification. -/
namespace Go.Proofs.Ytghgegghlefclaa
open Go.RowKit
set_option maxHeartbeats 1000000
set_option maxRecDepth 8000
theorem rbare_ok (r : Ru) (w : World) : Calls Try.prog 93 #[.agg (ruC r)] w fun e w' => e = .returned (.bool (bareB r)) ∧ Kept NoM w w' := by
  have K0 := Lib.hid ((Kept.refl NoM w).alloc (.cells (ruC r) 39))
  have hb := blk_new w (.cells (ruC r) 39)
  have HR : Hid ((w.alloc (.cells (ruC r) 39)).rangeAt w.heap.size 1 (patC r.msk r.bts).toList) := Lib.hid (fun j v hv => cell_blk hb (1 + j) v (ru_pat r hv))
  have HE := Lib.hid (show bareB r = (sameF r.msk (fun _ => 0) && sameF r.bts (fun _ => 0) && decide (r.step = 0) && decide (r.on = 0)) from rfl)
  generalize bareB r = res at *
  clear hb
  cases hz : (sameF r.msk (fun _ => 0) && sameF r.bts (fun _ => 0)) <;> by_cases h1 : r.step = 0 <;> by_cases h2 : r.on = 0 <;> rw [hz] at HE <;> have HZ := Lib.hid hz <;> clear hz
  all_goals
    go_enter Try.func93, Try.ntmps93
    go_wp2_with (first | (refine wpList_load_big bigPat rfl _ rfl w.heap.size 1 (patC r.msk r.bts) rfl HR.out rfl ?_) | (refine wpList_eql_pat rfl _ _ _ rfl r.msk r.bts (fun _ => 0) (fun _ => 0) rfl rfl ?_; rw [HZ.out]))
    go_ret
    exact ⟨by rw [HE.out]; simp [h1, h2], K0.out⟩
theorem formed_eq (x : Wr) : formedB x = (okN x.ep && okN x.seq && (if x.kind = 1 then okP x.rule.pri && rightB x.rule else if x.kind = 2 then okP x.rule.pri && bareB x.rule else if x.kind = 3 then decide (x.rule.pri = 0) && bareB x.rule else false)) := rfl
theorem rformed_ok (x : Wr) (w : World) : Calls Try.prog 57 #[.agg (wrC x)] w fun e w' => e = .returned (.bool (formedB x)) ∧ Kept NoM w w' := by
  have K0 := Lib.hid ((Kept.refl NoM w).alloc (.cells (wrC x) 41))
  have hb := blk_new w (.cells (wrC x) 41)
  have HP : Hid ((w.alloc (.cells (wrC x) 41)).rangeAt w.heap.size 4 (patC x.rule.msk x.rule.bts).toList) := Lib.hid (fun j v hv => cell_blk hb (4 + j) v (wr_pat x hv))
  have HR : Hid ((w.alloc (.cells (wrC x) 41)).rangeAt w.heap.size 3 (ruC x.rule).toList) := Lib.hid (fun j v hv => cell_blk hb (3 + j) v (wr_ru x hv))
  have HE := Lib.hid (formed_eq x)
  rw [right_P] at HE
  have N1 := Lib.hid (fun w => rnum_ok x.ep w)
  have N2 := Lib.hid (fun w => rnum_ok x.seq w)
  have P1 := Lib.hid (fun w => rpri_ok x.rule.pri w)
  have B1 := Lib.hid (fun w => rbare_ok x.rule w)
  have R1 := Lib.hid (fun w => pright_ok x.rule.msk x.rule.bts w)
  clear hb
  generalize formedB x = res at *
  generalize okN x.ep = n1 at *
  generalize okN x.seq = n2 at *
  generalize okP x.rule.pri = p1 at *
  generalize bareB x.rule = b1 at *
  generalize rightP x.rule.msk x.rule.bts = r1 at *
  cases n1 <;> cases n2
  case true.true =>
    by_cases k1 : x.kind = 1
    · rw [if_pos k1] at HE
      cases p1
      all_goals
        go_enter Try.func57, Try.ntmps57
        go_wp2_with (first
          | (go_at_call 91; (with_reducible refine (N1.out _).mono ?_); rintro e w1 ⟨rfl, rfl⟩) | (go_at_call 91; (with_reducible refine (N2.out _).mono ?_); rintro e w1 ⟨rfl, rfl⟩)
          | (go_at_call 62; refine (P1.out _).mono ?_; rintro e w1 ⟨rfl, rfl⟩)
          | (go_at_call 92; refine (R1.out _).mono ?_; rintro e w1 ⟨rfl, k1⟩; have K1 := Lib.hid k1; clear k1)
          | (refine wpList_load_bigG bigPat (by rfl) _ rfl w.heap.size 4 (patC x.rule.msk x.rule.bts) rfl HP.out rfl ?_))
        go_ret
        first
        | exact ⟨by rw [HE.out]; simp, K0.out.trans K1.out⟩
        | exact ⟨by rw [HE.out]; simp, K0.out⟩
    · rw [if_neg k1] at HE
      by_cases k2 : x.kind = 2
      · rw [if_pos k2] at HE
        cases p1
        all_goals
          go_enter Try.func57, Try.ntmps57
          go_wp2_with (first
            | (go_at_call 91; (with_reducible refine (N1.out _).mono ?_); rintro e w1 ⟨rfl, rfl⟩) | (go_at_call 91; (with_reducible refine (N2.out _).mono ?_); rintro e w1 ⟨rfl, rfl⟩)
            | (go_at_call 62; refine (P1.out _).mono ?_; rintro e w1 ⟨rfl, rfl⟩)
            | (go_at_call 93; refine (B1.out _).mono ?_; rintro e w1 ⟨rfl, k1⟩; have K1 := Lib.hid k1; clear k1)
            | (refine wpList_load_bigG bigRu (by rfl) _ rfl w.heap.size 3 (ruC x.rule) rfl HR.out rfl ?_))
          go_ret
          first
          | exact ⟨by rw [HE.out]; simp, K0.out.trans K1.out⟩
          | exact ⟨by rw [HE.out]; simp, K0.out⟩
      · rw [if_neg k2] at HE
        by_cases k3 : x.kind = 3
        · rw [if_pos k3] at HE
          by_cases h0 : x.rule.pri = 0
          all_goals
            go_enter Try.func57, Try.ntmps57
            go_wp2_with (first
              | (go_at_call 91; (with_reducible refine (N1.out _).mono ?_); rintro e w1 ⟨rfl, rfl⟩) | (go_at_call 91; (with_reducible refine (N2.out _).mono ?_); rintro e w1 ⟨rfl, rfl⟩)
              | (go_at_call 93; refine (B1.out _).mono ?_; rintro e w1 ⟨rfl, k1⟩; have K1 := Lib.hid k1; clear k1)
              | (refine wpList_load_bigG bigRu (by rfl) _ rfl w.heap.size 3 (ruC x.rule) rfl HR.out rfl ?_))
            go_ret
            first
            | exact ⟨by rw [HE.out]; simp [h0], K0.out.trans K1.out⟩
            | exact ⟨by rw [HE.out]; simp [h0], K0.out⟩
        · rw [if_neg k3] at HE
          go_enter Try.func57, Try.ntmps57
          go_wp2_with (first
            | (go_at_call 91; (with_reducible refine (N1.out _).mono ?_); rintro e w1 ⟨rfl, rfl⟩) | (go_at_call 91; (with_reducible refine (N2.out _).mono ?_); rintro e w1 ⟨rfl, rfl⟩))
          go_ret
          exact ⟨by rw [HE.out]; simp, K0.out⟩
  all_goals
    go_enter Try.func57, Try.ntmps57
    go_wp2_with (first
      | (go_at_call 91; (with_reducible refine (N1.out _).mono ?_); rintro e w1 ⟨rfl, rfl⟩) | (go_at_call 91; (with_reducible refine (N2.out _).mono ?_); rintro e w1 ⟨rfl, rfl⟩))
    go_ret
    exact ⟨by rw [HE.out]; simp, K0.out⟩
end Go.Proofs.Ytghgegghlefclaa
