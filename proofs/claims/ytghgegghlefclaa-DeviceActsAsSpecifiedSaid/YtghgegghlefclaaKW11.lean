/- Walks: whether a pattern is right: the program. -/
import Derived.Test.YtghgegghlefclaaKW9
set_option linter.unusedVariables false
set_option linter.unusedSimpArgs false
set_option linter.unusedSectionVars false
namespace Go.Proofs.Ytghgegghlefclaa
open Go.RowKit
set_option maxHeartbeats 1000000
set_option maxRecDepth 8000
theorem brhc_ok (x : Int) (w : World) : Calls Try.prog 112 #[.int .i64 x] w fun e w' => e = .returned (.bool (!inW x)) ∧ w = w' := by
  have HE := Lib.hid (show inW x = (decide (0 ≤ x) && decide (x ≤ 65535)) from rfl)
  generalize inW x = b at *
  by_cases h1 : x < 0 <;> by_cases h2 : x > 65535
  all_goals
    go_enter Try.func112, Try.ntmps112
    go_wp2_with fail
    go_ret
    refine ⟨?_, rfl⟩
    rw [HE.out]
    first
    | (rw [decide_eq_false (p := 0 ≤ x) (by omega)]; rfl)
    | (rw [decide_eq_true (p := 0 ≤ x) (by omega), decide_eq_false (p := x ≤ 65535) (by omega)]; rfl)
    | (rw [decide_eq_true (p := 0 ≤ x) (by omega), decide_eq_true (p := x ≤ 65535) (by omega)]; rfl)
theorem idxfi_ok (v : Value) (l : List Int) (M : Nat → Prop) (w : World) (h : RdS w M 1 EInt v l) (hl : l.length ≤ 1000000) :
    Calls Try.prog 113 #[v, .func (.func 112) #[] #[]] w fun e w' => e = .returned (.int .i64 (idxL (fun x => !inW x) l)) ∧ w = w' := by
  obtain ⟨a, cap, rfl, _, _⟩ := h.shape
  have HH := Lib.hid h
  clear h
  go_enter Try.func113, Try.ntmps113
  go_wp2_with fail
  go_loop [8] (fun i => ∃ k : Nat, k ≤ l.length ∧ i = .int .i64 k ∧ Hid ((l.take k).any (fun x => !inW x) = false)) (fun i => l.length - (intOf i).toNat)
  case atStart => exact ⟨0, Nat.zero_le _, rfl, Lib.hid rfl⟩
  case round =>
    obtain ⟨k, hk, rfl, hA⟩ := hrel
    by_cases hlt : k < l.length
    · have hki : (k : Int) < l.length := by omega
      obtain ⟨x, hx⟩ := getAt hlt
      obtain ⟨b, off, e1, _, cs, rfl, _, hc⟩ := HH.out.at hx
      subst e1
      have x0 := hc 0 _ rfl
      simp only [Nat.mul_one, Nat.add_zero] at x0
      have HX := Lib.hid hx
      have HF := Lib.hid (fun wx => brhc_ok x wx)
      clear hc hx
      cases hxn : inW x with
      | false =>
        have HT := Lib.hid (show idxL (fun x => !inW x) l = k from idxL_hit HX.out (by simp [hxn]) hA.out)
        have HD := Lib.hid hxn
        clear hxn
        go_wp2_with (go_at_call 112; refine (HF.out _).mono ?_; rw [HD.out]; rintro e w1 ⟨rfl, rfl⟩)
        go_ret
        rw [HT.out]
        exact ⟨rfl, rfl⟩
      | true =>
        have HS := Lib.hid (show (l.take (k + 1)).any (fun x => !inW x) = false by rw [any_snoc HX.out, hA.out, hxn]; rfl)
        have HD := Lib.hid hxn
        clear hxn
        go_wp2_with (go_at_call 112; refine (HF.out _).mono ?_; rw [HD.out]; rintro e w1 ⟨rfl, rfl⟩)
        go_round
        case rel => exact ⟨k + 1, by omega, by go_num, HS⟩
        case measure => simp [intOf]; omega
    · obtain rfl : k = l.length := by omega
      have f1 := decide_eq_false (show ¬ ((l.length : Nat) : Int) < l.length by omega)
      have f2 := decide_eq_false (show ¬ l.length < l.length by omega)
      have HT := Lib.hid (show idxL (fun x => !inW x) l = -1 by have := hA.out; rw [List.take_length] at this; exact idxL_none this)
      go_wp2_with fail
      go_ret
      rw [HT.out]
      exact ⟨rfl, rfl⟩
theorem hasfi_ok (v : Value) (l : List Int) (M : Nat → Prop) (w : World) (h : RdS w M 1 EInt v l) (hl : l.length ≤ 1000000) :
    Calls Try.prog 111 #[v, .func (.func 112) #[] #[]] w fun e w' => e = .returned (.bool (l.any fun x => !inW x)) ∧ w = w' := by
  have HE := Lib.hid (show (l.any fun x => !inW x) = decide (0 ≤ idxL (fun x => !inW x) l) from (idxL_has _ _).symm)
  have HC := Lib.hid (idxfi_ok v l M w h hl)
  clear h
  generalize (l.any fun x => !inW x) = b at *
  generalize idxL (fun x => !inW x) l = i at *
  by_cases hi : 0 ≤ i
  all_goals
    go_enter Try.func111, Try.ntmps111
    go_wp2_with (go_at_call 113; refine HC.out.mono ?_; rintro e w1 ⟨rfl, rfl⟩)
    go_ret
    exact ⟨by rw [HE.out]; simp [hi], rfl⟩
theorem ten_any (m : Nat → Int) : (!(((List.range 10).map m).any fun x => !inW x)) = ten fun i => inW (m i) := by
  unfold ten
  rw [List.any_map]
  cases h : (List.range 10).all fun i => inW (m i)
  · rw [List.all_eq_false] at h
    obtain ⟨i, hi, h⟩ := h
    have : ((List.range 10).any ((fun x => !inW x) ∘ m)) = true := List.any_eq_true.2 ⟨i, hi, by simpa using h⟩
    rw [this]; rfl
  · rw [List.all_eq_true] at h
    have : ((List.range 10).any ((fun x => !inW x) ∘ m)) = false := by
      rw [List.any_eq_false]
      intro i hi
      simpa using h i hi
    rw [this]; rfl
theorem brh_ok (m : Nat → Int) (t : Bool) (ht : ten (fun i => inW (m i)) = t) (w : World) : Calls Try.prog 108 #[.agg (headC m)] w fun e w' => e = .returned (.bool t) ∧ Kept NoM w w' := by
  have K0 := Lib.hid ((Kept.refl NoM w).alloc (.cells (headC m) 34))
  have HR : Hid (RdS (w.alloc (.cells (headC m) 34)) NoM 1 EInt (.slice (some ⟨w.heap.size, 0, none⟩) 10 10) ((List.range 10).map m)) := Lib.hid (rd_list (f := fun x => Value.int .i64 x) (e := 34) (fun _ => rfl) (blk_new w _) 10 (by simp) (by unfold maxLen; omega) (fun x => x))
  have HC := Lib.hid (hasfi_ok _ _ NoM _ HR.out (by simp))
  have HE := Lib.hid (show (!(((List.range 10).map m).any fun x => !inW x)) = t by rw [ten_any]; exact ht)
  clear HR ht
  generalize (((List.range 10).map m).any fun x => !inW x) = b at *
  go_enter Try.func108, Try.ntmps108
  go_wp2_with (go_at_call 111; refine HC.out.mono ?_; rintro e w1 ⟨rfl, rfl⟩)
  go_ret
  exact ⟨by rw [← HE.out]; rfl, K0.out⟩
theorem bright_ok (m b : Nat → Int) (w : World) : Calls Try.prog 97 #[.agg (patC m b)] w fun e w' => e = .returned (.bool (rightP m b)) ∧ Kept NoM w w' := by
  have K0 := Lib.hid ((Kept.refl NoM w).alloc (.cells (patC m b) 36))
  have hb := blk_new w (.cells (patC m b) 36)
  have hlt0 := lt_of_block hb
  generalize hw0 : w.alloc (.cells (patC m b) 36) = w0 at *
  have H0 : Hid (∀ wx, Kept NoM w0 wx → wx.rangeAt w.heap.size 0 (headC m).toList) := Lib.hid (fun wx k j v hv => by
    rw [Nat.zero_add]; exact cell_blk (k.blk hb (fun x => x)) j v (pat_fst m b hv))
  have H1 : Hid (∀ wx, Kept NoM w0 wx → wx.rangeAt w.heap.size 10 (headC b).toList) := Lib.hid (fun wx k j v hv => cell_blk (k.blk hb (fun x => x)) (10 + j) v (pat_snd m b hv))
  have KR := Lib.hid (Kept.refl NoM w0)
  have HE := Lib.hid (show rightP m b = (ten (fun i => inW (m i)) && ten (fun i => inW (b i)) && ten (fun i => subW (b i) (m i))) from rfl)
  have C1 := Lib.hid (brh_ok m _ rfl)
  have C2 := Lib.hid (brh_ok b _ rfl)
  have HI : Hid (ten (fun i => inW (m i)) = true → ten (fun i => inW (b i)) = true → (∀ i, i < 10 → inW (m i) = true) ∧ (∀ i, i < 10 → inW (b i) = true)) := Lib.hid (fun h1 h2 => ⟨ten_iff.1 h1, ten_iff.1 h2⟩)
  cases c1 : ten (fun i => inW (m i)) <;> cases c2 : ten (fun i => inW (b i)) <;> rw [c1] at C1 HE HI <;> rw [c2] at C2 HE HI <;> clear c1 c2
  case true.true =>
    obtain ⟨hm, hbb⟩ := HI.out (by first | trivial | rfl) (by first | trivial | rfl)
    have HM := Lib.hid hm
    have HBB := Lib.hid hbb
    have HB := Lib.hid hb
    clear hm hbb hb
    subst hw0
    go_enter Try.func97, Try.ntmps97
    go_wp2_with (first
      | (refine wpList_load_big bigHead rfl _ rfl w.heap.size 0 (headC m) rfl (H0.out _ KR.out) rfl ?_)
      | (refine wpList_load_bigG bigHead (by rfl) _ rfl w.heap.size 10 (headC b) rfl (H1.out _ K1.out) rfl ?_)
      | (go_at_call 108; (with_reducible refine (C1.out _).mono ?_); rintro e w1 ⟨rfl, k1⟩; have K1 := Lib.hid (KR.out.trans k1); clear k1)
      | (go_at_call 108; (with_reducible refine (C2.out _).mono ?_); rintro e w2 ⟨rfl, k2⟩; have K2 := Lib.hid (K1.out.trans k2); clear k2))
    have HB2 := Lib.hid (K2.out.blk HB.out (fun x => x))
    go_loopw [14] (fun i wr => ∃ k n : Nat, k ≤ 10 ∧ i = .int .i64 k ∧ Hid (∀ j, j < k → subW (b j) (m j) = true) ∧ wr = w2.drewN n) (fun i _ => 10 - (intOf i).toNat)
    case atStart => exact ⟨0, 0, Nat.zero_le _, rfl, Lib.hid (fun j hj => absurd hj (Nat.not_lt_zero _)), rfl⟩
    case round =>
      obtain ⟨k, n, hk, rfl, hA, rfl⟩ := hrel
      by_cases hlt : k < 10
      · have hki : (k : Int) < 10 := by omega
        have x0 := cell_blk HB2.out (10 + k) _ (pat_snd m b (by simpa using head_at b hlt))
        have x1 := cell_blk HB2.out k _ (pat_fst m b (by simpa using head_at m hlt))
        by_cases h1 : subW (b k) (m k) = true
        · have f1 : (bits .andNot .i64 (b k) (m k) != 0) = false := by
            have := (sub_andnot (HBB.out k hlt) (HM.out k hlt)).2 h1
            rw [this]; simp
          have HT := Lib.hid h1
          clear h1
          go_wp2_with fail
          go_quiet (fail)
          go_wp2_with fail
          go_roundw
          case rel => exact ⟨k + 1, _, by omega, by go_num, Lib.hid (fun j hj => by
            by_cases h : j = k
            · rw [h]; exact HT.out
            · exact hA.out j (by omega)), rfl⟩
          case measure => simp [intOf]; omega
        · have f1 : (bits .andNot .i64 (b k) (m k) != 0) = true := by
            have : ¬ bits .andNot .i64 (b k) (m k) = 0 := fun e => h1 ((sub_andnot (HBB.out k hlt) (HM.out k hlt)).1 e)
            simpa using this
          have HT := Lib.hid (show rightP m b = false by rw [HE.out, ten_miss (p := fun i => subW (b i) (m i)) hlt (by simpa using h1)]; rfl)
          clear h1
          go_wp2_with fail
          go_quiet (fail)
          go_wp2_with fail
          go_ret
          rw [HT.out]
          exact ⟨rfl, K0.out.trans ((K2.out.drewN _).drewN _)⟩
      · obtain rfl : k = 10 := by omega
        have HT := Lib.hid (show rightP m b = true by rw [HE.out, ten_all (p := fun i => subW (b i) (m i)) hA.out]; rfl)
        go_wp2_with fail
        go_ret
        rw [HT.out]
        exact ⟨rfl, K0.out.trans (K2.out.drewN _)⟩
  all_goals
    have HE2 := Lib.hid HE.out
    clear HE hb
    subst hw0
    go_enter Try.func97, Try.ntmps97
    go_wp2_with (first
      | (refine wpList_load_big bigHead rfl _ rfl w.heap.size 0 (headC m) rfl (H0.out _ KR.out) rfl ?_)
      | (refine wpList_load_bigG bigHead (by rfl) _ rfl w.heap.size 10 (headC b) rfl (H1.out _ K1.out) rfl ?_)
      | (go_at_call 108; (with_reducible refine (C1.out _).mono ?_); rintro e w1 ⟨rfl, k1⟩; have K1 := Lib.hid (KR.out.trans k1); clear k1)
      | (go_at_call 108; (with_reducible refine (C2.out _).mono ?_); rintro e w2 ⟨rfl, k2⟩; have K2 := Lib.hid (K1.out.trans k2); clear k2))
    go_ret
    first
    | exact ⟨by rw [HE2.out]; rfl, K0.out.trans K2.out⟩
    | exact ⟨by rw [HE2.out]; rfl, K0.out.trans K1.out⟩
end Go.Proofs.Ytghgegghlefclaa
