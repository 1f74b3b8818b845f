/- Walks: where a rule stands in a table: the library's binary search. -/
import Derived.Test.YtghgegghlefclaaKW4
import Derived.IntWalk
set_option linter.unusedVariables false
set_option linter.unusedSimpArgs false
set_option linter.unusedSectionVars false
namespace Go.Proofs.Ytghgegghlefclaa
open Go.RowKit
set_option maxHeartbeats 2000000
set_option maxRecDepth 8000
/-- where a priority's rule stands, or would stand -/
def posT (p : Int) : List Ru → Nat
  | [] => 0
  | x :: t => if p < x.pri then posT p t + 1 else 0
def hasT (p : Int) (t : List Ru) : Bool := t.any fun x => decide (x.pri = p)
theorem posT_le (p : Int) (t : List Ru) : posT p t ≤ t.length := by
  induction t with
  | nil => exact Nat.le_refl _
  | cons x t ih =>
    unfold posT
    split
    · simp only [List.length_cons]; omega
    · simp
theorem posT_eq {p : Int} {t : List Ru} {i : Nat} (hi : i ≤ t.length) (h1 : ∀ (k : Nat) x, k < i → t[k]? = some x → p < x.pri) (h2 : ∀ (k : Nat) x, i ≤ k → t[k]? = some x → x.pri ≤ p) : posT p t = i := by
  induction t generalizing i with
  | nil => simp at hi; subst hi; rfl
  | cons x t ih =>
    unfold posT
    cases i with
    | zero =>
      have := h2 0 x (Nat.le_refl _) rfl
      rw [if_neg (by omega)]
    | succ i =>
      rw [if_pos (h1 0 x (Nat.succ_pos _) rfl), ih (by simpa using hi) (fun k y hk hy => h1 (k + 1) y (by omega) (by simpa using hy)) (fun k y hk hy => h2 (k + 1) y (by omega) (by simpa using hy))]
theorem DecT.at {t : List Ru} (h : DecT t) {i j : Nat} {x y : Ru} (hij : i < j) (hx : t[i]? = some x) (hy : t[j]? = some y) : y.pri < x.pri := by
  induction t generalizing i j with
  | nil => simp at hx
  | cons z t ih =>
    obtain ⟨h1, h2⟩ := h
    cases j with
    | zero => omega
    | succ j =>
      simp only [List.getElem?_cons_succ] at hy
      cases i with
      | zero =>
        simp only [List.getElem?_cons_zero, Option.some.injEq] at hx
        subst hx
        exact h1 y (List.mem_of_getElem? hy)
      | succ i =>
        simp only [List.getElem?_cons_succ] at hx
        exact ih h2 (by omega) hx hy
theorem hasT_at {p : Int} {t : List Ru} {i : Nat} (h1 : ∀ (k : Nat) x, k < i → t[k]? = some x → p < x.pri) (h2 : ∀ (k : Nat) x, i < k → t[k]? = some x → x.pri < p) {x : Ru} (hx : t[i]? = some x) : hasT p t = decide (x.pri = p) := by
  by_cases hp : x.pri = p
  · rw [decide_eq_true hp]
    exact any_hit hx (by simpa using hp)
  · rw [decide_eq_false hp]
    unfold hasT
    rw [List.any_eq_false]
    intro y hy
    obtain ⟨k, hk⟩ := List.getElem?_of_mem hy
    rcases Nat.lt_trichotomy k i with h | h | h
    · have := h1 k y h hk; simp; omega
    · subst h; rw [hx] at hk; cases hk; simpa using hp
    · have := h2 k y h hk; simp; omega
theorem hasT_end {p : Int} {t : List Ru} (h1 : ∀ (k : Nat) x, k < t.length → t[k]? = some x → p < x.pri) : hasT p t = false := by
  unfold hasT
  rw [List.any_eq_false]
  intro y hy
  obtain ⟨k, hk⟩ := List.getElem?_of_mem hy
  have := h1 k y (List.getElem?_eq_some_iff.1 hk).1 hk
  simp; omega
theorem findc_ok (x : Ru) (p : Int) (w : World) : Calls Try.prog 79 #[.agg (ruC x), .int .i64 p] w fun e w' => e = .returned (.int .i64 (cmpI p x.pri)) ∧ w' = w.alloc (.cells (ruC x) 39) := by
  go_enter Try.func79, Try.ntmps79
  go_wp2_with (go_at_call 80; refine (cmp_ok _ _ _).mono ?_; rintro e w' ⟨rfl, rfl⟩)
  go_ret
  exact ⟨rfl, rfl⟩
theorem cmpI_lt {p q : Int} (h : p < q) : cmpI p q = -1 := by unfold cmpI; rw [if_pos h]
theorem cmpI_gt {p q : Int} (h : q < p) : cmpI p q = 1 := by unfold cmpI; rw [if_neg (by omega), if_pos h]
theorem cmpI_eq (p : Int) : cmpI p p = 0 := by unfold cmpI; rw [if_neg (by omega), if_neg (by omega)]
theorem bsf_ok (v : Value) (t : List Ru) (M : Nat → Prop) (p : Int) (w : World) (h : RdS w M 23 ERu v t) (hd : DecT t) (hl : t.length ≤ 1000000) :
    Calls Try.prog 78 #[v, .int .i64 p, .func (.func 79) #[] #[]] w fun e w' => e = .returned (.tuple #[.int .i64 (posT p t), .bool (hasT p t)]) ∧ Kept NoM w w' := by
  obtain ⟨a, cap, rfl, _, _⟩ := h.shape
  have HH := Lib.hid h
  have HD := Lib.hid hd
  clear h hd
  go_enter Try.func78, Try.ntmps78
  go_wp2_with fail
  go_loopw [9, 10] (fun i j wr => ∃ k m : Nat, k ≤ m ∧ m ≤ t.length ∧ i = .int .i64 k ∧ j = .int .i64 m ∧ Hid (∀ (q : Nat) x, q < k → t[q]? = some x → p < x.pri) ∧ Hid (∀ (q : Nat) x, m ≤ q → t[q]? = some x → x.pri ≤ p) ∧ Hid (Kept NoM w wr)) (fun i j _ => (intOf j).toNat - (intOf i).toNat)
  case atStart => exact ⟨0, t.length, Nat.zero_le _, Nat.le_refl _, rfl, rfl, Lib.hid (fun q x hq => by omega), Lib.hid (fun q x hq hx => by have := (List.getElem?_eq_some_iff.1 hx).1; omega), Lib.hid (Kept.refl _ _)⟩
  case round =>
    obtain ⟨k, m, hkm, hml, rfl, rfl, hlo, hhi, hK⟩ := hrel
    by_cases hlt : k < m
    · obtain ⟨q, hq⟩ : ∃ q, (k + m) / 2 = q := ⟨_, rfl⟩
      have hq1 : k ≤ q := by omega
      have hq2 : q < m := by omega
      have hki : (k : Int) < m := by omega
      obtain ⟨x, hx⟩ := getAt (xs := t) (k := q) (by omega)
      obtain ⟨b, off, e1, hM, hc⟩ := ru_at (HH.out.kept hK.out.of_no (fun _ _ x => x)) hx
      subst e1
      have HC := Lib.hid hc
      have HX := Lib.hid hx
      have w1 : IntKind.i64.wrap ((k : Int) + m) = (k : Int) + m := IntWalk.i64_in _ (by omega)
      have hqq : ((k : Int) + m) / 2 = q := by omega
      have hqi : (q : Int) < t.length := by omega
      clear hc hx
      have FC := Lib.hid (fun wx => findc_ok x p wx)
      have HQ := Lib.hid hq
      clear hq
      by_cases hp : p < x.pri
      · have HE := Lib.hid (cmpI_lt hp)
        have HP := Lib.hid hp
        clear hp
        go_wp2_with (first | (refine wpList_load_big bigRu rfl _ rfl b (off + q * 23) (ruC x) rfl HC.out rfl ?_) | (go_at_call 79; refine (FC.out _).mono ?_; rw [HE.out]; rintro e w1 ⟨rfl, rfl⟩))
        go_roundw
        case rel => exact ⟨q + 1, m, by omega, hml, by go_num, rfl, Lib.hid (fun r y hr hy => by
          rcases Nat.lt_or_ge r q with h | h
          · have := HD.out.at h hy HX.out; have := HP.out; omega
          · obtain rfl : r = q := by omega
            have := HX.out.symm.trans hy; cases this; exact HP.out), hhi, Lib.hid (hK.out.alloc _)⟩
        case measure => simp [intOf]; omega
      · have HE : Hid (∃ c, cmpI p x.pri = c ∧ 0 ≤ c) := Lib.hid (by
          rcases Int.lt_trichotomy p x.pri with h | h | h
          · exact absurd h hp
          · exact ⟨0, by rw [h]; exact cmpI_eq _, by omega⟩
          · exact ⟨1, cmpI_gt h, by omega⟩)
        obtain ⟨c, HE2, hc0⟩ := HE.out
        have HE3 := Lib.hid HE2
        have HP := Lib.hid hp
        have hcn : ¬ c < 0 := by omega
        clear hp HE HE2
        go_wp2_with (first | (refine wpList_load_big bigRu rfl _ rfl b (off + q * 23) (ruC x) rfl HC.out rfl ?_) | (go_at_call 79; refine (FC.out _).mono ?_; rw [HE3.out]; rintro e w1 ⟨rfl, rfl⟩))
        go_roundw
        case rel => exact ⟨k, q, hq1, by omega, rfl, rfl, hlo, Lib.hid (fun r y hr hy => by
          rcases Nat.lt_or_ge q r with h | h
          · have := HD.out.at h HX.out hy; have := HP.out; omega
          · obtain rfl : r = q := by omega
            have := HX.out.symm.trans hy; cases this; have := HP.out; omega), Lib.hid (hK.out.alloc _)⟩
        case measure => simp [intOf]; omega
    · obtain rfl : k = m := by omega
      have f1 : ¬ (k : Int) < k := by omega
      have HT := Lib.hid (posT_eq hml hlo.out hhi.out)
      by_cases hkl : k < t.length
      · have hki : (k : Int) < t.length := by omega
        obtain ⟨x, hx⟩ := getAt hkl
        obtain ⟨b, off, e1, hM, hc⟩ := ru_at (HH.out.kept hK.out.of_no (fun _ _ x => x)) hx
        subst e1
        have HC := Lib.hid hc
        have HX := Lib.hid hx
        have HB := Lib.hid (hasT_at hlo.out (fun q y hq hy => by have := HD.out.at hq hx hy; have := hhi.out k x (Nat.le_refl _) hx; omega) hx)
        have FC := Lib.hid (fun wx => findc_ok x p wx)
        have hle := hhi.out k x (Nat.le_refl _) hx
        clear hc hx
        by_cases hp : x.pri = p
        · have HE := Lib.hid (show cmpI p x.pri = 0 by rw [hp]; exact cmpI_eq _)
          have HF := Lib.hid (show hasT p t = true by rw [HB.out]; simpa using hp)
          clear hp hle
          go_wp2_with (first | (refine wpList_load_bigG bigRu (by rfl) _ rfl b (off + k * 23) (ruC x) rfl HC.out rfl ?_) | (go_at_call 79; refine (FC.out _).mono ?_; rw [HE.out]; rintro e w1 ⟨rfl, rfl⟩))
          go_ret2
          rw [HT.out, HF.out]
          exact ⟨rfl, hK.out.alloc _⟩
        · have HE := Lib.hid (show cmpI p x.pri = 1 from cmpI_gt (by omega))
          have HF := Lib.hid (show hasT p t = false by rw [HB.out]; simpa using hp)
          clear hp hle
          go_wp2_with (first | (refine wpList_load_bigG bigRu (by rfl) _ rfl b (off + k * 23) (ruC x) rfl HC.out rfl ?_) | (go_at_call 79; refine (FC.out _).mono ?_; rw [HE.out]; rintro e w1 ⟨rfl, rfl⟩))
          go_ret2
          rw [HT.out, HF.out]
          exact ⟨rfl, hK.out.alloc _⟩
      · obtain rfl : k = t.length := by omega
        have f3 : ¬ (t.length : Int) < t.length := by omega
        have f4 := decide_eq_false (show ¬ t.length < t.length by omega)
        have HF := Lib.hid (hasT_end hlo.out)
        go_wp2_with fail
        go_ret2
        rw [HT.out, HF.out]
        exact ⟨rfl, hK.out⟩
theorem find_ok (v : Value) (t : List Ru) (M : Nat → Prop) (p : Int) (w : World) (h : RdS w M 23 ERu v t) (hd : DecT t) (hl : t.length ≤ 1000000) :
    Calls Try.prog 43 #[v, .int .i64 p] w fun e w' => e = .returned (.tuple #[.int .i64 (posT p t), .bool (hasT p t)]) ∧ Kept NoM w w' := by
  have HC := Lib.hid (bsf_ok v t M p w h hd hl)
  clear h hd
  generalize posT p t = k at *
  generalize hasT p t = b at *
  go_enter Try.func43, Try.ntmps43
  go_wp2_with (go_at_call 78; refine HC.out.mono ?_; rintro e w1 ⟨rfl, k1⟩)
  go_ret2
  exact ⟨rfl, k1⟩
end Go.Proofs.Ytghgegghlefclaa
