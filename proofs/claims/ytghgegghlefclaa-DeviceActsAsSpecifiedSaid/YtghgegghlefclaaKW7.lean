/- Walks: where a number stands in a list: the library's binary search. -/
import Derived.Test.YtghgegghlefclaaKW1
import Derived.IntWalk
set_option linter.unusedVariables false
set_option linter.unusedSimpArgs false
set_option linter.unusedSectionVars false
namespace Go.Proofs.Ytghgegghlefclaa
open Go.RowKit
set_option maxHeartbeats 2000000
set_option maxRecDepth 8000
def posI (n : Int) : List Int → Nat
  | [] => 0
  | x :: t => if x < n then posI n t + 1 else 0
theorem posI_le (n : Int) (l : List Int) : posI n l ≤ l.length := by
  induction l with
  | nil => exact Nat.le_refl _
  | cons x t ih =>
    unfold posI
    split
    · simp only [List.length_cons]; omega
    · simp
theorem posI_eq {n : Int} {t : List Int} {i : Nat} (hi : i ≤ t.length) (h1 : ∀ (k : Nat) x, k < i → t[k]? = some x → x < n) (h2 : ∀ (k : Nat) x, i ≤ k → t[k]? = some x → n ≤ x) : posI n t = i := by
  induction t generalizing i with
  | nil => simp at hi; subst hi; rfl
  | cons x t ih =>
    unfold posI
    cases i with
    | zero =>
      have := h2 0 x (Nat.le_refl _) rfl
      rw [if_neg (by omega)]
    | succ i =>
      rw [if_pos (h1 0 x (Nat.succ_pos _) rfl), ih (by simpa using hi) (fun k y hk hy => h1 (k + 1) y (by omega) (by simpa using hy)) (fun k y hk hy => h2 (k + 1) y (by omega) (by simpa using hy))]
theorem insI_pos {n : Int} {l : List Int} (h : IncI l) (hn : n ∉ l) : insI n l = l.take (posI n l) ++ n :: l.drop (posI n l) := by
  induction l with
  | nil => rfl
  | cons x l ih =>
    obtain ⟨h1, h2⟩ := h
    simp only [List.mem_cons, not_or] at hn
    unfold insI posI
    by_cases c : n < x
    · rw [if_pos c, if_neg (by omega)]; rfl
    · rw [if_neg c, if_pos (by omega), ih h2 hn.2]; rfl
theorem IncI.at {t : List Int} (h : IncI t) {i j : Nat} {x y : Int} (hij : i < j) (hx : t[i]? = some x) (hy : t[j]? = some y) : x < y := by
  induction t generalizing i j with
  | nil => simp at hx
  | cons z t ih =>
    obtain ⟨h1, h2⟩ := h
    cases j with
    | zero => omega
    | succ j =>
      simp only [List.getElem?_cons_succ] at hy
      cases i with
      | zero =>
        simp only [List.getElem?_cons_zero, Option.some.injEq] at hx
        subst hx
        exact h1 y (List.mem_of_getElem? hy)
      | succ i =>
        simp only [List.getElem?_cons_succ] at hx
        exact ih h2 (by omega) hx hy
theorem isnan2_ok (x : Int) (w : World) : Calls Try.prog 85 #[.int .i64 x] w fun e w' => e = .returned (.bool false) ∧ w = w' := by
  have x0 : (x != x) = false := by simp
  go_enter Try.func85, Try.ntmps85
  go_wp2_with fail
  go_ret
  exact ⟨rfl, rfl⟩
def FoundI (k : Nat) (w : World) (e : Ending) (w' : World) : Prop := ∃ b : Bool, e = .returned (.tuple #[.int .i64 k, .bool b]) ∧ w = w'
theorem bsi_ok (v : Value) (t : List Int) (M : Nat → Prop) (p : Int) (w : World) (h : RdS w M 1 EInt v t) (hd : IncI t) (hl : t.length ≤ 1000000) :
    Calls Try.prog 50 #[v, .int .i64 p] w (FoundI (posI p t) w) := by
  obtain ⟨a, cap, rfl, _, _⟩ := h.shape
  have HH := Lib.hid h
  have HD := Lib.hid hd
  clear h hd
  go_enter Try.func50, Try.ntmps50
  go_wp2_with fail
  go_loop [7, 8] (fun i j => ∃ k m : Nat, k ≤ m ∧ m ≤ t.length ∧ i = .int .i64 k ∧ j = .int .i64 m ∧ Hid (∀ (q : Nat) x, q < k → t[q]? = some x → x < p) ∧ Hid (∀ (q : Nat) x, m ≤ q → t[q]? = some x → p ≤ x)) (fun i j => (intOf j).toNat - (intOf i).toNat)
  case atStart => exact ⟨0, t.length, Nat.zero_le _, Nat.le_refl _, rfl, rfl, Lib.hid (fun q x hq => by omega), Lib.hid (fun q x hq hx => by have := (List.getElem?_eq_some_iff.1 hx).1; omega)⟩
  case round =>
    obtain ⟨k, m, hkm, hml, rfl, rfl, hlo, hhi⟩ := hrel
    by_cases hlt : k < m
    · obtain ⟨q, hq⟩ : ∃ q, (k + m) / 2 = q := ⟨_, rfl⟩
      have hq1 : k ≤ q := by omega
      have hq2 : q < m := by omega
      have hki : (k : Int) < m := by omega
      obtain ⟨x, hx⟩ := getAt (xs := t) (k := q) (by omega)
      obtain ⟨b, off, e1, _, cs, rfl, _, hc⟩ := HH.out.at hx
      subst e1
      have x0 := hc 0 _ rfl
      simp only [Nat.mul_one, Nat.add_zero] at x0
      have HX := Lib.hid hx
      have w1 : IntKind.i64.wrap ((k : Int) + m) = (k : Int) + m := IntWalk.i64_in _ (by omega)
      have hqq : ((k : Int) + m) / 2 = q := by omega
      have hqi : (q : Int) < t.length := by omega
      clear hc hx
      have FC := Lib.hid (fun wx => less_ok x p wx)
      have HQ := Lib.hid hq
      clear hq
      by_cases hp : x < p
      · have HE := Lib.hid (decide_eq_true hp)
        have HP := Lib.hid hp
        clear hp
        go_wp2_with (go_at_call 84; refine (FC.out _).mono ?_; rw [HE.out]; rintro e w1 ⟨rfl, rfl⟩)
        go_round
        case rel => exact ⟨q + 1, m, by omega, hml, by go_num, rfl, Lib.hid (fun r y hr hy => by
          rcases Nat.lt_or_ge r q with h | h
          · have := HD.out.at h hy HX.out; have := HP.out; omega
          · obtain rfl : r = q := by omega
            have := HX.out.symm.trans hy; cases this; exact HP.out), hhi⟩
        case measure => simp [intOf]; omega
      · have HE := Lib.hid (decide_eq_false hp)
        have HP := Lib.hid hp
        clear hp
        go_wp2_with (go_at_call 84; refine (FC.out _).mono ?_; rw [HE.out]; rintro e w1 ⟨rfl, rfl⟩)
        go_round
        case rel => exact ⟨k, q, hq1, by omega, rfl, rfl, hlo, Lib.hid (fun r y hr hy => by
          rcases Nat.lt_or_ge q r with h | h
          · have := HD.out.at h HX.out hy; have := HP.out; omega
          · obtain rfl : r = q := by omega
            have := HX.out.symm.trans hy; cases this; have := HP.out; omega)⟩
        case measure => simp [intOf]; omega
    · obtain rfl : k = m := by omega
      have f1 : ¬ (k : Int) < k := by omega
      have HT := Lib.hid (posI_eq hml hlo.out hhi.out)
      by_cases hkl : k < t.length
      · have hki : (k : Int) < t.length := by omega
        obtain ⟨x, hx⟩ := getAt hkl
        obtain ⟨b, off, e1, _, cs, rfl, _, hc⟩ := HH.out.at hx
        subst e1
        have x0 := hc 0 _ rfl
        simp only [Nat.mul_one, Nat.add_zero] at x0
        clear hc hx
        by_cases hp : x = p
        · have f2 : (x == p) = true := by simpa using hp
          clear hp
          go_wp2_with (go_at_call 85; refine (isnan2_ok _ _).mono ?_; rintro e w' ⟨rfl, rfl⟩)
          go_ret2
          rw [HT.out]
          exact ⟨_, rfl, rfl⟩
        · have f2 : (x == p) = false := by simpa using hp
          clear hp
          go_wp2_with (go_at_call 85; refine (isnan2_ok _ _).mono ?_; rintro e w' ⟨rfl, rfl⟩)
          go_ret2
          rw [HT.out]
          exact ⟨_, rfl, rfl⟩
      · obtain rfl : k = t.length := by omega
        have f3 : ¬ (t.length : Int) < t.length := by omega
        have f4 := decide_eq_false (show ¬ t.length < t.length by omega)
        go_wp2_with fail
        go_ret2
        rw [HT.out]
        exact ⟨_, rfl, rfl⟩
end Go.Proofs.Ytghgegghlefclaa
