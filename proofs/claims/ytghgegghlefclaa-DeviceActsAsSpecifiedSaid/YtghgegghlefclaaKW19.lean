/- Walks: whether tables and numbers are right: the specification. -/
import Derived.Test.YtghgegghlefclaaKW16
import Derived.Test.YtghgegghlefclaaKW7
import Derived.Test.YtghgegghlefclaaKW6
import Derived.IntWalk
set_option linter.unusedVariables false
set_option linter.unusedSimpArgs false
set_option linter.unusedSectionVars false
namespace Go.Proofs.Ytghgegghlefclaa
open Go.RowKit
set_option maxHeartbeats 1000000
set_option maxRecDepth 8000
theorem decT_adj {t : List Ru} (h : ∀ (i : Nat) x y, t[i]? = some x → t[i + 1]? = some y → y.pri < x.pri) : DecT t := by
  induction t with
  | nil => trivial
  | cons x t ih =>
    have h2 := ih (fun i a b ha hb => h (i + 1) a b (by simpa using ha) (by simpa using hb))
    refine ⟨?_, h2⟩
    cases t with
    | nil => intro y hy; simp at hy
    | cons z t =>
      have hz := h 0 x z rfl rfl
      intro y hy
      rcases List.mem_cons.1 hy with rfl | hy
      · exact hz
      · have := h2.1 y hy; omega
theorem incI_adj {t : List Int} (h : ∀ (i : Nat) x y, t[i]? = some x → t[i + 1]? = some y → x < y) : IncI t := by
  induction t with
  | nil => trivial
  | cons x t ih =>
    have h2 := ih (fun i a b ha hb => h (i + 1) a b (by simpa using ha) (by simpa using hb))
    refine ⟨?_, h2⟩
    cases t with
    | nil => intro y hy; simp at hy
    | cons z t =>
      have hz := h 0 x z rfl rfl
      intro y hy
      rcases List.mem_cons.1 hy with rfl | hy
      · exact hz
      · have := h2.1 y hy; omega
/-- the i-th number is right, and greater than the one before -/
def stepI (t : List Int) (i : Nat) : Prop := ∀ x, t[i]? = some x → okN x = true ∧ ∀ y, 0 < i → t[i - 1]? = some y → y < x
theorem stepI_all {t : List Int} (h : ∀ i, i < t.length → stepI t i) : IncI t ∧ ∀ n ∈ t, okN n = true := by
  refine ⟨incI_adj fun i x y hx hy => ?_, fun n hn => ?_⟩
  · exact (h (i + 1) (List.getElem?_eq_some_iff.1 hy).1 y hy).2 x (by omega) (by simpa using hx)
  · obtain ⟨i, hi⟩ := List.getElem?_of_mem hn
    exact (h i (List.getElem?_eq_some_iff.1 hi).1 n hi).1
theorem stepI_of {t : List Int} (h : IncI t ∧ ∀ n ∈ t, okN n = true) (i : Nat) : stepI t i := fun x hx => ⟨h.2 x (List.mem_of_getElem? hx), fun y h0 hy => h.1.at (by omega) hy hx⟩
def stepT (t : List Ru) (i : Nat) : Prop := ∀ x, t[i]? = some x → okP x.pri = true ∧ ∀ y, 0 < i → t[i - 1]? = some y → x.pri < y.pri
theorem stepT_all {t : List Ru} {room : Int} (h : ∀ i, i < t.length → stepT t i) (hr : (t.length : Int) ≤ room) : RT t room := by
  refine ⟨decT_adj fun i x y hx hy => ?_, fun n hn => ?_, hr⟩
  · exact (h (i + 1) (List.getElem?_eq_some_iff.1 hy).1 y hy).2 x (by omega) (by simpa using hx)
  · obtain ⟨i, hi⟩ := List.getElem?_of_mem hn
    exact (h i (List.getElem?_eq_some_iff.1 hi).1 n hi).1
theorem stepT_of {t : List Ru} {room : Int} (h : RT t room) (i : Nat) : stepT t i := fun x hx => ⟨h.pri x (List.mem_of_getElem? hx), fun y h0 hy => h.dec.at (by omega) hy hx⟩
theorem rrising_ok (v : Value) (t : List Int) (M : Nat → Prop) (w : World) (h : RdS w M 1 EInt v t) (hl : t.length ≤ 140737488355328) :
    Calls Try.prog 64 #[v] w (IffP (IncI t ∧ ∀ n ∈ t, okN n = true) w) := by
  obtain ⟨a, cap, rfl, _, _⟩ := h.shape
  have HH := Lib.hid h
  have KR := Lib.hid (Kept.refl NoM w)
  clear h
  go_enter Try.func64, Try.ntmps64
  go_wp2_with fail
  go_loopw [3] (fun i wr => ∃ k : Nat, k ≤ t.length ∧ i = .int .i64 k ∧ Hid (∀ j, j < k → stepI t j) ∧ Hid (Kept NoM w wr)) (fun i _ => t.length - (intOf i).toNat)
  case atStart => exact ⟨0, Nat.zero_le _, rfl, Lib.hid (fun j hj => absurd hj (Nat.not_lt_zero _)), KR⟩
  case round =>
    obtain ⟨k, hk, rfl, hA, hK⟩ := hrel
    by_cases hlt : k < t.length
    · have hki : (k : Int) < t.length := by omega
      obtain ⟨x, hx⟩ := getAt hlt
      obtain ⟨b, off, e1, _, cs, rfl, _, hc⟩ := (HH.out.kept hK.out.of_no (fun _ _ x => x)).at hx
      subst e1
      have x0 := hc 0 _ rfl
      simp only [Nat.mul_one, Nat.add_zero] at x0
      have HX := Lib.hid hx
      have RN : Hid (∀ t0 wx, okN x = t0 → Calls Try.prog 91 #[.int .i64 x] wx fun e w' => e = .returned (.bool t0) ∧ w' = wx) := Lib.hid (fun t0 wx ht => (rnum_ok x wx).mono fun e w' ⟨h1, h2⟩ => ⟨by rw [h1, ht], h2.symm⟩)
      clear hc hx
      cases ho : okN x with
      | false =>
        have RN2 := Lib.hid (fun wx => RN.out false wx ho)
        have HF := Lib.hid (show ¬ (IncI t ∧ ∀ n ∈ t, okN n = true) from fun h => by have := h.2 x (List.mem_of_getElem? HX.out); rw [ho] at this; cases this)
        clear ho
        go_wp2_with fail
        go_quiet (first | (go_at_call 91; refine Calls.quiet_of_same (RN2.out _)))
        go_wp2_with fail
        go_ret
        exact ⟨false, rfl, ⟨fun h => by simp at h, fun h => absurd h HF.out⟩, hK.out.drewN _⟩
      | true =>
        have RN2 := Lib.hid (fun wx => RN.out true wx ho)
        have HO := Lib.hid ho
        clear ho
        by_cases h0 : k = 0
        · have f0 := decide_eq_false (show ¬ (0 : Int) < (k : Int) by omega)
          have f00 := decide_eq_false (show ¬ 0 < k by omega)
          have H0 := Lib.hid h0
          clear h0
          go_wp2_with fail
          go_quiet (first | (go_at_call 91; refine Calls.quiet_of_same (RN2.out _)))
          go_wp2_with fail
          go_roundw
          case rel => exact ⟨k + 1, by omega, by go_num, Lib.hid (fun j hj => by
            have := H0.out
            obtain rfl : j = k := by omega
            exact fun y hy => ⟨by have := HX.out.symm.trans hy; cases this; exact HO.out, fun z hz => absurd hz (by omega)⟩), Lib.hid (hK.out.drewN _)⟩
          case measure => simp [intOf]; omega
        · have hk0 : (k : Int) > 0 := by omega
          obtain ⟨q, rfl⟩ : ∃ q, k = q + 1 := ⟨k - 1, by omega⟩
          obtain ⟨y, hy⟩ := getAt (xs := t) (k := q) (by omega)
          obtain ⟨b', off', e1, _, cs, rfl, _, hc⟩ := (HH.out.kept hK.out.of_no (fun _ _ x => x)).at hy
          simp only [Option.some.injEq, Addr.mk.injEq, and_true] at e1
          obtain ⟨rfl, rfl⟩ := e1
          have y0 := hc 0 _ rfl
          simp only [Nat.mul_one, Nat.add_zero] at y0
          have w1 : IntKind.i64.wrap ((((q + 1 : Nat)) : Int) - 1) = q := by rw [IntWalk.i64_in _ (by omega)]; omega
          have w2 : IntKind.i64.wrap ((q : Int)) = q := IntWalk.i64_in _ (by omega)
          have w3 : (q : Int) + 1 - 1 = q := by omega
          have hqi : (q : Int) < t.length := by omega
          have HY := Lib.hid hy
          clear hc hy h0
          by_cases hxy : y ≥ x
          · have HF := Lib.hid (show ¬ (IncI t ∧ ∀ n ∈ t, okN n = true) from fun h => by have := h.1.at (i := q) (j := q + 1) (by omega) HY.out HX.out; omega)
            go_wp2_with fail
            go_quiet (first | (go_at_call 91; refine Calls.quiet_of_same (RN2.out _)))
            go_wp2_with fail
            go_ret
            exact ⟨false, rfl, ⟨fun h => by simp at h, fun h => absurd h HF.out⟩, hK.out.drewN _⟩
          · go_wp2_with fail
            go_quiet (first | (go_at_call 91; refine Calls.quiet_of_same (RN2.out _)))
            go_wp2_with fail
            go_roundw
            case rel => exact ⟨q + 2, by omega, by go_num, Lib.hid (fun j hj => by
              by_cases h : j = q + 1
              · subst h
                exact fun z hz => ⟨by have := HX.out.symm.trans hz; cases this; exact HO.out, fun u _ hu => by
                  have := HX.out.symm.trans hz; cases this
                  have := HY.out.symm.trans (by simpa using hu); cases this; omega⟩
              · exact hA.out j (by omega)), Lib.hid (hK.out.drewN _)⟩
            case measure => simp [intOf]; omega
    · obtain rfl : k = t.length := by omega
      have f1 := decide_eq_false (show ¬ ((t.length : Nat) : Int) < t.length by omega)
      have f2 := decide_eq_false (show ¬ t.length < t.length by omega)
      have HT := Lib.hid (stepI_all hA.out)
      go_wp2_with fail
      go_ret
      exact ⟨true, rfl, ⟨fun _ => HT.out, fun _ => rfl⟩, hK.out⟩
theorem rightt_ok (v : Value) (t : List Ru) (M : Nat → Prop) (room : Int) (w : World) (h : RdS w M 23 ERu v t) (hl : t.length ≤ 140737488355328) :
    Calls Try.prog 27 #[v, .int .i64 room] w (IffP (RT t room) w) := by
  obtain ⟨a, cap, rfl, _, _⟩ := h.shape
  have HH := Lib.hid h
  have KR := Lib.hid (Kept.refl NoM w)
  clear h
  go_enter Try.func27, Try.ntmps27
  go_wp2_with fail
  go_loopw [5] (fun i wr => ∃ k : Nat, k ≤ t.length ∧ i = .int .i64 k ∧ Hid (∀ j, j < k → stepT t j) ∧ Hid (Kept NoM w wr)) (fun i _ => t.length - (intOf i).toNat)
  case atStart => exact ⟨0, Nat.zero_le _, rfl, Lib.hid (fun j hj => absurd hj (Nat.not_lt_zero _)), KR⟩
  case round =>
    obtain ⟨k, hk, rfl, hA, hK⟩ := hrel
    by_cases hlt : k < t.length
    · have hki : (k : Int) < t.length := by omega
      obtain ⟨x, hx⟩ := getAt hlt
      obtain ⟨b, off, e1, _, hc⟩ := ru_at (HH.out.kept hK.out.of_no (fun _ _ x => x)) hx
      subst e1
      have x0 := range_cell hc 0 _ (ruC_0 x)
      simp only [Nat.add_zero] at x0
      have HX := Lib.hid hx
      have RN : Hid (∀ t0 wx, okP x.pri = t0 → Calls Try.prog 62 #[.int .i64 x.pri] wx fun e w' => e = .returned (.bool t0) ∧ w' = wx) := Lib.hid (fun t0 wx ht => (rpri_ok x.pri wx).mono fun e w' ⟨h1, h2⟩ => ⟨by rw [h1, ht], h2.symm⟩)
      clear hc hx
      cases ho : okP x.pri with
      | false =>
        have RN2 := Lib.hid (fun wx => RN.out false wx ho)
        have HF := Lib.hid (show ¬ RT t room from fun h => by have := h.pri x (List.mem_of_getElem? HX.out); rw [ho] at this; cases this)
        clear ho
        go_wp2_with fail
        go_quiet (first | (go_at_call 62; refine Calls.quiet_of_same (RN2.out _)))
        go_wp2_with fail
        go_ret
        exact ⟨false, rfl, ⟨fun h => by simp at h, fun h => absurd h HF.out⟩, hK.out.drewN _⟩
      | true =>
        have RN2 := Lib.hid (fun wx => RN.out true wx ho)
        have HO := Lib.hid ho
        clear ho
        by_cases h0 : k = 0
        · have f0 := decide_eq_false (show ¬ (0 : Int) < (k : Int) by omega)
          have f00 := decide_eq_false (show ¬ 0 < k by omega)
          have H0 := Lib.hid h0
          clear h0
          go_wp2_with fail
          go_quiet (first | (go_at_call 62; refine Calls.quiet_of_same (RN2.out _)))
          go_wp2_with fail
          go_roundw
          case rel => exact ⟨k + 1, by omega, by go_num, Lib.hid (fun j hj => by
            have := H0.out
            obtain rfl : j = k := by omega
            exact fun y hy => ⟨by have := HX.out.symm.trans hy; cases this; exact HO.out, fun z hz => absurd hz (by omega)⟩), Lib.hid (hK.out.drewN _)⟩
          case measure => simp [intOf]; omega
        · have hk0 : (k : Int) > 0 := by omega
          obtain ⟨q, rfl⟩ : ∃ q, k = q + 1 := ⟨k - 1, by omega⟩
          obtain ⟨y, hy⟩ := getAt (xs := t) (k := q) (by omega)
          obtain ⟨b', off', e1, _, hc⟩ := ru_at (HH.out.kept hK.out.of_no (fun _ _ x => x)) hy
          simp only [Option.some.injEq, Addr.mk.injEq, and_true] at e1
          obtain ⟨rfl, rfl⟩ := e1
          have y0 := range_cell hc 0 _ (ruC_0 y)
          simp only [Nat.add_zero] at y0
          have w1 : IntKind.i64.wrap ((((q + 1 : Nat)) : Int) - 1) = q := by rw [IntWalk.i64_in _ (by omega)]; omega
          have w2 : IntKind.i64.wrap ((q : Int)) = q := IntWalk.i64_in _ (by omega)
          have w3 : (q : Int) + 1 - 1 = q := by omega
          have hqi : (q : Int) < t.length := by omega
          have HY := Lib.hid hy
          clear hc hy h0
          by_cases hxy : y.pri ≤ x.pri
          · have HF := Lib.hid (show ¬ RT t room from fun h => by have := h.dec.at (i := q) (j := q + 1) (by omega) HY.out HX.out; omega)
            go_wp2_with fail
            go_quiet (first | (go_at_call 62; refine Calls.quiet_of_same (RN2.out _)))
            go_wp2_with fail
            go_ret
            exact ⟨false, rfl, ⟨fun h => by simp at h, fun h => absurd h HF.out⟩, hK.out.drewN _⟩
          · go_wp2_with fail
            go_quiet (first | (go_at_call 62; refine Calls.quiet_of_same (RN2.out _)))
            go_wp2_with fail
            go_roundw
            case rel => exact ⟨q + 2, by omega, by go_num, Lib.hid (fun j hj => by
              by_cases h : j = q + 1
              · subst h
                exact fun z hz => ⟨by have := HX.out.symm.trans hz; cases this; exact HO.out, fun u _ hu => by
                  have := HX.out.symm.trans hz; cases this
                  have := HY.out.symm.trans (by simpa using hu); cases this; omega⟩
              · exact hA.out j (by omega)), Lib.hid (hK.out.drewN _)⟩
            case measure => simp [intOf]; omega
    · obtain rfl : k = t.length := by omega
      have f1 := decide_eq_false (show ¬ ((t.length : Nat) : Int) < t.length by omega)
      have f2 := decide_eq_false (show ¬ t.length < t.length by omega)
      by_cases hr : (t.length : Int) ≤ room
      · have HT := Lib.hid (stepT_all hA.out hr)
        go_wp2_with fail
        go_ret
        exact ⟨true, rfl, ⟨fun _ => HT.out, fun _ => rfl⟩, hK.out⟩
      · have HT := Lib.hid (show ¬ RT t room from fun h => hr h.len)
        go_wp2_with fail
        go_ret
        exact ⟨false, rfl, ⟨fun h => by simp at h, fun h => absurd h HT.out⟩, hK.out⟩
end Go.Proofs.Ytghgegghlefclaa
