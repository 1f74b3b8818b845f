/- Texts that belong together: W1, W2. -/
import Derived.Test.YtghgegghlefclaaKAgg
import Derived.BigQuiet
import Derived.Deep.QuietTactic
set_option linter.unusedVariables false
set_option linter.unusedSimpArgs false
set_option linter.unusedSectionVars false
/- Walks: small tests of numbers; lists of numbers. -/
namespace Go.Proofs.Ytghgegghlefclaa
open Go.RowKit
set_option maxHeartbeats 1000000
set_option maxRecDepth 4000
theorem take_snoc {α : Type} {xs : List α} {k : Nat} {x : α} (h : xs[k]? = some x) : xs.take (k + 1) = xs.take k ++ [x] := by
  obtain ⟨hk, rfl⟩ := List.getElem?_eq_some_iff.1 h
  exact List.take_succ_eq_append_getElem hk
theorem any_snoc {α : Type} {xs : List α} {k : Nat} {x : α} {p : α → Bool} (h : xs[k]? = some x) : (xs.take (k + 1)).any p = ((xs.take k).any p || p x) := by
  rw [take_snoc h]; simp
theorem all_snoc {α : Type} {xs : List α} {k : Nat} {x : α} {p : α → Bool} (h : xs[k]? = some x) : (xs.take (k + 1)).all p = ((xs.take k).all p && p x) := by
  rw [take_snoc h]; simp
theorem any_hit {α : Type} {xs : List α} {k : Nat} {x : α} {p : α → Bool} (h : xs[k]? = some x) (hp : p x = true) : xs.any p = true := List.any_eq_true.2 ⟨x, List.mem_of_getElem? h, hp⟩
theorem all_miss {α : Type} {xs : List α} {k : Nat} {x : α} {p : α → Bool} (h : xs[k]? = some x) (hp : p x = false) : xs.all p = false := by
  rw [List.all_eq_false]
  exact ⟨x, List.mem_of_getElem? h, by rw [hp]; simp⟩
theorem rnum_ok (n : Int) (w : World) : Calls Try.prog 91 #[.int .i64 n] w fun e w' => e = .returned (.bool (okN n)) ∧ w = w' := by
  have e : okN n = (decide (1 ≤ n) && decide (n ≤ 1073741824)) := rfl
  have HE := Lib.hid e
  clear e
  generalize okN n = b at *
  by_cases h1 : 1 ≤ n <;> by_cases h2 : n ≤ 1073741824 <;>
    (go_enter Try.func91, Try.ntmps91
     go_wp2_with fail
     go_ret
     exact ⟨by rw [HE.out]; simp [h1, h2], rfl⟩)
theorem rpri_ok (n : Int) (w : World) : Calls Try.prog 62 #[.int .i64 n] w fun e w' => e = .returned (.bool (okP n)) ∧ w = w' := by
  have e : okP n = (decide (1 ≤ n) && decide (n ≤ 65535)) := rfl
  have HE := Lib.hid e
  clear e
  generalize okP n = b at *
  by_cases h1 : 1 ≤ n <;> by_cases h2 : n ≤ 65535 <;>
    (go_enter Try.func62, Try.ntmps62
     go_wp2_with fail
     go_ret
     exact ⟨by rw [HE.out]; simp [h1, h2], rfl⟩)
def inB (n lo hi : Int) : Bool := decide (lo ≤ n) && decide (n ≤ hi)
theorem within_ok (n lo hi : Int) (w : World) : Calls Try.prog 70 #[.int .i64 n, .int .i64 lo, .int .i64 hi] w fun e w' => e = .returned (.bool (inB n lo hi)) ∧ w = w' := by
  have e : inB n lo hi = (decide (lo ≤ n) && decide (n ≤ hi)) := rfl
  have HE := Lib.hid e
  clear e
  generalize inB n lo hi = b at *
  by_cases h1 : lo ≤ n <;> by_cases h2 : n ≤ hi <;>
    (go_enter Try.func70, Try.ntmps70
     go_wp2_with fail
     go_ret
     exact ⟨by rw [HE.out]; simp [h1, h2], rfl⟩)
theorem rearly_ok (d : Dev) (x : Wr) (ta qa da la : Option Addr) (tc qc dc lc : Nat) (w : World) : Calls Try.prog 59 #[.agg (devC d ta tc qa qc da dc la lc), .agg (wrC x)] w fun e w' => e = .returned (.bool (earlyW d x)) ∧ Kept NoM w w' := by
  have e : earlyW d x = (d.early && decide (x.kind ≠ 3)) := rfl
  have HE := Lib.hid e
  clear e
  generalize earlyW d x = b at *
  have KK := Lib.hid (((Kept.refl NoM w).alloc (.cells (devC d ta tc qa qc da dc la lc) 27)).alloc (.cells (wrC x) 41))
  unfold devC at *
  cases hb : d.early <;> by_cases h2 : x.kind = 3 <;>
    (go_enter Try.func59, Try.ntmps59
     go_wp2_with fail
     go_ret
     first | exact ⟨by rw [HE.out]; simp [hb, h2], KK.out⟩ | exact ⟨by rw [HE.out]; simp [hb, h2], by rw [hb] at KK; exact KK.out⟩)
theorem early_ok (d : Dev) (x : Wr) (ta qa da la : Option Addr) (tc qc dc lc : Nat) (w : World) : Calls Try.prog 53 #[.agg (devC d ta tc qa qc da dc la lc), .agg (wrC x)] w fun e w' => e = .returned (.bool (earlyW d x)) ∧ Kept NoM w w' := by
  have e : earlyW d x = (d.early && decide (x.kind ≠ 3)) := rfl
  have HE := Lib.hid e
  clear e
  generalize earlyW d x = b at *
  have KK := Lib.hid (((Kept.refl NoM w).alloc (.cells (devC d ta tc qa qc da dc la lc) 27)).alloc (.cells (wrC x) 41))
  unfold devC at *
  cases hb : d.early <;> by_cases h2 : x.kind = 3 <;>
    (go_enter Try.func53, Try.ntmps53
     go_wp2_with fail
     go_ret
     first | exact ⟨by rw [HE.out]; simp [hb, h2], KK.out⟩ | exact ⟨by rw [HE.out]; simp [hb, h2], by rw [hb] at KK; exact KK.out⟩)
theorem rhas_ok (v : Value) (l : List Int) (M : Nat → Prop) (n : Int) (w : World) (h : RdS w M 1 EInt v l) (hl : l.length ≤ 1000000) : Calls Try.prog 58 #[v, .int .i64 n] w fun e w' => e = .returned (.bool (hasI l n)) ∧ w = w' := by
  obtain ⟨a, cap, rfl, _, _⟩ := h.shape
  have HH := Lib.hid h
  clear h
  go_enter Try.func58, Try.ntmps58
  go_wp2_with fail
  go_loop [5] (fun i => ∃ k : Nat, k ≤ l.length ∧ i = .int .i64 k ∧ Hid ((l.take k).any (fun x => decide (x = n)) = false)) (fun i => l.length - (intOf i).toNat)
  case atStart => exact ⟨0, Nat.zero_le _, rfl, Lib.hid rfl⟩
  case round =>
    obtain ⟨k, hk, rfl, hA⟩ := hrel
    by_cases hlt : k < l.length
    · have hki : (k : Int) < l.length := by omega
      obtain ⟨x, hx⟩ := getAt hlt
      obtain ⟨b, off, e1, _, cs, rfl, _, hc⟩ := HH.out.at hx
      subst e1
      have x0 := hc 0 _ rfl
      simp only [Nat.mul_one, Nat.add_zero] at x0
      have HX := Lib.hid hx
      clear hc hx
      by_cases hxn : x = n
      · have f1 : (x == n) = true := by simpa using hxn
        have HT := Lib.hid (show hasI l n = true from any_hit HX.out (by simpa using hxn))
        clear hxn
        go_wp2_with fail
        go_ret
        rw [HT.out]
        exact ⟨rfl, rfl⟩
      · have f1 : (x == n) = false := by simpa using hxn
        have HS := Lib.hid (show (l.take (k + 1)).any (fun x => decide (x = n)) = false by rw [any_snoc HX.out, hA.out]; simpa using hxn)
        go_wp2_with fail
        go_round
        case rel => exact ⟨k + 1, by omega, by go_num, HS⟩
        case measure => simp [intOf]; omega
    · obtain rfl : k = l.length := by omega
      have f1 := decide_eq_false (show ¬ ((l.length : Nat) : Int) < l.length by omega)
      have f2 := decide_eq_false (show ¬ l.length < l.length by omega)
      have HT := Lib.hid (show hasI l n = false by have := hA.out; rw [List.take_length] at this; exact this)
      go_wp2_with fail
      go_ret
      rw [HT.out]
      exact ⟨rfl, rfl⟩
end Go.Proofs.Ytghgegghlefclaa

/- Walks: lists of numbers and acks compared and searched. -/
namespace Go.Proofs.Ytghgegghlefclaa
open Go.RowKit
set_option maxHeartbeats 1000000
set_option maxRecDepth 4000
/-- a place of a number in a list, or -1 -/
def idxL {α : Type} (p : α → Bool) : List α → Int
  | [] => -1
  | x :: l => if p x = true then 0 else if idxL p l = -1 then -1 else idxL p l + 1
theorem idxL_ge {α : Type} (p : α → Bool) (l : List α) : -1 ≤ idxL p l := by
  induction l with
  | nil => simp [idxL]
  | cons x l ih =>
    simp only [idxL]
    split
    · omega
    · split <;> omega
theorem idxL_none {α : Type} {p : α → Bool} {l : List α} (h : l.any p = false) : idxL p l = -1 := by
  induction l with
  | nil => rfl
  | cons x l ih =>
    rw [List.any_cons, Bool.or_eq_false_iff] at h
    simp only [idxL]
    rw [if_neg (by rw [h.1]; simp), if_pos (ih h.2)]
theorem idxL_hit {α : Type} {p : α → Bool} {l : List α} {k : Nat} {x : α} (hx : l[k]? = some x) (hp : p x = true) (h : (l.take k).any p = false) : idxL p l = k := by
  induction l generalizing k with
  | nil => simp at hx
  | cons y l ih =>
    cases k with
    | zero =>
      simp only [List.getElem?_cons_zero, Option.some.injEq] at hx
      subst hx
      simp only [idxL]; rw [if_pos hp]; rfl
    | succ k =>
      simp only [List.getElem?_cons_succ] at hx
      simp only [List.take_succ_cons, List.any_cons, Bool.or_eq_false_iff] at h
      have := ih hx h.2
      simp only [idxL]
      rw [if_neg (by rw [h.1]; simp), this, if_neg (by omega)]
      omega
theorem idxL_iff {α : Type} (p : α → Bool) (l : List α) : 0 ≤ idxL p l ↔ l.any p = true := by
  induction l with
  | nil => simp [idxL]
  | cons x l ih =>
    have := idxL_ge p l
    rw [List.any_cons, Bool.or_eq_true, ← ih]
    simp only [idxL]
    by_cases hp : p x = true
    · simp [hp]
    · rw [if_neg hp]
      constructor
      · intro h
        right
        split at h <;> omega
      · rintro (h | h)
        · exact absurd h hp
        · rw [if_neg (by omega)]; omega
theorem idxL_has {α : Type} (p : α → Bool) (l : List α) : decide (0 ≤ idxL p l) = l.any p := by
  cases h : l.any p
  · rw [decide_eq_false_iff_not, idxL_iff, h]; simp
  · rw [decide_eq_true_iff, idxL_iff, h]
theorem eAk_at {w : World} {M : Nat → Prop} {a : Option Addr} {n cap : Nat} {xs : List Ak} (h : RdS w M 3 EAk (.slice a n cap) xs) {k : Nat} {x : Ak} (hx : xs[k]? = some x) :
    ∃ b off, a = some ⟨b, off, none⟩ ∧ w.cell? ⟨b, off + k * 3, none⟩ = some (.int .i64 x.ep) ∧ w.cell? ⟨b, off + k * 3 + 1, none⟩ = some (.int .i64 x.seq) ∧ w.cell? ⟨b, off + k * 3 + 2, none⟩ = some (.int .i64 x.e) := by
  obtain ⟨b, off, e1, _, cs, rfl, _, hc⟩ := h.at hx
  exact ⟨b, off, e1, hc 0 _ rfl, hc 1 _ rfl, hc 2 _ rfl⟩
theorem sameints_ok (a b : Value) (xs : List Int) (M M' : Nat → Prop) (w : World) (ha : RdS w M 1 EInt a xs) (hb : RdS w M' 1 EInt b xs) (hn : xs.length ≤ 1000000) : Calls Try.prog 22 #[a, b] w fun e w' => e = .returned (.bool true) ∧ ∃ n, w' = w.drewN n := by
  obtain ⟨aa, ac, rfl, _, _⟩ := ha.shape
  obtain ⟨ba, bc, rfl, _, _⟩ := hb.shape
  have HA := Lib.hid ha
  have HB := Lib.hid hb
  clear ha hb
  go_enter Try.func22, Try.ntmps22
  go_wp2_with fail
  go_loopw [5] (fun i wr => ∃ k n : Nat, k ≤ xs.length ∧ i = .int .i64 k ∧ wr = w.drewN n) (fun i _ => xs.length - (intOf i).toNat)
  case atStart => exact ⟨0, 0, Nat.zero_le _, rfl, rfl⟩
  case round =>
    obtain ⟨k, n, hk, rfl, rfl⟩ := hrel
    by_cases hlt : k < xs.length
    · have hki : (k : Int) < xs.length := by omega
      obtain ⟨x, hx⟩ := getAt hlt
      obtain ⟨b1, o1, e1, _, cs, rfl, _, h1⟩ := HA.out.at hx
      subst e1
      obtain ⟨b2, o2, e2, _, cs, rfl, _, h2⟩ := HB.out.at hx
      subst e2
      have x1 := h1 0 _ rfl
      have x2 := h2 0 _ rfl
      simp only [Nat.mul_one, Nat.add_zero] at x1 x2
      clear h1 h2 hx
      go_wp2_with fail
      go_quiet (fail)
      go_wp2_with fail
      go_roundw
      case rel => exact ⟨k + 1, _, by omega, by go_num, rfl⟩
      case measure => simp [intOf]; omega
    · obtain rfl : k = xs.length := by omega
      have f1 := decide_eq_false (show ¬ ((xs.length : Nat) : Int) < xs.length by omega)
      have f2 := decide_eq_false (show ¬ xs.length < xs.length by omega)
      go_wp2_with fail
      go_ret
      exact ⟨rfl, n, rfl⟩
theorem eqints_ok (a b : Value) (xs : List Int) (M M' : Nat → Prop) (w : World) (ha : RdS w M 1 EInt a xs) (hb : RdS w M' 1 EInt b xs) (hn : xs.length ≤ 1000000) : Calls Try.prog 69 #[a, b] w fun e w' => e = .returned (.bool true) ∧ ∃ n, w' = w.drewN n := by
  obtain ⟨aa, ac, rfl, _, _⟩ := ha.shape
  obtain ⟨ba, bc, rfl, _, _⟩ := hb.shape
  have HA := Lib.hid ha
  have HB := Lib.hid hb
  clear ha hb
  go_enter Try.func69, Try.ntmps69
  go_wp2_with fail
  go_loopw [13] (fun i wr => ∃ k n : Nat, k ≤ xs.length ∧ i = .int .i64 k ∧ wr = w.drewN n) (fun i _ => xs.length - (intOf i).toNat)
  case atStart => exact ⟨0, 0, Nat.zero_le _, rfl, rfl⟩
  case round =>
    obtain ⟨k, n, hk, rfl, rfl⟩ := hrel
    by_cases hlt : k < xs.length
    · have hki : (k : Int) < xs.length := by omega
      obtain ⟨x, hx⟩ := getAt hlt
      obtain ⟨b1, o1, e1, _, cs, rfl, _, h1⟩ := HA.out.at hx
      subst e1
      obtain ⟨b2, o2, e2, _, cs, rfl, _, h2⟩ := HB.out.at hx
      subst e2
      have x1 := h1 0 _ rfl
      have x2 := h2 0 _ rfl
      simp only [Nat.mul_one, Nat.add_zero] at x1 x2
      clear h1 h2 hx
      go_wp2_with fail
      go_quiet (fail)
      go_wp2_with fail
      go_roundw
      case rel => exact ⟨k + 1, _, by omega, by go_num, rfl⟩
      case measure => simp [intOf]; omega
    · obtain rfl : k = xs.length := by omega
      have f1 := decide_eq_false (show ¬ ((xs.length : Nat) : Int) < xs.length by omega)
      have f2 := decide_eq_false (show ¬ xs.length < xs.length by omega)
      go_wp2_with fail
      go_ret
      exact ⟨rfl, n, rfl⟩
theorem sameacks_ok (a b : Value) (xs : List Ak) (M M' : Nat → Prop) (w : World) (ha : RdS w M 3 EAk a xs) (hb : RdS w M' 3 EAk b xs) (hn : xs.length ≤ 1000000) : Calls Try.prog 21 #[a, b] w fun e w' => e = .returned (.bool true) ∧ ∃ n, w' = w.drewN n := by
  obtain ⟨aa, ac, rfl, _, _⟩ := ha.shape
  obtain ⟨ba, bc, rfl, _, _⟩ := hb.shape
  have HA := Lib.hid ha
  have HB := Lib.hid hb
  clear ha hb
  go_enter Try.func21, Try.ntmps21
  go_wp2_with fail
  go_loopw [5] (fun i wr => ∃ k n : Nat, k ≤ xs.length ∧ i = .int .i64 k ∧ wr = w.drewN n) (fun i _ => xs.length - (intOf i).toNat)
  case atStart => exact ⟨0, 0, Nat.zero_le _, rfl, rfl⟩
  case round =>
    obtain ⟨k, n, hk, rfl, rfl⟩ := hrel
    by_cases hlt : k < xs.length
    · have hki : (k : Int) < xs.length := by omega
      obtain ⟨x, hx⟩ := getAt hlt
      obtain ⟨b1, o1, e1, x1, x2, x3⟩ := eAk_at HA.out hx
      subst e1
      obtain ⟨b2, o2, e2, y1, y2, y3⟩ := eAk_at HB.out hx
      subst e2
      clear hx
      go_wp2_with fail
      go_quiet (fail)
      go_wp2_with fail
      go_roundw
      case rel => exact ⟨k + 1, _, by omega, by go_num, rfl⟩
      case measure => simp [intOf]; omega
    · obtain rfl : k = xs.length := by omega
      have f1 := decide_eq_false (show ¬ ((xs.length : Nat) : Int) < xs.length by omega)
      have f2 := decide_eq_false (show ¬ xs.length < xs.length by omega)
      go_wp2_with fail
      go_ret
      exact ⟨rfl, n, rfl⟩
theorem idxints_ok (v : Value) (l : List Int) (M : Nat → Prop) (n : Int) (w : World) (h : RdS w M 1 EInt v l) (hl : l.length ≤ 1000000) : Calls Try.prog 83 #[v, .int .i64 n] w fun e w' => e = .returned (.int .i64 (idxL (fun x => decide (x = n)) l)) ∧ w = w' := by
  obtain ⟨a, cap, rfl, _, _⟩ := h.shape
  have HH := Lib.hid h
  clear h
  go_enter Try.func83, Try.ntmps83
  go_wp2_with fail
  go_loop [8] (fun i => ∃ k : Nat, k ≤ l.length ∧ i = .int .i64 k ∧ Hid ((l.take k).any (fun x => decide (x = n)) = false)) (fun i => l.length - (intOf i).toNat)
  case atStart => exact ⟨0, Nat.zero_le _, rfl, Lib.hid rfl⟩
  case round =>
    obtain ⟨k, hk, rfl, hA⟩ := hrel
    by_cases hlt : k < l.length
    · have hki : (k : Int) < l.length := by omega
      obtain ⟨x, hx⟩ := getAt hlt
      obtain ⟨b, off, e1, _, cs, rfl, _, hc⟩ := HH.out.at hx
      subst e1
      have x0 := hc 0 _ rfl
      simp only [Nat.mul_one, Nat.add_zero] at x0
      have HX := Lib.hid hx
      clear hc hx
      by_cases hxn : n = x
      · have f1 : (n == x) = true := by simpa using hxn
        have HT := Lib.hid (show idxL (fun x => decide (x = n)) l = k from idxL_hit HX.out (by simpa using hxn.symm) hA.out)
        clear hxn
        go_wp2_with fail
        go_ret
        rw [HT.out]
        exact ⟨rfl, rfl⟩
      · have f1 : (n == x) = false := by simpa using hxn
        have HS := Lib.hid (show (l.take (k + 1)).any (fun x => decide (x = n)) = false by rw [any_snoc HX.out, hA.out]; simp; exact fun e => hxn e.symm)
        go_wp2_with fail
        go_round
        case rel => exact ⟨k + 1, by omega, by go_num, HS⟩
        case measure => simp [intOf]; omega
    · obtain rfl : k = l.length := by omega
      have f1 := decide_eq_false (show ¬ ((l.length : Nat) : Int) < l.length by omega)
      have f2 := decide_eq_false (show ¬ l.length < l.length by omega)
      have HT := Lib.hid (show idxL (fun x => decide (x = n)) l = -1 by have := hA.out; rw [List.take_length] at this; exact idxL_none this)
      go_wp2_with fail
      go_ret
      rw [HT.out]
      exact ⟨rfl, rfl⟩
theorem hasints_ok (v : Value) (l : List Int) (M : Nat → Prop) (n : Int) (w : World) (h : RdS w M 1 EInt v l) (hl : l.length ≤ 1000000) : Calls Try.prog 47 #[v, .int .i64 n] w fun e w' => e = .returned (.bool (hasI l n)) ∧ w = w' := by
  have HE := Lib.hid (show hasI l n = decide (0 ≤ idxL (fun x => decide (x = n)) l) from (idxL_has _ _).symm)
  have HC := Lib.hid (idxints_ok v l M n w h hl)
  clear h
  generalize hasI l n = b at *
  generalize idxL (fun x => decide (x = n)) l = i at *
  by_cases hi : 0 ≤ i
  all_goals
    go_enter Try.func47, Try.ntmps47
    go_wp2_with (go_at_call 83; refine HC.out.mono ?_; rintro e w' ⟨rfl, rfl⟩)
    go_ret
    exact ⟨by rw [HE.out]; simp [hi], rfl⟩
theorem idxacks_ok (v : Value) (l : List Ak) (M : Nat → Prop) (n : Ak) (w : World) (h : RdS w M 3 EAk v l) (hl : l.length ≤ 1000000) : Calls Try.prog 94 #[v, .agg (akL n).toArray] w fun e w' => e = .returned (.int .i64 (idxL (fun x => decide (x = n)) l)) ∧ Kept NoM w w' := by
  obtain ⟨a, cap, rfl, _, _⟩ := h.shape
  have HH := Lib.hid h
  have KK := Lib.hid ((Kept.refl NoM w).alloc (.cells (akL n).toArray 60))
  clear h
  obtain ⟨n1, n2, n3⟩ := n
  unfold akL at *
  go_enter Try.func94, Try.ntmps94
  go_wp2_with fail
  have hb := blk_new w (.cells #[.int .i64 n1, .int .i64 n2, .int .i64 n3] 60)
  have y0 := cell_blk hb 0 _ rfl
  have y1 := cell_blk hb 1 _ rfl
  have y2 := cell_blk hb 2 _ rfl
  have HH2 := Lib.hid (HH.out.kept KK.out.of_no (fun _ _ x => x))
  clear hb HH
  generalize hw1 : w.alloc (.cells #[.int .i64 n1, .int .i64 n2, .int .i64 n3] 60) = w1 at *
  clear hw1
  generalize w.heap.size = g at *
  go_loopw [8] (fun i wr => ∃ k m : Nat, k ≤ l.length ∧ i = .int .i64 k ∧ Hid ((l.take k).any (fun x => decide (x = (⟨n1, n2, n3⟩ : Ak))) = false) ∧ wr = w1.drewN m) (fun i _ => l.length - (intOf i).toNat)
  case atStart => exact ⟨0, 0, Nat.zero_le _, rfl, Lib.hid rfl, rfl⟩
  case round =>
    obtain ⟨k, m, hk, rfl, hA, rfl⟩ := hrel
    by_cases hlt : k < l.length
    · have hki : (k : Int) < l.length := by omega
      obtain ⟨x, hx⟩ := getAt hlt
      obtain ⟨b1, o1, e1, x1, x2, x3⟩ := eAk_at HH2.out hx
      subst e1
      have HX := Lib.hid hx
      clear hx
      obtain ⟨m1, m2, m3⟩ := x
      by_cases hxn : n1 = m1 ∧ n2 = m2 ∧ n3 = m3
      · obtain ⟨rfl, rfl, rfl⟩ := hxn
        have HT := Lib.hid (show idxL (fun x => decide (x = (⟨n1, n2, n3⟩ : Ak))) l = k from idxL_hit HX.out (by simp) hA.out)
        go_wp2_with fail
        go_quiet (fail)
        go_wp2_with fail
        go_ret
        rw [HT.out]
        exact ⟨rfl, (KK.out.drewN _).drewN _⟩
      · have HS := Lib.hid (show (l.take (k + 1)).any (fun x => decide (x = (⟨n1, n2, n3⟩ : Ak))) = false by rw [any_snoc HX.out, hA.out]; simp only [Bool.false_or, decide_eq_false_iff_not, Ak.mk.injEq]; omega)
        have ff : n1 ≠ m1 ∨ n2 ≠ m2 ∨ n3 ≠ m3 := by omega
        clear hxn
        rcases ff with ff | ff | ff <;> have f1 := beq_eq_false_iff_ne.2 ff
        all_goals
          go_wp2_with fail
          go_quiet (fail)
          go_wp2_with fail
          go_roundw
          case rel => exact ⟨k + 1, _, by omega, by go_num, HS, rfl⟩
          case measure => simp [intOf]; omega
    · obtain rfl : k = l.length := by omega
      have f1 := decide_eq_false (show ¬ ((l.length : Nat) : Int) < l.length by omega)
      have f2 := decide_eq_false (show ¬ l.length < l.length by omega)
      have HT := Lib.hid (show idxL (fun x => decide (x = (⟨n1, n2, n3⟩ : Ak))) l = -1 by have := hA.out; rw [List.take_length] at this; exact idxL_none this)
      go_wp2_with fail
      go_ret
      rw [HT.out]
      exact ⟨rfl, KK.out.drewN _⟩
theorem hasacks_ok (v : Value) (l : List Ak) (M : Nat → Prop) (n : Ak) (w : World) (h : RdS w M 3 EAk v l) (hl : l.length ≤ 1000000) : Calls Try.prog 63 #[v, .agg (akL n).toArray] w fun e w' => e = .returned (.bool (l.any fun x => decide (x = n))) ∧ Kept NoM w w' := by
  have HE := Lib.hid (show (l.any fun x => decide (x = n)) = decide (0 ≤ idxL (fun x => decide (x = n)) l) from (idxL_has _ _).symm)
  have HC : Hid (∀ wx, Kept NoM w wx → Calls Try.prog 94 #[v, .agg (akL n).toArray] wx fun e w' => e = .returned (.int .i64 (idxL (fun x => decide (x = n)) l)) ∧ Kept NoM wx w') := Lib.hid (fun wx k => idxacks_ok v l M n wx (h.kept k.of_no (fun _ _ x => x)) hl)
  have KK := Lib.hid ((Kept.refl NoM w).alloc (.cells (akL n).toArray 60))
  have hb := blk_new w (.cells (akL n).toArray 60)
  have y0 := cell_blk hb 0 _ rfl
  have y1 := cell_blk hb 1 _ rfl
  have y2 := cell_blk hb 2 _ rfl
  clear h hb
  generalize (l.any fun x => decide (x = n)) = b at *
  generalize idxL (fun x => decide (x = n)) l = i at *
  obtain ⟨n1, n2, n3⟩ := n
  unfold akL at *
  by_cases hi : 0 ≤ i
  all_goals
    go_enter Try.func63, Try.ntmps63
    go_wp2_with (go_at_call 94; refine (HC.out _ KK.out).mono ?_; rintro e w1 ⟨rfl, k1⟩)
    go_ret
    exact ⟨by rw [HE.out]; simp [hi], KK.out.trans k1⟩
theorem isnan_ok (x : Int) (w : World) : Calls Try.prog 98 #[.int .i64 x] w fun e w' => e = .returned (.bool false) ∧ w = w' := by
  have x0 : (x != x) = false := by simp
  go_enter Try.func98, Try.ntmps98
  go_wp2_with fail
  go_ret
  exact ⟨rfl, rfl⟩
def cmpI (x y : Int) : Int := if x < y then -1 else if y < x then 1 else 0
theorem cmp_ok (x y : Int) (w : World) : Calls Try.prog 80 #[.int .i64 x, .int .i64 y] w fun e w' => e = .returned (.int .i64 (cmpI x y)) ∧ w = w' := by
  rcases Int.lt_trichotomy x y with h | h | h
  · have HT := Lib.hid (show cmpI x y = -1 by unfold cmpI; rw [if_pos h])
    generalize cmpI x y = r at *
    go_enter Try.func80, Try.ntmps80
    go_wp2_with (go_at_call 98; refine (isnan_ok _ _).mono ?_; rintro e w' ⟨rfl, rfl⟩)
    go_ret
    exact ⟨by rw [HT.out]; rfl, rfl⟩
  · have HT := Lib.hid (show cmpI x y = 0 by unfold cmpI; rw [if_neg (by omega), if_neg (by omega)])
    have f1 : ¬ x < y := by omega
    have f2 : ¬ y < x := by omega
    clear h
    generalize cmpI x y = r at *
    go_enter Try.func80, Try.ntmps80
    go_wp2_with (go_at_call 98; refine (isnan_ok _ _).mono ?_; rintro e w' ⟨rfl, rfl⟩)
    go_ret
    exact ⟨by rw [HT.out]; rfl, rfl⟩
  · have HT := Lib.hid (show cmpI x y = 1 by unfold cmpI; rw [if_neg (by omega), if_pos h])
    have f1 : ¬ x < y := by omega
    generalize cmpI x y = r at *
    go_enter Try.func80, Try.ntmps80
    go_wp2_with (go_at_call 98; refine (isnan_ok _ _).mono ?_; rintro e w' ⟨rfl, rfl⟩)
    go_ret
    exact ⟨by rw [HT.out]; rfl, rfl⟩
theorem less_ok (x y : Int) (w : World) : Calls Try.prog 84 #[.int .i64 x, .int .i64 y] w fun e w' => e = .returned (.bool (decide (x < y))) ∧ w = w' := by
  by_cases h : x < y
  all_goals
    have HT := Lib.hid (show decide (x < y) = decide (x < y) from rfl)
    go_enter Try.func84, Try.ntmps84
    go_wp2_with (go_at_call 98; refine (isnan_ok _ _).mono ?_; rintro e w' ⟨rfl, rfl⟩)
    go_ret
    exact ⟨by simp [h], rfl⟩
end Go.Proofs.Ytghgegghlefclaa
