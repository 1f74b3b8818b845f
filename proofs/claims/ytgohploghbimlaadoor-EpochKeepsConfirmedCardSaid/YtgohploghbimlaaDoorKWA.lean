/- Texts that belong together: WA, WB, WC0, WC. -/
import Derived.Test.YtgohploghbimlaaDoorProg
import Derived.Test.YtgohploghbimlaaDoorKBase
import Derived.BigQuiet
import Derived.Deep.QuietTactic
import Derived.WalkLawsBesides
import Derived.Laws.EntriesVeiled
set_option linter.unusedVariables false
set_option linter.unusedSimpArgs false
set_option linter.unusedSectionVars false
/- Walks: small functions. -/
namespace Go.Proofs.YtgohploghbimlaaDoor
open Go.RowKit
set_option maxHeartbeats 400000

theorem last_some {l : List Item} (h : 0 < l.length) : l[l.length - 1]? = some (l[l.length - 1]) := by simp [h]
theorem lastF_some {l : List Item} {x : Item} (h : l[l.length - 1]? = some x) : lastF l = x.ep := by
  unfold lastF; rw [List.getLast?_eq_getElem?, h]

theorem last_walk (K : Nat) (hK : K = 41 ∨ K = 45) (v : Value) (l : List Item) (M : Nat → Prop) (w : World) (hl : RdItems w M v l) (hn : l.length ≤ 1000000000) :
    Calls Tryd.prog K #[v] w fun e w' => e = .returned (.int .i64 (lastF l)) ∧ w = w' := by
  obtain ⟨a, cap, rfl, hcap, hmx⟩ := hl.shape
  by_cases h0 : l.length = 0
  · have hl0 : l = [] := List.eq_nil_of_length_eq_zero h0
    subst hl0
    rcases hK with rfl | rfl
    · go_enter Tryd.func41, Tryd.ntmps41
      go_wp2
      go_ret
      exact ⟨rfl, rfl⟩
    · go_enter Tryd.func45, Tryd.ntmps45
      go_wp2
      go_ret
      exact ⟨rfl, rfl⟩
  · have hp : 0 < l.length := by omega
    obtain ⟨b, off, rfl, _, _, c0, _⟩ := hl.at (last_some hp)
    have hz : ((l.length : Int) == 0) = false := by rw [beq_eq_false_iff_ne]; omega
    have hpi : 0 < (l.length : Int) := by omega
    have HE := Lib.hid (lastF_some (last_some hp))
    clear hl h0 hcap hmx
    generalize l[l.length - 1] = x at *
    generalize lastF l = y at *
    generalize l.length = n at *
    rcases hK with rfl | rfl
    · go_enter Tryd.func41, Tryd.ntmps41
      go_wp2
      go_ret
      exact ⟨by rw [HE.out]; rfl, rfl⟩
    · go_enter Tryd.func45, Tryd.ntmps45
      go_wp2
      go_ret
      exact ⟨by rw [HE.out]; rfl, rfl⟩
theorem last_ok (v : Value) (l : List Item) (M : Nat → Prop) (w : World) (hl : RdItems w M v l) (hn : l.length ≤ 1000000000) :
    Calls Tryd.prog 41 #[v] w fun e w' => e = .returned (.int .i64 (lastF l)) ∧ w = w' := last_walk 41 (.inl rfl) v l M w hl hn
theorem rlast_ok (v : Value) (l : List Item) (M : Nat → Prop) (w : World) (hl : RdItems w M v l) (hn : l.length ≤ 1000000000) :
    Calls Tryd.prog 45 #[v] w fun e w' => e = .returned (.int .i64 (lastF l)) ∧ w = w' := last_walk 45 (.inr rfl) v l M w hl hn

theorem majority_ok (x n : Int) (h0 : 0 ≤ x) (h1 : x ≤ 1000000) (w : World) : Calls Tryd.prog 43 #[.int .i64 x, .int .i64 n] w fun e w' => e = .returned (.bool (decide (2 * x > n))) ∧ w = w' := by
  go_enter Tryd.func43, Tryd.ntmps43
  go_wp2
  go_ret
  exact ⟨rfl, rfl⟩

theorem admit_lt (g x : Int) (h : x < g) (w : World) : Calls Tryd.prog 17 #[.int .i64 g, .int .i64 x] w fun e w' => e = .returned (.tuple #[.int .i64 g, .int .i64 23]) ∧ w = w' := by
  go_enter Tryd.func17, Tryd.ntmps17
  go_wp2
  go_ret2
  exact ⟨rfl, rfl⟩
theorem admit_ge (g x : Int) (h : ¬ x < g) (w : World) : Calls Tryd.prog 17 #[.int .i64 g, .int .i64 x] w fun e w' => e = .returned (.tuple #[.int .i64 x, .int .i64 0]) ∧ w = w' := by
  go_enter Tryd.func17, Tryd.ntmps17
  go_wp2
  go_ret2
  exact ⟨rfl, rfl⟩
end Go.Proofs.YtgohploghbimlaaDoor

/- Walks: loops over items, numbers. -/
namespace Go.Proofs.YtgohploghbimlaaDoor
open Go.RowKit
set_option maxHeartbeats 400000

theorem drop_at {α : Type} {xs : List α} {k : Nat} {x : α} (h : xs[k]? = some x) : xs.drop k = x :: xs.drop (k + 1) := by
  have hlt := (List.getElem?_eq_some_iff.1 h).1
  rw [List.drop_eq_getElem_cons hlt, (List.getElem?_eq_some_iff.1 h).2]
theorem get_at {α : Type} {xs : List α} {k : Nat} (h : k < xs.length) : ∃ x, xs[k]? = some x := ⟨xs[k], by simp [h]⟩

theorem properF_cons (x : Item) (r : List Item) (lo hi : Int) : properF (x :: r) lo hi = if x.ep < lo ∨ x.ep > hi ∨ (x.tx.size : Int) > 8000 then false else properF r x.ep hi := rfl

theorem proper_ok (v : Value) (xs : List Item) (lo hi : Int) (M : Nat → Prop) (w : World) (hl : RdItems w M v xs) (hn : xs.length ≤ 1000000000) :
    Calls Tryd.prog 33 #[v, .int .i64 lo, .int .i64 hi] w fun e w' => e = .returned (.bool (properF xs lo hi)) ∧ Kept NoM w w' := by
  obtain ⟨a, cap, rfl, hcap, hmx⟩ := hl.shape
  go_enter Tryd.func33, Tryd.ntmps33
  go_wp2
  go_loopw [1, 11] (fun l i wr => ∃ k : Nat, k ≤ xs.length ∧ i = .int .i64 k ∧ ∃ lo', l = .int .i64 lo' ∧ properF xs lo hi = properF (xs.drop k) lo' hi ∧ Kept NoM w wr) (fun _ i _ => xs.length - (intOf i).toNat)
  case atStart => exact ⟨0, Nat.zero_le _, rfl, lo, rfl, rfl, Kept.refl _ _⟩
  case round =>
    obtain ⟨k, hk, rfl, lo', rfl, hp, hB⟩ := hrel
    by_cases hlt : k < xs.length
    · obtain ⟨x, hx⟩ := get_at hlt
      obtain ⟨b, off, rfl, hMb, hbs, c0, c1⟩ := (hl.kept (hB.mono fun _ _ x => x.elim)).at hx
      rw [drop_at hx, properF_cons] at hp
      have hP := Lib.hid hp; clear hp hx hl
      have hB' := Lib.hid hB; clear hB
      go_wp2
      · go_ret
        exact ⟨ret_bool (by rw [hP.out, if_pos (by omega)]), hB'.out.alloc _⟩
      · go_roundw
        case rel => exact ⟨k + 1, by omega, by go_num, x.ep, rfl, by rw [hP.out, if_neg (by omega)], hB'.out.alloc _⟩
        case measure => simp [intOf]; omega
      · go_ret
        exact ⟨ret_bool (by rw [hP.out, if_pos (by omega)]), hB'.out.alloc _⟩
      · go_ret
        exact ⟨ret_bool (by rw [hP.out, if_pos (by omega)]), hB'.out.alloc _⟩
    · go_wp2
      go_ret
      have : k = xs.length := by omega
      subst this
      exact ⟨ret_bool (by rw [hp]; simp [properF]), hB⟩
end Go.Proofs.YtgohploghbimlaaDoor

/- Walks: items, Valid, New, votes, wins. -/
namespace Go.Proofs.YtgohploghbimlaaDoor
open Go.RowKit
set_option maxHeartbeats 400000

theorem ritems_ok (v : Value) (xs : List Item) (lo hi : Int) (M : Nat → Prop) (w : World) (hl : RdItems w M v xs) (hn : xs.length ≤ 1000000000) :
    Calls Tryd.prog 30 #[v, .int .i64 lo, .int .i64 hi] w fun e w' => e = .returned (.bool (properF xs lo hi)) ∧ Kept NoM w w' := by
  obtain ⟨a, cap, rfl, hcap, hmx⟩ := hl.shape
  go_enter Tryd.func30, Tryd.ntmps30
  go_wp2
  go_loop [1, 7] (fun l i => ∃ k : Nat, k ≤ xs.length ∧ i = .int .i64 k ∧ ∃ lo', l = .int .i64 lo' ∧ properF xs lo hi = properF (xs.drop k) lo' hi) (fun _ i => xs.length - (intOf i).toNat)
  case atStart => exact ⟨0, Nat.zero_le _, rfl, lo, rfl, rfl⟩
  case round =>
    obtain ⟨k, hk, rfl, lo', rfl, hp⟩ := hrel
    by_cases hlt : k < xs.length
    · obtain ⟨x, hx⟩ := get_at hlt
      obtain ⟨b, off, rfl, hMb, hbs, c0, c1⟩ := hl.at hx
      rw [drop_at hx, properF_cons] at hp
      have hP := Lib.hid hp; clear hp hx hl
      go_wp2
      · go_ret
        exact ⟨ret_bool (by rw [hP.out, if_pos (by omega)]), Kept.refl _ _⟩
      · go_round
        case rel => exact ⟨k + 1, by omega, by go_num, x.ep, rfl, by rw [hP.out, if_neg (by omega)]⟩
        case measure => simp [intOf]; omega
      · go_ret
        exact ⟨ret_bool (by rw [hP.out, if_pos (by omega)]), Kept.refl _ _⟩
      · go_ret
        exact ⟨ret_bool (by rw [hP.out, if_pos (by omega)]), Kept.refl _ _⟩
    · have hP := Lib.hid hp; clear hp
      go_wp2
      go_ret
      have : k = xs.length := by omega
      subst this
      exact ⟨ret_bool (by rw [hP.out]; simp [properF]), Kept.refl _ _⟩

theorem wins_ok (D : Nat) (x n : Int) (h0 : 0 ≤ x) (h1 : x ≤ 1000000) (w : World) (hc : w.cell? ⟨D, 1, none⟩ = some (.int .i64 n)) :
    Calls Tryd.prog 38 #[.pointer (some ⟨D, 0, none⟩), .int .i64 x] w fun e w' => e = .returned (.bool (decide (2 * x > n))) ∧ w = w' := by
  go_enter Tryd.func38, Tryd.ntmps38
  go_wp2
  go_ret
  exact ⟨rfl, rfl⟩

theorem within_true (n lo hi : Int) (h0 : lo ≤ n) (h1 : n ≤ hi) (w : World) : Calls Tryd.prog 32 #[.int .i64 n, .int .i64 lo, .int .i64 hi] w fun e w' => e = .returned (.bool true) ∧ w = w' := by
  go_enter Tryd.func32, Tryd.ntmps32
  go_wp2
  go_ret
  exact ⟨rfl, rfl⟩
theorem within_gt (n lo hi : Int) (h0 : hi < n) (w : World) : Calls Tryd.prog 32 #[.int .i64 n, .int .i64 lo, .int .i64 hi] w fun e w' => e = .returned (.bool false) ∧ w = w' := by
  go_enter Tryd.func32, Tryd.ntmps32
  go_wp2
  all_goals
    go_ret
    exact ⟨ret_bool (by simp; try omega), rfl⟩
theorem proper_nil (lo hi : Int) (w : World) : Calls Tryd.prog 33 #[.slice none 0 0, .int .i64 lo, .int .i64 hi] w fun e w' => e = .returned (.bool true) ∧ w = w' := by
  go_enter Tryd.func33, Tryd.ntmps33
  go_wp2
  refine wp_loop_rounds 1 ?_
  rw [rounds_succ]
  go_wp2
  go_ret
  exact ⟨rfl, rfl⟩
theorem ritems_nil (lo hi : Int) (w : World) : Calls Tryd.prog 30 #[.slice none 0 0, .int .i64 lo, .int .i64 hi] w fun e w' => e = .returned (.bool true) ∧ w = w' := by
  go_enter Tryd.func30, Tryd.ntmps30
  go_wp2
  refine wp_loop_rounds 1 ?_
  rw [rounds_succ]
  go_wp2
  go_ret
  exact ⟨rfl, rfl⟩
theorem indexNil_ok (f : Value) (w : World) : Calls Tryd.prog 62 #[.slice none 0 0, f] w fun e w' => e = .returned (.int .i64 (-1)) ∧ w = w' := by
  go_enter Tryd.func62, Tryd.ntmps62
  go_wp2
  refine wp_loop_rounds 1 ?_
  rw [rounds_succ]
  go_wp2
  go_ret
  exact ⟨rfl, rfl⟩
theorem containsNil_ok (f : Value) (w : World) : Calls Tryd.prog 35 #[.slice none 0 0, f] w fun e w' => e = .returned (.bool false) ∧ w = w' := by
  go_enter Tryd.func35, Tryd.ntmps35
  go_wp2_with (go_at_call 62; refine (indexNil_ok _ _).mono ?_; rintro e w' ⟨rfl, rfl⟩)
  go_ret
  exact ⟨rfl, rfl⟩

theorem validNew_ok (id count : Int) (h0 : 1 ≤ count) (h1 : count ≤ 7) (h2 : 0 ≤ id) (h3 : id < count) (w : World) :
    Calls Tryd.prog 19 #[.agg #[.int .i64 id, .int .i64 count, .int .i64 0, .int .i64 (-1), .int .i64 1, .slice none 0 0, .int .i64 0, .slice none 0 0, .slice none 0 0]] w fun e w' =>
      e = .returned (.bool true) ∧ Kept NoM w w' := by
  go_enter Tryd.func19, Tryd.ntmps19
  go_wp2_with (first | (go_at_call 32; refine (within_true _ _ _ (by omega) (by omega) _).mono ?_; rintro e w' ⟨rfl, rfl⟩) | (go_at_call 33; refine (proper_nil _ _ _).mono ?_; rintro e w' ⟨rfl, rfl⟩) | (go_at_call 35; refine (containsNil_ok _ _).mono ?_; rintro e w' ⟨rfl, rfl⟩))
  go_ret
  exact ⟨rfl, ((Kept.refl _ _).alloc _).alloc _⟩
theorem validNewNot_ok (id count : Int) (h0 : 1 ≤ count) (h1 : count ≤ 7) (h3 : count ≤ id) (w : World) :
    Calls Tryd.prog 19 #[.agg #[.int .i64 id, .int .i64 count, .int .i64 0, .int .i64 (-1), .int .i64 1, .slice none 0 0, .int .i64 0, .slice none 0 0, .slice none 0 0]] w fun e w' =>
      e = .returned (.bool false) ∧ Kept NoM w w' := by
  go_enter Tryd.func19, Tryd.ntmps19
  go_wp2_with (first | (go_at_call 32; refine (within_true _ _ _ (by omega) (by omega) _).mono ?_; rintro e w' ⟨rfl, rfl⟩) | (go_at_call 32; refine (within_gt _ _ _ (by omega) _).mono ?_; rintro e w' ⟨rfl, rfl⟩))
  go_ret
  exact ⟨rfl, ((Kept.refl _ _).alloc _).alloc _⟩
end Go.Proofs.YtgohploghbimlaaDoor

/- Walks: items, Valid, New, votes, wins. -/
namespace Go.Proofs.YtgohploghbimlaaDoor
open Go.RowKit
set_option maxHeartbeats 400000

theorem new_ok (id count : Int) (h0 : 1 ≤ count) (h1 : count ≤ 7) (h2 : 0 ≤ id) (h3 : id < count) (w : World) :
    Calls Tryd.prog 8 #[.int .i64 id, .int .i64 count] w fun e w' =>
      e = .returned (.tuple #[.agg #[.int .i64 id, .int .i64 count, .int .i64 0, .int .i64 (-1), .int .i64 1, .slice none 0 0, .int .i64 0, .slice none 0 0, .slice none 0 0], .int .i64 0]) ∧ Kept NoM w w' := by
  go_enter Tryd.func8, Tryd.ntmps8
  go_wp2_with fail
  refine (validNew_ok _ _ (by omega) (by omega) (by omega) (by omega) _).mono ?_
  rintro e w1 ⟨rfl, hk⟩
  have hz := hk.size
  simp at hz
  have b0 := hk.blk (k := w.heap.size) (blk_old (blk_new _ _) _) (fun x => x)
  have b1 := hk.blk (k := w.heap.size + 1) (blk_new' _ _ _ (by simp)) (fun x => x)
  obtain ⟨w2, e2, hz2, k2⟩ : ∃ w2, w1 = putB (putB w2 (w.heap.size) _ _) (w.heap.size + 1) _ _ ∧ w.heap.size + 2 ≤ w2.heap.size ∧ Kept NoM w w2 := ⟨w1, by rw [← putB_self b0]; exact putB_self b1, by omega, (((Kept.refl _ _).alloc _).alloc _).trans hk⟩
  subst e2
  clear hk b0 b1 hz
  have z0 : w.heap.size < w2.heap.size := by omega
  have z1 : w.heap.size + 1 < w2.heap.size := by omega
  go_wp2_with fail
  refine bodyPost_ret (v := .tuple #[.agg #[.int .i64 id, .int .i64 count, .int .i64 0, .int .i64 (-1), .int .i64 1, .slice none 0 0, .int .i64 0, .slice none 0 0, .slice none 0 0], .int .i64 0]) (by simp [results, Tryd.results8, go_sem, z0, z1]) rfl ?_
  refine ⟨rfl, (k2.putN ?_ _ _).putN ?_ _ _⟩ <;> omega
end Go.Proofs.YtgohploghbimlaaDoor
