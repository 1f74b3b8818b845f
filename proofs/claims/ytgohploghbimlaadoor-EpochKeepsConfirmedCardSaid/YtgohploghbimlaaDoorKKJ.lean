/- Walks: the law's comparisons of logs. -/
import Derived.Test.YtgohploghbimlaaDoorKRJ
import Derived.BigQuiet
import Derived.Deep.QuietTactic
set_option linter.unusedVariables false
set_option linter.unusedSimpArgs false
set_option linter.unusedSectionVars false
namespace Go.Proofs.YtgohploghbimlaaDoor
open Go.RowKit
set_option maxHeartbeats 1000000
set_option maxRecDepth 4000

theorem prefix_ok (v1 v2 : Value) (xs ys : List Item) (w : World) (h1 : RdItems w NoM v1 xs) (h2 : RdItems w NoM v2 ys) (he : ∀ (i : Nat) x y, xs[i]? = some x → ys[i]? = some y → x = y) (hn : xs.length ≤ 1000000000) :
    Calls Tryd.prog 13 #[v1, v2] w fun e w' => e = .returned (.bool true) ∧ ∃ n, w' = w.drewN n := by
  obtain ⟨a1, c1, rfl, _, _⟩ := h1.shape
  obtain ⟨a2, c2, rfl, _, _⟩ := h2.shape
  have HE := Lib.hid he
  clear he
  go_enter Tryd.func13, Tryd.ntmps13
  go_wp2
  go_loopw [5] (fun i wr => ∃ k : Nat, k ≤ xs.length ∧ i = .int .i64 k ∧ ∃ n, wr = w.drewN n) (fun i _ => xs.length - (intOf i).toNat)
  case atStart => exact ⟨0, Nat.zero_le _, rfl, 0, rfl⟩
  case round =>
    obtain ⟨k, hk, rfl, n, rfl⟩ := hrel
    by_cases hlt : k < xs.length
    · have hki : (k : Int) < xs.length := by omega
      by_cases hlt2 : k < ys.length
      · obtain ⟨x, hx⟩ := get_at hlt
        obtain ⟨y, hy⟩ := get_at hlt2
        obtain ⟨b, off, e1, _, hb1, x0, x1⟩ := h1.at hx
        obtain ⟨b2, off2, e2, _, hb2, y0, y1⟩ := h2.at hy
        have hxy := HE.out k x y hx hy
        subst hxy e1 e2
        have hki2 : (k : Int) < ys.length := by omega
        clear h1 h2 hx hy hlt hlt2
        go_wp2_with fail
        go_quiet (fail)
        go_wp2
        go_roundw
        case rel => exact ⟨k + 1, by omega, by go_num, _, rfl⟩
        case measure => simp [intOf]; omega
      · have f2 := decide_eq_false (show ¬ (k : Int) < (ys.length : Int) by omega)
        have f3 := decide_eq_false hlt2
        clear h1 h2 hlt hlt2
        go_wp2
        go_ret
        exact ⟨rfl, n, rfl⟩
    · obtain rfl : k = xs.length := by omega
      have f2 := decide_eq_false (show ¬ (xs.length : Int) < (xs.length : Int) by omega)
      clear h1 h2 hlt
      go_wp2
      go_ret
      exact ⟨rfl, n, rfl⟩

theorem matching_ok (v1 v2 : Value) (xs ys : List Item) (w : World) (h1 : RdItems w NoM v1 xs) (h2 : RdItems w NoM v2 ys) (he : ∀ (i : Nat) x y, xs[i]? = some x → ys[i]? = some y → x.ep = y.ep → xs.take (i + 1) = ys.take (i + 1)) (hlx : xs.length ≤ 1000000) :
    Calls Tryd.prog 14 #[v1, v2] w fun e w' => e = .returned (.bool true) ∧ ∃ n, w' = w.drewN n := by
  have HE := Lib.hid he
  have H1 := Lib.hid h1
  have H2 := Lib.hid h2
  clear he
  obtain ⟨a1, c1, rfl, hcp1, hcm1⟩ := h1.shape
  obtain ⟨a2, c2, rfl, hcp2, hcm2⟩ := h2.shape
  obtain ⟨ii, iz, ty1, ty2, _, ty4, _⟩ := tyItems
  clear h1 h2
  by_cases h : ys.length < xs.length
  · have hi : (ys.length : Int) < xs.length := by omega
    go_enter Tryd.func14, Tryd.ntmps14
    go_wp2
    go_loopw [5] (fun i wr => ∃ k : Nat, k ≤ ys.length ∧ i = .int .i64 k ∧ ∃ n, wr = w.drewN n) (fun i _ => (intOf i).toNat)
    case atStart => exact ⟨ys.length, Nat.le_refl _, rfl, 0, rfl⟩
    case round =>
      obtain ⟨k, hk, rfl, n, rfl⟩ := hrel
      by_cases hk0 : k = 0
      · subst hk0
        go_wp2
        go_ret
        exact ⟨rfl, n, rfl⟩
      · obtain ⟨j, hj⟩ : ∃ j, k = j + 1 := ⟨k - 1, by omega⟩
        have e1 : (k : Int) - 1 = (j : Int) := by omega
        have hpos : (0 : Int) < (k : Int) := by omega
        have hjk : j + 1 ≤ k := by omega
        have hj1 : (j : Int) < xs.length := by omega
        have hj2 : (j : Int) < ys.length := by omega
        obtain ⟨x, hx⟩ := get_at (xs := xs) (k := j) (by omega)
        obtain ⟨y, hy⟩ := get_at (xs := ys) (k := j) (by omega)
        obtain ⟨b, off, ea, _, hb1, x0, _⟩ := H1.out.at hx
        obtain ⟨b2, off2, eb, _, hb2, y0, _⟩ := H2.out.at hy
        by_cases hep : x.ep = y.ep
        · have hh := HE.out j x y hx hy hep
          rw [← hj] at hh
          obtain ⟨sa1, sc1, hsl1, hrd1⟩ := RdS.slice (P := Tryd.prog) 28 45 ii ty1 ty2 ty4 H1.out 0 k (Nat.zero_le _) (by omega) none (.inr ⟨rfl, rfl⟩)
          obtain ⟨sa2, sc2, hsl2, hrd2⟩ := RdS.slice (P := Tryd.prog) 28 45 ii ty1 ty2 ty4 H2.out 0 k (Nat.zero_le _) (by omega) none (.inr ⟨rfl, rfl⟩)
          simp only [List.drop_zero, Nat.sub_zero] at hsl1 hrd1 hsl2 hrd2
          have hli : (k : Int) ≤ 1000000 := by omega
          have HP : ∀ wv, Kept NoM w wv → Calls Tryd.prog 13 #[(.slice sa1 k sc1 : Value), .slice sa2 k sc2] wv fun e w' => e = .returned (.bool true) ∧ ∃ n, w' = wv.drewN n := fun wv kv => prefix_ok _ _ _ _ wv (RdItems.kept hrd1 kv) (RdItems.kept hrd2 kv) (fun i a b ha hb => by rw [hh] at ha; rw [ha] at hb; exact Option.some.inj hb) (by simp; omega)
          have HPP := Lib.hid HP
          subst ea eb
          have hkx : k ≤ xs.length := by omega
          have hky : k ≤ ys.length := by omega
          clear hrd1 hrd2 hx hy h HP hh hj hk0
          go_wp2_with fail
          go_quiet (fail)
          go_wp2_with fail
          go_quiet ((go_at_call 13; refine (HPP.out _ ((Kept.refl NoM w).drewN _)).mono ?_; rintro e w2 ⟨rfl, q, rfl⟩; exact ⟨rfl, _, by rw [World.drewN_drewN, Nat.add_assoc]⟩))
          go_wp2
          go_ret
          exact ⟨rfl, _, by rw [World.drewN_drewN, World.drewN_drewN]⟩
        · have fne : (x.ep == y.ep) = false := by rw [beq_eq_false_iff_ne]; exact hep
          have fne2 := decide_eq_false hep
          subst ea eb
          clear hx hy h hj hk0
          go_wp2_with fail
          go_quiet (fail)
          go_wp2
          go_roundw
          case rel => exact ⟨j, by omega, by go_num, _, rfl⟩
          case measure => simp [intOf]; omega
  · have hi : ¬ (ys.length : Int) < xs.length := by omega
    go_enter Tryd.func14, Tryd.ntmps14
    go_wp2
    go_loopw [5] (fun i wr => ∃ k : Nat, k ≤ xs.length ∧ i = .int .i64 k ∧ ∃ n, wr = w.drewN n) (fun i _ => (intOf i).toNat)
    case atStart => exact ⟨xs.length, Nat.le_refl _, rfl, 0, rfl⟩
    case round =>
      obtain ⟨k, hk, rfl, n, rfl⟩ := hrel
      by_cases hk0 : k = 0
      · subst hk0
        go_wp2
        go_ret
        exact ⟨rfl, n, rfl⟩
      · obtain ⟨j, hj⟩ : ∃ j, k = j + 1 := ⟨k - 1, by omega⟩
        have e1 : (k : Int) - 1 = (j : Int) := by omega
        have hpos : (0 : Int) < (k : Int) := by omega
        have hjk : j + 1 ≤ k := by omega
        have hj1 : (j : Int) < xs.length := by omega
        have hj2 : (j : Int) < ys.length := by omega
        obtain ⟨x, hx⟩ := get_at (xs := xs) (k := j) (by omega)
        obtain ⟨y, hy⟩ := get_at (xs := ys) (k := j) (by omega)
        obtain ⟨b, off, ea, _, hb1, x0, _⟩ := H1.out.at hx
        obtain ⟨b2, off2, eb, _, hb2, y0, _⟩ := H2.out.at hy
        by_cases hep : x.ep = y.ep
        · have hh := HE.out j x y hx hy hep
          rw [← hj] at hh
          obtain ⟨sa1, sc1, hsl1, hrd1⟩ := RdS.slice (P := Tryd.prog) 28 45 ii ty1 ty2 ty4 H1.out 0 k (Nat.zero_le _) (by omega) none (.inr ⟨rfl, rfl⟩)
          obtain ⟨sa2, sc2, hsl2, hrd2⟩ := RdS.slice (P := Tryd.prog) 28 45 ii ty1 ty2 ty4 H2.out 0 k (Nat.zero_le _) (by omega) none (.inr ⟨rfl, rfl⟩)
          simp only [List.drop_zero, Nat.sub_zero] at hsl1 hrd1 hsl2 hrd2
          have hli : (k : Int) ≤ 1000000 := by omega
          have HP : ∀ wv, Kept NoM w wv → Calls Tryd.prog 13 #[(.slice sa1 k sc1 : Value), .slice sa2 k sc2] wv fun e w' => e = .returned (.bool true) ∧ ∃ n, w' = wv.drewN n := fun wv kv => prefix_ok _ _ _ _ wv (RdItems.kept hrd1 kv) (RdItems.kept hrd2 kv) (fun i a b ha hb => by rw [hh] at ha; rw [ha] at hb; exact Option.some.inj hb) (by simp; omega)
          have HPP := Lib.hid HP
          subst ea eb
          have hkx : k ≤ xs.length := by omega
          have hky : k ≤ ys.length := by omega
          clear hrd1 hrd2 hx hy h HP hh hj hk0
          go_wp2_with fail
          go_quiet (fail)
          go_wp2_with fail
          go_quiet ((go_at_call 13; refine (HPP.out _ ((Kept.refl NoM w).drewN _)).mono ?_; rintro e w2 ⟨rfl, q, rfl⟩; exact ⟨rfl, _, by rw [World.drewN_drewN, Nat.add_assoc]⟩))
          go_wp2
          go_ret
          exact ⟨rfl, _, by rw [World.drewN_drewN, World.drewN_drewN]⟩
        · have fne : (x.ep == y.ep) = false := by rw [beq_eq_false_iff_ne]; exact hep
          have fne2 := decide_eq_false hep
          subst ea eb
          clear hx hy h hj hk0
          go_wp2_with fail
          go_quiet (fail)
          go_wp2
          go_roundw
          case rel => exact ⟨j, by omega, by go_num, _, rfl⟩
          case measure => simp [intOf]; omega
end Go.Proofs.YtgohploghbimlaaDoor
