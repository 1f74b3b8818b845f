/- Walks: the lists that the specification's disk hands back. -/
import Derived.Test.YtohijdopmokkgaaKB5
set_option linter.unusedVariables false
set_option linter.unusedSimpArgs false
set_option linter.unusedSectionVars false
namespace Go.Proofs.Ytohijdopmokkgaa
open Go.RowKit
set_option maxHeartbeats 4000000
set_option maxRecDepth 4000
def EStr (c : List Value) (p : Pg) : Prop := c = [strV p]
def EInt (c : List Value) (x : Int) : Prop := c = [.int .i64 x]
theorem eStr_one : ∀ c x, EStr c x → ∀ u ∈ c, u.oneCell' = true := by rintro c x rfl u hu; simp at hu; subst hu; rfl
theorem eInt_one : ∀ c x, EInt c x → ∀ u ∈ c, u.oneCell' = true := by rintro c x rfl u hu; simp at hu; subst hu; rfl
theorem NewO.of_le {w w1 : World} {O O' : Option Nat} (hn : NewO w1 O O') (h : w.heap.size ≤ w1.heap.size) : NewO w O O' := by
  rcases hn with rfl | ⟨g, rfl, hg⟩
  · exact .inl rfl
  · exact .inr ⟨g, rfl, by omega⟩
def pendI (d : Dk) (k : Nat) : List Int := ((List.range k).filter fun i => (d.pn i).isSome).map (fun i : Nat => (i : Int))
theorem pendI_succ (d : Dk) (k : Nat) : pendI d (k + 1) = if (d.pn k).isSome then pendI d k ++ [(k : Int)] else pendI d k := by
  unfold pendI
  rw [List.range_succ, List.filter_append]
  cases h : (d.pn k).isSome <;> simp [h]
theorem pendI_len (d : Dk) (k : Nat) : (pendI d k).length ≤ k := by
  unfold pendI
  rw [List.length_map]
  have := List.length_filter_le (fun i => (d.pn i).isSome) (List.range k)
  simpa using this
theorem pendI_n (d : Dk) : pendI d d.n = d.pending.map (fun i : Nat => (i : Int)) := rfl
variable {R Q : Nat} {d : Dk}
theorem rimage_ok (w : World) (h : SD w R Q d) : Calls Try.prog 41 #[.pointer (some ⟨R, 0, none⟩)] w fun e w' => ∃ a cap O, e = .returned (.slice a d.n cap) ∧ OwnS w' O 9 1 EStr (.slice a d.n cap) d.pages ∧ NewO w none O ∧ Kept NoM w w' := by
  have hn := h.n_hi
  have hwf := h.wf
  have HWF := Lib.hid hwf
  have HH := Lib.hid h
  obtain ⟨cap, c0, _, _⟩ := h.cells
  clear h hwf
  go_enter Try.func41, Try.ntmps41
  go_wp2_with fail
  go_loopw [3, 4] (fun l i wr => ∃ k : Nat, k ≤ d.n ∧ i = .int .i64 k ∧ ∃ a cap O, l = .slice a k cap ∧ OwnS wr O 9 1 EStr (.slice a k cap) (d.pages.take k) ∧ NewO w none O ∧ Kept NoM w wr) (fun _ i _ => d.n - (intOf i).toNat)
  case atStart => exact ⟨0, Nat.zero_le _, rfl, none, 0, none, rfl, OwnS.nil _ _ _ _, NewO.refl _ _, Kept.refl _ _⟩
  case round =>
    obtain ⟨k, hk, rfl, a, capl, O, rfl, own, hnew, hK⟩ := hrel
    have d0 := hK.cell c0 (fun x => x)
    by_cases hlt : k < d.n
    · have hlti : (k : Int) < d.n := by omega
      obtain ⟨r0, _, _⟩ := (HH.out.kept0 hK).row hlt
      have hls : (d.pages.take k).length = k := by rw [List.length_take]; unfold Dk.n at hlt; omega
      have hmore : d.pages.take (k + 1) = d.pages.take k ++ [d.pg k] := by rw [List.take_add_one, (HWF.out.pg_len hlt).2]; rfl
      have HM := Lib.hid hmore
      have HLS := Lib.hid hls
      have hoo : ∀ o1, OwnS (wr.alloc o1) O 9 1 EStr (.slice a k capl) (d.pages.take k) := fun o1 => own.kept ((Kept.refl NoM wr).alloc o1) (fun _ _ h => h) (fun _ _ h => h)
      have hrd : RdS (wr.alloc (.cells #[strV (d.pg k)] 9 (0, 0))) NoM 1 EStr (.slice (some ⟨wr.heap.size, 0, none⟩) 1 1) [d.pg k] := rd_one (x := d.pg k) (blk_new _ _) (fun h => h) rfl rfl
      have kk : ∀ o1, Kept NoM w (wr.alloc o1) := fun o1 => hK.alloc o1
      have hz := hK.size
      have hb1 : k + 1 ≤ maxLen := by unfold maxLen; omega
      have hb2 : (k + 1) * 16 ≤ 140737488355328 := by omega
      unfold strV at r0 hrd
      clear hmore hls hlt own
      go_wp2_with (at_builtin; go_loud (refine wpList_append_S (M := NoM) rfl (.tmp 14) (.tmp 23) 43 rfl 16 tyStrs _ rfl (hoo _) _ rfl hrd eStr_one k 1 HLS.out rfl hb1 hb2 ?_; intro a1 cap1 w1 O1 own1 k1 n1))
      have N1 : NewO w none O1 := hnew.trans (n1.of_le (by simp <;> omega)) (Nat.le_refl _)
      have KN : Kept NoM w w1 := (kk _).trans' k1 (fun i hi h => by rcases hnew with rfl | ⟨g, rfl, hg⟩ <;> simp at h; omega)
      go_roundw
      case rel => exact ⟨k + 1, by omega, by go_num, a1, cap1, O1, rfl, by rw [HM.out]; exact own1, N1, KN⟩
      case measure => simp [intOf]; omega
    · obtain rfl : k = d.n := by omega
      have hf := decide_eq_false (show ¬ ((d.n : Nat) : Int) < (d.n : Int) by omega)
      have hf2 := decide_eq_false (show ¬ d.n < d.n by omega)
      go_wp2_with fail
      go_ret
      refine ⟨_, _, O, rfl, ?_, hnew, hK⟩
      have e : d.pages.take d.n = d.pages := List.take_length
      rw [e] at own
      exact own
theorem rpending_ok (w : World) (h : SD w R Q d) : Calls Try.prog 42 #[.pointer (some ⟨R, 0, none⟩)] w fun e w' => ∃ a cap O, e = .returned (.slice a d.pending.length cap) ∧ OwnS w' O 3 1 EInt (.slice a d.pending.length cap) (d.pending.map fun i : Nat => (i : Int)) ∧ NewO w none O ∧ Kept NoM w w' := by
  have hn := h.n_hi
  have HH := Lib.hid h
  obtain ⟨cap, c0, _, _⟩ := h.cells
  clear h
  go_enter Try.func42, Try.ntmps42
  go_wp2_with fail
  go_loopw [3, 4] (fun l i wr => ∃ k m : Nat, k ≤ d.n ∧ i = .int .i64 k ∧ (pendI d k).length = m ∧ ∃ a cap O, l = .slice a m cap ∧ OwnS wr O 3 1 EInt (.slice a m cap) (pendI d k) ∧ NewO w none O ∧ Kept NoM w wr) (fun _ i _ => d.n - (intOf i).toNat)
  case atStart => exact ⟨0, 0, Nat.zero_le _, rfl, rfl, none, 0, none, rfl, OwnS.nil _ _ _ _, NewO.refl _ _, Kept.refl _ _⟩
  case round =>
    obtain ⟨k, m, hk, rfl, hm, a, capl, O, rfl, own, hnew, hK⟩ := hrel
    have d0 := hK.cell c0 (fun x => x)
    have HMK := Lib.hid hm
    have hmk : m ≤ k := by rw [← hm]; exact pendI_len d k
    clear hm
    by_cases hlt : k < d.n
    · have hlti : (k : Int) < d.n := by omega
      obtain ⟨_, _, r2⟩ := (HH.out.kept0 hK).row hlt
      cases hp : (d.pn k).isSome with
      | false =>
        rw [hp] at r2
        have hmore : pendI d (k + 1) = pendI d k := by rw [pendI_succ, hp]; rfl
        have HM := Lib.hid hmore
        have OWN := Lib.hid own
        have HNW := Lib.hid hnew
        have HKK := Lib.hid hK
        clear hmore hp own hnew hK
        go_wp2_with fail
        go_roundw
        case rel => exact ⟨k + 1, m, by omega, by go_num, by rw [HM.out]; exact HMK.out, a, capl, O, rfl, by rw [HM.out]; exact OWN.out, HNW.out, HKK.out⟩
        case measure => simp [intOf]; omega
      | true =>
        rw [hp] at r2
        have hmore : pendI d (k + 1) = pendI d k ++ [(k : Int)] := by rw [pendI_succ, hp]; rfl
        have HM := Lib.hid hmore
        have hoo : ∀ o1, OwnS (wr.alloc o1) O 3 1 EInt (.slice a m capl) (pendI d k) := fun o1 => own.kept ((Kept.refl NoM wr).alloc o1) (fun _ _ h => h) (fun _ _ h => h)
        have hrd : RdS (wr.alloc (.cells #[.int .i64 k] 3 (0, 0))) NoM 1 EInt (.slice (some ⟨wr.heap.size, 0, none⟩) 1 1) [(k : Int)] := rd_one (x := (k : Int)) (blk_new _ _) (fun h => h) rfl rfl
        have kk : ∀ o1, Kept NoM w (wr.alloc o1) := fun o1 => hK.alloc o1
        have hz := hK.size
        have hb1 : m + 1 ≤ maxLen := by unfold maxLen; omega
        have hb2 : (m + 1) * 8 ≤ 140737488355328 := by omega
        clear hmore hp own hlt
        go_wp2_with (at_builtin; go_loud (refine wpList_append_S (M := NoM) rfl (.tmp 22) (.tmp 24) 32 rfl 8 tyInts _ rfl (hoo _) _ rfl hrd eInt_one m 1 HMK.out rfl hb1 hb2 ?_; intro a1 cap1 w1 O1 own1 k1 n1))
        have N1 : NewO w none O1 := hnew.trans (n1.of_le (by simp <;> omega)) (Nat.le_refl _)
        have KN : Kept NoM w w1 := (kk _).trans' k1 (fun i hi h => by rcases hnew with rfl | ⟨g, rfl, hg⟩ <;> simp at h; omega)
        go_roundw
        case rel => exact ⟨k + 1, m + 1, by omega, by go_num, by rw [HM.out, List.length_append, HMK.out]; rfl, a1, cap1, O1, rfl, by rw [HM.out]; exact own1, N1, KN⟩
        case measure => simp [intOf]; omega
    · obtain rfl : k = d.n := by omega
      have hf := decide_eq_false (show ¬ ((d.n : Nat) : Int) < (d.n : Int) by omega)
      have hf2 := decide_eq_false (show ¬ d.n < d.n by omega)
      have OWN := Lib.hid own
      clear own
      go_wp2_with fail
      go_ret
      have e : m = d.pending.length := by rw [← HMK.out, pendI_n, List.length_map]
      subst e
      exact ⟨_, _, O, rfl, OWN.out, hnew, hK⟩
end Go.Proofs.Ytohijdopmokkgaa
