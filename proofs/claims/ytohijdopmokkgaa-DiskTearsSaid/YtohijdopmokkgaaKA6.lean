/- Walks: the lists that the program's disk hands back. -/
import Derived.Test.YtohijdopmokkgaaKA3
import Derived.Test.YtohijdopmokkgaaKB6
set_option linter.unusedVariables false
set_option linter.unusedSimpArgs false
set_option linter.unusedSectionVars false
namespace Go.Proofs.Ytohijdopmokkgaa
open Go.RowKit
set_option maxHeartbeats 4000000
set_option maxRecDepth 4000
variable {D G B : Nat} {d : Dk}
theorem PD.rangeOf {w : World} (h : PD w D G B d) {i : Nat} (hi : i < d.n) : w.rangeAt G (i * 128) (pgCells (d.pg i)) := by
  obtain ⟨cap, _, hC, _⟩ := h
  obtain ⟨b, off, cs, e0, _, hcs, hcl, hr⟩ := (hC.own.rd (M := NoM) (fun _ _ x => x)).range (hC.wf.pg_len hi).2
  simp only [Option.some.injEq, Addr.mk.injEq] at e0
  obtain ⟨rfl, rfl, _⟩ := e0
  obtain rfl : cs = pgCells (d.pg i) := hcs
  rw [Nat.zero_add] at hr
  exact hr
theorem image_ok (w : World) (h : PD w D G B d) : Calls Try.prog 24 #[.pointer (some ⟨D, 0, none⟩)] w fun e w' => ∃ a cap O, e = .returned (.slice a d.n cap) ∧ OwnS w' O 9 1 EStr (.slice a d.n cap) d.pages ∧ NewO w none O ∧ Kept NoM w w' := by
  have hn := h.n_hi
  have hwf := h.wf
  have HWF := Lib.hid hwf
  have HH := Lib.hid h
  obtain ⟨cap, c0, _, _, _⟩ := h.cells
  clear h hwf
  go_enter Try.func24, Try.ntmps24
  go_wp2_with fail
  go_loopw [3, 11] (fun l i wr => ∃ k : Nat, k ≤ d.n ∧ i = .int .i64 k ∧ ∃ a cap O, l = .slice a k cap ∧ OwnS wr O 9 1 EStr (.slice a k cap) (d.pages.take k) ∧ NewO w none O ∧ Kept NoM w wr) (fun _ i _ => d.n - (intOf i).toNat)
  case atStart => exact ⟨0, Nat.zero_le _, rfl, none, 0, none, rfl, OwnS.nil _ _ _ _, NewO.refl _ _, Kept.refl _ _⟩
  case round =>
    obtain ⟨k, hk, rfl, a, capl, O, rfl, own, hnew, hK⟩ := hrel
    by_cases hlt : k < d.n
    · have hlti : (k : Int) < d.n := by omega
      have hrg := (HH.out.kept0 hK).rangeOf hlt
      have HRG := Lib.hid hrg
      have hgl := (HWF.out.pg_len hlt).1
      have HGL := Lib.hid hgl
      have hls : (d.pages.take k).length = k := by rw [List.length_take]; unfold Dk.n at hlt; omega
      have hmore : d.pages.take (k + 1) = d.pages.take k ++ [d.pg k] := by rw [List.take_add_one, (HWF.out.pg_len hlt).2]; rfl
      have HM := Lib.hid hmore
      have HLS := Lib.hid hls
      have hoo : ∀ o1 o2 o3, OwnS (((wr.alloc o1).alloc o2).alloc o3) O 9 1 EStr (.slice a k capl) (d.pages.take k) := fun o1 o2 o3 => own.kept ((((Kept.refl NoM wr).alloc o1).alloc o2).alloc o3) (fun _ _ h => h) (fun _ _ h => h)
      have hrd : ∀ o1 o2, RdS (((wr.alloc o1).alloc o2).alloc (.cells #[.string ⟨(d.pg k).toArray⟩] 9 (0, 0))) NoM 1 EStr (.slice (some ⟨wr.heap.size + 1 + 1, 0, none⟩) 1 1) [d.pg k] := fun o1 o2 => rd_one (x := d.pg k) (blk_new' _ _ _ (by simp)) (fun h => h) rfl rfl
      have kk : ∀ o1 o2 o3, Kept NoM w (((wr.alloc o1).alloc o2).alloc o3) := fun o1 o2 o3 => ((hK.alloc o1).alloc o2).alloc o3
      have hz := hK.size
      have hb1 : k + 1 ≤ maxLen := by unfold maxLen; omega
      have hb2 : (k + 1) * 16 ≤ 140737488355328 := by omega
      clear hmore hls hlt own hrg hgl
      go_wp2_with (first | (refine wpList_load_pg rfl _ rfl G (k * 128) rfl HRG.out HGL.out ?_) | (refine wpList_alloc_pg rfl rfl ?_) | (refine wpList_store_pgn rfl _ _ rfl _ rfl rfl rfl zero128 HGL.out ?_) | (refine wpList_load_pg rfl _ rfl wr.heap.size 0 rfl (range_blk (blk_new _ _)) HGL.out ?_) | (go_at_call 45; refine (text_ok _ HGL.out _).mono ?_; rintro e w2 ⟨rfl, rfl⟩; unfold strV) | (at_builtin; go_loud (refine wpList_append_S (M := NoM) rfl (.tmp 15) (.tmp 18) 43 rfl 16 tyStrs _ rfl (hoo _ _ _) _ rfl (hrd _ _) eStr_one k 1 HLS.out rfl hb1 hb2 ?_; intro a1 cap1 w1 O1 own1 k1 n1)))
      have N1 : NewO w none O1 := hnew.trans (n1.of_le (by simp <;> omega)) (Nat.le_refl _)
      have KN : Kept NoM w w1 := (kk _ _ _).trans' k1 (fun i hi h => by rcases hnew with rfl | ⟨g, rfl, hg⟩ <;> simp at h; omega)
      go_roundw
      case rel => exact ⟨k + 1, by omega, by go_num, a1, cap1, O1, rfl, by rw [HM.out]; exact own1, N1, KN⟩
      case measure => simp [intOf]; omega
    · obtain rfl : k = d.n := by omega
      have hf := decide_eq_false (show ¬ ((d.n : Nat) : Int) < (d.n : Int) by omega)
      have hf2 := decide_eq_false (show ¬ d.n < d.n by omega)
      have OWN := Lib.hid own
      clear own
      go_wp2_with fail
      go_ret
      refine ⟨_, _, O, rfl, ?_, hnew, hK⟩
      have e : d.pages.take d.n = d.pages := List.take_length
      have := OWN.out
      rw [e] at this
      exact this
end Go.Proofs.Ytohijdopmokkgaa
