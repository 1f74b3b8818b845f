/- Walks: records as they are stored. -/
import Derived.Test.YtjcmnobfdidnkaaKJ7
set_option linter.unusedVariables false
set_option linter.unusedSimpArgs false
set_option linter.unusedSectionVars false
namespace Go.Proofs.Ytjcmnobfdidnkaa
open Go.RowKit
set_option maxHeartbeats 2000000
set_option maxRecDepth 4000
theorem ofNat_int (n : Nat) : ((n : Int) % 256) = ((UInt8.ofNat n).toNat : Int) := by simp
theorem zeroBld (w : World) : (zeroValue 107).run Try.prog w = .ok (.agg #[.pointer none, .slice none 0 0]) w := by kernel_rfl
theorem stream_ok (v : Value) (xs : List Pg) (w : World) (h : RdS w NoM 1 EStr v xs) (hn : xs.length ≤ 1000000) (hl : (streamS xs).length ≤ 100000000) : Calls Try.prog 43 #[v] w fun e w' => e = .returned (.string ⟨(streamS xs).toArray⟩) ∧ Kept NoM w w' := by
  obtain ⟨a, cap, rfl, hcap, hmx⟩ := RdS.shape h
  have HH := Lib.hid h
  clear h
  go_enter Try.func43, Try.ntmps43
  go_wp2_with fail
  have B0 : BU (w.alloc (.cells #[.pointer none, .slice none 0 0] 107)) w.heap.size w.heap.size [] := BU.fresh (blk_new w _) (Nat.le_refl _)
  have K0 : Kept NoM w (w.alloc (.cells #[.pointer none, .slice none 0 0] 107)) := (Kept.refl NoM w).alloc _
  go_loopw [8] (fun i wr => ∃ k : Nat, k ≤ xs.length ∧ i = .int .i64 k ∧ BU wr w.heap.size w.heap.size (streamS (xs.take k)) ∧ Kept NoM w wr) (fun i _ => xs.length - (intOf i).toNat)
  case atStart => exact ⟨0, Nat.zero_le _, rfl, B0, K0⟩
  case round =>
    obtain ⟨k, hk, rfl, hB, hK⟩ := hrel
    have HB := Lib.hid hB
    have HK := Lib.hid hK
    clear hB hK B0 K0
    by_cases hlt : k < xs.length
    · have hki : (k : Int) < xs.length := by omega
      obtain ⟨x, hx⟩ := getAt hlt
      obtain ⟨b, off, e1, _, cs, rfl, _, hc⟩ := (HH.out.kept HK.out (fun _ _ x => x)).at hx
      subst e1
      have x0 := hc 0 _ rfl
      simp only [Nat.mul_one, Nat.add_zero] at x0
      unfold strV at x0
      have hxz : (⟨x.toArray⟩ : ByteArray).size = x.length := by simp [ByteArray.size]
      have HT := Lib.hid (streamS_take hx)
      have hle1 := streamS_take_le xs k
      have hle2 := streamS_take_le xs (k + 1)
      rw [streamS_take hx, List.length_append] at hle2
      have hrl : (recB x).length = x.length + 2 := rfl
      generalize hacc : streamS (xs.take k) = acc at *
      have hxl : x.length ≤ 100000000 := by omega
      have hal : acc.length + x.length + 2 ≤ 100000000 := by omega
      have hsz := HK.out.size
      clear hc hx hle1 hle2 hrl hacc
      have W1 := Lib.hid (wbyte_ok _ _ acc (UInt8.ofNat x.length) wr HB.out (by omega) hsz)
      rw [← ofNat_int] at W1
      go_wp2_with fail
      refine W1.out.mono ?_
      rintro e w1 ⟨rfl, b1, k1⟩
      have K1 := HK.out.belowT k1
      have W2 := Lib.hid (wbyte_ok _ _ _ (UInt8.ofNat (x.length / 256)) w1 b1 (by simp; omega) K1.size)
      rw [← ofNat_int] at W2
      have hdv : ((x.length : Int) / 256) = ((x.length / 256 : Nat) : Int) := by omega
      rw [← hdv] at W2
      have K1 := Lib.hid K1
      clear b1 k1 W1 hdv
      go_wp2_with fail
      refine W2.out.mono ?_
      rintro e w2 ⟨rfl, b2, k2⟩
      have K2 := K1.out.belowT k2
      have W3 := Lib.hid (wstr_ok _ _ _ x w2 b2 (by simp; omega) hxl K2.size)
      have K2 := Lib.hid K2
      clear b2 k2 W2
      go_wp2_with fail
      refine W3.out.mono ?_
      rintro e w3 ⟨rfl, b3, k3⟩
      have K3 := Lib.hid (K2.out.belowT k3)
      have B3 := Lib.hid b3
      clear b3 k3 W3
      go_wp2_with fail
      go_roundw
      case rel => exact ⟨k + 1, by omega, by go_num, by rw [HT.out]; have := B3.out; simpa [recB] using this, K3.out⟩
      case measure => simp [intOf]; omega
    · obtain rfl : k = xs.length := by omega
      have f1 := decide_eq_false (show ¬ ((xs.length : Nat) : Int) < xs.length by omega)
      have f2 := decide_eq_false (show ¬ xs.length < xs.length by omega)
      rw [List.take_length] at HB
      have BS := Lib.hid (bstr_ok _ _ _ wr HB.out HK.out.size)
      go_wp2_with fail
      refine BS.out.mono ?_
      rintro e w1 ⟨rfl, k1⟩
      go_wp2_with fail
      go_ret
      exact ⟨rfl, HK.out.belowT k1⟩
end Go.Proofs.Ytjcmnobfdidnkaa
