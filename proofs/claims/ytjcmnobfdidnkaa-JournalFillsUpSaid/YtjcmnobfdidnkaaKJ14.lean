/- Walks: the first record of a stream is cut off (load's function literal). -/
import Derived.Test.YtjcmnobfdidnkaaKJ13
set_option linter.unusedVariables false
set_option linter.unusedSimpArgs false
set_option linter.unusedSectionVars false
namespace Go.Proofs.Ytjcmnobfdidnkaa
open Go.RowKit
set_option maxHeartbeats 2000000
set_option maxRecDepth 4000
theorem cut_short (C : Nat) (s : Pg) (w : World) (hc : w.heap[C]? = some (.cells #[.string ⟨s.toArray⟩] 9 (0, 0))) (hs : s.length < 2) :
    Calls Try.prog 56 #[.pointer (some ⟨C, 0, none⟩)] w fun e w' => e = .returned (.tuple #[strV [], .bool false]) ∧ w = w' := by
  have c0 := cell_blk hc 0 _ rfl
  have hz : (⟨s.toArray⟩ : ByteArray).size = s.length := by simp [ByteArray.size]
  have h1 : ((s.length : Nat) : Int) < 2 := by omega
  clear hc
  go_enter Try.func56, Try.ntmps56
  go_wp2_with fail
  go_ret2
  exact ⟨rfl, rfl⟩
theorem cut_less (C : Nat) (s : Pg) (n : Nat) (hn : getN (s.take 2) = n) (w : World) (hc : w.heap[C]? = some (.cells #[.string ⟨s.toArray⟩] 9 (0, 0))) (hl : s.length ≤ 1000000) (hs : ¬ s.length < 2) (hs2 : s.length - 2 < n) :
    Calls Try.prog 56 #[.pointer (some ⟨C, 0, none⟩)] w fun e w' => e = .returned (.tuple #[strV [], .bool false]) ∧ w = w' := by
  have hn2 : n < 65536 := by
    have h0 := getN_lt (s.take 2)
    rw [hn, List.length_take, show min 2 s.length = 2 by omega] at h0
    exact h0
  have GT := Lib.hid (get_ok s 2 (by omega) (by omega) hl w)
  rw [hn] at GT
  have c0 := cell_blk hc 0 _ rfl
  have hz : (⟨s.toArray⟩ : ByteArray).size = s.length := by simp [ByteArray.size]
  have h1 : ¬ ((s.length : Nat) : Int) < 2 := by omega
  have h2 : ((s.length : Nat) : Int) - 2 < (n : Int) := by omega
  have q1 : IntKind.i64.wrap (((s.length : Nat) : Int) - 2) = ((s.length : Nat) : Int) - 2 := IntWalk.i64_in _ (by omega)
  have q2 : IntKind.i64.wrap (n : Int) = (n : Int) := IntWalk.i64_in _ (by omega)
  clear hc hn
  go_enter Try.func56, Try.ntmps56
  go_wp2_with (go_at_call 52; refine GT.out.mono ?_; rintro e w1 ⟨rfl, rfl⟩)
  go_ret2
  exact ⟨rfl, rfl⟩
theorem cut_goes (C : Nat) (s : Pg) (n : Nat) (hn : getN (s.take 2) = n) (w : World) (hc : w.heap[C]? = some (.cells #[.string ⟨s.toArray⟩] 9 (0, 0))) (hl : s.length ≤ 1000000) (hs : ¬ s.length < 2) (hs2 : ¬ s.length - 2 < n) :
    Calls Try.prog 56 #[.pointer (some ⟨C, 0, none⟩)] w fun e w' => e = .returned (.tuple #[strV ((s.drop 2).take n), .bool true]) ∧ w' = w.setCell ⟨C, 0, none⟩ (strV (s.drop (2 + n))) := by
  have hn2 : n < 65536 := by
    have h0 := getN_lt (s.take 2)
    rw [hn, List.length_take, show min 2 s.length = 2 by omega] at h0
    exact h0
  have GT := Lib.hid (get_ok s 2 (by omega) (by omega) hl w)
  rw [hn] at GT
  have c0 := cell_blk hc 0 _ rfl
  have c1 := free_blk hc 0
  have hz : (⟨s.toArray⟩ : ByteArray).size = s.length := by simp [ByteArray.size]
  have h1 : ¬ ((s.length : Nat) : Int) < 2 := by omega
  have h2 : ¬ ((s.length : Nat) : Int) - 2 < (n : Int) := by omega
  have h3 : 2 + (n : Int) ≤ s.length := by omega
  have h4 : (0 : Int) ≤ 2 + (n : Int) := by omega
  have h5 : (2 : Int) ≤ 2 + (n : Int) := by omega
  have q1 : IntKind.i64.wrap (((s.length : Nat) : Int) - 2) = ((s.length : Nat) : Int) - 2 := IntWalk.i64_in _ (by omega)
  have q2 : IntKind.i64.wrap (n : Int) = (n : Int) := IntWalk.i64_in _ (by omega)
  have q3 : IntKind.i64.wrap (2 + (n : Int)) = ((2 + n : Nat) : Int) := by rw [IntWalk.i64_in _ (by omega)]; omega
  have hx1 : (⟨s.toArray⟩ : ByteArray).extract 2 (2 + n) = ⟨((s.drop 2).take n).toArray⟩ := by
    rw [ByteArray.extract_mk]
    have e : (s.drop 2).take (2 + n - 2) = (s.drop 2).take n := by rw [Nat.add_sub_cancel_left]
    exact congrArg (fun l : Pg => (⟨l.toArray⟩ : ByteArray)) e
  have hx2 : (⟨s.toArray⟩ : ByteArray).extract (2 + n) s.length = ⟨(s.drop (2 + n)).toArray⟩ := by
    rw [ByteArray.extract_mk]
    have e : (s.drop (2 + n)).take (s.length - (2 + n)) = s.drop (2 + n) := List.take_of_length_le (by rw [List.length_drop]; omega)
    exact congrArg (fun l : Pg => (⟨l.toArray⟩ : ByteArray)) e
  have h6 : ((2 + n : Nat) : Int) ≤ s.length := by omega
  have h7 : (2 : Int) ≤ ((2 + n : Nat) : Int) := by omega
  have h8 : (0 : Int) ≤ ((2 + n : Nat) : Int) := by omega
  unfold strV
  generalize hm : 2 + n = m at *
  clear hc hn
  go_enter Try.func56, Try.ntmps56
  go_wp2_with (go_at_call 52; refine GT.out.mono ?_; rintro e w1 ⟨rfl, rfl⟩)
  go_ret2
  exact ⟨rfl, rfl⟩
end Go.Proofs.Ytjcmnobfdidnkaa
