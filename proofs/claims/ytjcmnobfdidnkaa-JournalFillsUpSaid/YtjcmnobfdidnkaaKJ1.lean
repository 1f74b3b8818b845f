/- Walks: the checksum. -/
import Derived.Test.YtjcmnobfdidnkaaKA1
import Derived.Test.YtjcmnobfdidnkaaKA2
import Derived.Test.YtjcmnobfdidnkaaKD0
import Derived.IntWalk
import Derived.Laws.IdiomStrings
set_option linter.unusedVariables false
set_option linter.unusedSimpArgs false
set_option linter.unusedSectionVars false
namespace Go.Proofs.Ytjcmnobfdidnkaa
open Go.RowKit
set_option maxHeartbeats 2000000
set_option maxRecDepth 4000
theorem wrap32 (n : Nat) (h : n < 4294967296) : IntKind.u32.wrap (n : Int) = n := by
  simp [IntKind.wrap, IntKind.signed, IntKind.bits]
  omega
theorem bv32 (n : Nat) (h : n < 4294967296) : (BitVec.ofInt 32 (n : Int)).toNat = n := by
  rw [BitVec.ofInt_natCast, BitVec.toNat_ofNat]
  exact Nat.mod_eq_of_lt h
theorem bits_xor32 (x y : Nat) (hx : x < 4294967296) (hy : y < 4294967296) : bits BinOp.xor IntKind.u32 (x : Int) (y : Int) = ((x ^^^ y : Nat) : Int) := by
  unfold bits
  show IntKind.u32.wrap (((BitVec.ofInt 32 (x : Int)) ^^^ (BitVec.ofInt 32 (y : Int))).toNat : Int) = _
  rw [BitVec.toNat_xor, bv32 x hx, bv32 y hy]
  exact wrap32 _ (Nat.xor_lt_two_pow (n := 32) hx hy)
theorem bits_and32 (x y : Nat) (hx : x < 4294967296) (hy : y < 4294967296) : bits BinOp.and IntKind.u32 (x : Int) (y : Int) = ((x &&& y : Nat) : Int) := by
  unfold bits
  show IntKind.u32.wrap (((BitVec.ofInt 32 (x : Int)) &&& (BitVec.ofInt 32 (y : Int))).toNat : Int) = _
  rw [BitVec.toNat_and, bv32 x hx, bv32 y hy]
  exact wrap32 _ (Nat.lt_of_le_of_lt Nat.and_le_left hx)
theorem compl32 (x : Nat) (hx : x < 4294967296) : bits BinOp.xor IntKind.u32 IntKind.u32.max (x : Int) = ((4294967295 - x : Nat) : Int) := by
  have e : (IntKind.u32.max : Int) = ((4294967295 : Nat) : Int) := by decide
  rw [e, bits_xor32 _ _ (by omega) hx]
  congr 1
  have h2 := Nat.testBit_two_pow_sub_succ (n := 32) (x := x) hx
  apply Nat.eq_of_testBit_eq
  intro i
  rw [show 4294967295 - x = 2 ^ 32 - (x + 1) by omega, h2, Nat.testBit_xor]
  rw [show 4294967295 = 2 ^ 32 - 1 from rfl, Nat.testBit_two_pow_sub_one]
  by_cases hi : i < 32
  · simp [hi]
  · have : x.testBit i = false := Nat.testBit_lt_two_pow (Nat.lt_of_lt_of_le hx (Nat.pow_le_pow_right (by decide : 0 < 2) (show 32 ≤ i by omega)))
    simp [hi, this]
theorem bytes_cell (w : World) (s : Pg) (c : Nat) (e : TypeId) (f : Nat × Nat) {k : Nat} {x : UInt8} (hx : s[k]? = some x) :
    (w.drew.alloc (.cells (bytesRow ⟨s.toArray⟩ c) e f)).cell? ⟨w.heap.size, k, none⟩ = some (.int .u8 x.toNat) := by
  have hk := (List.getElem?_eq_some_iff.1 hx).1
  have hb : (w.drew.alloc (.cells (bytesRow ⟨s.toArray⟩ c) e f)).heap[w.heap.size]? = some (.cells (bytesRow ⟨s.toArray⟩ c) e f) := by
    show (w.heap.push _)[w.heap.size]? = _
    simp
  refine cell_blk hb k _ ?_
  unfold bytesRow
  rw [Array.getElem?_append_left (by simpa using hk)]
  simp [hx]
theorem crc_step (y : Nat) (hy : y < 4294967296) : bits BinOp.xor IntKind.u32 ((y : Int) / 2) (bits BinOp.and IntKind.u32 3988292384 (-bits BinOp.and IntKind.u32 (y : Int) 1 % 4294967296)) = (crcBit y : Nat) := by
  have e1 : bits BinOp.and IntKind.u32 (y : Int) 1 = ((y % 2 : Nat) : Int) := by
    have := bits_and32 y 1 hy (by omega)
    rw [Nat.and_one_is_mod] at this
    exact this
  have e2 : ((y : Int) / 2) = ((y / 2 : Nat) : Int) := by omega
  rw [e1, e2]
  unfold crcBit
  by_cases h : y % 2 = 1
  · rw [if_pos h, h]
    have e3 : bits BinOp.and IntKind.u32 3988292384 (-((1 : Nat) : Int) % 4294967296) = ((3988292384 : Nat) : Int) := by decide
    rw [e3, bits_xor32 _ _ (by omega) (by omega)]
  · have h0 : y % 2 = 0 := by omega
    rw [if_neg h, h0]
    have e3 : bits BinOp.and IntKind.u32 3988292384 (-((0 : Nat) : Int) % 4294967296) = ((0 : Nat) : Int) := by decide
    rw [e3, bits_xor32 _ _ (by omega) (by omega), Nat.xor_zero]
theorem crc_ok (sum : Nat) (hs : sum < 4294967296) (s : Pg) (hl : s.length ≤ 1000000) (w : World) : Calls Try.prog 44 #[.int .u32 sum, .string ⟨s.toArray⟩] w fun e w' => e = .returned (.int .u32 (crc sum s)) ∧ Kept NoM w w' := by
  have hsz : (⟨s.toArray⟩ : ByteArray).size = s.length := by simp [ByteArray.size]
  have hcv := fun w => run_bytes_of_string (P := Try.prog) w 9 91 5 ⟨s.toArray⟩ Try.underlying9 Try.underlying91 Try.underlying5
  have hcp := compl32 sum hs
  go_enter Try.func44, Try.ntmps44
  go_wp2_with fail
  generalize hcap : grownCap w s.length 0 5 = cap at *
  generalize hW : (w.alloc (.cells (bytesRow ⟨s.toArray⟩ cap) 5 ((bytesRow ⟨s.toArray⟩ cap).size, (bytesRow ⟨s.toArray⟩ cap).size + 1))).drew = W at *
  have KW : Hid (Kept NoM w W) := Lib.hid (by rw [← hW]; exact ((Kept.refl NoM w).alloc _).drew)
  have CE : Hid (∀ k x, s[k]? = some x → W.cell? ⟨w.heap.size, k, none⟩ = some (.int .u8 x.toNat)) := Lib.hid (fun k x hx => by rw [← hW]; exact bytes_cell w s cap 5 _ hx)
  clear hW hcv hcap
  go_loopw [0, 12] (fun x i wr => ∃ k : Nat, k ≤ s.length ∧ i = .int .i64 k ∧ x = .int .u32 (crcRaw (4294967295 - sum) (s.take k)) ∧ wr = W) (fun _ i _ => s.length - (intOf i).toNat)
  case atStart => exact ⟨0, Nat.zero_le _, rfl, rfl, rfl⟩
  case round =>
    obtain ⟨k, hk, rfl, rfl, rfl⟩ := hrel
    have hlo := crcRaw_lt (n := 4294967295 - sum) (by omega) (s.take k)
    by_cases hlt : k < s.length
    · have hki : (k : Int) < s.length := by omega
      obtain ⟨c, hc⟩ : ∃ c, s[k]? = some c := ⟨s[k], by simp [hlt]⟩
      have x0 := CE.out k c hc
      have hnext := crcRaw_take (n := 4294967295 - sum) hc
      have HN := Lib.hid hnext
      generalize crcRaw (4294967295 - sum) (s.take k) = x at *
      have hcl := c.toNat_lt
      have hxor := bits_xor32 x c.toNat hlo (by omega)
      clear hnext hc
      go_wp2_with fail
      have hzl : x ^^^ c.toNat < 4294967296 := Nat.xor_lt_two_pow (n := 32) hlo (by omega)
      generalize hz : x ^^^ c.toNat = z at *
      go_loopw [0, 20] (fun y j wr2 => ∃ m : Nat, m ≤ 8 ∧ j = .int .i64 m ∧ y = .int .u32 (crcBits m z) ∧ wr2 = wr) (fun _ j _ => 8 - (intOf j).toNat)
      case atStart => exact ⟨0, Nat.zero_le _, rfl, rfl, rfl⟩
      case round =>
        obtain ⟨m, hm, rfl, rfl, rfl⟩ := hrel
        by_cases hmt : m < 8
        · have hmi : (m : Int) < 8 := by omega
          have hy := crcBits_lt hzl m
          have HB := Lib.hid (show crcBits (m + 1) z = crcBit (crcBits m z) from rfl)
          generalize crcBits m z = y at *
          have hst := crc_step y hy
          go_wp2_with fail
          go_roundw
          case rel => exact ⟨m + 1, by omega, by go_num, by rw [HB.out], trivial⟩
          case measure => simp [intOf]; omega
        · obtain rfl : m = 8 := by omega
          go_wp2_with fail
          go_roundw
          case rel => exact ⟨k + 1, by omega, by go_num, by rw [HN.out]; unfold crcByte; rw [hz], trivial⟩
          case measure => simp [intOf]; omega
    · obtain rfl : k = s.length := by omega
      have f1 := decide_eq_false (show ¬ ((s.length : Nat) : Int) < s.length by omega)
      have f2 := decide_eq_false (show ¬ s.length < s.length by omega)
      rw [List.take_length] at hlo ⊢
      have hcp2 := compl32 _ hlo
      go_wp2_with fail
      go_ret
      refine ⟨?_, KW.out⟩
      unfold crc; rfl
end Go.Proofs.Ytjcmnobfdidnkaa
