/- Walks: numbers put into bytes and read out of them. -/
import Derived.Test.YtjcmnobfdidnkaaKJ1
import Derived.Test.YtjcmnobfdidnkaaKA14
import Derived.StillTailTactics
set_option linter.unusedVariables false
set_option linter.unusedSimpArgs false
set_option linter.unusedSectionVars false
namespace Go.Proofs.Ytjcmnobfdidnkaa
open Go.RowKit
set_option maxHeartbeats 2000000
set_option maxRecDepth 4000
theorem le_succ (n k : Nat) : le n (k + 1) = le n k ++ [UInt8.ofNat (n / 256 ^ k)] := by
  induction k generalizing n with
  | zero => simp [le]
  | succ k ih =>
    have : le n (k + 2) = UInt8.ofNat n :: le (n / 256) (k + 1) := rfl
    rw [this, ih (n / 256)]
    have e : n / 256 / 256 ^ k = n / 256 ^ (k + 1) := by rw [Nat.div_div_eq_div_mul, Nat.pow_succ, Nat.mul_comm]
    rw [e]; rfl
theorem getN_snoc (s : Pg) (c : UInt8) : getN (s ++ [c]) = getN s + 256 ^ s.length * c.toNat := by
  induction s with
  | nil => simp [getN]
  | cons a s ih =>
    show a.toNat + 256 * getN (s ++ [c]) = a.toNat + 256 * getN s + 256 ^ (s.length + 1) * c.toNat
    rw [ih, Nat.pow_succ, Nat.mul_add]
    have : 256 * (256 ^ s.length * c.toNat) = 256 ^ s.length * 256 * c.toNat := by rw [Nat.mul_comm (256 ^ s.length) 256, Nat.mul_assoc]
    omega
theorem run_shr64 {P : Program} (n k : Nat) (hk : k < 8) (wx : World) : (Op.shift .shr .u64 (n : Int) .i64 (8 * (k : Int))).run P wx = .ok (.int .u64 ((n / 256 ^ k : Nat) : Int)) wx := by
  have h : k = 0 ∨ k = 1 ∨ k = 2 ∨ k = 3 ∨ k = 4 ∨ k = 5 ∨ k = 6 ∨ k = 7 := by omega
  rcases h with rfl | rfl | rfl | rfl | rfl | rfl | rfl | rfl <;> simp [Op.shift, IntKind.bits]
/-- a block of bytes -/
def BY (w : World) (g : Nat) (t : TypeId) (p : Pg) : Prop := w.heap[g]? = some (.cells (pgCells p).toArray t (0, 0))
theorem putAt_snoc {p a : Pg} {off : Nat} {c : UInt8} (h : off + a.length < p.length) : Dk.putAt p off (a ++ [c]) = (Dk.putAt p off a).set (off + a.length) c := by
  unfold Dk.putAt
  have e : p.drop (off + a.length) = p[off + a.length] :: p.drop (off + a.length + 1) := List.drop_eq_getElem_cons h
  have hl : (p.take off ++ a).length = off + a.length := by simp; omega
  rw [e, List.set_append_right _ _ (by omega), hl, Nat.sub_self, List.set_cons_zero]
  simp only [List.length_append, List.length_cons, List.length_nil, List.append_assoc, List.cons_append, List.nil_append, Nat.add_assoc]
theorem put_ok (g t off sz cap : Nat) (n : Nat) (hn : n < 18446744073709551616) (k : Nat) (hk : k ≤ 8) (hs : k ≤ sz) (p : Pg) (hfit : off + k ≤ p.length) (hp : p.length ≤ 1000000) (w : World) (h : BY w g t p) :
    Calls Try.prog 71 #[.slice (some ⟨g, off, none⟩) sz cap, .int .u64 n, .int .i64 k] w fun e w' => e = .returned (.tuple #[]) ∧ BY w' g t (Dk.putAt p off (le n k)) ∧ Kept (fun b => b = g) w w' := by
  have HH := Lib.hid h
  clear h
  go_enter Try.func71, Try.ntmps71
  go_wp2_with fail
  go_loopw [8] (fun i wr => ∃ j : Nat, j ≤ k ∧ i = .int .i64 j ∧ BY wr g t (Dk.putAt p off (le n j)) ∧ Kept (fun b => b = g) w wr) (fun i _ => k - (intOf i).toNat)
  case atStart => exact ⟨0, Nat.zero_le _, rfl, by rw [show le n 0 = [] from rfl, putAt_nil]; exact HH.out, Kept.refl _ _⟩
  case round =>
    obtain ⟨j, hj, rfl, hB, hK⟩ := hrel
    have HB := Lib.hid hB
    have HK := Lib.hid hK
    clear hB hK
    by_cases hlt : j < k
    · have hji : (j : Int) < k := by omega
      have hsi : (j : Int) < sz := by omega
      have hs0 : j < sz := by omega
      have q7 := fun wx => run_shr64 (P := Try.prog) n j (by omega) wx
      have q8 : IntKind.i64.wrap (8 * (j : Int)) = 8 * (j : Int) := IntWalk.i64_in _ (by omega)
      have hl : (Dk.putAt p off (le n j)).length = p.length := Dk.putAt_len (by rw [le_len]; omega)
      have hat : off + j < (Dk.putAt p off (le n j)).length := by omega
      have hf : off + j + 1 ≤ (pgCells (Dk.putAt p off (le n j))).toArray.size := by rw [List.size_toArray, pgCells_len]; omega
      have hsn := putAt_snoc (p := p) (a := le n j) (off := off) (c := UInt8.ofNat (n / 256 ^ j)) (by rw [le_len]; omega)
      rw [← le_succ, le_len] at hsn
      have HSN := Lib.hid hsn
      generalize Dk.putAt p off (le n j) = q at *
      have HF := Lib.hid hf
      clear hf hl hsn
      go_wp2_with (refine wpList_store_one rfl 5 _ _ rfl g (off + j) _ _ t rfl rfl HB.out HF.out infoByte rfl rfl ?_)
      have hbv : Value.int IntKind.u8 ((n : Int) / 2 ^ (8 * j) % 256) = byteV (UInt8.ofNat (n / 256 ^ j)) := by
        unfold byteV
        have e1 : (256 : Nat) ^ j = 2 ^ (8 * j) := by rw [Nat.pow_mul]
        have e2 : ((UInt8.ofNat (n / 256 ^ j)).toNat : Int) = ((n / 2 ^ (8 * j) % 256 : Nat) : Int) := by rw [← e1]; simp
        rw [e2]; push_cast; rfl
      have hsp : splice (pgCells q) (off + j) [byteV (UInt8.ofNat (n / 256 ^ j))] = pgCells (q.set (off + j) (UInt8.ofNat (n / 256 ^ j))) := by
        rw [splice_one _ _ _ (by rw [pgCells_len]; exact hat)]
        unfold pgCells
        rw [List.map_set]
      rw [hbv, hsp]
      have hgl := lt_of_block HB.out
      go_roundw
      case rel => exact ⟨j + 1, by omega, by go_num, by rw [HSN.out]; exact putB_blk _ _ _ _ hgl, HK.out.trans ((Kept.refl (fun b => b = g) wr).putM rfl _ _)⟩
      case measure => simp [intOf]; omega
    · obtain rfl : j = k := by omega
      go_wp2_with fail
      go_end0
      exact ⟨rfl, HB.out, HK.out⟩
theorem wrapU64 (n : Nat) (h : n < 18446744073709551616) : IntKind.u64.wrap (n : Int) = n := by
  simp [IntKind.wrap, IntKind.signed, IntKind.bits]
  omega
theorem mul_lt64 (j b : Nat) (hj : j ≤ 7) (hb : b < 256) : 256 ^ j * b < 18446744073709551616 := by
  have h1 : 256 ^ j ≤ 256 ^ 7 := Nat.pow_le_pow_right (by omega) hj
  have h2 : 256 ^ j * b ≤ 256 ^ 7 * 255 := Nat.mul_le_mul h1 (by omega)
  omega
theorem shl_byte (c : UInt8) (j : Nat) (hj : j ≤ 7) : IntKind.u64.wrap (IntKind.u64.wrap (c.toNat : Int) * 2 ^ (8 * j)) = ((256 ^ j * c.toNat : Nat) : Int) := by
  have hc := c.toNat_lt
  rw [wrapU64 _ (by omega)]
  have e1 : ((c.toNat : Int) * 2 ^ (8 * j)) = ((256 ^ j * c.toNat : Nat) : Int) := by
    rw [show (256 : Nat) ^ j = 2 ^ (8 * j) by rw [Nat.pow_mul]]
    push_cast; exact Int.mul_comm _ _
  rw [e1]
  exact wrapU64 _ (mul_lt64 j _ hj hc)
theorem bits_or64 (a b j : Nat) (hj : j ≤ 7) (ha : a < 256 ^ j) (hb : b < 256) : bits BinOp.or IntKind.u64 (a : Int) ((256 ^ j * b : Nat) : Int) = ((a + 256 ^ j * b : Nat) : Int) := by
  have h8 : 256 ^ j * b < 18446744073709551616 := by
    have h1 : 256 ^ j ≤ 256 ^ 7 := Nat.pow_le_pow_right (by omega) hj
    have h2 : 256 ^ j * b ≤ 256 ^ 7 * 255 := Nat.mul_le_mul h1 (by omega)
    omega
  have h9 : a < 18446744073709551616 := by
    have h1 : 256 ^ j ≤ 256 ^ 7 := Nat.pow_le_pow_right (by omega) hj
    omega
  have hor : a ||| (256 ^ j * b) = a + 256 ^ j * b := by
    have e1 : (256 : Nat) ^ j = 2 ^ (8 * j) := by rw [Nat.pow_mul]
    rw [e1] at ha ⊢
    have := Nat.two_pow_add_eq_or_of_lt (i := 8 * j) ha b
    rw [Nat.or_comm, ← this, Nat.add_comm]
  have hs : a + 256 ^ j * b < 18446744073709551616 := by
    rw [← hor]; exact Nat.or_lt_two_pow (n := 64) h9 h8
  unfold bits
  show IntKind.u64.wrap (((BitVec.ofInt 64 (a : Int)) ||| (BitVec.ofInt 64 ((256 ^ j * b : Nat) : Int))).toNat : Int) = _
  rw [BitVec.toNat_or, BitVec.ofInt_natCast, BitVec.ofInt_natCast, BitVec.toNat_ofNat, BitVec.toNat_ofNat, Nat.mod_eq_of_lt h9, Nat.mod_eq_of_lt h8, hor]
  exact wrapU64 _ hs
theorem getN_take {s : Pg} {j : Nat} {c : UInt8} (hc : s[j]? = some c) : getN (s.take (j + 1)) = getN (s.take j) + 256 ^ j * c.toNat := by
  have hj := (List.getElem?_eq_some_iff.1 hc).1
  rw [List.take_add_one, hc]
  show getN (s.take j ++ [c]) = _
  rw [getN_snoc, List.length_take, Nat.min_eq_left (by omega)]
theorem get_ok (s : Pg) (k : Nat) (hk : k ≤ 8) (hs : k ≤ s.length) (hl : s.length ≤ 1000000) (w : World) : Calls Try.prog 52 #[.string ⟨s.toArray⟩, .int .i64 k] w fun e w' => e = .returned (.int .u64 (getN (s.take k))) ∧ w = w' := by
  have hsz : (⟨s.toArray⟩ : ByteArray).size = s.length := by simp [ByteArray.size]
  go_enter Try.func52, Try.ntmps52
  go_wp2_with fail
  go_loopw [4, 7] (fun x i wr => ∃ j : Nat, j ≤ k ∧ i = .int .i64 j ∧ x = .int .u64 (getN (s.take j)) ∧ w = wr) (fun _ i _ => k - (intOf i).toNat)
  case atStart => exact ⟨0, Nat.zero_le _, rfl, rfl, rfl⟩
  case round =>
    obtain ⟨j, hj, rfl, rfl, rfl⟩ := hrel
    by_cases hlt : j < k
    · have hji : (j : Int) < k := by omega
      have hjs : (j : Int) < s.length := by omega
      have hjn : j < s.length := by omega
      obtain ⟨c, hc⟩ : ∃ c, s[j]? = some c := ⟨s[j], by simp [hjn]⟩
      have hce : (⟨s.toArray⟩ : ByteArray)[j]'(by rw [hsz]; exact hjn) = c := (List.getElem?_eq_some_iff.1 hc).2
      have q8 : IntKind.i64.wrap (8 * (j : Int)) = 8 * (j : Int) := IntWalk.i64_in _ (by omega)
      have hlt2 : getN (s.take j) < 256 ^ j := by
        have := getN_lt (s.take j)
        rwa [List.length_take, Nat.min_eq_left (by omega)] at this
      have HOR : bits BinOp.or IntKind.u64 ((getN (s.take j) : Nat) : Int) ((256 : Int) ^ j * (c.toNat : Int)) = ((getN (s.take j) + 256 ^ j * c.toNat : Nat) : Int) := by
        have e : ((256 : Int) ^ j * (c.toNat : Int)) = ((256 ^ j * c.toNat : Nat) : Int) := by push_cast; rfl
        rw [e]; exact bits_or64 _ _ j (by omega) hlt2 c.toNat_lt
      have HT := Lib.hid (getN_take hc)
      have hsh := shl_byte c j (by omega)
      generalize getN (s.take j) = x at *
      clear hc
      go_wp2_with fail
      go_roundw
      case rel => exact ⟨j + 1, by omega, by go_num, by rw [HT.out]; push_cast; rfl, trivial⟩
      case measure => simp [intOf]; omega
    · obtain rfl : j = k := by omega
      go_wp2_with fail
      go_ret
      exact ⟨rfl, rfl⟩
end Go.Proofs.Ytjcmnobfdidnkaa
