/- Walks: what is believed: the program. -/
import Derived.Test.YtghgegghlefclaaKF7
set_option linter.unusedVariables false
set_option linter.unusedSimpArgs false
set_option linter.unusedSectionVars false
namespace Go.Proofs.Ytghgegghlefclaa
open Go.RowKit
set_option maxHeartbeats 2000000
set_option maxRecDepth 8000
def hasAk (acks : List Ak) (x : Wr) : Bool := acks.any fun a => decide (a = ⟨x.ep, x.seq, 0⟩)
/-- what is believed behind the first k writes -/
def stB (room : Int) (acks : List Ak) (t : List Ru) (l : List Wr) (k : Nat) : List Ru := (l.take k).foldl (fun t x => if hasAk acks x = true then putT t room x else t) t
theorem belT_fold (room : Int) (acks : List Ak) (l : List Wr) (t : List Ru) : belT room acks t l = l.foldl (fun t x => if hasAk acks x = true then putT t room x else t) t := by
  induction l generalizing t with
  | nil => rfl
  | cons x l ih => unfold belT; rw [ih]; rfl
theorem stB_all (room : Int) (acks : List Ak) (t : List Ru) (l : List Wr) : stB room acks t l l.length = belT room acks t l := by
  unfold stB; rw [List.take_length, belT_fold]
theorem stB_succ {room : Int} {acks : List Ak} {t : List Ru} {l : List Wr} {k : Nat} {x : Wr} (hx : l[k]? = some x) : stB room acks t l (k + 1) = if hasAk acks x = true then putT (stB room acks t l k) room x else stB room acks t l k := by
  unfold stB
  rw [take_snoc hx, List.foldl_append]; rfl
theorem stB_ok {room : Int} {acks : List Ak} {t : List Ru} (l : List Wr) (hd : DecT t) (hr : (t.length : Int) ≤ room) (k : Nat) : DecT (stB room acks t l k) ∧ ((stB room acks t l k).length : Int) ≤ room ∧ (stB room acks t l k).length ≤ t.length + k := by
  induction k with
  | zero => exact ⟨hd, hr, Nat.le_refl _⟩
  | succ k ih =>
    cases hx : l[k]? with
    | none =>
      have e : stB room acks t l (k + 1) = stB room acks t l k := by
        unfold stB
        rw [List.take_add_one, hx]; simp
      rw [e]; exact ⟨ih.1, ih.2.1, by have := ih.2.2; omega⟩
    | some x =>
      rw [stB_succ hx]
      split
      · have := len_putT (stB room acks t l k) room x
        exact ⟨ih.1.putT room x, putT_le ih.2.1, by have := ih.2.2; omega⟩
      · exact ⟨ih.1, ih.2.1, by have := ih.2.2; omega⟩
def BelPost (M : Nat → Prop) (T : List Ru) (w : World) (e : Ending) (w' : World) : Prop := ∃ a cap, e = .returned (.slice a T.length cap) ∧ RdS w' M 23 ERu (.slice a T.length cap) T ∧ Kept NoM w w'
theorem bel_ok (v lv av : Value) (t : List Ru) (l : List Wr) (acks : List Ak) (room : Int) (M ML MA : Nat → Prop) (w : World) (h : RdS w M 23 ERu v t) (hM : ∀ i, M i → i < w.heap.size) (hd : DecT t) (hr : (t.length : Int) ≤ room) (ht : t.length ≤ 1000) (hl : RdS w ML 26 EWr lv l) (hll : l.length ≤ 1000) (ha : RdS w MA 3 EAk av acks) (hal : acks.length ≤ 1000000) :
    Calls Try.prog 30 #[v, .int .i64 room, lv, av] w (BelPost M (belT room acks t l) w) := by
  obtain ⟨ta, tc, rfl, _, _⟩ := h.shape
  obtain ⟨la, lc, rfl, _, _⟩ := hl.shape
  obtain ⟨aa, ac, rfl, _, _⟩ := ha.shape
  have HH := Lib.hid h
  have HL := Lib.hid hl
  have HA := Lib.hid ha
  have HM := Lib.hid hM
  have HS := Lib.hid (fun k => stB_ok (acks := acks) l hd hr k)
  have HE := Lib.hid (stB_all room acks t l)
  clear h hl ha hM hd hr
  go_enter Try.func30, Try.ntmps30
  go_wp2_with fail
  go_loopw [0, 13] (fun v i wr => ∃ (k : Nat) (a : Option Addr) (cap : Nat), k ≤ l.length ∧ i = .int .i64 k ∧ v = .slice a (stB room acks t l k).length cap ∧ Hid (RdS wr M 23 ERu (.slice a (stB room acks t l k).length cap) (stB room acks t l k)) ∧ Hid (Kept NoM w wr)) (fun _ i _ => l.length - (intOf i).toNat)
  case atStart => exact ⟨0, ta, tc, Nat.zero_le _, rfl, rfl, HH, Lib.hid (Kept.refl _ _)⟩
  case round =>
    obtain ⟨k, a, cap, hk, rfl, rfl, hT, hK⟩ := hrel
    by_cases hlt : k < l.length
    · have hki : (k : Int) < l.length := by omega
      obtain ⟨x, hx⟩ := getAt hlt
      obtain ⟨b, off, e1, _, hc⟩ := wr_at (HL.out.kept hK.out.of_no (fun _ _ x => x)) hx
      subst e1
      have HC := Lib.hid hc
      have HSS := Lib.hid (stB_succ (room := room) (acks := acks) (t := t) hx)
      have KA := Lib.hid ((Kept.refl NoM wr).alloc (.cells (wrC x) 41))
      have HX := Lib.hid (blk_new wr (.cells (wrC x) 41))
      have x0 := cell_blk HX.out 0 _ (wrC_0 x)
      have x1 := cell_blk HX.out 1 _ (wrC_1 x)
      have HCA := Lib.hid (hasacks_ok _ acks MA ⟨x.ep, x.seq, 0⟩ _ (HA.out.kept (hK.out.trans KA.out).of_no (fun _ _ x => x)) hal)
      have hdd : (acks.any fun a => decide (a = ⟨x.ep, x.seq, 0⟩)) = hasAk acks x := rfl
      rw [hdd] at HCA
      clear hc hx hdd
      go_wp2_with (first
        | (refine wpList_alloc_Z rfl 41 rfl _ (wrZ _) ?_)
        | (refine wpList_store_bign bigWr rfl _ _ rfl _ rfl rfl rfl rfl rfl (wr1 x) ?_)
        | (refine wpList_load_big bigWr rfl _ rfl b (off + k * 26) (wrC x) rfl HC.out rfl ?_))
      refine HCA.out.mono ?_
      rintro e w1 ⟨rfl, kk⟩
      have K1 := Lib.hid ((hK.out.trans KA.out).trans kk)
      have HX1 := Lib.hid (kk.blk HX.out (fun x => x))
      have HT1 := Lib.hid (hT.out.kept (KA.out.trans kk).of_no (fun _ _ x => x))
      clear kk x0 x1
      cases hh : hasAk acks x with
      | false =>
        rw [hh] at HSS
        go_wp2_with fail
        go_roundw
        case rel => exact ⟨k + 1, a, cap, by omega, by go_num, by rw [HSS.out]; rfl, by rw [HSS.out]; exact HT1, K1⟩
        case measure => simp [intOf]; omega
      | true =>
        rw [hh] at HSS
        go_wp2_with (refine wpList_load_big bigWr rfl _ rfl wr.heap.size 0 (wrC x) rfl (range_blk HX1.out) rfl ?_)
        refine (put_ok _ (stB room acks t l k) M room x w1 HT1.out (fun i hi => Nat.lt_of_lt_of_le (HM.out i hi) K1.out.size) (HS.out k).1 (HS.out k).2.1 (by have := (HS.out k).2.2; omega)).mono ?_
        rintro e w2 ⟨a2, c2, rfl, q1, kk⟩
        have HT2 := Lib.hid q1
        have K2 := Lib.hid (K1.out.trans kk)
        clear q1 kk
        go_wp2_with fail
        go_roundw
        case rel => exact ⟨k + 1, a2, c2, by omega, by go_num, by rw [HSS.out]; rfl, by rw [HSS.out]; exact HT2, K2⟩
        case measure => simp [intOf]; omega
    · obtain rfl : k = l.length := by omega
      have f1 := decide_eq_false (show ¬ ((l.length : Nat) : Int) < l.length by omega)
      have f2 := decide_eq_false (show ¬ l.length < l.length by omega)
      rw [HE.out] at hT
      have hT2 := hT
      go_wp2_with fail
      go_ret
      exact ⟨a, cap, by rw [← HE.out]; rfl, hT2.out, hK.out⟩
end Go.Proofs.Ytghgegghlefclaa
