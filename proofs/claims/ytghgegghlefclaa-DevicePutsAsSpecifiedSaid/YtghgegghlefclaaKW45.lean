/- Walks: what is believed: the specification. -/
import Derived.Test.YtghgegghlefclaaKW44
set_option linter.unusedVariables false
set_option linter.unusedSimpArgs false
set_option linter.unusedSectionVars false
namespace Go.Proofs.Ytghgegghlefclaa
open Go.RowKit
set_option maxHeartbeats 1000000
set_option maxRecDepth 8000
theorem rbel_ok (v lv av : Value) (t : List Ru) (l : List Wr) (acks : List Ak) (room : Int) (M ML MA : Nat → Prop) (w : World) (h : RdS w M 23 ERu v t) (hM : ∀ i, M i → i < w.heap.size) (hd : DecT t) (hr : (t.length : Int) ≤ room) (ht : t.length ≤ 1000) (hl : RdS w ML 26 EWr lv l) (hll : l.length ≤ 1000) (ha : RdS w MA 3 EAk av acks) (hal : acks.length ≤ 1000000) :
    Calls Try.prog 31 #[v, .int .i64 room, lv, av] w (BelPost M (belT room acks t l) w) := by
  obtain ⟨ta, tc, rfl, _, _⟩ := h.shape
  obtain ⟨la, lc, rfl, _, _⟩ := hl.shape
  obtain ⟨aa, ac, rfl, _, _⟩ := ha.shape
  have HH := Lib.hid h
  have HL := Lib.hid hl
  have HA := Lib.hid ha
  have HM := Lib.hid hM
  have HS := Lib.hid (fun k => stB_ok (acks := acks) l hd hr k)
  have HE := Lib.hid (stB_all room acks t l)
  clear h hl ha hM hd hr
  go_enter Try.func31, Try.ntmps31
  go_wp2_with fail
  go_loopw [0, 9] (fun v i wr => ∃ (k : Nat) (a : Option Addr) (cap : Nat), k ≤ l.length ∧ i = .int .i64 k ∧ v = .slice a (stB room acks t l k).length cap ∧ Hid (RdS wr M 23 ERu (.slice a (stB room acks t l k).length cap) (stB room acks t l k)) ∧ Hid (Kept NoM w wr)) (fun _ i _ => l.length - (intOf i).toNat)
  case atStart => exact ⟨0, ta, tc, Nat.zero_le _, rfl, rfl, HH, Lib.hid (Kept.refl _ _)⟩
  case round =>
    obtain ⟨k, a, cap, hk, rfl, rfl, hT, hK⟩ := hrel
    by_cases hlt : k < l.length
    · have hki : (k : Int) < l.length := by omega
      obtain ⟨x, hx⟩ := getAt hlt
      obtain ⟨b, off, e1, _, hc⟩ := wr_at (HL.out.kept hK.out.of_no (fun _ _ x => x)) hx
      subst e1
      have HC := Lib.hid hc
      have HSS := Lib.hid (stB_succ (room := room) (acks := acks) (t := t) hx)
      clear hx hc
      go_wp2_with fail
      obtain ⟨w8, rfl⟩ : ∃ z, z = wr := ⟨_, rfl⟩
      go_loopw [10, 11] (fun o i wy => ∃ (m n : Nat) (bo : Bool), m ≤ acks.length ∧ i = .int .i64 m ∧ o = .bool bo ∧ Hid (bo = hasAk (acks.take m) x) ∧ wy = w8.drewN n) (fun _ i _ => acks.length - (intOf i).toNat)
      case atStart => exact ⟨0, 0, false, Nat.zero_le _, rfl, rfl, Lib.hid rfl, rfl⟩
      case round =>
        obtain ⟨m, n, bo, hm, rfl, rfl, hB, rfl⟩ := hrel
        by_cases hlt2 : m < acks.length
        · have hmi : (m : Int) < acks.length := by omega
          obtain ⟨q, hq⟩ := getAt hlt2
          have HN : Hid (hasAk (acks.take (m + 1)) x = (bo || decide (q = ⟨x.ep, x.seq, 0⟩))) := Lib.hid (by unfold hasAk; rw [any_snoc hq]; rw [hB.out]; rfl)
          obtain ⟨b1, o1, e1, y1, y2, y3⟩ := eAk_at (HA.out.kept hK.out.of_no (fun _ _ x => x)) hq
          subst e1
          have x0 := range_cell HC.out 0 _ (wrC_0 x)
          have x1 := range_cell HC.out 1 _ (wrC_1 x)
          rw [Nat.add_zero] at x0
          clear hq
          cases bo with
          | true =>
            go_wp2_with fail
            go_quiet (fail)
            go_wp2_with fail
            go_roundw
            case rel => exact ⟨m + 1, _, true, by omega, by go_num, rfl, Lib.hid (by rw [HN.out]; rfl), rfl⟩
            case measure => simp [intOf]; omega
          | false =>
            by_cases g1 : q.ep = x.ep
            · by_cases g2 : q.seq = x.seq
              · by_cases g3 : q.e = 0
                · have f1 : (q.ep == x.ep) = true := by simpa using g1
                  have f2 : (q.seq == x.seq) = true := by simpa using g2
                  have f3 : (q.e == 0) = true := by simpa using g3
                  have HQ := Lib.hid (show decide (q = ⟨x.ep, x.seq, 0⟩) = true from decide_eq_true (by cases q; simp_all))
                  clear g1 g2 g3
                  go_wp2_with fail
                  go_quiet (fail)
                  go_wp2_with fail
                  go_roundw
                  case rel => exact ⟨m + 1, _, true, by omega, by go_num, rfl, Lib.hid (by rw [HN.out, HQ.out]; rfl), rfl⟩
                  case measure => simp [intOf]; omega
                · have f1 : (q.ep == x.ep) = true := by simpa using g1
                  have f2 : (q.seq == x.seq) = true := by simpa using g2
                  have f3 : (q.e == 0) = false := by simpa using g3
                  have HQ := Lib.hid (show decide (q = ⟨x.ep, x.seq, 0⟩) = false from decide_eq_false (fun e => g3 (by rw [e])))
                  clear g1 g2 g3
                  go_wp2_with fail
                  go_quiet (fail)
                  go_wp2_with fail
                  go_roundw
                  case rel => exact ⟨m + 1, _, false, by omega, by go_num, rfl, Lib.hid (by rw [HN.out, HQ.out]; rfl), rfl⟩
                  case measure => simp [intOf]; omega
              · have f1 : (q.ep == x.ep) = true := by simpa using g1
                have f2 : (q.seq == x.seq) = false := by simpa using g2
                have HQ := Lib.hid (show decide (q = ⟨x.ep, x.seq, 0⟩) = false from decide_eq_false (fun e => g2 (by rw [e])))
                clear g1 g2
                go_wp2_with fail
                go_quiet (fail)
                go_wp2_with fail
                go_roundw
                case rel => exact ⟨m + 1, _, false, by omega, by go_num, rfl, Lib.hid (by rw [HN.out, HQ.out]; rfl), rfl⟩
                case measure => simp [intOf]; omega
            · have f1 : (q.ep == x.ep) = false := by simpa using g1
              have HQ := Lib.hid (show decide (q = ⟨x.ep, x.seq, 0⟩) = false from decide_eq_false (fun e => g1 (by rw [e])))
              clear g1
              go_wp2_with fail
              go_quiet (fail)
              go_wp2_with fail
              go_roundw
              case rel => exact ⟨m + 1, _, false, by omega, by go_num, rfl, Lib.hid (by rw [HN.out, HQ.out]; rfl), rfl⟩
              case measure => simp [intOf]; omega
        · obtain rfl : m = acks.length := by omega
          have f1 := decide_eq_false (show ¬ ((acks.length : Nat) : Int) < acks.length by omega)
          have f2 := decide_eq_false (show ¬ acks.length < acks.length by omega)
          rw [List.take_length] at hB
          have K1 := Lib.hid (hK.out.drewN n)
          have HT1 := Lib.hid (hT.out.kept ((Kept.refl NoM w8).drewN n).of_no (fun _ _ x => x))
          have HC1 := Lib.hid (rangeAt_kept (M := NoM) HC.out ((Kept.refl NoM w8).drewN n) (fun x => x))
          cases hh : hasAk acks x with
          | false =>
            rw [hh] at HSS hB
            have hbo := hB.out
            subst hbo
            go_wp2_with fail
            go_roundw
            case rel => exact ⟨k + 1, a, cap, by omega, by go_num, by rw [HSS.out]; rfl, by rw [HSS.out]; exact HT1, K1⟩
            case measure => simp [intOf]; omega
          | true =>
            rw [hh] at HSS hB
            have hbo := hB.out
            subst hbo
            go_wp2_with (refine wpList_load_big bigWr rfl _ rfl b (off + k * 26) (wrC x) rfl HC1.out rfl ?_)
            refine (rput_ok _ (stB room acks t l k) M room x (w8.drewN n) HT1.out (fun i hi => Nat.lt_of_lt_of_le (HM.out i hi) K1.out.size) (HS.out k).1 (by have := (HS.out k).2.2; omega)).mono ?_
            rintro e w2 ⟨a2, c2, rfl, q1, kk⟩
            have HT2 := Lib.hid q1
            have K2 := Lib.hid (K1.out.trans kk)
            clear q1 kk
            go_wp2_with fail
            go_roundw
            case rel => exact ⟨k + 1, a2, c2, by omega, by go_num, by rw [HSS.out]; rfl, by rw [HSS.out]; exact HT2, K2⟩
            case measure => simp [intOf]; omega
    · obtain rfl : k = l.length := by omega
      have f1 := decide_eq_false (show ¬ ((l.length : Nat) : Int) < l.length by omega)
      have f2 := decide_eq_false (show ¬ l.length < l.length by omega)
      rw [HE.out] at hT
      have hT2 := hT
      go_wp2_with fail
      go_ret
      exact ⟨a, cap, by rw [← HE.out]; rfl, hT2.out, hK.out⟩
end Go.Proofs.Ytghgegghlefclaa
