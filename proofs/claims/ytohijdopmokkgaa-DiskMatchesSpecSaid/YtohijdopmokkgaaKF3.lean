/- Walks: the law that every operation answers as specified. -/
import Derived.Test.YtohijdopmokkgaaKF0
set_option linter.unusedVariables false
set_option linter.unusedSimpArgs false
set_option linter.unusedSectionVars false
namespace Go.Proofs.Ytohijdopmokkgaa
open Go.RowKit
set_option maxHeartbeats 2000000
set_option maxRecDepth 4000
theorem f3_out (n : Int) (h1 : 40 < n) (h2 : n ≤ 4096) (v : Value) (w : World) : Calls Try.prog 3 #[.int .i64 n, v] w fun e w' => e = .returned (.bool true) ∧ Kept NoM w w' := by
  go_enter Try.func3, Try.ntmps3
  go_wp2_with (first | (go_at_call 10; refine (sanity_ok _).mono ?_; rintro e w1 ⟨rfl, k1⟩))
  go_ret
  exact ⟨rfl, k1⟩
theorem f3_long (n : Int) (hn : ¬ (40 < n ∧ n ≤ 4096)) (v : Value) (l : List Op) (w : World) (h : RdOps w v l) (hf : fewB l = false) : Calls Try.prog 3 #[.int .i64 n, v] w fun e w' => e = .returned (.bool true) ∧ Kept NoM w w' := by
  have HH := Lib.hid h
  clear h
  by_cases h1 : 40 < n
  · have h2 : ¬ n ≤ 4096 := fun h => hn ⟨h1, h⟩
    go_enter Try.func3, Try.ntmps3
    go_wp2_with (first | (go_at_call 9; refine (few_ok _ _ _ HH.out).mono ?_; rw [hf]; rintro e w0 ⟨rfl, k0⟩) | (go_at_call 10; refine (sanity_ok _).mono ?_; rintro e w1 ⟨rfl, k1⟩))
    go_ret
    exact ⟨rfl, k0.trans k1⟩
  · go_enter Try.func3, Try.ntmps3
    go_wp2_with (first | (go_at_call 9; refine (few_ok _ _ _ HH.out).mono ?_; rw [hf]; rintro e w0 ⟨rfl, k0⟩) | (go_at_call 10; refine (sanity_ok _).mono ?_; rintro e w1 ⟨rfl, k1⟩))
    go_ret
    exact ⟨rfl, k0.trans k1⟩
theorem f3_bad (n : Int) (hn : n < 1 ∨ 4096 < n) (v : Value) (l : List Op) (w : World) (h : RdOps w v l) (hf : fewB l = true) : Calls Try.prog 3 #[.int .i64 n, v] w fun e w' => e = .returned (.bool true) ∧ Kept NoM w w' := by
  have HH := Lib.hid h
  have hb := fun w => new_bad n hn w
  have hb' := fun w => rnew_bad n hn w
  clear h
  by_cases h1 : 40 < n
  · have h2 : ¬ n ≤ 4096 := by omega
    clear hn
    go_enter Try.func3, Try.ntmps3
    go_wp2_with (first | (go_at_call 9; refine (few_ok _ _ _ HH.out).mono ?_; rw [hf]; rintro e w0 ⟨rfl, k0⟩) | (go_at_call 11; refine (hb _).mono ?_; rintro e w1 ⟨rfl, rfl⟩) | (go_at_call 12; refine (hb' _).mono ?_; rintro e w1 ⟨rfl, rfl⟩) | (go_at_call 10; refine (sanity_ok _).mono ?_; rintro e w1 ⟨rfl, k1⟩))
    go_ret
    exact ⟨rfl, k0.trans k1⟩
  · clear hn
    go_enter Try.func3, Try.ntmps3
    go_wp2_with (first | (go_at_call 9; refine (few_ok _ _ _ HH.out).mono ?_; rw [hf]; rintro e w0 ⟨rfl, k0⟩) | (go_at_call 11; refine (hb _).mono ?_; rintro e w1 ⟨rfl, rfl⟩) | (go_at_call 12; refine (hb' _).mono ?_; rintro e w1 ⟨rfl, rfl⟩) | (go_at_call 10; refine (sanity_ok _).mono ?_; rintro e w1 ⟨rfl, k1⟩))
    go_ret
    exact ⟨rfl, k0.trans k1⟩
theorem f3_goes (n : Nat) (h1 : 1 ≤ n) (h2 : n ≤ 40) (v : Value) (l : List Op) (w : World) (h : RdOps w v l) (hf : fewB l = true) : Calls Try.prog 3 #[.int .i64 n, v] w fun e w' => e = .returned (.bool true) ∧ Kept NoM w w' := by
  obtain ⟨a, cap, rfl, hcap, hmx⟩ := RdS.shape h
  unfold maxLen at hmx
  obtain ⟨hsm, hll⟩ := fewB_all hf
  have HH := Lib.hid h
  have g1 : ¬ (40 : Int) < n := by omega
  clear h
  go_enter Try.func3, Try.ntmps3
  go_wp2_with (first | (go_at_call 9; refine (few_ok _ _ _ HH.out).mono ?_; rw [hf]; rintro e w0 ⟨rfl, k0⟩; have K0 := Lib.hid k0; clear k0) | (go_at_call 11; refine (new_ok n h1 (by omega) _).mono ?_; rintro e w1 ⟨D, G, B, rfl, hp, hlp, k1⟩; have HP := Lib.hid hp; have HLP := Lib.hid hlp; have K1 := Lib.hid k1; clear hp hlp k1) | (go_at_call 12; refine (rnew_ok n h1 (by omega) _).mono ?_; rintro e w2 ⟨R, Q, rfl, hs, hls, k2⟩; have HB : Hid (Both w0 w2 D G B R Q (Dk.new n)) := Lib.hid (Both.start HP.out HLP.out K1.out hs hls k2); clear hs hls k2))
  go_loopw [56] (fun i wr => ∃ k : Nat, k ≤ l.length ∧ i = .int .i64 k ∧ Both w wr D G B R Q ((Dk.new n).plays (l.take k))) (fun i _ => l.length - (intOf i).toNat)
  case atStart => exact ⟨0, Nat.zero_le _, rfl, HB.out.pre K0.out⟩
  case round =>
    obtain ⟨k, hk, rfl, hB⟩ := hrel
    have HK := Lib.hid hB
    clear hB
    by_cases hlt : k < l.length
    · have hki : (k : Int) < l.length := by omega
      obtain ⟨x, hx⟩ := getAt hlt
      obtain ⟨hf1, hf2⟩ := hsm x (List.mem_of_getElem? hx)
      obtain ⟨b, off, e1, _, cs, ⟨pa, pc, rfl, hrd, hxi⟩, _, hc⟩ := HH.out.at hx
      subst e1
      have x0 := HK.out.k.cell (hc 0 _ rfl) (fun x => x)
      have x1 := HK.out.k.cell (hc 1 _ rfl) (fun x => x)
      have x2 := HK.out.k.cell (hc 2 _ rfl) (fun x => x)
      have x3 := HK.out.k.cell (hc 3 _ rfl) (fun x => x)
      have x4 := HK.out.k.cell (hc 4 _ rfl) (fun x => x)
      simp only [Nat.add_zero] at x0
      unfold strV at x3
      have HX := Lib.hid hx
      have HRD := Lib.hid hrd
      have HPT := Lib.hid (Dk.plays_take (d := Dk.new n) hx)
      clear hc hrd hx hlt
      generalize hdd : (Dk.new n).plays (l.take k) = dd at HK HPT
      clear hdd
      go_wp2_with fail
      have HA := Lib.hid (HK.out.kept0 ((Kept.refl NoM _).alloc (.cells #[.int .i64 x.kind, .int .i64 x.i, .int .i64 x.k, strV x.text, .slice pa x.picks.length pc] 34)))
      have hblk := blk_new wr (.cells #[.int .i64 x.kind, .int .i64 x.i, .int .i64 x.k, strV x.text, .slice pa x.picks.length pc] 34)
      unfold strV at HA hblk
      generalize hwa : wr.alloc _ = wa at HA hblk ⊢
      have hnb : ¬ InD D G B wr.heap.size := HK.out.lts 0
      have hdo := do_ok x pa pc hf1 hf2 hxi D G B wa HA.out.p (HA.out.picksD HRD.out)
      have hrdo := fun w => rdo_ok x pa pc hf1 hf2 hxi R Q (d := dd) w
      unfold strV at hdo hrdo
      generalize (dd.doS x).toArray = sS at hdo hrdo
      generalize dd.doE x = sE at hdo hrdo
      have HRDO := Lib.hid hrdo
      clear hrdo
      refine hdo.mono ?_
      rintro e w3 ⟨rfl, hp3, k3⟩
      have hb3 := k3.blk hblk hnb
      have y0 := cell_blk hb3 0 _ rfl
      have y1 := cell_blk hb3 1 _ rfl
      have y2 := cell_blk hb3 2 _ rfl
      have y3 := cell_blk hb3 3 _ rfl
      have y4 := cell_blk hb3 4 _ rfl
      have hs3 := HA.out.spec k3
      have hq3 := HA.out.picksS k3 HRD.out
      have HP3 := Lib.hid hp3
      have HS3 := Lib.hid hs3
      have HQ3 := Lib.hid hq3
      have K3 := Lib.hid k3
      clear hp3 hs3 hq3 k3 hblk hb3 hdo
      go_wp2_with (first | (go_at_call 14; refine (HRDO.out _ HS3.out HQ3.out).mono ?_; rintro e w4 ⟨rfl, hs4, k4⟩; have HB4 := Lib.hid (HA.out.playD HP3.out K3.out hs4 k4); clear hs4 k4) | (go_at_call 15; refine (same_ok _ HB4.out.p HB4.out.s).mono ?_; rintro e w5 ⟨rfl, k5⟩; have HB5 := Lib.hid (HB4.out.kept0 k5); clear k5))
      go_roundw
      case rel => exact ⟨k + 1, by omega, by go_num, by rw [HPT.out]; exact HB5.out⟩
      case measure => simp [intOf]; omega
    · obtain rfl : k = l.length := by omega
      have f1 := decide_eq_false (show ¬ ((l.length : Nat) : Int) < l.length by omega)
      have f2 := decide_eq_false (show ¬ l.length < l.length by omega)
      go_wp2_with (go_at_call 10; refine (sanity_ok _).mono ?_; rintro e w6 ⟨rfl, k6⟩)
      go_ret
      exact ⟨rfl, HK.out.k.trans k6⟩
theorem matches_ok (n : Int) (v : Value) (l : List Op) (w : World) (h : RdOps w v l) : Calls Try.prog 3 #[.int .i64 n, v] w fun e w' => e = .returned (.bool true) ∧ Kept NoM w w' := by
  by_cases h0 : 40 < n ∧ n ≤ 4096
  · exact f3_out n h0.1 h0.2 v w
  · cases hf : fewB l with
    | false => exact f3_long n h0 v l w h hf
    | true =>
      by_cases h1 : n < 1 ∨ 4096 < n
      · exact f3_bad n h1 v l w h hf
      · obtain ⟨m, rfl⟩ := Int.eq_ofNat_of_zero_le (show 0 ≤ n by omega)
        exact f3_goes m (by omega) (by omega) v l w h hf
end Go.Proofs.Ytohijdopmokkgaa
