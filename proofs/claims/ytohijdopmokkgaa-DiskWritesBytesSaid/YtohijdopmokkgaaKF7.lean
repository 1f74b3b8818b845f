/- Walks: the law that a write changes what is read of its bytes. -/
import Derived.Test.YtohijdopmokkgaaKF0
import Derived.IntWalk
import Derived.StillTailTactics
set_option linter.unusedVariables false
set_option linter.unusedSimpArgs false
set_option linter.unusedSectionVars false
namespace Go.Proofs.Ytohijdopmokkgaa
open Go.RowKit
set_option maxHeartbeats 4000000
set_option maxRecDepth 4000
theorem f7_out (n : Int) (h1 : 40 < n) (v a2 a3 a4 : Value) (w : World) : Calls Try.prog 7 #[.int .i64 n, v, a2, a3, a4] w fun e w' => e = .returned (.bool true) ∧ Kept NoM w w' := by
  go_enter Try.func7, Try.ntmps7
  go_wp2_with (first | (go_at_call 10; refine (sanity_ok _).mono ?_; rintro e w1 ⟨rfl, k1⟩))
  go_ret
  exact ⟨rfl, k1⟩
theorem f7_long (n : Int) (h1 : ¬ 40 < n) (v a2 a3 a4 : Value) (l : List Op) (w : World) (h : RdOps w v l) (hf : fewB l = false) : Calls Try.prog 7 #[.int .i64 n, v, a2, a3, a4] w fun e w' => e = .returned (.bool true) ∧ Kept NoM w w' := by
  have HH := Lib.hid h
  clear h
  go_enter Try.func7, Try.ntmps7
  go_wp2_with (first | (go_at_call 9; refine (few_ok _ _ _ HH.out).mono ?_; rw [hf]; rintro e w0 ⟨rfl, k0⟩) | (go_at_call 10; refine (sanity_ok _).mono ?_; rintro e w1 ⟨rfl, k1⟩))
  go_ret
  exact ⟨rfl, k0.trans k1⟩
theorem f7_many (n : Int) (h1 : ¬ 40 < n) (v a2 a3 : Value) (s : Pg) (l : List Op) (w : World) (h : RdOps w v l) (hf : fewB l = true) (hp : 300 < s.length) : Calls Try.prog 7 #[.int .i64 n, v, a2, a3, .string ⟨s.toArray⟩] w fun e w' => e = .returned (.bool true) ∧ Kept NoM w w' := by
  have HH := Lib.hid h
  have hsz : (⟨s.toArray⟩ : ByteArray).size = s.length := by simp [ByteArray.size]
  have hp2 : (300 : Int) < s.length := by omega
  clear h
  go_enter Try.func7, Try.ntmps7
  go_wp2_with (first | (go_at_call 9; refine (few_ok _ _ _ HH.out).mono ?_; rw [hf]; rintro e w0 ⟨rfl, k0⟩) | (go_at_call 10; refine (sanity_ok _).mono ?_; rintro e w1 ⟨rfl, k1⟩))
  go_ret
  exact ⟨rfl, k0.trans k1⟩
theorem f7_bad (n : Int) (hn : n < 1) (v a2 a3 : Value) (s : Pg) (l : List Op) (w : World) (h : RdOps w v l) (hf : fewB l = true) (hp : s.length ≤ 300) : Calls Try.prog 7 #[.int .i64 n, v, a2, a3, .string ⟨s.toArray⟩] w fun e w' => e = .returned (.bool true) ∧ Kept NoM w w' := by
  have HH := Lib.hid h
  have hb := fun w => played_bad n (.inl hn) v w
  have g1 : ¬ (40 : Int) < n := by omega
  have hsz : (⟨s.toArray⟩ : ByteArray).size = s.length := by simp [ByteArray.size]
  have hp2 : ¬ (300 : Int) < s.length := by omega
  clear h
  go_enter Try.func7, Try.ntmps7
  go_wp2_with (first | (go_at_call 9; refine (few_ok _ _ _ HH.out).mono ?_; rw [hf]; rintro e w0 ⟨rfl, k0⟩) | (go_at_call 16; refine (hb _).mono ?_; rintro e w1 ⟨rfl, rfl⟩) | (go_at_call 10; refine (sanity_ok _).mono ?_; rintro e w1 ⟨rfl, k1⟩))
  go_ret
  exact ⟨rfl, k0.trans k1⟩
theorem f7_goes (n : Nat) (h1 : 1 ≤ n) (h2 : n ≤ 40) (v : Value) (i k0 : Int) (hkm : k0 ≤ 9223372036854775807) (s : Pg) (l : List Op) (w : World) (h : RdOps w v l) (hf : fewB l = true) (hp : s.length ≤ 300) : Calls Try.prog 7 #[.int .i64 n, v, .int .i64 i, .int .i64 k0, .string ⟨s.toArray⟩] w fun e w' => e = .returned (.bool true) ∧ Kept NoM w w' := by
  obtain ⟨hsm, hll⟩ := fewB_all hf
  obtain ⟨hwf, hnn⟩ := new_plays_wf (n := n) h.lims
  have HH := Lib.hid h
  have g1 : ¬ (40 : Int) < n := by omega
  have hsz : (⟨s.toArray⟩ : ByteArray).size = s.length := by simp [ByteArray.size]
  have hp2 : ¬ (300 : Int) < s.length := by omega
  have hpl := fun w h => played_ok n h1 (by omega) v l w h hsm
  generalize (Dk.new n).plays l = dd at hwf hnn hpl
  subst hnn
  have HPL := Lib.hid hpl
  have HWF := Lib.hid hwf
  clear h hpl hwf
  go_enter Try.func7, Try.ntmps7
  go_wp2_with (first | (go_at_call 9; refine (few_ok _ _ _ HH.out).mono ?_; rw [hf]; rintro e w0 ⟨rfl, k0⟩; have K0 := Lib.hid k0; clear k0) | (go_at_call 16; refine (HPL.out _ (HH.out.kept K0.out)).mono ?_; rintro e w1 ⟨D, G, B, R, Q, rfl, hb⟩; have P1 := Lib.hid ((hb.pre K0.out).pk); clear hb) | (go_at_call 24; refine (image_ok _ P1.out.p).mono ?_; rintro e w2 ⟨ia, icap, IO, rfl, own2, n2, k2⟩; have A2 := Lib.hid (P1.out.aside n2); have IM2 := Lib.hid own2; have P2 := Lib.hid (P1.out.kept0 k2); clear own2 n2 k2))
  have hz2 := P2.out.k.size
  go_loopw [15, 54] (fun lst i wr => ∃ k : Nat, k ≤ dd.n ∧ i = .int .i64 k ∧ ∃ a cap O, lst = .slice a k cap ∧ OwnS wr O 9 1 EStr (.slice a k cap) ((List.range k).map fun i : Nat => dd.readS (i : Int)) ∧ NewO w2 none O ∧ Kept NoM w2 wr) (fun _ i _ => dd.n - (intOf i).toNat)
  case atStart => exact ⟨0, Nat.zero_le _, rfl, none, 0, none, rfl, OwnS.nil _ _ _ _, NewO.refl _ _, Kept.refl _ _⟩
  case round =>
    obtain ⟨k, hk, rfl, a, capl, O, rfl, own, hnew, hK⟩ := hrel
    have OWN := Lib.hid own
    have NEW := Lib.hid hnew
    have KK := Lib.hid hK
    clear own hnew hK
    by_cases hlt : k < dd.n
    · have hlti : (k : Int) < dd.n := by omega
      have hls : ((List.range k).map fun i : Nat => dd.readS (i : Int)).length = k := by simp
      have hmore : ((List.range (k + 1)).map fun i : Nat => dd.readS (i : Int)) = ((List.range k).map fun i : Nat => dd.readS (i : Int)) ++ [dd.readS (k : Int)] := by
        rw [List.range_succ, List.map_append]; rfl
      generalize ((List.range k).map fun i : Nat => dd.readS (i : Int)) = done at *
      obtain ⟨t, ht⟩ : ∃ t, dd.readS (k : Int) = t := ⟨_, rfl⟩
      obtain ⟨E, hE⟩ : ∃ E, dd.readE (k : Int) = E := ⟨_, rfl⟩
      rw [ht] at hmore
      have HM := Lib.hid hmore
      have HLS := Lib.hid hls
      have HRD := Lib.hid (read_e (k : Int) wr (P2.out.kept0 KK.out).p ht hE)
      have hb1 : k + 1 ≤ maxLen := by unfold maxLen; omega
      have hb2 : (k + 1) * 16 ≤ 140737488355328 := by omega
      clear hmore hls hlt ht hE
      go_wp2_with (first | (go_at_call 18; refine HRD.out.mono ?_; rintro e w3 ⟨rfl, k3⟩; have OWN3 := Lib.hid ((OWN.out.still k3).still ((Kept.refl NoM w3).alloc (.cells #[.string ⟨t.toArray⟩] 9))); have K3 := Lib.hid ((KK.out.trans k3).trans ((Kept.refl NoM w3).alloc (.cells #[.string ⟨t.toArray⟩] 9))); clear k3) | (at_builtin; go_loud (refine wpList_append_S (M := NoM) rfl (.tmp 63) (.tmp 65) 43 rfl 16 tyStrs _ rfl OWN3.out _ rfl (rd_one (x := t) (blk_new w3 _) (fun x => x) rfl rfl) eStr_one k 1 HLS.out rfl hb1 hb2 ?_; intro a1 cap1 w4 O1 own1 k4 n4)))
      have N4 := Lib.hid (NEW.out.trans (n4.of_le (Nat.le_refl _)) K3.out.size)
      have K4 := Lib.hid (K3.out.trans' k4 (fun i hi h => by rcases NEW.out with rfl | ⟨g, rfl, hg⟩ <;> simp at h; omega))
      have OW4 := Lib.hid own1
      clear own1 k4 n4
      go_wp2_with fail
      go_roundw
      case rel => exact ⟨k + 1, by omega, by go_num, a1, cap1, O1, rfl, by rw [HM.out]; exact OW4.out, N4.out, K4.out⟩
      case measure => simp [intOf]; omega
    · obtain rfl : k = dd.n := by omega
      have hf1 := decide_eq_false (show ¬ ((dd.n : Nat) : Int) < (dd.n : Int) by omega)
      have hf2 := decide_eq_false (show ¬ dd.n < dd.n by omega)
      clear hlt hk
      have P3 := Lib.hid (P2.out.kept0 KK.out)
      have A3 := Lib.hid (P2.out.aside NEW.out)
      have IM3 := Lib.hid (IM2.out.still KK.out)
      clear IM2 P2 P1 NEW KK
      obtain ⟨E, hE⟩ : ∃ E, dd.writeE i k0 s = E := ⟨_, rfl⟩
      have hwr : Hid (∀ w, PD w D G B dd → Calls Try.prog 21 #[.pointer (some ⟨D, 0, none⟩), .int .i64 i, .int .i64 k0, .string ⟨s.toArray⟩] w fun e w' => e = .returned (.int .i64 E) ∧ PD w' D G B (dd.write i k0 s) ∧ Kept (InD D G B) w w') := Lib.hid (fun w h => by
        have := write_ok i k0 s (by omega) w h
        rw [hE] at this; exact this)
      have hl : dd.pages.length ≤ 1000000 := by have : dd.pages.length = dd.n := rfl; omega
      by_cases h0 : E = 0
      · subst h0
        obtain ⟨q1, q2, q3, q4, q5, q6⟩ := Dk.write_ok HWF.out i k0 s hE
        have PGS := Lib.hid q4
        obtain ⟨⟨i0, i1⟩, c0, c1, c2⟩ := Dk.wok_iff.1 q2
        obtain ⟨i, rfl⟩ := Int.eq_ofNat_of_zero_le i0
        obtain ⟨k0, rfl⟩ := Int.eq_ofNat_of_zero_le c0
        have hd1 : ∀ j : Nat, j < dd.n → (dd.write i k0 s).readE j = 0 ∧ (dd.write i k0 s).readS j = (if (j : Int) = i then Dk.putAt (dd.now j) k0 s else dd.now j) := fun j hj => by
          have := Dk.readS_up q3 (i := j) (by rw [q5]; exact hj)
          rw [q6 j hj] at this
          simpa using this
        have hd0 : ∀ j : Nat, j < dd.n → dd.readS j = dd.now j := fun j hj => (Dk.readS_up q1 hj).2
        have HD1 := Lib.hid hd1
        have HD0 := Lib.hid hd0
        clear q1 q2 q3 q4 q5 q6 hd1 hd0 hE
        have hk128 : (k0 : Int) ≤ 128 := c1
        have hks : (k0 : Int) + s.length ≤ 128 := by omega
        have hkn : k0 ≤ 128 := by omega
        have hksn : k0 + s.length ≤ 128 := by omega
        go_wp2_with (go_at_call 21; refine (hwr.out _ P3.out.p).mono ?_; rintro e w4 ⟨rfl, p4, k4⟩; have P4 := Lib.hid (P3.out.step p4 k4); have IM4 := Lib.hid (IM3.out.beside A2.out k4); have OW4 := Lib.hid (OWN.out.beside A3.out k4); clear p4 k4)
        go_loopw [120] (fun i wr => ∃ k : Nat, k ≤ dd.n ∧ i = .int .i64 k ∧ Kept NoM w4 wr) (fun i _ => dd.n - (intOf i).toNat)
        case atStart => exact ⟨0, Nat.zero_le _, rfl, Kept.refl _ _⟩
        case round =>
          obtain ⟨k, hk, rfl, hK⟩ := hrel
          have KK := Lib.hid hK
          clear hK
          by_cases hlt : k < dd.n
          · have hlti : (k : Int) < dd.n := by omega
            have hbk : ((List.range dd.n).map fun i : Nat => dd.readS (i : Int))[k]? = some (dd.now k) := by
              rw [List.getElem?_map, List.getElem?_range hlt]; exact congrArg some (HD0.out k hlt)
            obtain ⟨bb, bo, ea, _, cs, rfl, _, hc⟩ := ((OW4.out.still KK.out).rd (M := NoM) (fun _ _ x => x)).at hbk
            subst ea
            have x0 := hc 0 _ rfl
            simp only [Nat.mul_one, Nat.add_zero] at x0
            unfold strV at x0
            have hpl := HWF.out.now_len hlt
            obtain ⟨hr0, hr1⟩ := HD1.out k hlt
            generalize dd.now k = p at *
            have hpz : (⟨p.toArray⟩ : ByteArray).size = 128 := by simp [ByteArray.size, hpl]
            by_cases hki : (k : Int) = i
            · rw [if_pos hki] at hr1
              have HRD := Lib.hid (read_e (k : Int) wr (P4.out.kept0 KK.out).p hr1 hr0)
              obtain rfl : k = i := by omega
              have HCAT := Lib.hid (bytes_put p s k0 hpl)
              have hmin : min k0 128 = k0 := Nat.min_eq_left hkn
              have hov : ¬ 9223372036854775807 < k0 + s.length := by omega
              have hov2 : ¬ 9223372036854775807 < k0 + s.length + (128 - (k0 + s.length)) := by omega
              have hsum1 : IntKind.i64.wrap ((k0 : Int) + s.length) = (k0 : Int) + s.length := IntWalk.i64_in _ (by omega)
              have hsum2 : (0 : Int) ≤ (k0 : Int) + s.length := by omega
              have hsum3 : ((k0 : Int) + s.length).toNat = k0 + s.length := by omega
              clear hr0 hr1 hbk hc
              go_wp2_with (first | (go_at_call 18; refine HRD.out.mono ?_; rintro e w5 ⟨rfl, k5⟩; have x1 := k5.cell x0 (fun x => x); have K5 := Lib.hid (KK.out.trans k5); clear k5))
              go_still_tail 12, (by kernel_rfl)
              clear hsum1 hsum2 hsum3 hov hov2 hmin
              change wpList _ _ _ _ _ w5.drew
              rw [HCAT.out]
              go_wp2_with fail
              go_roundw
              case rel => exact ⟨k + 1, by omega, by go_num, K5.out.drew⟩
              case measure => simp [intOf]; omega
            · rw [if_neg hki] at hr1
              have HRD := Lib.hid (read_e (k : Int) wr (P4.out.kept0 KK.out).p hr1 hr0)
              have hki2 : ((k : Int) == (i : Int)) = false := by simpa using hki
              clear hr0 hr1 hbk hc
              go_wp2_with (first | (go_at_call 18; refine HRD.out.mono ?_; rintro e w5 ⟨rfl, k5⟩; have x1 := k5.cell x0 (fun x => x); have K5 := Lib.hid (KK.out.trans k5); clear k5))
              go_roundw
              case rel => exact ⟨k + 1, by omega, by go_num, K5.out⟩
              case measure => simp [intOf]; omega
          · obtain rfl : k = dd.n := by omega
            have P4' := Lib.hid (P4.out.kept0 KK.out)
            have IM4' := Lib.hid (IM4.out.still KK.out)
            go_wp2_with (first | (go_at_call 10; refine (sanity_ok _).mono ?_; rintro e w5 ⟨rfl, k5⟩; have P5 := Lib.hid (P4'.out.kept0 k5); have IM5 := Lib.hid (IM4'.out.still k5); clear k5) | (go_at_call 24; refine (image_ok _ P5.out.p).mono ?_; rw [PGS.out]; rintro e w6 ⟨a6, c6, O6, rfl, own6, _, k6⟩; have P6 := Lib.hid (P5.out.kept0 k6); have IM6 := Lib.hid (IM5.out.still k6); have OI6 := Lib.hid own6; clear own6 k6) | (go_at_call 23; refine (texts_own _ _ _ _ OI6.out IM6.out hl).mono ?_; rintro e w7 ⟨rfl, k7⟩; have P7 := Lib.hid (P6.out.kept0 k7); clear k7))
            go_ret
            exact ⟨rfl, P7.out.k⟩
      · obtain ⟨q1, q2⟩ := Dk.write_no (d := dd) i k0 s (by rw [hE]; exact h0)
        have PGS := Lib.hid q1
        rw [hE] at q2
        rcases q2 with ⟨rfl, hoff⟩ | ⟨rfl, hwk⟩
        · have HO := Lib.hid hoff
          clear hE q1 hoff
          go_wp2_with (first | (go_at_call 21; refine (hwr.out _ P3.out.p).mono ?_; rintro e w4 ⟨rfl, p4, k4⟩; have P4 := Lib.hid (P3.out.step p4 k4); have IM4 := Lib.hid (IM3.out.beside A2.out k4); have OW4 := Lib.hid (OWN.out.beside A3.out k4); clear p4 k4) | (go_at_call 10; refine (sanity_ok _).mono ?_; rintro e w5 ⟨rfl, k5⟩; have P5 := Lib.hid (P4.out.kept0 k5); have IM5 := Lib.hid (IM4.out.still k5); clear k5) | (go_at_call 20; refine (up0_ok _ P5.out.p HO.out).mono ?_; rintro e w5' ⟨rfl, rfl⟩) | (go_at_call 24; refine (image_ok _ P5.out.p).mono ?_; rw [PGS.out]; rintro e w6 ⟨a6, c6, O6, rfl, own6, _, k6⟩; have P6 := Lib.hid (P5.out.kept0 k6); have IM6 := Lib.hid (IM5.out.still k6); have OI6 := Lib.hid own6; clear own6 k6) | (go_at_call 23; refine (texts_own _ _ _ _ OI6.out IM6.out hl).mono ?_; rintro e w7 ⟨rfl, k7⟩; have P7 := Lib.hid (P6.out.kept0 k7); clear k7))
          go_ret
          exact ⟨rfl, P7.out.k⟩
        · have hwk' : ¬ ((0 ≤ i ∧ i < dd.n) ∧ 0 ≤ k0 ∧ k0 ≤ 128 ∧ (s.length : Int) ≤ 128 - k0) := fun h => by
            have := (Dk.wok_iff (d := dd) (i := i) (k := k0) (s := s)).2 h
            rw [hwk] at this; cases this
          clear hE q1 hwk
          by_cases c1 : i < 0
          · clear hwk'
            go_wp2_with (first | (go_at_call 21; refine (hwr.out _ P3.out.p).mono ?_; rintro e w4 ⟨rfl, p4, k4⟩; have P4 := Lib.hid (P3.out.step p4 k4); have IM4 := Lib.hid (IM3.out.beside A2.out k4); have OW4 := Lib.hid (OWN.out.beside A3.out k4); clear p4 k4) | (go_at_call 10; refine (sanity_ok _).mono ?_; rintro e w5 ⟨rfl, k5⟩; have P5 := Lib.hid (P4.out.kept0 k5); have IM5 := Lib.hid (IM4.out.still k5); clear k5) | (go_at_call 24; refine (image_ok _ P5.out.p).mono ?_; rw [PGS.out]; rintro e w6 ⟨a6, c6, O6, rfl, own6, _, k6⟩; have P6 := Lib.hid (P5.out.kept0 k6); have IM6 := Lib.hid (IM5.out.still k6); have OI6 := Lib.hid own6; clear own6 k6) | (go_at_call 23; refine (texts_own _ _ _ _ OI6.out IM6.out hl).mono ?_; rintro e w7 ⟨rfl, k7⟩; have P7 := Lib.hid (P6.out.kept0 k7); clear k7))
            go_ret
            exact ⟨rfl, P7.out.k⟩
          by_cases c2 : (dd.n : Int) ≤ i
          · clear hwk'
            go_wp2_with (first | (go_at_call 21; refine (hwr.out _ P3.out.p).mono ?_; rintro e w4 ⟨rfl, p4, k4⟩; have P4 := Lib.hid (P3.out.step p4 k4); have IM4 := Lib.hid (IM3.out.beside A2.out k4); have OW4 := Lib.hid (OWN.out.beside A3.out k4); clear p4 k4) | (go_at_call 10; refine (sanity_ok _).mono ?_; rintro e w5 ⟨rfl, k5⟩; have P5 := Lib.hid (P4.out.kept0 k5); have IM5 := Lib.hid (IM4.out.still k5); clear k5) | (go_at_call 24; refine (image_ok _ P5.out.p).mono ?_; rw [PGS.out]; rintro e w6 ⟨a6, c6, O6, rfl, own6, _, k6⟩; have P6 := Lib.hid (P5.out.kept0 k6); have IM6 := Lib.hid (IM5.out.still k6); have OI6 := Lib.hid own6; clear own6 k6) | (go_at_call 23; refine (texts_own _ _ _ _ OI6.out IM6.out hl).mono ?_; rintro e w7 ⟨rfl, k7⟩; have P7 := Lib.hid (P6.out.kept0 k7); clear k7))
            go_ret
            exact ⟨rfl, P7.out.k⟩
          by_cases c3 : k0 < 0
          · clear hwk'
            go_wp2_with (first | (go_at_call 21; refine (hwr.out _ P3.out.p).mono ?_; rintro e w4 ⟨rfl, p4, k4⟩; have P4 := Lib.hid (P3.out.step p4 k4); have IM4 := Lib.hid (IM3.out.beside A2.out k4); have OW4 := Lib.hid (OWN.out.beside A3.out k4); clear p4 k4) | (go_at_call 10; refine (sanity_ok _).mono ?_; rintro e w5 ⟨rfl, k5⟩; have P5 := Lib.hid (P4.out.kept0 k5); have IM5 := Lib.hid (IM4.out.still k5); clear k5) | (go_at_call 24; refine (image_ok _ P5.out.p).mono ?_; rw [PGS.out]; rintro e w6 ⟨a6, c6, O6, rfl, own6, _, k6⟩; have P6 := Lib.hid (P5.out.kept0 k6); have IM6 := Lib.hid (IM5.out.still k6); have OI6 := Lib.hid own6; clear own6 k6) | (go_at_call 23; refine (texts_own _ _ _ _ OI6.out IM6.out hl).mono ?_; rintro e w7 ⟨rfl, k7⟩; have P7 := Lib.hid (P6.out.kept0 k7); clear k7))
            go_ret
            exact ⟨rfl, P7.out.k⟩
          by_cases c4 : 128 < wrap64 (k0 + s.length)
          · clear hwk'
            go_wp2_with (first | (go_at_call 21; refine (hwr.out _ P3.out.p).mono ?_; rintro e w4 ⟨rfl, p4, k4⟩; have P4 := Lib.hid (P3.out.step p4 k4); have IM4 := Lib.hid (IM3.out.beside A2.out k4); have OW4 := Lib.hid (OWN.out.beside A3.out k4); clear p4 k4) | (go_at_call 10; refine (sanity_ok _).mono ?_; rintro e w5 ⟨rfl, k5⟩; have P5 := Lib.hid (P4.out.kept0 k5); have IM5 := Lib.hid (IM4.out.still k5); clear k5) | (go_at_call 24; refine (image_ok _ P5.out.p).mono ?_; rw [PGS.out]; rintro e w6 ⟨a6, c6, O6, rfl, own6, _, k6⟩; have P6 := Lib.hid (P5.out.kept0 k6); have IM6 := Lib.hid (IM5.out.still k6); have OI6 := Lib.hid own6; clear own6 k6) | (go_at_call 23; refine (texts_own _ _ _ _ OI6.out IM6.out hl).mono ?_; rintro e w7 ⟨rfl, k7⟩; have P7 := Lib.hid (P6.out.kept0 k7); clear k7))
            go_ret
            exact ⟨rfl, P7.out.k⟩
          have c5 : 128 < k0 := by
            unfold wrap64 at c4
            omega
          clear hwk'
          go_wp2_with (first | (go_at_call 21; refine (hwr.out _ P3.out.p).mono ?_; rintro e w4 ⟨rfl, p4, k4⟩; have P4 := Lib.hid (P3.out.step p4 k4); have IM4 := Lib.hid (IM3.out.beside A2.out k4); have OW4 := Lib.hid (OWN.out.beside A3.out k4); clear p4 k4) | (go_at_call 10; refine (sanity_ok _).mono ?_; rintro e w5 ⟨rfl, k5⟩; have P5 := Lib.hid (P4.out.kept0 k5); have IM5 := Lib.hid (IM4.out.still k5); clear k5) | (go_at_call 24; refine (image_ok _ P5.out.p).mono ?_; rw [PGS.out]; rintro e w6 ⟨a6, c6, O6, rfl, own6, _, k6⟩; have P6 := Lib.hid (P5.out.kept0 k6); have IM6 := Lib.hid (IM5.out.still k6); have OI6 := Lib.hid own6; clear own6 k6) | (go_at_call 23; refine (texts_own _ _ _ _ OI6.out IM6.out hl).mono ?_; rintro e w7 ⟨rfl, k7⟩; have P7 := Lib.hid (P6.out.kept0 k7); clear k7))
          go_ret
          exact ⟨rfl, P7.out.k⟩
theorem wbytes_ok (n i k : Int) (s : Pg) (v : Value) (l : List Op) (w : World) (h : RdOps w v l) (hk : k ≤ 9223372036854775807) : Calls Try.prog 7 #[.int .i64 n, v, .int .i64 i, .int .i64 k, .string ⟨s.toArray⟩] w fun e w' => e = .returned (.bool true) ∧ Kept NoM w w' := by
  by_cases h0 : 40 < n
  · exact f7_out n h0 v _ _ _ w
  · cases hf : fewB l with
    | false => exact f7_long n h0 v _ _ _ l w h hf
    | true =>
      by_cases hp : s.length ≤ 300
      · by_cases h1 : n < 1
        · exact f7_bad n h1 v _ _ s l w h hf hp
        · obtain ⟨m, rfl⟩ := Int.eq_ofNat_of_zero_le (show 0 ≤ n by omega)
          exact f7_goes m (by omega) (by omega) v i k hk s l w h hf hp
      · exact f7_many n h0 v _ _ s l w h hf (by omega)
end Go.Proofs.Ytohijdopmokkgaa
