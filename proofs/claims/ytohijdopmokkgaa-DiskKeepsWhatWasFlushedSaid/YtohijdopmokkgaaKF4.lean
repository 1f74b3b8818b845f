/- Walks: the law that what was flushed is kept. -/
import Derived.Test.YtohijdopmokkgaaKF0
set_option linter.unusedVariables false
set_option linter.unusedSimpArgs false
set_option linter.unusedSectionVars false
namespace Go.Proofs.Ytohijdopmokkgaa
open Go.RowKit
set_option maxHeartbeats 2000000
set_option maxRecDepth 4000
theorem f4_out (n : Int) (h1 : 40 < n) (v pv : Value) (w : World) : Calls Try.prog 4 #[.int .i64 n, v, pv] w fun e w' => e = .returned (.bool true) ∧ Kept NoM w w' := by
  go_enter Try.func4, Try.ntmps4
  go_wp2_with (first | (go_at_call 10; refine (sanity_ok _).mono ?_; rintro e w1 ⟨rfl, k1⟩))
  go_ret
  exact ⟨rfl, k1⟩
theorem f4_long (n : Int) (h1 : ¬ 40 < n) (v pv : Value) (l : List Op) (w : World) (h : RdOps w v l) (hf : fewB l = false) : Calls Try.prog 4 #[.int .i64 n, v, pv] w fun e w' => e = .returned (.bool true) ∧ Kept NoM w w' := by
  have HH := Lib.hid h
  clear h
  go_enter Try.func4, Try.ntmps4
  go_wp2_with (first | (go_at_call 9; refine (few_ok _ _ _ HH.out).mono ?_; rw [hf]; rintro e w0 ⟨rfl, k0⟩) | (go_at_call 10; refine (sanity_ok _).mono ?_; rintro e w1 ⟨rfl, k1⟩))
  go_ret
  exact ⟨rfl, k0.trans k1⟩
theorem f4_many (n : Int) (h1 : ¬ 40 < n) (v : Value) (l : List Op) (zs : List Int) (pa : Option Addr) (pc : Nat) (w : World) (h : RdOps w v l) (hf : fewB l = true) (hp : 70 < zs.length) : Calls Try.prog 4 #[.int .i64 n, v, .slice pa zs.length pc] w fun e w' => e = .returned (.bool true) ∧ Kept NoM w w' := by
  have HH := Lib.hid h
  have hp2 : (70 : Int) < zs.length := by omega
  clear h
  go_enter Try.func4, Try.ntmps4
  go_wp2_with (first | (go_at_call 9; refine (few_ok _ _ _ HH.out).mono ?_; rw [hf]; rintro e w0 ⟨rfl, k0⟩) | (go_at_call 10; refine (sanity_ok _).mono ?_; rintro e w1 ⟨rfl, k1⟩))
  go_ret
  exact ⟨rfl, k0.trans k1⟩
theorem f4_bad (n : Int) (hn : n < 1) (v : Value) (l : List Op) (zs : List Int) (pa : Option Addr) (pc : Nat) (w : World) (h : RdOps w v l) (hf : fewB l = true) (hp : zs.length ≤ 70) : Calls Try.prog 4 #[.int .i64 n, v, .slice pa zs.length pc] w fun e w' => e = .returned (.bool true) ∧ Kept NoM w w' := by
  have HH := Lib.hid h
  have hb := fun w => played_bad n (.inl hn) v w
  have g1 : ¬ (40 : Int) < n := by omega
  have hp2 : ¬ (70 : Int) < zs.length := by omega
  clear h
  go_enter Try.func4, Try.ntmps4
  go_wp2_with (first | (go_at_call 9; refine (few_ok _ _ _ HH.out).mono ?_; rw [hf]; rintro e w0 ⟨rfl, k0⟩) | (go_at_call 16; refine (hb _).mono ?_; rintro e w1 ⟨rfl, rfl⟩) | (go_at_call 10; refine (sanity_ok _).mono ?_; rintro e w1 ⟨rfl, k1⟩))
  go_ret
  exact ⟨rfl, k0.trans k1⟩
theorem f4_goes (n : Nat) (h1 : 1 ≤ n) (h2 : n ≤ 40) (v : Value) (l : List Op) (zs : List Int) (pa : Option Addr) (pc : Nat) (w : World) (h : RdOps w v l) (hz : RdS w NoM 1 EInt (.slice pa zs.length pc) zs) (hf : fewB l = true) (hp : zs.length ≤ 70) : Calls Try.prog 4 #[.int .i64 n, v, .slice pa zs.length pc] w fun e w' => e = .returned (.bool true) ∧ Kept NoM w w' := by
  obtain ⟨hsm, hll⟩ := fewB_all hf
  obtain ⟨hwf, hnn⟩ := new_plays_wf (n := n) h.lims
  have HH := Lib.hid h
  have HZ := Lib.hid hz
  have g1 : ¬ (40 : Int) < n := by omega
  have hp2 : ¬ (70 : Int) < zs.length := by omega
  have hpl := fun w h => played_ok n h1 (by omega) v l w h hsm
  generalize (Dk.new n).plays l = dd at hwf hnn hpl
  subst hnn
  have HPL := Lib.hid hpl
  have HWF := Lib.hid hwf
  clear h hz hpl hwf
  go_enter Try.func4, Try.ntmps4
  go_wp2_with (first | (go_at_call 9; refine (few_ok _ _ _ HH.out).mono ?_; rw [hf]; rintro e w0 ⟨rfl, k0⟩; have K0 := Lib.hid k0; clear k0) | (go_at_call 16; refine (HPL.out _ (HH.out.kept K0.out)).mono ?_; rintro e w1 ⟨D, G, B, R, Q, rfl, hb⟩; have P1 := Lib.hid ((hb.pre K0.out).pk); clear hb) | (go_at_call 17; refine (trip_ok (-1) (by decide) _ P1.out.p).mono ?_; rintro e w2 ⟨rfl, p2, k2⟩; have P2 := Lib.hid (P1.out.step p2 k2); clear p2 k2))
  have HWF1 := Lib.hid (HWF.out.doTrip (k := -1) (by decide))
  have hn1 : (dd.doTrip (-1)).n = dd.n := rfl
  go_loopw [10, 46] (fun lst i wr => ∃ k : Nat, k ≤ dd.n ∧ i = .int .i64 k ∧ ∃ a cap O, lst = .slice a k cap ∧ OwnS wr O 9 1 EStr (.slice a k cap) ((List.range k).map fun i : Nat => (dd.doTrip (-1)).readS (i : Int)) ∧ Aside w D G B O ∧ PK w wr D G B (dd.doTrip (-1))) (fun _ i _ => dd.n - (intOf i).toNat)
  case atStart => exact ⟨0, Nat.zero_le _, rfl, none, 0, none, rfl, OwnS.nil _ _ _ _, Aside.none _ _ _ _, P2.out⟩
  case round =>
    obtain ⟨k, hk, rfl, a, capl, O, rfl, own, hasd, hP⟩ := hrel
    have OWN := Lib.hid own
    have ASD := Lib.hid hasd
    have PP := Lib.hid hP
    clear own hasd hP
    by_cases hlt : k < dd.n
    · have hlti : (k : Int) < dd.n := by omega
      have hls : ((List.range k).map fun i : Nat => (dd.doTrip (-1)).readS (i : Int)).length = k := by simp
      have hmore : ((List.range (k + 1)).map fun i : Nat => (dd.doTrip (-1)).readS (i : Int)) = ((List.range k).map fun i : Nat => (dd.doTrip (-1)).readS (i : Int)) ++ [(dd.doTrip (-1)).readS (k : Int)] := by
        rw [List.range_succ, List.map_append]; rfl
      generalize ((List.range k).map fun i : Nat => (dd.doTrip (-1)).readS (i : Int)) = done at *
      obtain ⟨s, hs⟩ : ∃ s, (dd.doTrip (-1)).readS (k : Int) = s := ⟨_, rfl⟩
      obtain ⟨E, hE⟩ : ∃ E, (dd.doTrip (-1)).readE (k : Int) = E := ⟨_, rfl⟩
      rw [hs] at hmore
      have HM := Lib.hid hmore
      have HLS := Lib.hid hls
      have HRD := Lib.hid (read_e (k : Int) wr PP.out.p hs hE)
      have hb1 : k + 1 ≤ maxLen := by unfold maxLen; omega
      have hb2 : (k + 1) * 16 ≤ 140737488355328 := by omega
      clear hmore hls hlt hs hE
      go_wp2_with (first | (go_at_call 18; refine HRD.out.mono ?_; rintro e w3 ⟨rfl, k3⟩; have OWN3 := Lib.hid ((OWN.out.still k3).still ((Kept.refl NoM w3).alloc (.cells #[.string ⟨s.toArray⟩] 9))); have P3 := Lib.hid ((PP.out.kept0 k3).kept0 ((Kept.refl NoM w3).alloc (.cells #[.string ⟨s.toArray⟩] 9))); clear k3) | (at_builtin; go_loud (refine wpList_append_S (M := NoM) rfl (.tmp 55) (.tmp 57) 43 rfl 16 tyStrs _ rfl OWN3.out _ rfl (rd_one (x := s) (blk_new w3 _) (fun x => x) rfl rfl) eStr_one k 1 HLS.out rfl hb1 hb2 ?_; intro a1 cap1 w4 O1 own1 k4 n4)))
      obtain ⟨P4, A4⟩ := P3.out.push ASD.out k4 n4
      have P4 := Lib.hid P4
      have A4 := Lib.hid A4
      have OW4 := Lib.hid own1
      clear own1 k4 n4
      go_wp2_with fail
      go_roundw
      case rel => exact ⟨k + 1, by omega, by go_num, a1, cap1, O1, rfl, by rw [HM.out]; exact OW4.out, A4.out, P4.out⟩
      case measure => simp [intOf]; omega
    · obtain rfl : k = dd.n := by omega
      have hf1 := decide_eq_false (show ¬ ((dd.n : Nat) : Int) < (dd.n : Int) by omega)
      have hf2 := decide_eq_false (show ¬ dd.n < dd.n by omega)
      clear hlt hk
      cases hoff : dd.off with
      | true =>
        have HE := Lib.hid (Dk.flush_off hoff (-1))
        have HO : Hid ((dd.doTrip (-1)).flush.off = true) := Lib.hid (by
          have : (dd.doTrip (-1)).off = true := hoff
          unfold Dk.flush; rw [this]; exact this)
        go_wp2_with (first | (go_at_call 19; refine (flush_e _ PP.out.p HE.out).mono ?_; rintro e w5 ⟨rfl, p5, k5⟩; have P5 := Lib.hid (PP.out.step p5 k5); clear p5 k5) | (go_at_call 10; refine (sanity_ok _).mono ?_; rintro e w6 ⟨rfl, k6⟩; have P6 := Lib.hid (P5.out.kept0 k6); clear k6) | (go_at_call 20; refine (up0_ok _ P6.out.p HO.out).mono ?_; rintro e w7 ⟨rfl, rfl⟩))
        go_ret
        exact ⟨rfl, P6.out.k⟩
      | false =>
        obtain ⟨q1, q2, q3⟩ := Dk.keeps HWF.out hoff h1 [122] rfl zs
        have HE := Lib.hid (Dk.flush_up hoff).1
        have Q1 := Lib.hid q1
        have Q2 := Lib.hid q2
        have Q3 := Lib.hid q3
        clear q1 q2 q3
        have hl : (List.map (fun i : Nat => (dd.doTrip (-1)).readS (i : Int)) (List.range dd.n)).length ≤ 1000000 := by simp; omega
        go_wp2_with (first | (go_at_call 19; refine (flush_e _ PP.out.p HE.out).mono ?_; rintro e w5 ⟨rfl, p5, k5⟩; have P5 := Lib.hid (PP.out.step p5 k5); have OW5 := Lib.hid (OWN.out.beside ASD.out k5); clear p5 k5) | (go_at_call 17; refine (trip_ok 0 (by decide) _ P5.out.p).mono ?_; rintro e w6 ⟨rfl, p6, k6⟩; have P6 := Lib.hid (P5.out.step p6 k6); have OW6 := Lib.hid (OW5.out.beside ASD.out k6); clear p6 k6) | (go_at_call 21; refine (write_z _ P6.out.p Q1.out).mono ?_; rintro e w7 ⟨rfl, p7, k7⟩; have P7 := Lib.hid (P6.out.step p7 k7); have OW7 := Lib.hid (OW6.out.beside ASD.out k7); clear p7 k7) | (go_at_call 22; refine (mount_ok zs pa pc (by omega) _ P7.out.p (P7.out.picks HZ.out)).mono ?_; rintro e w8 ⟨rfl, p8, k8⟩; have P8 := Lib.hid (P7.out.step p8 k8); have OW8 := Lib.hid (OW7.out.beside ASD.out k8); clear p8 k8) | (go_at_call 10; refine (sanity_ok _).mono ?_; rintro e w9 ⟨rfl, k9⟩; have P9 := Lib.hid (P8.out.kept0 k9); have OW9 := Lib.hid (OW8.out.still k9); clear k9) | (go_at_call 24; refine (image_ok _ P9.out.p).mono ?_; rw [Q2.out]; rintro e w10 ⟨a10, c10, O10, rfl, own10, _, k10⟩; have P10 := Lib.hid (P9.out.kept0 k10); have OW10 := Lib.hid (OW9.out.still k10); have IM10 := Lib.hid own10; clear own10 k10) | (go_at_call 23; refine (texts_own _ _ _ _ IM10.out OW10.out hl).mono ?_; rintro e w11 ⟨rfl, k11⟩; have P11 := Lib.hid (P10.out.kept0 k11); clear k11) | (go_at_call 25; refine (pending0_ok _ P11.out.p Q3.out).mono ?_; rintro e w12 ⟨a12, c12, rfl, k12⟩; have P12 := Lib.hid (P11.out.kept0 k12); clear k12) | (go_at_call 20; refine (up1_ok _ P12.out.p rfl).mono ?_; rintro e w13 ⟨rfl, rfl⟩))
        go_ret
        exact ⟨rfl, P12.out.k⟩
theorem keeps_ok (n : Int) (v : Value) (l : List Op) (zs : List Int) (pa : Option Addr) (pc : Nat) (w : World) (h : RdOps w v l) (hz : RdS w NoM 1 EInt (.slice pa zs.length pc) zs) : Calls Try.prog 4 #[.int .i64 n, v, .slice pa zs.length pc] w fun e w' => e = .returned (.bool true) ∧ Kept NoM w w' := by
  by_cases h0 : 40 < n
  · exact f4_out n h0 v _ w
  · cases hf : fewB l with
    | false => exact f4_long n h0 v _ l w h hf
    | true =>
      by_cases hp : zs.length ≤ 70
      · by_cases h1 : n < 1
        · exact f4_bad n h1 v l zs pa pc w h hf hp
        · obtain ⟨m, rfl⟩ := Int.eq_ofNat_of_zero_le (show 0 ≤ n by omega)
          exact f4_goes m (by omega) (by omega) v l zs pa pc w h hz hf hp
      · exact f4_many n h0 v l zs pa pc w h hf (by omega)
end Go.Proofs.Ytohijdopmokkgaa
