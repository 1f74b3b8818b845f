/- Walks: the law that Rot changes one bit. -/
import Derived.Test.YtohijdopmokkgaaKF0
import Derived.IntWalk
import Derived.StillTailTactics
import Derived.Deep.QuietTactic
set_option linter.unusedVariables false
set_option linter.unusedSimpArgs false
set_option linter.unusedSectionVars false
namespace Go.Proofs.Ytohijdopmokkgaa
open Go.RowKit
set_option maxHeartbeats 4000000
set_option maxRecDepth 100000
theorem f6_out (n : Int) (h1 : 40 < n) (v a2 a3 : Value) (w : World) : Calls Try.prog 6 #[.int .i64 n, v, a2, a3] w fun e w' => e = .returned (.bool true) ∧ Kept NoM w w' := by
  go_enter Try.func6, Try.ntmps6
  go_wp2_with (first | (go_at_call 10; refine (sanity_ok _).mono ?_; rintro e w1 ⟨rfl, k1⟩))
  go_ret
  exact ⟨rfl, k1⟩
theorem f6_long (n : Int) (h1 : ¬ 40 < n) (v a2 a3 : Value) (l : List Op) (w : World) (h : RdOps w v l) (hf : fewB l = false) : Calls Try.prog 6 #[.int .i64 n, v, a2, a3] w fun e w' => e = .returned (.bool true) ∧ Kept NoM w w' := by
  have HH := Lib.hid h
  clear h
  go_enter Try.func6, Try.ntmps6
  go_wp2_with (first | (go_at_call 9; refine (few_ok _ _ _ HH.out).mono ?_; rw [hf]; rintro e w0 ⟨rfl, k0⟩) | (go_at_call 10; refine (sanity_ok _).mono ?_; rintro e w1 ⟨rfl, k1⟩))
  go_ret
  exact ⟨rfl, k0.trans k1⟩
theorem f6_bad (n : Int) (hn : n < 1) (v a2 a3 : Value) (l : List Op) (w : World) (h : RdOps w v l) (hf : fewB l = true) : Calls Try.prog 6 #[.int .i64 n, v, a2, a3] w fun e w' => e = .returned (.bool true) ∧ Kept NoM w w' := by
  have HH := Lib.hid h
  have hb := fun w => played_bad n (.inl hn) v w
  have g1 : ¬ (40 : Int) < n := by omega
  clear h
  go_enter Try.func6, Try.ntmps6
  go_wp2_with (first | (go_at_call 9; refine (few_ok _ _ _ HH.out).mono ?_; rw [hf]; rintro e w0 ⟨rfl, k0⟩) | (go_at_call 16; refine (hb _).mono ?_; rintro e w1 ⟨rfl, rfl⟩) | (go_at_call 10; refine (sanity_ok _).mono ?_; rintro e w1 ⟨rfl, k1⟩))
  go_ret
  exact ⟨rfl, k0.trans k1⟩
theorem bits0_all : ∀ x : Fin 256, bits BinOp.xor IntKind.u8 ((UInt8.ofNat x.val).toNat : Int) 0 = ((UInt8.ofNat x.val).toNat : Int) := by decide +kernel
theorem bits0 (x : UInt8) : bits BinOp.xor IntKind.u8 (x.toNat : Int) 0 = (x.toNat : Int) := by
  have := bits0_all ⟨x.toNat, x.toNat_lt⟩
  simpa using this
theorem bitsp_all : ∀ x : Fin 256, ∀ m : Fin 8, bits BinOp.xor IntKind.u8 ((UInt8.ofNat x.val).toNat : Int) ((2 : Int) ^ m.val % 256) = (((UInt8.ofNat x.val) ^^^ ((1 : UInt8) <<< UInt8.ofNat m.val)).toNat : Int) := by decide +kernel
theorem bitsp (x : UInt8) (m : Nat) (hm : m < 8) : bits BinOp.xor IntKind.u8 (x.toNat : Int) ((2 : Int) ^ m % 256) = ((x ^^^ ((1 : UInt8) <<< UInt8.ofNat m)).toNat : Int) := by
  have := bitsp_all ⟨x.toNat, x.toNat_lt⟩ ⟨m, hm⟩
  simpa using this
/-- a specification's disk beside the program's -/
def Beside (D G B R Q : Nat) : Prop := ¬ InD D G B R ∧ ¬ InD D G B Q
theorem Both.beside {w0 w : World} {D G B R Q : Nat} {d : Dk} (h : Both w0 w D G B R Q d) : Beside D G B R Q := by
  obtain ⟨_, _, _, _, ⟨⟨s1, s2, s3⟩, s4, s5, s6⟩, _⟩ := h
  unfold Beside InD
  omega
theorem SD.by {w w' : World} {D G B R Q : Nat} {d : Dk} (h : SD w R Q d) (b : Beside D G B R Q) (k : Kept (InD D G B) w w') : SD w' R Q d := h.kept k b.1 b.2
theorem rot_e {D G B : Nat} {d d' : Dk} {E : Int} {i b : Int} (h0 : d.rotE i b = E) (h1 : d.rot i b = d') (w : World) (h : PD w D G B d) : Calls Try.prog 26 #[.pointer (some ⟨D, 0, none⟩), .int .i64 i, .int .i64 b] w fun e w' => e = .returned (.int .i64 E) ∧ PD w' D G B d' ∧ Kept (InD D G B) w w' := by
  have := rot_ok i b w h
  rw [h0, h1] at this; exact this
theorem f6_no (n : Nat) (h1 : 1 ≤ n) (h2 : n ≤ 40) (v : Value) (i b : Int) (l : List Op) (w : World) (h : RdOps w v l) (hf : fewB l = true) (hr : ((Dk.new n).plays l).rotok i b = false) : Calls Try.prog 6 #[.int .i64 n, v, .int .i64 i, .int .i64 b] w fun e w' => e = .returned (.bool true) ∧ Kept NoM w w' := by
  obtain ⟨hsm, hll⟩ := fewB_all hf
  obtain ⟨hwf, hnn⟩ := new_plays_wf (n := n) h.lims
  have HH := Lib.hid h
  have g1 : ¬ (40 : Int) < n := by omega
  have hpl := fun w h => played_ok n h1 (by omega) v l w h hsm
  generalize (Dk.new n).plays l = dd at hwf hnn hpl hr
  subst hnn
  have HPL := Lib.hid hpl
  have HWF := Lib.hid hwf
  have hE : dd.rotE i b = 1 := by unfold Dk.rotE; rw [hr]; rfl
  have hdd1 : dd.rot i b = dd := by unfold Dk.rot; rw [hr]; rfl
  have hrot : Hid (∀ w (D G B : Nat), PD w D G B dd → Calls Try.prog 26 #[.pointer (some ⟨D, 0, none⟩), .int .i64 i, .int .i64 b] w fun e w' => e = .returned (.int .i64 1) ∧ PD w' D G B dd ∧ Kept (InD D G B) w w') := Lib.hid (fun w D G B h => rot_e hE hdd1 w h)
  have hrk : ¬ ((0 ≤ i ∧ i < dd.n) ∧ 0 ≤ b ∧ b < 1024) := fun h => by
    have := (Dk.rotok_iff (d := dd) (i := i) (b := b)).2 h
    rw [hr] at this; cases this
  clear h hpl hwf hr
  by_cases c1 : i < 0
  · clear hrk
    go_enter Try.func6, Try.ntmps6
    go_wp2_with (first | (go_at_call 9; refine (few_ok _ _ _ HH.out).mono ?_; rw [hf]; rintro e w0 ⟨rfl, k0⟩; have K0 := Lib.hid k0; clear k0) | (go_at_call 16; refine (HPL.out _ (HH.out.kept K0.out)).mono ?_; rintro e w1 ⟨D, G, B, R, Q, rfl, hb⟩; have P1 := Lib.hid ((hb.pre K0.out).pk); have S1 := Lib.hid hb.s; have BE := Lib.hid hb.beside; clear hb) | (go_at_call 24; refine (image_ok _ P1.out.p).mono ?_; rintro e w2 ⟨ia, icap, IO, rfl, own2, n2, k2⟩; have A2 := Lib.hid (P1.out.aside n2); have IM2 := Lib.hid own2; have P2 := Lib.hid (P1.out.kept0 k2); have S2 := Lib.hid (S1.out.kept0 k2); clear own2 n2 k2) | (go_at_call 25; refine (pending_ok _ P2.out.p).mono ?_; rintro e w3 ⟨pa, pcap, PO, rfl, own3, n3, k3⟩; have A3 := Lib.hid (P2.out.aside n3); have PE3 := Lib.hid own3; have P3 := Lib.hid (P2.out.kept0 k3); have S3 := Lib.hid (S2.out.kept0 k3); have IM3 := Lib.hid (IM2.out.still k3); clear own3 n3 k3) | (go_at_call 26; refine (hrot.out _ _ _ _ P3.out.p).mono ?_; rintro e w4 ⟨rfl, p4, k4⟩; have P4 := Lib.hid (P3.out.step p4 k4); have IM4 := Lib.hid (IM3.out.beside A2.out k4); have PE4 := Lib.hid (PE3.out.beside A3.out k4); have S4 := Lib.hid (S3.out.by BE.out k4); clear p4 k4) | (go_at_call 10; refine (sanity_ok _).mono ?_; rintro e w5 ⟨rfl, k5⟩; have P5 := Lib.hid (P4.out.kept0 k5); have S5 := Lib.hid (S4.out.kept0 k5); clear k5) | (go_at_call 15; refine (same_ok _ P5.out.p S5.out).mono ?_; rintro e w6 ⟨rfl, k6⟩; have P6 := Lib.hid (P5.out.kept0 k6); clear k6))
    go_ret
    exact ⟨rfl, P6.out.k⟩
  by_cases c2 : (dd.n : Int) ≤ i
  · clear hrk
    go_enter Try.func6, Try.ntmps6
    go_wp2_with (first | (go_at_call 9; refine (few_ok _ _ _ HH.out).mono ?_; rw [hf]; rintro e w0 ⟨rfl, k0⟩; have K0 := Lib.hid k0; clear k0) | (go_at_call 16; refine (HPL.out _ (HH.out.kept K0.out)).mono ?_; rintro e w1 ⟨D, G, B, R, Q, rfl, hb⟩; have P1 := Lib.hid ((hb.pre K0.out).pk); have S1 := Lib.hid hb.s; have BE := Lib.hid hb.beside; clear hb) | (go_at_call 24; refine (image_ok _ P1.out.p).mono ?_; rintro e w2 ⟨ia, icap, IO, rfl, own2, n2, k2⟩; have A2 := Lib.hid (P1.out.aside n2); have IM2 := Lib.hid own2; have P2 := Lib.hid (P1.out.kept0 k2); have S2 := Lib.hid (S1.out.kept0 k2); clear own2 n2 k2) | (go_at_call 25; refine (pending_ok _ P2.out.p).mono ?_; rintro e w3 ⟨pa, pcap, PO, rfl, own3, n3, k3⟩; have A3 := Lib.hid (P2.out.aside n3); have PE3 := Lib.hid own3; have P3 := Lib.hid (P2.out.kept0 k3); have S3 := Lib.hid (S2.out.kept0 k3); have IM3 := Lib.hid (IM2.out.still k3); clear own3 n3 k3) | (go_at_call 26; refine (hrot.out _ _ _ _ P3.out.p).mono ?_; rintro e w4 ⟨rfl, p4, k4⟩; have P4 := Lib.hid (P3.out.step p4 k4); have IM4 := Lib.hid (IM3.out.beside A2.out k4); have PE4 := Lib.hid (PE3.out.beside A3.out k4); have S4 := Lib.hid (S3.out.by BE.out k4); clear p4 k4) | (go_at_call 10; refine (sanity_ok _).mono ?_; rintro e w5 ⟨rfl, k5⟩; have P5 := Lib.hid (P4.out.kept0 k5); have S5 := Lib.hid (S4.out.kept0 k5); clear k5) | (go_at_call 15; refine (same_ok _ P5.out.p S5.out).mono ?_; rintro e w6 ⟨rfl, k6⟩; have P6 := Lib.hid (P5.out.kept0 k6); clear k6))
    go_ret
    exact ⟨rfl, P6.out.k⟩
  by_cases c3 : b < 0
  · clear hrk
    go_enter Try.func6, Try.ntmps6
    go_wp2_with (first | (go_at_call 9; refine (few_ok _ _ _ HH.out).mono ?_; rw [hf]; rintro e w0 ⟨rfl, k0⟩; have K0 := Lib.hid k0; clear k0) | (go_at_call 16; refine (HPL.out _ (HH.out.kept K0.out)).mono ?_; rintro e w1 ⟨D, G, B, R, Q, rfl, hb⟩; have P1 := Lib.hid ((hb.pre K0.out).pk); have S1 := Lib.hid hb.s; have BE := Lib.hid hb.beside; clear hb) | (go_at_call 24; refine (image_ok _ P1.out.p).mono ?_; rintro e w2 ⟨ia, icap, IO, rfl, own2, n2, k2⟩; have A2 := Lib.hid (P1.out.aside n2); have IM2 := Lib.hid own2; have P2 := Lib.hid (P1.out.kept0 k2); have S2 := Lib.hid (S1.out.kept0 k2); clear own2 n2 k2) | (go_at_call 25; refine (pending_ok _ P2.out.p).mono ?_; rintro e w3 ⟨pa, pcap, PO, rfl, own3, n3, k3⟩; have A3 := Lib.hid (P2.out.aside n3); have PE3 := Lib.hid own3; have P3 := Lib.hid (P2.out.kept0 k3); have S3 := Lib.hid (S2.out.kept0 k3); have IM3 := Lib.hid (IM2.out.still k3); clear own3 n3 k3) | (go_at_call 26; refine (hrot.out _ _ _ _ P3.out.p).mono ?_; rintro e w4 ⟨rfl, p4, k4⟩; have P4 := Lib.hid (P3.out.step p4 k4); have IM4 := Lib.hid (IM3.out.beside A2.out k4); have PE4 := Lib.hid (PE3.out.beside A3.out k4); have S4 := Lib.hid (S3.out.by BE.out k4); clear p4 k4) | (go_at_call 10; refine (sanity_ok _).mono ?_; rintro e w5 ⟨rfl, k5⟩; have P5 := Lib.hid (P4.out.kept0 k5); have S5 := Lib.hid (S4.out.kept0 k5); clear k5) | (go_at_call 15; refine (same_ok _ P5.out.p S5.out).mono ?_; rintro e w6 ⟨rfl, k6⟩; have P6 := Lib.hid (P5.out.kept0 k6); clear k6))
    go_ret
    exact ⟨rfl, P6.out.k⟩
  have c4 : (1023 : Int) < b := by omega
  clear hrk
  go_enter Try.func6, Try.ntmps6
  go_wp2_with (first | (go_at_call 9; refine (few_ok _ _ _ HH.out).mono ?_; rw [hf]; rintro e w0 ⟨rfl, k0⟩; have K0 := Lib.hid k0; clear k0) | (go_at_call 16; refine (HPL.out _ (HH.out.kept K0.out)).mono ?_; rintro e w1 ⟨D, G, B, R, Q, rfl, hb⟩; have P1 := Lib.hid ((hb.pre K0.out).pk); have S1 := Lib.hid hb.s; have BE := Lib.hid hb.beside; clear hb) | (go_at_call 24; refine (image_ok _ P1.out.p).mono ?_; rintro e w2 ⟨ia, icap, IO, rfl, own2, n2, k2⟩; have A2 := Lib.hid (P1.out.aside n2); have IM2 := Lib.hid own2; have P2 := Lib.hid (P1.out.kept0 k2); have S2 := Lib.hid (S1.out.kept0 k2); clear own2 n2 k2) | (go_at_call 25; refine (pending_ok _ P2.out.p).mono ?_; rintro e w3 ⟨pa, pcap, PO, rfl, own3, n3, k3⟩; have A3 := Lib.hid (P2.out.aside n3); have PE3 := Lib.hid own3; have P3 := Lib.hid (P2.out.kept0 k3); have S3 := Lib.hid (S2.out.kept0 k3); have IM3 := Lib.hid (IM2.out.still k3); clear own3 n3 k3) | (go_at_call 26; refine (hrot.out _ _ _ _ P3.out.p).mono ?_; rintro e w4 ⟨rfl, p4, k4⟩; have P4 := Lib.hid (P3.out.step p4 k4); have IM4 := Lib.hid (IM3.out.beside A2.out k4); have PE4 := Lib.hid (PE3.out.beside A3.out k4); have S4 := Lib.hid (S3.out.by BE.out k4); clear p4 k4) | (go_at_call 10; refine (sanity_ok _).mono ?_; rintro e w5 ⟨rfl, k5⟩; have P5 := Lib.hid (P4.out.kept0 k5); have S5 := Lib.hid (S4.out.kept0 k5); clear k5) | (go_at_call 15; refine (same_ok _ P5.out.p S5.out).mono ?_; rintro e w6 ⟨rfl, k6⟩; have P6 := Lib.hid (P5.out.kept0 k6); clear k6))
  go_ret
  exact ⟨rfl, P6.out.k⟩
theorem f6_goes (n : Nat) (h1 : 1 ≤ n) (h2 : n ≤ 40) (v : Value) (i b : Int) (l : List Op) (w : World) (h : RdOps w v l) (hf : fewB l = true) (hr : ((Dk.new n).plays l).rotok i b = true) : Calls Try.prog 6 #[.int .i64 n, v, .int .i64 i, .int .i64 b] w fun e w' => e = .returned (.bool true) ∧ Kept NoM w w' := by
  obtain ⟨hsm, hll⟩ := fewB_all hf
  obtain ⟨hwf, hnn⟩ := new_plays_wf (n := n) h.lims
  have HH := Lib.hid h
  have g1 : ¬ (40 : Int) < n := by omega
  have hpl := fun w h => played_ok n h1 (by omega) v l w h hsm
  generalize (Dk.new n).plays l = dd at hwf hnn hpl hr
  subst hnn
  have HPL := Lib.hid hpl
  have HWF := Lib.hid hwf
  have hE : dd.rotE i b = 0 := by unfold Dk.rotE; rw [hr]; rfl
  have hrr := Dk.rot_rot hwf i b
  have hpg := fun k hk => Dk.rot_pg (d := dd) i b hr (k := k) hk
  have hn1 := Dk.n_rot (d := dd) i b
  have hwf1 := hwf.rot i b
  have hE1 : (dd.rot i b).rotE i b = 0 := by
    have : (dd.rot i b).rotok i b = true := by rw [Dk.rotok_iff, hn1]; exact Dk.rotok_iff.1 hr
    unfold Dk.rotE; rw [this]; rfl
  have hpend : (dd.rot i b).pend = dd.pend := by unfold Dk.rot; rw [hr]; rfl
  generalize hdd1 : dd.rot i b = dd1 at hrr hpg hn1 hwf1 hE1 hpend
  have hrot : Hid (∀ w (D G B : Nat), PD w D G B dd → Calls Try.prog 26 #[.pointer (some ⟨D, 0, none⟩), .int .i64 i, .int .i64 b] w fun e w' => e = .returned (.int .i64 0) ∧ PD w' D G B dd1 ∧ Kept (InD D G B) w w') := Lib.hid (fun w D G B h => rot_e hE hdd1 w h)
  have hrot2 : Hid (∀ w (D G B : Nat), PD w D G B dd1 → Calls Try.prog 26 #[.pointer (some ⟨D, 0, none⟩), .int .i64 i, .int .i64 b] w fun e w' => e = .returned (.int .i64 0) ∧ PD w' D G B dd ∧ Kept (InD D G B) w w') := Lib.hid (fun w D G B h => rot_e hE1 hrr w h)
  obtain ⟨⟨i0, i1⟩, b0, b1⟩ := Dk.rotok_iff.1 hr
  have c4 : ¬ (1023 : Int) < b := by omega
  have HPG := Lib.hid hpg
  have HN1 := Lib.hid hn1
  have HWF1 := Lib.hid hwf1
  clear h hpl hwf hr hrr hpg hn1 hwf1 hE1 hE hdd1
  go_enter Try.func6, Try.ntmps6
  go_wp2_with (first | (go_at_call 9; refine (few_ok _ _ _ HH.out).mono ?_; rw [hf]; rintro e w0 ⟨rfl, k0⟩; have K0 := Lib.hid k0; clear k0) | (go_at_call 16; refine (HPL.out _ (HH.out.kept K0.out)).mono ?_; rintro e w1 ⟨D, G, B, R, Q, rfl, hb⟩; have P1 := Lib.hid ((hb.pre K0.out).pk); have S1 := Lib.hid hb.s; have BE := Lib.hid hb.beside; clear hb) | (go_at_call 24; refine (image_ok _ P1.out.p).mono ?_; rintro e w2 ⟨ia, icap, IO, rfl, own2, n2, k2⟩; have A2 := Lib.hid (P1.out.aside n2); have IM2 := Lib.hid own2; have P2 := Lib.hid (P1.out.kept0 k2); have S2 := Lib.hid (S1.out.kept0 k2); clear own2 n2 k2) | (go_at_call 25; refine (pending_ok _ P2.out.p).mono ?_; rintro e w3 ⟨pa, pcap, PO, rfl, own3, n3, k3⟩; have A3 := Lib.hid (P2.out.aside n3); have PE3 := Lib.hid own3; have P3 := Lib.hid (P2.out.kept0 k3); have S3 := Lib.hid (S2.out.kept0 k3); have IM3 := Lib.hid (IM2.out.still k3); clear own3 n3 k3))
  refine (hrot.out _ _ _ _ P3.out.p).mono ?_
  rintro e w4 ⟨rfl, p4, k4⟩
  have P4 := Lib.hid (P3.out.step p4 k4)
  have IM4 := Lib.hid (IM3.out.beside A2.out k4)
  have PE4 := Lib.hid (PE3.out.beside A3.out k4)
  have S4 := Lib.hid (S3.out.by BE.out k4)
  clear p4 k4
  go_wp2_with fail
  obtain ⟨i, rfl⟩ := Int.eq_ofNat_of_zero_le i0
  obtain ⟨b, rfl⟩ := Int.eq_ofNat_of_zero_le b0
  have hb1024 : b < 1024 := by omega
  have d1 : decide ((i : Int) < 0) = false := decide_eq_false (by omega)
  have d2 : decide ((dd.n : Int) ≤ (i : Int)) = false := decide_eq_false (by omega)
  have d3 : decide (dd.n ≤ i) = false := decide_eq_false (by omega)
  have d4 : decide ((b : Int) < 0) = false := decide_eq_false (by omega)
  have d5 : decide ((1023 : Int) < (b : Int)) = false := decide_eq_false (by omega)
  have d6 : decide (1023 < b) = false := decide_eq_false (by omega)
  have him := image_ok _ P4.out.p
  rw [HN1.out] at him
  refine him.mono ?_
  rintro e w5 ⟨ja, jcap, JO, rfl, own5, n5, k5⟩
  have J5 := Lib.hid own5
  have P5 := Lib.hid (P4.out.kept0 k5)
  have S5 := Lib.hid (S4.out.kept0 k5)
  have IM5 := Lib.hid (IM4.out.still k5)
  have PE5 := Lib.hid (PE4.out.still k5)
  clear own5 n5 k5 him
  go_wp2_with fail
  go_loopw [109] (fun i wr => ∃ k : Nat, k ≤ dd.n ∧ i = .int .i64 k ∧ Kept NoM w5 wr) (fun i _ => dd.n - (intOf i).toNat)
  case atStart => exact ⟨0, Nat.zero_le _, rfl, Kept.refl _ _⟩
  case round =>
    obtain ⟨k, hk, rfl, hK⟩ := hrel
    have KK := Lib.hid hK
    clear hK
    by_cases hlt : k < dd.n
    · have hlti : (k : Int) < dd.n := by omega
      have hpk := HWF.out.pg_len hlt
      have hqk := HWF1.out.pg_len (i := k) (by rw [HN1.out]; exact hlt)
      have hqe := HPG.out k hlt
      have hpl := hpk.1
      have hql := hqk.1
      obtain ⟨ob, oo, eo, _, cs, rfl, _, oc⟩ := ((IM5.out.still KK.out).rd (M := NoM) (fun _ _ x => x)).at hpk.2
      subst eo
      obtain ⟨jb, jo, ej, _, cs, rfl, _, jc⟩ := ((J5.out.still KK.out).rd (M := NoM) (fun _ _ x => x)).at hqk.2
      subst ej
      have x0 := oc 0 _ rfl
      have y0 := jc 0 _ rfl
      simp only [Nat.mul_one, Nat.add_zero] at x0 y0
      unfold strV at x0 y0
      generalize dd.pg k = p at *
      generalize dd1.pg k = q at *
      have X0 := Lib.hid (fun w' (kw : Kept NoM wr w') => kw.cell x0 (fun x => x))
      have Y0 := Lib.hid (fun w' (kw : Kept NoM wr w') => kw.cell y0 (fun x => x))
      have hpz : (⟨p.toArray⟩ : ByteArray).size = 128 := by simp [ByteArray.size, hpl]
      have hqz : (⟨q.toArray⟩ : ByteArray).size = 128 := by simp [ByteArray.size, hql]
      clear hpk hqk oc jc x0 y0
      go_wp2_with fail
      go_loopw [112] (fun j wr2 => ∃ m : Nat, m ≤ 128 ∧ j = .int .i64 m ∧ Kept NoM wr wr2) (fun j _ => 128 - (intOf j).toNat)
      case atStart => exact ⟨0, Nat.zero_le _, rfl, Kept.refl _ _⟩
      case round =>
        obtain ⟨m, hm, rfl, hK2⟩ := hrel
        have K2 := Lib.hid hK2
        clear hK2
        by_cases hmt : m < 128
        · have hmti : (m : Int) < 128 := by omega
          have x1 := X0.out _ K2.out
          have y1 := Y0.out _ K2.out
          have q5 : IntKind.i64.wrap ((b : Int) / 8) = (b : Int) / 8 := IntWalk.i64_in _ (by omega)
          by_cases hki : (k : Int) = i
          · rw [if_pos hki] at hqe
            obtain rfl : k = i := by omega
            by_cases hmb : (m : Int) = (b : Int) / 8
            · have q6 : IntKind.i64.wrap ((b : Int) % 8) = (b : Int) % 8 := IntWalk.i64_in _ (by omega)
              have q7 := fun wx => run_bit (P := Try.prog) b wx
              have hfl := Dk.flip_at (p := p) (b := ((b : Int)).toNat) (m := m) (by omega)
              rw [if_pos (by omega)] at hfl
              rw [← hqe] at hfl
              have hqm : (⟨q.toArray⟩ : ByteArray)[m]'(by rw [hqz]; exact hmt) = (⟨p.toArray⟩ : ByteArray)[m]'(by rw [hpz]; exact hmt) ^^^ ((1 : UInt8) <<< UInt8.ofNat (b % 8)) := (List.getElem?_eq_some_iff.1 hfl).2
              have q8 : bits BinOp.xor IntKind.u8 (((⟨p.toArray⟩ : ByteArray)[m]'(by rw [hpz]; exact hmt)).toNat : Int) ((2 : Int) ^ (b % 8) % 256) = ((((⟨q.toArray⟩ : ByteArray)[m]'(by rw [hqz]; exact hmt)).toNat : Nat) : Int) := by
                rw [hqm]; exact bitsp _ _ (Nat.mod_lt _ (by omega))
              have hmb' : ((m : Int) == (b : Int) / 8) = true := by simpa using hmb
              clear hfl hqe hmb hqm
              go_wp2_with fail
              go_quiet (fail)
              go_wp2_with fail
              go_roundw
              case rel => exact ⟨m + 1, by omega, by go_num, K2.out.drewN _⟩
              case measure => simp [intOf]; omega
            · have hfl := Dk.flip_at (p := p) (b := ((b : Int)).toNat) (m := m) (by omega)
              rw [if_neg (by omega), UInt8.xor_zero] at hfl
              rw [← hqe] at hfl
              have hqm : (⟨q.toArray⟩ : ByteArray)[m]'(by rw [hqz]; exact hmt) = (⟨p.toArray⟩ : ByteArray)[m]'(by rw [hpz]; exact hmt) := (List.getElem?_eq_some_iff.1 hfl).2
              have q8 := bits0 ((⟨p.toArray⟩ : ByteArray)[m]'(by rw [hpz]; exact hmt))
              clear hfl hqe
              go_wp2_with fail
              go_quiet (fail)
              go_wp2_with fail
              go_roundw
              case rel => exact ⟨m + 1, by omega, by go_num, K2.out.drewN _⟩
              case measure => simp [intOf]; omega
          · rw [if_neg hki] at hqe
            subst hqe
            have q8 := bits0 ((⟨q.toArray⟩ : ByteArray)[m]'(by rw [hqz]; exact hmt))
            go_wp2_with fail
            go_quiet (fail)
            go_wp2_with fail
            go_roundw
            case rel => exact ⟨m + 1, by omega, by go_num, K2.out.drewN _⟩
            case measure => simp [intOf]; omega
        · obtain rfl : m = 128 := by omega
          go_wp2_with fail
          go_roundw
          case rel => exact ⟨k + 1, by omega, by go_num, KK.out.trans K2.out⟩
          case measure => simp [intOf]; omega
    · obtain rfl : k = dd.n := by omega
      have hf1 := decide_eq_false (show ¬ ((dd.n : Nat) : Int) < (dd.n : Int) by omega)
      have hf2 := decide_eq_false (show ¬ dd.n < dd.n by omega)
      have P6 := Lib.hid (P5.out.kept0 KK.out)
      have S6 := Lib.hid (S5.out.kept0 KK.out)
      have PE6 := Lib.hid (PE5.out.still KK.out)
      have hl2 : (dd.pending.map fun i : Nat => (i : Int)).length ≤ 1000000 := by
        have := pendI_len dd dd.n
        rw [pendI_n] at this
        omega
      clear hlt hk
      go_wp2_with fail
      refine (hrot2.out _ _ _ _ P6.out.p).mono ?_
      rintro e w6 ⟨rfl, p6, k6⟩
      have P7 := Lib.hid (P6.out.step p6 k6)
      have S7 := Lib.hid (S6.out.by BE.out k6)
      have PE7 := Lib.hid (PE6.out.beside A3.out k6)
      clear p6 k6
      go_wp2_with fail
      refine (sanity_ok _).mono ?_
      rintro e w7 ⟨rfl, k7⟩
      have P8 := Lib.hid (P7.out.kept0 k7)
      have S8 := Lib.hid (S7.out.kept0 k7)
      have PE8 := Lib.hid (PE7.out.still k7)
      clear k7
      go_wp2_with fail
      refine (same_ok _ P8.out.p S8.out).mono ?_
      rintro e w8 ⟨rfl, k8⟩
      have P9 := Lib.hid (P8.out.kept0 k8)
      have PE9 := Lib.hid (PE8.out.still k8)
      clear k8
      go_wp2_with fail
      refine (pending_ok _ P9.out.p).mono ?_
      rintro e w9 ⟨za, zcap, ZO, rfl, own9, _, k9⟩
      have P10 := Lib.hid (P9.out.kept0 k9)
      have PE10 := Lib.hid (PE9.out.still k9)
      have OW9 := Lib.hid own9
      clear own9 k9
      go_wp2_with fail
      refine (ints_own _ _ _ _ OW9.out PE10.out hl2).mono ?_
      rintro e w10 ⟨rfl, k10⟩
      go_wp2_with fail
      go_ret
      exact ⟨rfl, P10.out.k.trans k10⟩
theorem rots_ok (n i b : Int) (v : Value) (l : List Op) (w : World) (h : RdOps w v l) : Calls Try.prog 6 #[.int .i64 n, v, .int .i64 i, .int .i64 b] w fun e w' => e = .returned (.bool true) ∧ Kept NoM w w' := by
  by_cases h0 : 40 < n
  · exact f6_out n h0 v _ _ w
  · cases hf : fewB l with
    | false => exact f6_long n h0 v _ _ l w h hf
    | true =>
      by_cases h1 : n < 1
      · exact f6_bad n h1 v _ _ l w h hf
      · obtain ⟨m, rfl⟩ := Int.eq_ofNat_of_zero_le (show 0 ≤ n by omega)
        cases hr : ((Dk.new m).plays l).rotok i b with
        | false => exact f6_no m (by omega) (by omega) v i b l w h hf hr
        | true => exact f6_goes m (by omega) (by omega) v i b l w h hf hr
end Go.Proofs.Ytohijdopmokkgaa
