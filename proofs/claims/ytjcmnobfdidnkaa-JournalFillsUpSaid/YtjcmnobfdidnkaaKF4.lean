/- The walk of JournalFillsUp. -/
import Derived.Test.YtjcmnobfdidnkaaKL7
set_option linter.unusedVariables false
set_option linter.unusedSimpArgs false
set_option linter.unusedSectionVars false
namespace Go.Proofs.Ytjcmnobfdidnkaa
open Go.RowKit
set_option maxHeartbeats 4000000
set_option maxRecDepth 8000
theorem fills_ok (n sz fl : Int) (w : World) (hz : 0 ≤ sz ∧ sz ≤ 65535) (hf : 0 ≤ fl ∧ fl ≤ 255) :
    Calls Try.prog 4 #[.int .i64 n, .int .u16 sz, .int .u8 fl] w fun e w' => e = .returned (.bool true) ∧ Kept NoM w w' := by
  have SN := Lib.hid sanity_ok
  have HSZ := Lib.hid (And.intro hz hf)
  have hyw : IntKind.i64.wrap sz = sz := IntWalk.i64_in _ (by omega)
  obtain ⟨f, rfl⟩ : ∃ f : UInt8, fl = (f.toNat : Int) := ⟨UInt8.ofNat fl.toNat, by
    have : (UInt8.ofNat fl.toNat).toNat = fl.toNat := by simp; omega
    omega⟩
  have hzm : IntKind.i64.wrap (sz.tmod 301) = sz % 301 := by rw [Int.tmod_eq_emod_of_nonneg (by omega)]; exact IntWalk.i64_in _ (by omega)
  have HN : Hid (0 ≤ sz % 301 ∧ sz % 301 ≤ 300) := Lib.hid (by omega)
  clear hf
  go_enter Try.func4, Try.ntmps4
  by_cases h1 : n < 4
  · skip
    go_wp2_with fail
    refine (SN.out w).mono ?_
    rintro e w3 ⟨rfl, k⟩
    have K3 := Lib.hid k
    go_wp2_with fail
    go_ret
    exact ⟨rfl, K3.out⟩
  · skip
    by_cases h2 : n > 40
    · skip
      go_wp2_with fail
      refine (SN.out w).mono ?_
      rintro e w3 ⟨rfl, k⟩
      have K3 := Lib.hid k
      go_wp2_with fail
      go_ret
      exact ⟨rfl, K3.out⟩
    · skip
      obtain ⟨m, rfl⟩ : ∃ m : Nat, n = (m : Int) := ⟨n.toNat, by omega⟩
      have GF := Lib.hid (gfresh m (by omega) (by omega) w)
      have hm := Lib.hid (And.intro (show 4 ≤ m by omega) (show m ≤ 4096 by omega))
      obtain ⟨C, hC⟩ : ∃ C, capN m = C := ⟨_, rfl⟩
      have HC := Lib.hid hC
      go_wp2_with fail
      refine GF.out.mono ?_
      rintro e w1 ⟨D, G, B, J, rfl, g, hold, k⟩
      have HOLD := Lib.hid hold
      have K1 := k
      clear hold k GF
      go_wp2_with fail
      go_loopw [10] (fun v wr => ∃ L : List Pg, ∃ a cap O, v = .slice a L.length cap ∧ OwnS wr O 9 1 EStr (.slice a L.length cap) L ∧ (∀ q, O = some q → w.heap.size ≤ q ∧ ¬ InJ J D G B q) ∧ GJ wr J D G B L m L.length ∧ Kept NoM w wr) (fun v _ => capN m + 1 - lenV v)
      case atStart => exact ⟨[], none, 0, none, rfl, OwnS.nil _ _ _ _, fun q h => (by cases h), g, K1⟩
      case round =>
        obtain ⟨L, a, cap, O, rfl, hO, hO2, g, k⟩ := hrel
        have hl := g.lens
        have hl2 := stream_two L
        obtain ⟨S, hS⟩ : ∃ S, (streamS L).length = S := ⟨_, rfl⟩
        rw [hS, hC] at hl
        rw [hS] at hl2
        have RM : Hid (∀ wx, Kept NoM wr wx → Calls Try.prog 20 #[.pointer (some ⟨J, 0, none⟩)] wx fun e w' => e = .returned (.int .i64 ((C : Int) - S)) ∧ Kept NoM wx w') := Lib.hid (fun wx kx => (groom (g.kept0 kx)).mono fun e w' ⟨q1, nn, q2⟩ => ⟨by rw [q1, hC, hS], by rw [q2]; exact (Kept.refl _ _).drewN _⟩)
        have HG := Lib.hid (And.intro g (And.intro hO (And.intro hO2 k)))
        have HL := Lib.hid hl
        have HS := Lib.hid hS
        clear hO hO2 k g K1 hC hS
        by_cases hlt : (C : Int) - S ≥ 2
        · skip
          obtain ⟨y, hy⟩ : ∃ y : Nat, (y : Int) = min (sz % 301) ((C : Int) - S - 2) := ⟨(min (sz % 301) ((C : Int) - S - 2)).toNat, by have := HN.out; omega⟩
          have HY : Hid (y ≤ 300 ∧ (y : Int) ≤ (C : Int) - S - 2) := Lib.hid (by have := HN.out; omega)
          obtain ⟨x, hx⟩ : ∃ x : Pg, (⟨0, y, 0, f⟩ : Jo).text = x := ⟨_, rfl⟩
          have hxl : x.length = y := by rw [← hx, Jo.text_len]; simp
          have TX : Hid (∀ wx, Calls Try.prog 23 #[.agg #[.int .i64 0, .int .i64 (min (sz % 301) ((C : Int) - S - 2)), .int .i64 0, .int .u8 f.toNat]] wx fun e w' => e = .returned (.string ⟨x.toArray⟩) ∧ Kept NoM wx w') := Lib.hid (fun wx => by
            have h := text5_ok ⟨0, y, 0, f⟩ (by have := HY.out; simp only; omega) wx
            rw [hx] at h
            unfold joC at h
            simp only at h
            rw [hy] at h
            exact h)
          have hE : rappE (capN m) L x = 0 := fill_app (by rw [HC.out, HS.out, hxl]; have := HY.out; omega) (by rw [hxl]; exact HY.out.1)
          have HX := Lib.hid (And.intro hE hxl)
          have hyw2 : IntKind.i64.wrap ((C : Int) - S - 2) = (C : Int) - S - 2 := IntWalk.i64_in _ (by omega)
          clear hE hx hxl
          go_wp2_with fail
          refine (RM.out wr (Kept.refl _ _)).mono ?_
          rintro e w2 ⟨rfl, k⟩
          have K2 := Lib.hid k
          clear k
          go_wp2_with fail
          refine (RM.out w2 K2.out).mono ?_
          rintro e w3 ⟨rfl, k⟩
          have K3 := Lib.hid (K2.out.trans k)
          clear k
          go_wp2_with fail
          refine (TX.out w3).mono ?_
          rintro e w4 ⟨rfl, k⟩
          have K4 := Lib.hid (K3.out.trans k)
          have AP := Lib.hid (gapp_fresh (HG.out.1.kept0 K4.out) (by have := HL.out; omega) x HX.out.1)
          clear k
          go_wp2_with fail
          refine AP.out.mono ?_
          rintro e w5 ⟨rfl, g5, k5, r5⟩
          have hown : OwnS (w5.alloc (.cells #[.string ⟨x.toArray⟩] 9)) O 9 1 EStr (.slice a L.length cap) L := ((HG.out.2.1.kept (K4.out.of_no.trans k5) (fun q hq => (HG.out.2.2.1 q hq).2) (fun _ _ x => x)).kept ((Kept.refl NoM _).alloc _) (fun _ _ x => x) (fun _ _ x => x))
          have hsrc : RdS (w5.alloc (.cells #[.string ⟨x.toArray⟩] 9)) NoM 1 EStr (.slice (some ⟨w5.heap.size, 0, none⟩) 1 1) [x] := one_str (blk_new _ _)
          have hl3 : L.length ≤ 300000 := HL.out.1
          have A5 := Lib.hid (And.intro g5 (And.intro k5 r5))
          have HS5 := Lib.hid (And.intro hown hsrc)
          clear hown hsrc g5 k5 r5 AP
          go_wp2_with (at_builtin; refine wpList_append_S (M := NoM) rfl (.tmp 62) (.tmp 64) 42 rfl 16 tyStrs _ rfl HS5.out.1 _ rfl HS5.out.2 eStr_one L.length 1 rfl rfl (by unfold maxLen; omega) (by omega) ?_; intro a6 cap6 w6 O6 q1 q2 q3; have Q := Lib.hid (And.intro q1 (And.intro q2 q3)); clear q1 q2 q3)
          go_roundw
          case rel =>
            have kx : Kept (fun i => some i = O) w5 w6 := ((Kept.refl NoM w5).alloc _).of_no.trans' Q.out.2.1 (fun i _ h => h)
            have hlt4 : ∀ q, O = some q → q < w4.heap.size ∧ ¬ InJ J D G B q := fun q hq => ⟨by have := HG.out.2.1.lt q hq; have := K4.out.size; omega, (HG.out.2.2.1 q hq).2⟩
            have g6 := A5.out.2.2 O w6 hlt4 kx
            have hj : ∀ i, InJ J D G B i → i < w5.heap.size := A5.out.1.lt
            have K5 : Kept NoM w w5 := HG.out.2.2.2.trans' (K4.out.of_no.trans A5.out.2.1) (fun i hi x => absurd (HOLD.out i x) (by omega))
            have K6 : Kept NoM w w6 := K5.trans' kx (fun i hi x => absurd (HG.out.2.2.1 i x.symm).1 (by omega))
            refine ⟨L ++ [x], a6, cap6, O6, by simp, by have := Q.out.1; simpa using this, fun q hq => ?_, by simpa using g6, K6⟩
            rcases Q.out.2.2 with h9 | ⟨q', h9, h10⟩
            · exact HG.out.2.2.1 q (h9.symm.trans hq)
            · rw [hq] at h9; cases h9
              have h11 : w5.heap.size + 1 ≤ q := by simpa using h10
              have := K5.size
              exact ⟨by omega, fun x => by have := hj q x; omega⟩
          case measure =>
            have := HL.out; have h7 := HC.out
            simp [lenV]; omega
        · skip
          have FU := Lib.hid (fun wx (kx : Kept NoM wr wx) => gfull (HG.out.1.kept0 kx) (by have := HL.out; omega) (by rw [HC.out, HS.out]; omega))
          go_wp2_with fail
          refine (RM.out wr (Kept.refl _ _)).mono ?_
          rintro e w2 ⟨rfl, k⟩
          have K2 := Lib.hid k
          clear k
          go_wp2_with fail
          refine (FU.out w2 K2.out).mono ?_
          rintro e w3 ⟨rfl, g3, k3⟩
          obtain ⟨d, fd, hd1, hd2⟩ := g3.fd (by have := HL.out; omega)
          have LO := Lib.hid (fd.opn hd1 hm.out.2 hd2)
          have H3 := Lib.hid (And.intro g3 k3)
          clear g3 k3 fd hd1 hd2 FU RM
          go_wp2_with fail
          refine LO.out.mono ?_
          rintro e w4 ⟨J2, rfl, g4, hJ2, k4⟩
          have H4 := Lib.hid (And.intro g4 k4)
          have KJ : Hid (Kept (InJ J D G B) wr w4) := Lib.hid ((K2.out.of_no.trans H3.out.2).trans (k4.mono fun i _ x => .inr x))
          have KE : Hid (Kept NoM w w4) := Lib.hid (HG.out.2.2.2.trans' KJ.out (fun i hi x => absurd (HOLD.out i x) (by omega)))
          have AL : Hid (RdS w4 NoM 1 EStr (.slice a L.length cap) L) := Lib.hid ((HG.out.2.1.kept KJ.out (fun q hq => (HG.out.2.2.1 q hq).2) (fun _ _ x => x)).rd (fun _ _ x => x))
          have GRC : Hid (∀ wx, Kept NoM w4 wx → Calls Try.prog 16 #[.pointer (some ⟨J2, 0, none⟩)] wx fun e w' => ∃ a cap, e = .returned (.slice a L.length cap) ∧ RdS w' NoM 1 EStr (.slice a L.length cap) L ∧ Kept NoM wx w') := Lib.hid (fun wx kx => (grecs (H4.out.1.kept0 kx)).mono fun e w' ⟨a, cap, O, q1, q2, q3, q4⟩ => ⟨a, cap, q1, q2.rd (fun _ _ x => x), q4⟩)
          have hl3 : L.length ≤ 300000 := HL.out.1
          have GSM : Hid (∀ wx a5 cap5, Kept NoM w4 wx → RdS wx NoM 1 EStr (.slice a5 L.length cap5) L → Calls Try.prog 15 #[.slice a5 L.length cap5, .slice a L.length cap] wx fun e w' => e = .returned (.bool true) ∧ Kept NoM wx w') := Lib.hid (fun wx a5 cap5 kx hx => (rsame_ok _ _ L L wx hx (AL.out.kept kx (fun _ _ x => x)) (by omega) (by omega)).mono fun e w' ⟨q1, n, q2⟩ => ⟨by rw [q1]; simp, by rw [q2]; exact (Kept.refl _ _).drewN _⟩)
          have US : Hid (∀ wx, Kept NoM w4 wx → Calls Try.prog 19 #[.slice a L.length cap] wx fun e w' => e = .returned (.int .i64 S) ∧ Kept NoM wx w') := Lib.hid (fun wx kx => (rused_ok _ L NoM wx (AL.out.kept kx (fun _ _ x => x)) (by omega) (by rw [HS.out]; have := HL.out; omega)).mono fun e w' ⟨q1, q2⟩ => ⟨by rw [q1, HS.out], by rw [q2]; exact Kept.refl _ _⟩)
          have RM2 : Hid (∀ wx, Kept NoM w4 wx → Calls Try.prog 20 #[.pointer (some ⟨J, 0, none⟩)] wx fun e w' => e = .returned (.int .i64 ((C : Int) - S)) ∧ Kept NoM wx w') := Lib.hid (fun wx kx => (groom2 H3.out.1 (H4.out.1.kept0 kx) (H4.out.2.transN kx)).mono fun e w' ⟨q1, nn, q2⟩ => ⟨by rw [q1, HC.out, HS.out], by rw [q2]; exact (Kept.refl _ _).drewN _⟩)
          clear g4 hJ2 k4 LO
          go_wp2_with fail
          refine (SN.out w4).mono ?_
          rintro e w5 ⟨rfl, k⟩
          have K5 := Lib.hid k
          clear k
          go_wp2_with fail
          refine (GRC.out w5 K5.out).mono ?_
          rintro e w6 ⟨a6, cap6, rfl, r6, k⟩
          have K6 := Lib.hid (K5.out.trans k)
          have SM := Lib.hid (GSM.out w6 a6 cap6 K6.out r6)
          clear k r6
          go_wp2_with fail
          refine SM.out.mono ?_
          rintro e w7 ⟨rfl, k⟩
          have K7 := Lib.hid (K6.out.trans k)
          clear k SM
          go_wp2_with fail
          refine (US.out w7 K7.out).mono ?_
          rintro e w8 ⟨rfl, k⟩
          have K8 := Lib.hid (K7.out.trans k)
          clear k
          go_wp2_with fail
          refine (RM2.out w8 K8.out).mono ?_
          rintro e w9 ⟨rfl, k⟩
          have K9 := Lib.hid (K8.out.trans k)
          clear k
          go_wp2_with fail
          go_ret
          have hfin : ((S : Int) + ((C : Int) - S) == ((m : Int) - 2) / 2 * 128) = true := by
            have h8 := HC.out
            unfold capN at h8
            rw [beq_iff_eq]
            have h9 := hm.out.1
            omega
          exact ⟨by rw [hfin]; rfl, KE.out.trans K9.out⟩
end Go.Proofs.Ytjcmnobfdidnkaa