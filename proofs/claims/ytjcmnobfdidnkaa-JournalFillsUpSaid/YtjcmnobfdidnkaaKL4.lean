/- The documentation's example is played. -/
import Derived.Test.YtjcmnobfdidnkaaKL2
set_option linter.unusedVariables false
set_option linter.unusedSimpArgs false
set_option linter.unusedSectionVars false
namespace Go.Proofs.Ytjcmnobfdidnkaa
open Go.RowKit
set_option maxHeartbeats 8000000
set_option maxRecDepth 8000
def zs247 : Pg := List.replicate 247 122
theorem ex1 : rappE (capN 6) [] [97, 98, 99] = 0 ∧ rappL (capN 6) [] [97, 98, 99] = [[97, 98, 99]] ∧ rappI (capN 6) [] [97, 98, 99] = 0 := by decide
theorem ex2 : rappE (capN 6) [[97, 98, 99]] [] = 0 ∧ rappL (capN 6) [[97, 98, 99]] [] = [[97, 98, 99], []] ∧ rappI (capN 6) [[97, 98, 99]] [] = 1 := by decide
theorem ex3 : rappE (capN 6) [[97, 98, 99], []] zs247 = 0 ∧ rappL (capN 6) [[97, 98, 99], []] zs247 = [[97, 98, 99], [], zs247] ∧ rappI (capN 6) [[97, 98, 99], []] zs247 = 2 := by decide
theorem ex4 : rappE (capN 6) [[97, 98, 99], [], zs247] [] = 12 ∧ rappL (capN 6) [[97, 98, 99], [], zs247] [] = [[97, 98, 99], [], zs247] ∧ rappI (capN 6) [[97, 98, 99], [], zs247] [] = 0 := by decide
theorem ex5 : rrepE (capN 6) [[120]] = 0 ∧ ∀ L, rrepL (capN 6) L [[120]] = [[120]] := ⟨by decide, fun L => by unfold rrepL; rw [if_pos (by decide)]⟩
theorem ex6 : (streamS [[97, 98, 99], []]).length = 7 ∧ (streamS [[97, 98, 99], [], zs247]).length = 256 ∧ capN 6 = 256 := by decide
theorem keepJ {w w1 w2 : World} {J D G B : Nat} (h : Kept NoM w w1) (hj : ∀ i, InJ J D G B i → w.heap.size ≤ i) (k : Kept (InJ J D G B) w1 w2) : Kept NoM w w2 := h.trans' k (fun i hi x => absurd (hj i x) (by omega))
theorem keepD_ {w w1 w2 : World} {J D G B : Nat} (h : Kept NoM w w1) (hj : ∀ i, InJ J D G B i → w.heap.size ≤ i) (k : Kept (InD D G B) w1 w2) : Kept NoM w w2 := keepJ h hj (k.mono fun i _ x => .inr x)
theorem newJ {w w1 : World} {J J' D G B : Nat} (h : Kept NoM w w1) (hj : ∀ i, InJ J D G B i → w.heap.size ≤ i) (hn : w1.heap.size ≤ J') : ∀ i, InJ J' D G B i → w.heap.size ≤ i := fun i x => by
  rcases x with x | x
  · have := h.size; omega
  · exact hj i (.inr x)
theorem sanity_ok (w : World) : Calls Try.prog 9 #[] w fun e w' => e = .returned (.bool true) ∧ Kept NoM w w' := by
  have FR := Lib.hid (gfresh 6 (by omega) (by omega) w)
  go_enter Try.func9, Try.ntmps9
  go_wp2_with (go_at_call 22; refine FR.out.mono ?_; rintro e w0 ⟨D, G, B, J, rfl, g, hj, k⟩; have G0 := Lib.hid g; have HJ := Lib.hid hj; have K0 := Lib.hid k; clear g hj k)
  have LN : Hid (Calls Try.prog 17 #[.pointer (some ⟨J, 0, none⟩)] w0 fun e w' => e = .returned (.int .i64 0) ∧ w0 = w') := Lib.hid (glen G0.out)
  refine LN.out.mono ?_
  rintro e w9 ⟨rfl, rfl⟩
  have RM : Hid (Calls Try.prog 20 #[.pointer (some ⟨J, 0, none⟩)] w0 fun e w' => e = .returned (.int .i64 256) ∧ ∃ n, w' = w0.drewN n) := Lib.hid (groom G0.out)
  clear LN FR
  go_wp2_with fail
  refine RM.out.mono ?_
  rintro e w9 ⟨rfl, n1, rfl⟩
  obtain ⟨w1, hw1⟩ : ∃ w1, w0.drewN n1 = w1 := ⟨_, rfl⟩
  have G1 : Hid (GJ w1 J D G B [] 6 1) := Lib.hid (by rw [← hw1]; exact (G0.out.kept0 ((Kept.refl _ _).drewN _)).more (by omega))
  have K1 : Hid (Kept NoM w w1) := Lib.hid (by rw [← hw1]; exact K0.out.drewN _)
  rw [hw1]
  clear hw1 RM G0 K0
  have AP1 : Hid (Calls Try.prog 24 #[.pointer (some ⟨J, 0, none⟩), .string ⟨#[97, 98, 99]⟩] w1 fun e w' => e = .returned (.tuple #[.int .i64 0, .int .i64 0]) ∧ GJ w' J D G B [[97, 98, 99]] 6 2 ∧ Kept (InJ J D G B) w1 w') := Lib.hid (by
    have q := gapp G1.out (by omega) [97, 98, 99]
    rw [ex1.1, ex1.2.1, ex1.2.2] at q
    exact q)
  go_wp2_with fail
  refine AP1.out.mono ?_
  rintro e w2 ⟨rfl, g, kk⟩
  have G2 := Lib.hid g
  have K2 := Lib.hid (keepJ K1.out HJ.out kk)
  clear g kk
  have AP2 : Hid (Calls Try.prog 24 #[.pointer (some ⟨J, 0, none⟩), .string ⟨#[]⟩] w2 fun e w' => e = .returned (.tuple #[.int .i64 1, .int .i64 0]) ∧ GJ w' J D G B [[97, 98, 99], []] 6 3 ∧ Kept (InJ J D G B) w2 w') := Lib.hid (by
    have q := gapp G2.out (by omega) []
    rw [ex2.1, ex2.2.1, ex2.2.2] at q
    exact q)
  go_wp2_with fail
  refine AP2.out.mono ?_
  rintro e w3 ⟨rfl, g, kk⟩
  have G3 := Lib.hid g
  have K3 := Lib.hid (keepJ K2.out HJ.out kk)
  clear g kk
  have US : Hid (Calls Try.prog 18 #[.pointer (some ⟨J, 0, none⟩)] w3 fun e w' => e = .returned (.int .i64 7) ∧ w3 = w') := Lib.hid (by
    have q := gused G3.out
    rw [ex6.1] at q
    exact q)
  clear AP1 AP2 G1 G2 K1 K2
  go_wp2_with fail
  refine US.out.mono ?_
  rintro e w9 ⟨rfl, rfl⟩
  have TX : Hid (Calls Try.prog 23 #[.agg #[.int .i64 0, .int .i64 247, .int .i64 0, .int .u8 122]] w3 fun e w' => e = .returned (.string ⟨zs247.toArray⟩) ∧ Kept NoM w3 w') := Lib.hid (text5_ok ⟨0, 247, 0, 122⟩ (by decide) w3)
  clear US
  go_wp2_with fail
  refine TX.out.mono ?_
  rintro e w4 ⟨rfl, k⟩
  have G4 := Lib.hid ((G3.out.kept0 k).more (show 3 ≤ 4 by omega))
  have K4 := Lib.hid (K3.out.trans k)
  clear k TX G3 K3
  have AP4 : Hid (Calls Try.prog 24 #[.pointer (some ⟨J, 0, none⟩), .string ⟨zs247.toArray⟩] w4 fun e w' => e = .returned (.tuple #[.int .i64 2, .int .i64 0]) ∧ GJ w' J D G B [[97, 98, 99], [], zs247] 6 5 ∧ Kept (InJ J D G B) w4 w') := Lib.hid (by
    have q := gapp G4.out (by omega) zs247
    rw [ex3.1, ex3.2.1, ex3.2.2] at q
    exact q)
  go_wp2_with fail
  refine AP4.out.mono ?_
  rintro e w5 ⟨rfl, g, kk⟩
  have G5 := Lib.hid g
  have K5 := Lib.hid (keepJ K4.out HJ.out kk)
  clear g kk
  have AP5 : Hid (Calls Try.prog 24 #[.pointer (some ⟨J, 0, none⟩), .string ⟨#[]⟩] w5 fun e w' => e = .returned (.tuple #[.int .i64 0, .int .i64 12]) ∧ GJ w' J D G B [[97, 98, 99], [], zs247] 6 6 ∧ Kept (InJ J D G B) w5 w') := Lib.hid (by
    have q := gapp G5.out (by omega) []
    rw [ex4.1, ex4.2.1, ex4.2.2] at q
    exact q)
  go_wp2_with fail
  refine AP5.out.mono ?_
  rintro e w6 ⟨rfl, g, kk⟩
  have G6 := Lib.hid g
  have K6 := Lib.hid (keepJ K5.out HJ.out kk)
  clear g kk
  have RM : Hid (Calls Try.prog 20 #[.pointer (some ⟨J, 0, none⟩)] w6 fun e w' => e = .returned (.int .i64 0) ∧ ∃ n, w' = w6.drewN n) := Lib.hid (by
    have q := groom G6.out
    rw [ex6.2.1, ex6.2.2] at q
    exact q)
  clear AP4 AP5 G4 G5 K4 K5
  go_wp2_with fail
  refine RM.out.mono ?_
  rintro e w9 ⟨rfl, n2, rfl⟩
  obtain ⟨w7, hw7⟩ : ∃ w7, w6.drewN n2 = w7 := ⟨_, rfl⟩
  have G7 : Hid (GJ w7 J D G B [[97, 98, 99], [], zs247] 6 7) := Lib.hid (by rw [← hw7]; exact (G6.out.kept0 ((Kept.refl _ _).drewN _)).more (by omega))
  have K7 : Hid (Kept NoM w w7) := Lib.hid (by rw [← hw7]; exact K6.out.drewN _)
  rw [hw7]
  clear hw7 RM G6 K6
  have LN : Hid (Calls Try.prog 17 #[.pointer (some ⟨J, 0, none⟩)] w7 fun e w' => e = .returned (.int .i64 3) ∧ w7 = w') := Lib.hid (glen G7.out)
  go_wp2_with fail
  refine LN.out.mono ?_
  rintro e w9 ⟨rfl, rfl⟩
  clear LN
  have RD0 : RdS (w7.alloc (.cells #[.string ⟨#[120]⟩] 9)) NoM 1 EStr (.slice (some ⟨w7.heap.size, 0, none⟩) 1 1) [[120]] := one_str (x := [120]) (blk_new _ _)
  have RP : Hid (Calls Try.prog 29 #[.pointer (some ⟨J, 0, none⟩), .slice (some ⟨w7.heap.size, 0, none⟩) 1 1] (w7.alloc (.cells #[.string ⟨#[120]⟩] 9)) fun e w' => e = .returned (.int .i64 0) ∧ GJ w' J D G B [[120]] 6 8 ∧ Kept (InJ J D G B) (w7.alloc (.cells #[.string ⟨#[120]⟩] 9)) w') := Lib.hid (by
    have q := grep_ (G7.out.kept0 ((Kept.refl _ _).alloc _)) (by omega) (by decide) (by decide) RD0
    rw [ex5.1, ex5.2] at q
    exact q)
  clear RD0
  go_wp2_with fail
  refine RP.out.mono ?_
  rintro e w8 ⟨rfl, g, k⟩
  have G8 := Lib.hid g
  have K8 := Lib.hid (keepJ (K7.out.alloc _) HJ.out k)
  clear g k RP G7 K7
  obtain ⟨d8, hfd, hdn, hdt⟩ := G8.out.fd (by omega)
  have OP := Lib.hid (hfd.opn hdn (by omega) hdt)
  clear hfd hdn hdt
  go_wp2_with fail
  refine OP.out.mono ?_
  rintro e w10 ⟨J2, rfl, g, hj2, k⟩
  have G10 := Lib.hid g
  have HJ2 := Lib.hid (newJ K8.out HJ.out hj2)
  have K10 := Lib.hid (keepD_ K8.out HJ.out k)
  clear g k OP hj2 G8 K8 d8
  have RC : Hid (Calls Try.prog 16 #[.pointer (some ⟨J2, 0, none⟩)] w10 fun e w' => ∃ a cap, e = .returned (.slice a 1 cap) ∧ RdS w' NoM 1 EStr (.slice a 1 cap) [[120]] ∧ Kept NoM w10 w') := Lib.hid ((grecs G10.out).mono fun e w' ⟨a, cap, O, q1, q2, q3, q4⟩ => ⟨a, cap, q1, q2.rd (fun _ _ x => x), q4⟩)
  go_wp2_with fail
  refine RC.out.mono ?_
  rintro e w11 ⟨a, cap, rfl, rd, k⟩
  have hr2 : RdS (w11.alloc (.cells #[.string ⟨#[120]⟩] 9)) NoM 1 EStr (.slice (some ⟨w11.heap.size, 0, none⟩) 1 1) [[120]] := one_str (x := [120]) (blk_new _ _)
  have SM : Hid (Calls Try.prog 15 #[.slice a 1 cap, .slice (some ⟨w11.heap.size, 0, none⟩) 1 1] (w11.alloc (.cells #[.string ⟨#[120]⟩] 9)) fun e w' => e = .returned (.bool true) ∧ Kept NoM (w11.alloc (.cells #[.string ⟨#[120]⟩] 9)) w') := Lib.hid ((rsame_ok _ _ [[120]] [[120]] _ (rd.kept ((Kept.refl _ _).alloc _) (fun _ _ x => x)) hr2 (by decide) (by decide)).mono fun e w' ⟨q1, n, q2⟩ => ⟨q1, by rw [q2]; exact (Kept.refl _ _).drewN _⟩)
  have G11 := Lib.hid (G10.out.kept0 (k.alloc (.cells #[.string ⟨#[120]⟩] 9)))
  have K11 := Lib.hid (K10.out.trans (k.alloc (.cells #[.string ⟨#[120]⟩] 9)))
  clear rd k hr2 RC G10 K10
  go_wp2_with fail
  refine SM.out.mono ?_
  rintro e w12 ⟨rfl, k⟩
  have hg := G11.out.kept0 k
  have K12 := Lib.hid (K11.out.trans k)
  clear k SM G11 K11
  obtain ⟨j, hjm, hgo⟩ := hg
  have HJM := Lib.hid hjm
  have HGO := Lib.hid hgo
  have TR := Lib.hid (trip_ok 0 (by omega) w12 (JS.p hjm))
  clear hjm hgo
  go_wp2_with fail
  refine TR.out.mono ?_
  rintro e w13 ⟨rfl, p, k⟩
  have b13 : Both (j.d.doTrip 0) j.h j.recs 8 := HGO.out.norm.both.trip (by omega)
  have n13 : Norm ⟨j.d.doTrip 0, j.h, j.recs, j.cl⟩ [[120]] 8 := ⟨b13, HGO.out.norm.hi, HGO.out.norm.cl, HGO.out.norm.recs⟩
  have hc13 : (j.d.doTrip 0).jcap = capN 6 := by show j.d.jcap = _; unfold Dk.jcap Dk.jp capN; rw [HGO.out.n]
  have a13 := n13.app0 rfl [121] (by show rappE (j.d.doTrip 0).jcap _ _ = 0; rw [hc13]; decide)
  have JM13 := JS.disk HJM.out p k
  have AP : Hid (Calls Try.prog 24 #[.pointer (some ⟨J2, 0, none⟩), .string ⟨#[121]⟩] w13 fun e w' => e = .returned (.tuple #[.int .i64 0, .int .i64 13]) ∧ JS w' J2 D G B { j.d.doTrip 0 with off := true } j.h j.recs true ∧ Kept (InJ J2 D G B) w13 w') := Lib.hid (by
    have q := append_ok ⟨j.d.doTrip 0, j.h, j.recs, j.cl⟩ [121] (K := 8) (by omega) b13.f w13 JM13
    unfold Jn.appI at q
    rw [a13.1, a13.2] at q
    exact q)
  have HB := Lib.hid b13
  have K13 := Lib.hid (keepD_ K12.out HJ2.out k)
  have HN6 := Lib.hid HGO.out.n
  have HRC := Lib.hid HGO.out.norm.recs
  clear p k TR HJM HGO K12 b13 n13 hc13 a13 JM13
  go_wp2_with fail
  refine AP.out.mono ?_
  rintro e w14 ⟨rfl, js, k⟩
  have AP2 : Hid (Calls Try.prog 24 #[.pointer (some ⟨J2, 0, none⟩), .string ⟨#[121]⟩] w14 fun e w' => e = .returned (.tuple #[.int .i64 0, .int .i64 13]) ∧ Kept NoM w14 w') := Lib.hid (append_closed [121] w14 js rfl)
  have JS14 := Lib.hid js
  have K14 := Lib.hid (keepJ K13.out HJ2.out k)
  clear js k AP K13
  go_wp2_with fail
  refine AP2.out.mono ?_
  rintro e w15 ⟨rfl, k⟩
  have JS15 := JS14.out.kept0 k
  have K15 := Lib.hid (K14.out.trans k)
  have MT : Hid (Calls Try.prog 28 #[.pointer (some ⟨D, 0, none⟩), .slice none 0 0] w15 fun e w' => e = .returned (.tuple #[]) ∧ PD w' D G B ((j.d.doTrip 0).mount []) ∧ Kept (InD D G B) w15 w') := Lib.hid (by
    have q := mount_ok [] none 0 (by decide) w15 JS15.p (RdS.nil _ _ _ _)
    exact q)
  clear k JS15 JS14 K14 AP2
  go_wp2_with fail
  refine MT.out.mono ?_
  rintro e w16 ⟨rfl, p, k⟩
  have hfd : FD w16 D G B ((j.d.doTrip 0).mount []) [[120]] 8 := by
    refine ⟨p, j.h, HB.out.f.fits (by show j.d.n ≤ 4096; rw [HN6.out]; omega) (by omega), ?_⟩
    have := (HB.out.mount []).fit
    rw [HRC.out] at this
    exact this
  have OP := Lib.hid (hfd.opn (n := 6) (by rw [Dk.n_mount]; exact HN6.out) (by omega) rfl)
  have K16 := Lib.hid (keepD_ K15.out HJ2.out k)
  clear p k hfd MT K15
  go_wp2_with fail
  refine OP.out.mono ?_
  rintro e w17 ⟨J3, rfl, g, hj3, k⟩
  have G17 := Lib.hid g
  have HJ3 := Lib.hid (newJ K16.out HJ2.out hj3)
  have K17 := Lib.hid (keepD_ K16.out HJ2.out k)
  clear g k OP hj3 K16
  have R0 : Hid (Calls Try.prog 21 #[.pointer (some ⟨J3, 0, none⟩), .int .i64 0] w17 fun e w' => e = .returned (.tuple #[.string ⟨#[120]⟩, .bool true]) ∧ w17 = w') := Lib.hid (grec_ok G17.out (k := 0) (x := [120]) rfl)
  have R1 : Hid (Calls Try.prog 21 #[.pointer (some ⟨J3, 0, none⟩), .int .i64 1] w17 fun e w' => e = .returned (.tuple #[.string ⟨#[]⟩, .bool false]) ∧ w17 = w') := Lib.hid (grec_no G17.out (k := 1) (.inr (by decide)))
  go_wp2_with fail
  refine R0.out.mono ?_
  rintro e w9 ⟨rfl, rfl⟩
  go_wp2_with fail
  refine R1.out.mono ?_
  rintro e w9 ⟨rfl, rfl⟩
  have NW := Lib.hid (new_ok 3 (by omega) (by omega) w17)
  clear R0 R1
  go_wp2_with fail
  refine NW.out.mono ?_
  rintro e w18 ⟨D4, G4, B4, rfl, p, hl, k⟩
  have OS := Lib.hid (open_small w18 p (by decide))
  have G18 := Lib.hid (G17.out.kept0 k)
  have K18 := Lib.hid (K17.out.trans k)
  clear p hl k NW G17 K17
  go_wp2_with fail
  refine OS.out.mono ?_
  rintro e w9 ⟨rfl, rfl⟩
  have LN : Hid (Calls Try.prog 17 #[.pointer (some ⟨J3, 0, none⟩)] w18 fun e w' => e = .returned (.int .i64 1) ∧ w18 = w') := Lib.hid (glen G18.out)
  go_wp2_with fail
  refine LN.out.mono ?_
  rintro e w9 ⟨rfl, rfl⟩
  go_wp2_with fail
  go_ret
  exact ⟨rfl, K18.out⟩
end Go.Proofs.Ytjcmnobfdidnkaa
