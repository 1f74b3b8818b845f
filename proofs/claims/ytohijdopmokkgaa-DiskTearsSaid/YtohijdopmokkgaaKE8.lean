/- Walks: sanity. -/
import Derived.Test.YtohijdopmokkgaaKE7
set_option linter.unusedVariables false
set_option linter.unusedSimpArgs false
set_option linter.unusedSectionVars false
namespace Go.Proofs.Ytohijdopmokkgaa
open Go.RowKit
set_option maxHeartbeats 4000000
set_option maxRecDepth 4000
theorem s_new (w : World) : Calls Try.prog 11 #[.int .i64 2] w fun e w' => ∃ D G B, e = .returned (.tuple #[.pointer (some ⟨D, 0, none⟩), .int .i64 0]) ∧ PD w' D G B Dk.x0 ∧ (w.heap.size ≤ D ∧ w.heap.size ≤ G ∧ w.heap.size ≤ B) ∧ Kept NoM w w' := new_ok 2 (by decide) (by decide) w
theorem s_new0 (w : World) : Calls Try.prog 11 #[.int .i64 0] w fun e w' => e = .returned (.tuple #[.pointer none, .int .i64 1]) ∧ w = w' := new_bad 0 (.inl (by decide)) w
/-- sanity's disk, in new blocks -/
structure SK (w0 w : World) (D G B : Nat) (d : Dk) : Prop where
  p : PD w D G B d
  lp : w0.heap.size ≤ D ∧ w0.heap.size ≤ G ∧ w0.heap.size ≤ B
  k : Kept NoM w0 w
theorem SK.kept0 {w0 w w' : World} {D G B : Nat} {d : Dk} (h : SK w0 w D G B d) (k : Kept NoM w w') : SK w0 w' D G B d := ⟨h.p.kept0 k, h.lp, h.k.trans k⟩
theorem SK.step {w0 w w' : World} {D G B : Nat} {d d' : Dk} (h : SK w0 w D G B d) (hp : PD w' D G B d') (k : Kept (InD D G B) w w') : SK w0 w' D G B d' := by
  obtain ⟨_, ⟨l1, l2, l3⟩, k0⟩ := h
  exact ⟨hp, ⟨l1, l2, l3⟩, k0.trans' k fun i hi hm => by unfold InD at hm; omega⟩
theorem SK.lst {w0 w w' : World} {D G B : Nat} {d : Dk} {α : Type} {sz : Nat} {E : List Value → α → Prop} {v : Value} {xs : List α} (h : SK w0 w D G B d) {O : Option Nat} {t : TypeId} (ho : OwnS w' O t sz E v xs) (hn : NewO w none O) : RdS w' (InD D G B) sz E v xs := by
  have hl := h.p.lt
  refine ho.rd fun g hg hm => ?_
  rcases hn with rfl | ⟨g', rfl, hg'⟩
  · cases hg
  · cases hg; unfold InD at hm; omega
/-- sanity's disk and its clone -/
structure SC (w0 w : World) (D G B : Nat) (d : Dk) (D2 G2 B2 : Nat) (d2 : Dk) : Prop where
  s : SK w0 w D G B d
  p2 : PD w D2 G2 B2 d2
  sep : ¬ InD D G B D2 ∧ ¬ InD D G B G2 ∧ ¬ InD D G B B2
theorem SC.kept0 {w0 w w' : World} {D G B : Nat} {d : Dk} {D2 G2 B2 : Nat} {d2 : Dk} (h : SC w0 w D G B d D2 G2 B2 d2) (k : Kept NoM w w') : SC w0 w' D G B d D2 G2 B2 d2 := ⟨h.s.kept0 k, h.p2.kept0 k, h.sep⟩
theorem SC.step {w0 w w' : World} {D G B : Nat} {d d' : Dk} {D2 G2 B2 : Nat} {d2 : Dk} (h : SC w0 w D G B d D2 G2 B2 d2) (hp : PD w' D G B d') (k : Kept (InD D G B) w w') : SC w0 w' D G B d' D2 G2 B2 d2 :=
  ⟨h.s.step hp k, h.p2.kept k h.sep.1 h.sep.2.1 h.sep.2.2, h.sep⟩
section
variable {D G B : Nat} (w0 w : World)
theorem u_new : Calls Try.prog 11 #[.int .i64 2] w0 fun e w' => ∃ D G B, e = .returned (.tuple #[.pointer (some ⟨D, 0, none⟩), .int .i64 0]) ∧ Hid (SK w0 w' D G B Dk.x0) := by
  refine (s_new w0).mono ?_
  rintro e w' ⟨D, G, B, rfl, h1, h2, h3⟩
  exact ⟨D, G, B, rfl, Lib.hid ⟨h1, h2, h3⟩⟩
theorem u_write1 (h : SK w0 w D G B Dk.x0) : Calls Try.prog 21 #[.pointer (some ⟨D, 0, none⟩), .int .i64 0, .int .i64 1, .string ⟨#[97, 98, 99]⟩] w fun e w' => e = .returned (.int .i64 0) ∧ Hid (SK w0 w' D G B Dk.x1) := by
  refine (s_write1 w h.p).mono ?_
  rintro e w' ⟨rfl, h1, h2⟩
  exact ⟨rfl, Lib.hid (h.step h1 h2)⟩
theorem u_read1 (h : SK w0 w D G B Dk.x1) : Calls Try.prog 18 #[.pointer (some ⟨D, 0, none⟩), .int .i64 0] w fun e w' => ∃ s, e = .returned (.tuple #[.string s, .int .i64 0]) ∧ Hid (s = ⟨([0, 97, 98, 99] ++ Dk.zs 124).toArray⟩) ∧ Hid (SK w0 w' D G B Dk.x1) := by
  refine (s_read1 w h.p).mono ?_
  rintro e w' ⟨rfl, h2⟩
  exact ⟨_, rfl, Lib.hid rfl, Lib.hid (h.kept0 h2)⟩
theorem u_image1 (h : SK w0 w D G B Dk.x1) : Calls Try.prog 24 #[.pointer (some ⟨D, 0, none⟩)] w fun e w' => ∃ a cap, e = .returned (.slice a 2 cap) ∧ Hid (RdS w' (InD D G B) 1 EStr (.slice a 2 cap) [Dk.zs 128, Dk.zs 128]) ∧ Hid (SK w0 w' D G B Dk.x1) := by
  refine (s_image1 w h.p).mono ?_
  rintro e w' ⟨a, cap, O, rfl, h1, h2, h3⟩
  exact ⟨a, cap, rfl, Lib.hid (h.lst h1 h2), Lib.hid (h.kept0 h3)⟩
theorem u_pending1 (h : SK w0 w D G B Dk.x1) : Calls Try.prog 25 #[.pointer (some ⟨D, 0, none⟩)] w fun e w' => ∃ a cap, e = .returned (.slice a 1 cap) ∧ Hid (RdS w' (InD D G B) 1 EInt (.slice a 1 cap) [0]) ∧ Hid (SK w0 w' D G B Dk.x1) ∧ Hid (Kept (InD D G B) w w') := by
  refine (s_pending1 w h.p).mono ?_
  rintro e w' ⟨a, cap, O, rfl, h1, h2, h3⟩
  exact ⟨a, cap, rfl, Lib.hid (h.lst h1 h2), Lib.hid (h.kept0 h3), Lib.hid h3.of_no⟩
theorem u_clone (h : SK w0 w D G B Dk.x1) : Calls Try.prog 28 #[.pointer (some ⟨D, 0, none⟩)] w fun e w' => ∃ D2 G2 B2, e = .returned (.pointer (some ⟨D2, 0, none⟩)) ∧ Hid (SC w0 w' D G B Dk.x1 D2 G2 B2 Dk.x1) ∧ Hid (Kept (InD D G B) w w') := by
  have hl := h.p.lt
  refine (clone_ok w h.p).mono ?_
  rintro e w' ⟨D2, G2, B2, rfl, h1, ⟨h2, h3, h4⟩, h5⟩
  exact ⟨D2, G2, B2, rfl, Lib.hid ⟨h.kept0 h5, h1, by unfold InD; omega, by unfold InD; omega, by unfold InD; omega⟩, Lib.hid h5.of_no⟩
variable {D2 G2 B2 : Nat}
theorem u_mount (g : Nat) (hb : w.heap[g]? = some (.cells #[.int .i64 3] 3 (0, 0))) (hg : ¬ InD D G B g) (h : SC w0 w D G B Dk.x1 D2 G2 B2 Dk.x1) : Calls Try.prog 22 #[.pointer (some ⟨D, 0, none⟩), .slice (some ⟨g, 0, none⟩) 1 1] w fun e w' => e = .returned (.tuple #[]) ∧ Hid (SC w0 w' D G B Dk.x2 D2 G2 B2 Dk.x1) ∧ Hid (Kept (InD D G B) w w') := by
  refine (s_mount w _ 1 h.s.p (rd_one (x := (3 : Int)) hb hg rfl rfl)).mono ?_
  rintro e w' ⟨rfl, h1, h2⟩
  exact ⟨rfl, Lib.hid (h.step h1 h2), Lib.hid h2⟩
theorem u_read2 (h : SC w0 w D G B Dk.x2 D2 G2 B2 Dk.x1) : Calls Try.prog 18 #[.pointer (some ⟨D, 0, none⟩), .int .i64 0] w fun e w' => ∃ s, e = .returned (.tuple #[.string s, .int .i64 0]) ∧ Hid (s = ⟨([0, 97, 98] ++ Dk.zs 125).toArray⟩) ∧ Hid (SC w0 w' D G B Dk.x2 D2 G2 B2 Dk.x1) ∧ Hid (Kept (InD D G B) w w') := by
  refine (s_read2 w h.s.p).mono ?_
  rintro e w' ⟨rfl, h2⟩
  exact ⟨_, rfl, Lib.hid rfl, Lib.hid (h.kept0 h2), Lib.hid h2.of_no⟩
theorem u_write3 (h : SC w0 w D G B Dk.x2 D2 G2 B2 Dk.x1) : Calls Try.prog 21 #[.pointer (some ⟨D, 0, none⟩), .int .i64 1, .int .i64 127, .string ⟨#[120]⟩] w fun e w' => e = .returned (.int .i64 0) ∧ Hid (SC w0 w' D G B Dk.x3 D2 G2 B2 Dk.x1) := by
  refine (s_write3 w h.s.p).mono ?_
  rintro e w' ⟨rfl, h1, h2⟩
  exact ⟨rfl, Lib.hid (h.step h1 h2)⟩
theorem u_flush4 (h : SC w0 w D G B Dk.x3 D2 G2 B2 Dk.x1) : Calls Try.prog 19 #[.pointer (some ⟨D, 0, none⟩)] w fun e w' => e = .returned (.int .i64 0) ∧ Hid (SC w0 w' D G B Dk.x4 D2 G2 B2 Dk.x1) := by
  refine (s_flush4 w h.s.p).mono ?_
  rintro e w' ⟨rfl, h1, h2⟩
  exact ⟨rfl, Lib.hid (h.step h1 h2)⟩
theorem u_rot5 (h : SC w0 w D G B Dk.x4 D2 G2 B2 Dk.x1) : Calls Try.prog 26 #[.pointer (some ⟨D, 0, none⟩), .int .i64 1, .int .i64 1016] w fun e w' => e = .returned (.int .i64 0) ∧ Hid (SC w0 w' D G B Dk.x5 D2 G2 B2 Dk.x1) := by
  refine (s_rot5 w h.s.p).mono ?_
  rintro e w' ⟨rfl, h1, h2⟩
  exact ⟨rfl, Lib.hid (h.step h1 h2)⟩
theorem u_read5 (h : SC w0 w D G B Dk.x5 D2 G2 B2 Dk.x1) : Calls Try.prog 18 #[.pointer (some ⟨D, 0, none⟩), .int .i64 1] w fun e w' => ∃ s, e = .returned (.tuple #[.string s, .int .i64 0]) ∧ Hid (s = ⟨(Dk.zs 127 ++ [121]).toArray⟩) ∧ Hid (SC w0 w' D G B Dk.x5 D2 G2 B2 Dk.x1) := by
  refine (s_read5 w h.s.p).mono ?_
  rintro e w' ⟨rfl, h2⟩
  exact ⟨_, rfl, Lib.hid rfl, Lib.hid (h.kept0 h2)⟩
theorem u_trip6 (h : SC w0 w D G B Dk.x5 D2 G2 B2 Dk.x1) : Calls Try.prog 17 #[.pointer (some ⟨D, 0, none⟩), .int .i64 1] w fun e w' => e = .returned (.tuple #[]) ∧ Hid (SC w0 w' D G B Dk.x6 D2 G2 B2 Dk.x1) := by
  refine (s_trip6 w h.s.p).mono ?_
  rintro e w' ⟨rfl, h1, h2⟩
  exact ⟨rfl, Lib.hid (h.step h1 h2)⟩
theorem u_write7 (h : SC w0 w D G B Dk.x6 D2 G2 B2 Dk.x1) : Calls Try.prog 21 #[.pointer (some ⟨D, 0, none⟩), .int .i64 0, .int .i64 0, .string ⟨#[]⟩] w fun e w' => e = .returned (.int .i64 0) ∧ Hid (SC w0 w' D G B Dk.x7 D2 G2 B2 Dk.x1) := by
  refine (s_write7 w h.s.p).mono ?_
  rintro e w' ⟨rfl, h1, h2⟩
  exact ⟨rfl, Lib.hid (h.step h1 h2)⟩
theorem u_flush8 (h : SC w0 w D G B Dk.x7 D2 G2 B2 Dk.x1) : Calls Try.prog 19 #[.pointer (some ⟨D, 0, none⟩)] w fun e w' => e = .returned (.int .i64 13) ∧ Hid (SC w0 w' D G B Dk.x8 D2 G2 B2 Dk.x1) := by
  refine (s_flush8 w h.s.p).mono ?_
  rintro e w' ⟨rfl, h1, h2⟩
  exact ⟨rfl, Lib.hid (h.step h1 h2)⟩
theorem u_read8 (h : SC w0 w D G B Dk.x8 D2 G2 B2 Dk.x1) : Calls Try.prog 18 #[.pointer (some ⟨D, 0, none⟩), .int .i64 0] w fun e w' => ∃ s, e = .returned (.tuple #[.string s, .int .i64 13]) ∧ Hid (SC w0 w' D G B Dk.x8 D2 G2 B2 Dk.x1) := by
  refine (s_read8 w h.s.p).mono ?_
  rintro e w' ⟨rfl, h2⟩
  exact ⟨_, rfl, Lib.hid (h.kept0 h2)⟩
theorem u_readc {s : ByteArray} (hs : s = ⟨([0, 97, 98, 99] ++ Dk.zs 124).toArray⟩) (h : SC w0 w D G B Dk.x2 D2 G2 B2 Dk.x1) : Calls Try.prog 18 #[.pointer (some ⟨D2, 0, none⟩), .int .i64 0] w fun e w' => e = .returned (.tuple #[.string s, .int .i64 0]) ∧ Hid (SC w0 w' D G B Dk.x2 D2 G2 B2 Dk.x1) := by
  refine (s_read1 w h.p2).mono ?_
  rintro e w' ⟨rfl, h2⟩
  exact ⟨by rw [hs]; rfl, Lib.hid (h.kept0 h2)⟩
theorem u_zeros127 {s : ByteArray} {d : Dk} (hs : s = ⟨(Dk.zs 127 ++ [121]).toArray⟩) (h : SC w0 w D G B d D2 G2 B2 Dk.x1) : Calls Try.prog 30 #[.int .i64 127] w fun e w' => ∃ z : ByteArray, e = .returned (.string z) ∧ s = z ++ ⟨#[121]⟩ ∧ z.size = 127 ∧ Hid (SC w0 w' D G B d D2 G2 B2 Dk.x1) := by
  refine (zeros_ok 127 (by decide) w).mono ?_
  rintro e w' ⟨rfl, k'⟩
  refine ⟨_, rfl, ?_, by decide +kernel, Lib.hid (h.kept0 k')⟩
  rw [hs]
  simp [Dk.zs]
  rfl
end
theorem z_124 {s : ByteArray} (hs : s = ⟨([0, 97, 98, 99] ++ Dk.zs 124).toArray⟩) {w8 : World} (wx : World) (k : Kept NoM w8 wx) : Calls Try.prog 30 #[.int .i64 124] wx fun e w' => ∃ z : ByteArray, e = .returned (.string z) ∧ s = ⟨#[0, 97, 98, 99]⟩ ++ z ∧ z.size = 124 ∧ Hid (Kept NoM w8 w') := by
  refine (zeros_ok 124 (by decide) wx).mono ?_
  rintro e w' ⟨rfl, k'⟩
  refine ⟨_, rfl, ?_, by decide +kernel, Lib.hid (k.trans k')⟩
  rw [hs]; rfl
theorem z_125 {s : ByteArray} (hs : s = ⟨([0, 97, 98] ++ Dk.zs 125).toArray⟩) {w8 : World} (wx : World) (k : Kept NoM w8 wx) : Calls Try.prog 30 #[.int .i64 125] wx fun e w' => ∃ z : ByteArray, e = .returned (.string z) ∧ s = ⟨#[0, 97, 98]⟩ ++ z ∧ z.size = 125 ∧ Hid (Kept NoM w8 w') := by
  refine (zeros_ok 125 (by decide) wx).mono ?_
  rintro e w' ⟨rfl, k'⟩
  refine ⟨_, rfl, ?_, by decide +kernel, Lib.hid (k.trans k')⟩
  rw [hs]; rfl
theorem z_128 {s : ByteArray} (hs : s = ⟨(Dk.zs 128).toArray⟩) {w8 : World} (wx : World) (k : Kept NoM w8 wx) : Calls Try.prog 30 #[.int .i64 128] wx fun e w' => e = .returned (.string s) ∧ Hid (Kept NoM w8 w') := by
  refine (zeros_ok 128 (by decide) wx).mono ?_
  rintro e w' ⟨rfl, k'⟩
  exact ⟨by rw [hs]; rfl, Lib.hid (k.trans k')⟩
theorem z_ints {M : Nat → Prop} {pa : Option Addr} {pcap : Nat} {w8 : World} (h : RdS w8 M 1 EInt (.slice pa 1 pcap) [0]) (wx : World) (k : Kept NoM w8 wx) :
    Calls Try.prog 27 #[.slice pa 1 pcap, .slice (some ⟨wx.heap.size, 0, none⟩) 1 1] (wx.alloc (.cells #[.int .i64 0] 3)) fun e w' => e = .returned (.bool true) ∧ Hid (Kept NoM w8 w') := by
  have k2 := k.alloc (.cells #[.int .i64 0] 3)
  refine (sameints_ok _ _ [0] _ ((h.mono (M' := NoM) (fun _ _ x => x.elim) (by omega) (fun _ _ x => x)).kept k2 (fun _ _ x => x)) (rd_one (x := (0 : Int)) (blk_new wx _) (fun x => x) rfl rfl) (by decide)).mono ?_
  rintro e w' ⟨rfl, n, rfl⟩
  exact ⟨rfl, Lib.hid (k2.drewN n)⟩
theorem sanity_ok (w : World) : Calls Try.prog 10 #[] w fun e w' => e = .returned (.bool true) ∧ Kept NoM w w' := by
  go_enter Try.func10, Try.ntmps10
  go_wp2_with fail
  refine (u_new _).mono ?_
  rintro e w1 ⟨D, G, B, rfl, S1⟩
  go_wp2_with fail
  refine (s_new0 _).mono ?_
  rintro e w1' ⟨rfl, rfl⟩
  go_wp2_with fail
  refine (u_write1 _ _ S1.out).mono ?_
  rintro e w2 ⟨rfl, S2⟩
  clear S1
  go_wp2_with fail
  refine (u_read1 _ _ S2.out).mono ?_
  rintro e w3 ⟨s3, rfl, Z3, S3⟩
  clear S2
  go_wp2_with fail
  refine (u_image1 _ _ S3.out).mono ?_
  rintro e w4 ⟨ia, icap, rfl, IM4, S4⟩
  clear S3
  go_wp2_with fail
  refine (u_pending1 _ _ S4.out).mono ?_
  rintro e w5 ⟨pa, pcap, rfl, PE5, S5, K5⟩
  have IM5 := Lib.hid (IM4.out.kept K5.out (fun _ _ x => x))
  clear S4 IM4 K5
  go_wp2_with fail
  refine (u_clone _ _ S5.out).mono ?_
  rintro e w6 ⟨D2, G2, B2, rfl, S6, K6⟩
  have IM6 := Lib.hid (IM5.out.kept K6.out (fun _ _ x => x))
  have PE6 := Lib.hid (PE5.out.kept K6.out (fun _ _ x => x))
  clear S5 IM5 PE5 K6
  go_wp2_with fail
  have kb : Kept NoM w6 (w6.alloc (.cells #[.int .i64 3] 3)) := (Kept.refl NoM w6).alloc _
  have hb := blk_new w6 (.cells #[.int .i64 3] 3)
  have hgb : ¬ InD D G B w6.heap.size := by have := S6.out.s.p.lt; unfold InD; omega
  have S6' := Lib.hid (S6.out.kept0 kb)
  have IM6' := Lib.hid (IM6.out.kept kb.of_no (fun _ _ x => x))
  have PE6' := Lib.hid (PE6.out.kept kb.of_no (fun _ _ x => x))
  clear S6 IM6 PE6 kb
  generalize hw6 : w6.alloc (.cells #[.int .i64 3] 3) = w6a at *
  clear hw6
  generalize w6.heap.size = g6 at *
  refine (u_mount _ _ g6 hb hgb S6'.out).mono ?_
  rintro e w7 ⟨rfl, S7, K7⟩
  have IM7 := Lib.hid (IM6'.out.kept K7.out (fun _ _ x => x))
  have PE7 := Lib.hid (PE6'.out.kept K7.out (fun _ _ x => x))
  clear S6' IM6' PE6' K7 hb hgb
  go_wp2_with fail
  refine (u_read2 _ _ S7.out).mono ?_
  rintro e w8 ⟨s8, rfl, Z8, S8, K8⟩
  have IM8 := Lib.hid (IM7.out.kept K8.out (fun _ _ x => x))
  have PE8 := Lib.hid (PE7.out.kept K8.out (fun _ _ x => x))
  clear S7 IM7 PE7 K8
  go_wp2_with fail
  obtain ⟨ib, io, rfl, _, cs, rfl, _, ic⟩ := (IM8.out).at (i := 0) rfl
  have ic0 := ic 0 _ rfl
  simp only [Nat.zero_mul, Nat.add_zero] at ic0
  unfold strV at ic0
  obtain ⟨t0, ht0⟩ : ∃ t : ByteArray, t = ⟨(Dk.zs 128).toArray⟩ := ⟨_, rfl⟩
  rw [← ht0] at ic0
  have HT0 := Lib.hid ht0
  clear ht0 ic
  have CELL := Lib.hid (fun w' (k : Kept NoM w8 w') => k.cell ic0 (fun x => x))
  have Z124 := Lib.hid (fun wx (k : Kept NoM w8 wx) => z_124 Z3.out wx k)
  have Z125 := Lib.hid (fun wx (k : Kept NoM w8 wx) => z_125 Z8.out wx k)
  have Z128 := Lib.hid (fun wx (k : Kept NoM w8 wx) => z_128 HT0.out wx k)
  have SI := Lib.hid (fun wx (k : Kept NoM w8 wx) => z_ints PE8.out wx k)
  clear PE8 IM8
  go_region_held3 (fun w' => w'.cell? ⟨ib, io, none⟩ = some (.string t0)) (first | exact CELL.out _ ((Kept.refl NoM w8).drew) | exact CELL.out _ ka.out | exact CELL.out _ kb.out | exact CELL.out _ kc.out | exact CELL.out _ kd.out | exact CELL.out _ (kb.out.alloc _)) (first | (go_at_call 30; refine (Z124.out _ ((Kept.refl NoM w8).drew)).mono ?_; rintro e wa ⟨za, rfl, rfl, hza, ka⟩) | (go_at_call 30; refine (Z128.out _ ka.out).mono ?_; rintro e wb ⟨rfl, kb⟩) | (go_at_call 27; refine (SI.out _ kb.out).mono ?_; rintro e wc ⟨rfl, kc⟩) | (go_at_call 30; refine (Z125.out _ kc.out).mono ?_; rintro e wd ⟨zd, rfl, rfl, hzd, kd⟩))
  have T8 := Lib.hid (S8.out.kept0 kd.out)
  clear S8 CELL Z124 Z125 Z128 SI ka kb kc kd ic0 HT0 hzd Z8
  go_wp2_with fail
  refine (u_readc _ _ Z3.out T8.out).mono ?_
  rintro e w9 ⟨rfl, T9⟩
  clear T8
  generalize (⟨#[0, 97, 98, 99]⟩ ++ za : ByteArray) = s3 at *
  generalize (⟨#[0, 97, 98]⟩ ++ zd : ByteArray) = s8 at *
  clear Z3 hza
  go_wp2_with fail
  refine (u_write3 _ _ T9.out).mono ?_
  rintro e w10 ⟨rfl, T10⟩
  clear T9
  go_wp2_with fail
  refine (u_flush4 _ _ T10.out).mono ?_
  rintro e w11 ⟨rfl, T11⟩
  clear T10
  go_wp2_with fail
  refine (u_rot5 _ _ T11.out).mono ?_
  rintro e w12 ⟨rfl, T12⟩
  clear T11
  go_wp2_with fail
  refine (u_read5 _ _ T12.out).mono ?_
  rintro e w13 ⟨s13, rfl, Z13, T13⟩
  clear T12
  go_wp2_with fail
  refine (u_trip6 _ _ T13.out).mono ?_
  rintro e w14 ⟨rfl, T14⟩
  clear T13
  go_wp2_with fail
  refine (u_write7 _ _ T14.out).mono ?_
  rintro e w15 ⟨rfl, T15⟩
  clear T14
  go_wp2_with fail
  refine (u_flush8 _ _ T15.out).mono ?_
  rintro e w16 ⟨rfl, T16⟩
  clear T15
  go_wp2_with fail
  refine (u_read8 _ _ T16.out).mono ?_
  rintro e w17 ⟨s17, rfl, T17⟩
  clear T16
  go_wp2_with fail
  refine (u_zeros127 _ _ Z13.out T17.out).mono ?_
  rintro e w18 ⟨z, rfl, rfl, hz, T18⟩
  clear T17
  go_wp2_with fail
  refine (s_up8 _ T18.out.s.p).mono ?_
  rintro e w18' ⟨rfl, rfl⟩
  go_wp2_with fail
  refine (s_len8 _ T18.out.s.p).mono ?_
  rintro e w18' ⟨rfl, rfl⟩
  go_wp2_with fail
  refine (s_rot9 _ T18.out.s.p).mono ?_
  rintro e w19 ⟨rfl, h19, k19⟩
  have T19 := T18.out.s.step h19 k19
  clear h19 k19
  go_wp2_with fail
  go_ret
  exact ⟨rfl, T19.k⟩
end Go.Proofs.Ytohijdopmokkgaa
