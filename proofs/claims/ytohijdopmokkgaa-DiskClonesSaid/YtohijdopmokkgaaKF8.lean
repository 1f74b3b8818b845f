/- Walks: the law of clones. -/
import Derived.Test.YtohijdopmokkgaaKF0
set_option linter.unusedVariables false
set_option linter.unusedSimpArgs false
set_option linter.unusedSectionVars false
namespace Go.Proofs.Ytohijdopmokkgaa
open Go.RowKit
set_option maxHeartbeats 4000000
set_option maxRecDepth 4000
theorem f8_out (n : Int) (h1 : 40 < n) (v v2 : Value) (w : World) : Calls Try.prog 8 #[.int .i64 n, v, v2] w fun e w' => e = .returned (.bool true) ∧ Kept NoM w w' := by
  go_enter Try.func8, Try.ntmps8
  go_wp2_with (first | (go_at_call 10; refine (sanity_ok _).mono ?_; rintro e w1 ⟨rfl, k1⟩))
  go_ret
  exact ⟨rfl, k1⟩
theorem f8_long (n : Int) (h1 : ¬ 40 < n) (v v2 : Value) (l : List Op) (w : World) (h : RdOps w v l) (hf : fewB l = false) : Calls Try.prog 8 #[.int .i64 n, v, v2] w fun e w' => e = .returned (.bool true) ∧ Kept NoM w w' := by
  have HH := Lib.hid h
  clear h
  go_enter Try.func8, Try.ntmps8
  go_wp2_with (first | (go_at_call 9; refine (few_ok _ _ _ HH.out).mono ?_; rw [hf]; rintro e w0 ⟨rfl, k0⟩) | (go_at_call 10; refine (sanity_ok _).mono ?_; rintro e w1 ⟨rfl, k1⟩))
  go_ret
  exact ⟨rfl, k0.trans k1⟩
theorem f8_many (n : Int) (h1 : ¬ 40 < n) (v v2 : Value) (l l2 : List Op) (w : World) (h : RdOps w v l) (h2 : RdOps w v2 l2) (hf : fewB l = true) (hf2 : fewB l2 = false) : Calls Try.prog 8 #[.int .i64 n, v, v2] w fun e w' => e = .returned (.bool true) ∧ Kept NoM w w' := by
  have HH := Lib.hid h
  have HH2 := Lib.hid h2
  have HF := Lib.hid (few_ok _ _ _ h)
  rw [hf] at HF
  clear h h2
  go_enter Try.func8, Try.ntmps8
  go_wp2_with fail
  refine HF.out.mono ?_
  rintro e w0 ⟨rfl, k0⟩
  go_wp2_with fail
  refine (few_ok _ _ _ (HH2.out.kept k0)).mono ?_
  rw [hf2]
  rintro e w0' ⟨rfl, k0'⟩
  go_wp2_with (first | (go_at_call 10; refine (sanity_ok _).mono ?_; rintro e w1 ⟨rfl, k1⟩))
  go_ret
  exact ⟨rfl, (k0.trans k0').trans k1⟩
theorem f8_bad (n : Int) (hn : n < 1) (v v2 : Value) (l l2 : List Op) (w : World) (h : RdOps w v l) (h2 : RdOps w v2 l2) (hf : fewB l = true) (hf2 : fewB l2 = true) : Calls Try.prog 8 #[.int .i64 n, v, v2] w fun e w' => e = .returned (.bool true) ∧ Kept NoM w w' := by
  have HH2 := Lib.hid h2
  have HF := Lib.hid (few_ok _ _ _ h)
  rw [hf] at HF
  have hb := fun w => played_bad n (.inl hn) v w
  have g1 : ¬ (40 : Int) < n := by omega
  clear h h2
  go_enter Try.func8, Try.ntmps8
  go_wp2_with fail
  refine HF.out.mono ?_
  rintro e w0 ⟨rfl, k0⟩
  go_wp2_with fail
  refine (few_ok _ _ _ (HH2.out.kept k0)).mono ?_
  rw [hf2]
  rintro e w0' ⟨rfl, k0'⟩
  go_wp2_with (first | (go_at_call 16; refine (hb _).mono ?_; rintro e w1 ⟨rfl, rfl⟩) | (go_at_call 10; refine (sanity_ok _).mono ?_; rintro e w1 ⟨rfl, k1⟩))
  go_ret
  exact ⟨rfl, (k0.trans k0').trans k1⟩
/-- two pairs of disks that share no block -/
structure Four (w0 w : World) (D G B R Q : Nat) (d : Dk) (D2 G2 B2 R2 Q2 : Nat) (d2 : Dk) : Prop where
  a : Both w0 w D G B R Q d
  b : Both w0 w D2 G2 B2 R2 Q2 d2
  sep : ∀ i, (InD D G B i ∨ InS R Q i) → (InD D2 G2 B2 i ∨ InS R2 Q2 i) → False
theorem Four.symm {w0 w : World} {D G B R Q : Nat} {d : Dk} {D2 G2 B2 R2 Q2 : Nat} {d2 : Dk} (h : Four w0 w D G B R Q d D2 G2 B2 R2 Q2 d2) : Four w0 w D2 G2 B2 R2 Q2 d2 D G B R Q d := ⟨h.b, h.a, fun i x y => h.sep i y x⟩
theorem Four.kept0 {w0 w w' : World} {D G B R Q : Nat} {d : Dk} {D2 G2 B2 R2 Q2 : Nat} {d2 : Dk} (h : Four w0 w D G B R Q d D2 G2 B2 R2 Q2 d2) (k : Kept NoM w w') : Four w0 w' D G B R Q d D2 G2 B2 R2 Q2 d2 := ⟨h.a.kept0 k, h.b.kept0 k, h.sep⟩
theorem Both.far {w0 w w' : World} {M : Nat → Prop} {D G B R Q : Nat} {d : Dk} (h : Both w0 w D G B R Q d) (k : Kept M w w') (hm : ∀ i, InD D G B i ∨ InS R Q i → ¬ M i) (k0 : Kept NoM w0 w') : Both w0 w' D G B R Q d := by
  obtain ⟨hp, hs, l, ls, sep, _⟩ := h
  refine ⟨hp.kept k (hm _ ?_) (hm _ ?_) (hm _ ?_), hs.kept k (hm _ ?_) (hm _ ?_), l, ls, sep, k0⟩ <;> simp [InD, InS]
theorem Four.playA {w0 w w1 w2 : World} {D G B R Q : Nat} {d d' : Dk} {D2 G2 B2 R2 Q2 : Nat} {d2 : Dk} (h : Four w0 w D G B R Q d D2 G2 B2 R2 Q2 d2) (hp : PD w1 D G B d') (k1 : Kept (InD D G B) w w1) (hs : SD w2 R Q d') (k2 : Kept (InS R Q) w1 w2) : Four w0 w2 D G B R Q d' D2 G2 B2 R2 Q2 d2 := by
  have ha := h.a.playD hp k1 hs k2
  have hb1 := h.b.far k1 (fun i x y => h.sep i (.inl y) x) (h.a.kD k1)
  exact ⟨ha, hb1.far k2 (fun i x y => h.sep i (.inr y) x) ha.k, h.sep⟩
theorem f8_goes (n : Nat) (h1 : 1 ≤ n) (h2 : n ≤ 40) (v v2 : Value) (l m : List Op) (w : World) (h : RdOps w v l) (hm : RdOps w v2 m) (hf : fewB l = true) (hf2 : fewB m = true) : Calls Try.prog 8 #[.int .i64 n, v, v2] w fun e w' => e = .returned (.bool true) ∧ Kept NoM w w' := by
  obtain ⟨hsm, hll⟩ := fewB_all hf
  obtain ⟨hsm2, hll2⟩ := fewB_all hf2
  have HF := Lib.hid (few_ok _ _ _ h)
  rw [hf] at HF
  have HH := Lib.hid h
  obtain ⟨a, cap, rfl, hcap, hmx⟩ := RdS.shape hm
  unfold maxLen at hmx
  have HH2 := Lib.hid hm
  have g1 : ¬ (40 : Int) < n := by omega
  have hpl := fun w h => played_ok n h1 (by omega) v l w h hsm
  generalize (Dk.new n).plays l = dd at hpl
  have HPL := Lib.hid hpl
  clear h hm hpl
  go_enter Try.func8, Try.ntmps8
  go_wp2_with fail
  refine HF.out.mono ?_
  rintro e w0 ⟨rfl, k0⟩
  have K0 := Lib.hid k0
  clear k0
  go_wp2_with fail
  refine (few_ok _ _ _ (HH2.out.kept K0.out)).mono ?_
  rw [hf2]
  rintro e w0' ⟨rfl, k0'⟩
  have K0' := Lib.hid (K0.out.trans k0')
  clear k0'
  go_wp2_with fail
  refine (HPL.out _ (HH.out.kept K0'.out)).mono ?_
  rintro e w1 ⟨D, G, B, R, Q, rfl, hb⟩
  have B1 := Lib.hid (hb.pre K0'.out)
  clear hb
  go_wp2_with fail
  refine (clone_ok _ B1.out.p).mono ?_
  rintro e w2 ⟨D2, G2, B2, rfl, p2, l2, k2⟩
  have P2 := Lib.hid p2
  have L2 := Lib.hid l2
  have K2 := Lib.hid k2
  clear p2 l2 k2
  have HB2 := Lib.hid (B1.out.kept0 K2.out)
  go_wp2_with fail
  refine (same_ok _ P2.out HB2.out.s).mono ?_
  rintro e w3 ⟨rfl, k3⟩
  have HB3 := Lib.hid (HB2.out.kept0 k3)
  have K3 := Lib.hid k3
  clear k3
  go_wp2_with fail
  refine (rclone_ok _ HB3.out.s).mono ?_
  rintro e w4 ⟨R2, Q2, rfl, s4, l4, k4⟩
  have F4 : Hid (Four w w4 D G B R Q dd D2 G2 B2 R2 Q2 dd) := Lib.hid (by
    obtain ⟨x1, x2, x3⟩ := L2.out
    obtain ⟨x4, x5⟩ := l4
    obtain ⟨y1, y2, y3⟩ := B1.out.p.lt
    have y4 := B1.out.s.lt
    have z1 := K2.out.size
    have z2 := K3.out.size
    have z3 := B1.out.k.size
    refine ⟨HB3.out.kept0 k4, Both.start P2.out ⟨by omega, by omega, by omega⟩ (B1.out.k.trans K2.out) s4 ⟨by omega, by omega⟩ (K3.out.trans k4), fun i hi hj => ?_⟩
    unfold InD InS at hi hj
    omega)
  clear HB2 HB3 P2 L2 K2 K3 B1 s4 l4 k4
  go_wp2_with fail
  go_loopw [61] (fun i wr => ∃ k : Nat, k ≤ m.length ∧ i = .int .i64 k ∧ Four w wr D G B R Q (dd.plays (m.take k)) D2 G2 B2 R2 Q2 dd) (fun i _ => m.length - (intOf i).toNat)
  case atStart => exact ⟨0, Nat.zero_le _, rfl, F4.out⟩
  case round =>
    obtain ⟨k, hk, rfl, hB⟩ := hrel
    have HK := Lib.hid hB
    clear hB
    by_cases hlt : k < m.length
    · have hki : (k : Int) < m.length := by omega
      obtain ⟨x, hx⟩ := getAt hlt
      obtain ⟨hf1, hf2⟩ := hsm2 x (List.mem_of_getElem? hx)
      obtain ⟨b, off, e1, _, cs, ⟨pa, pc, rfl, hrd, hxi⟩, _, hc⟩ := HH2.out.at hx
      subst e1
      have x0 := HK.out.a.k.cell (hc 0 _ rfl) (fun x => x)
      have x1 := HK.out.a.k.cell (hc 1 _ rfl) (fun x => x)
      have x2 := HK.out.a.k.cell (hc 2 _ rfl) (fun x => x)
      have x3 := HK.out.a.k.cell (hc 3 _ rfl) (fun x => x)
      have x4 := HK.out.a.k.cell (hc 4 _ rfl) (fun x => x)
      simp only [Nat.add_zero] at x0
      unfold strV at x3
      have HRD := Lib.hid hrd
      have HPT := Lib.hid (Dk.plays_take (d := dd) hx)
      clear hc hrd hx hlt
      generalize dd.plays (m.take k) = dk at HK HPT
      go_wp2_with fail
      have HA := Lib.hid (HK.out.kept0 ((Kept.refl NoM _).alloc (.cells #[.int .i64 x.kind, .int .i64 x.i, .int .i64 x.k, strV x.text, .slice pa x.picks.length pc] 34)))
      have hblk := blk_new wr (.cells #[.int .i64 x.kind, .int .i64 x.i, .int .i64 x.k, strV x.text, .slice pa x.picks.length pc] 34)
      unfold strV at HA hblk
      generalize hwa : wr.alloc _ = wa at HA hblk ⊢
      have hnb : ¬ InD D G B wr.heap.size := HK.out.a.lts 0
      refine (do_ok x pa pc hf1 hf2 hxi D G B wa HA.out.a.p (HA.out.a.picksD HRD.out)).mono ?_
      rintro e w5 ⟨rfl, hp5, k5⟩
      have hb5 := k5.blk hblk hnb
      have y0 := cell_blk hb5 0 _ rfl
      have y1 := cell_blk hb5 1 _ rfl
      have y2 := cell_blk hb5 2 _ rfl
      have y3 := cell_blk hb5 3 _ rfl
      have y4 := cell_blk hb5 4 _ rfl
      have HS5 := Lib.hid (HA.out.a.spec k5)
      have HQ5 := Lib.hid (HA.out.a.picksS k5 HRD.out)
      have HP5 := Lib.hid hp5
      have K5 := Lib.hid k5
      clear hp5 k5 hblk hb5
      go_wp2_with (go_at_call 14; refine (rdo_ok x pa pc hf1 hf2 hxi R Q _ HS5.out HQ5.out).mono ?_; rintro e w6 ⟨rfl, hs6, k6⟩; have HF6 := Lib.hid (HA.out.playA HP5.out K5.out hs6 k6); clear hs6 k6)
      go_roundw
      case rel => exact ⟨k + 1, by omega, by go_num, by rw [HPT.out]; exact HF6.out⟩
      case measure => simp [intOf]; omega
    · obtain rfl : k = m.length := by omega
      have f1 := decide_eq_false (show ¬ ((m.length : Nat) : Int) < m.length by omega)
      have f2 := decide_eq_false (show ¬ m.length < m.length by omega)
      rw [List.take_length] at HK
      clear hlt hk F4
      go_wp2_with fail
      refine (same_ok _ HK.out.b.p HK.out.b.s).mono ?_
      rintro e w5 ⟨rfl, k5⟩
      have H5 := Lib.hid (HK.out.kept0 k5)
      clear k5 HK
      go_wp2_with fail
      refine (same_ok _ H5.out.a.p H5.out.a.s).mono ?_
      rintro e w6 ⟨rfl, k6⟩
      have H6 := Lib.hid (H5.out.kept0 k6).symm
      clear k6 H5
      go_wp2_with fail
      go_loopw [84] (fun i wr => ∃ k : Nat, k ≤ m.length ∧ i = .int .i64 k ∧ Four w wr D2 G2 B2 R2 Q2 (dd.plays (m.take k)) D G B R Q (dd.plays m)) (fun i _ => m.length - (intOf i).toNat)
      case atStart => exact ⟨0, Nat.zero_le _, rfl, H6.out⟩
      case round =>
        obtain ⟨k, hk, rfl, hB⟩ := hrel
        have HK := Lib.hid hB
        clear hB
        by_cases hlt : k < m.length
        · have hki : (k : Int) < m.length := by omega
          obtain ⟨x, hx⟩ := getAt hlt
          obtain ⟨hf1, hf2⟩ := hsm2 x (List.mem_of_getElem? hx)
          obtain ⟨b, off, e1, _, cs, ⟨pa, pc, rfl, hrd, hxi⟩, _, hc⟩ := HH2.out.at hx
          subst e1
          have x0 := HK.out.a.k.cell (hc 0 _ rfl) (fun x => x)
          have x1 := HK.out.a.k.cell (hc 1 _ rfl) (fun x => x)
          have x2 := HK.out.a.k.cell (hc 2 _ rfl) (fun x => x)
          have x3 := HK.out.a.k.cell (hc 3 _ rfl) (fun x => x)
          have x4 := HK.out.a.k.cell (hc 4 _ rfl) (fun x => x)
          simp only [Nat.add_zero] at x0
          unfold strV at x3
          have HRD := Lib.hid hrd
          have HPT := Lib.hid (Dk.plays_take (d := dd) hx)
          clear hc hrd hx hlt
          generalize dd.plays (m.take k) = dk at HK HPT
          go_wp2_with fail
          have HA := Lib.hid (HK.out.kept0 ((Kept.refl NoM _).alloc (.cells #[.int .i64 x.kind, .int .i64 x.i, .int .i64 x.k, strV x.text, .slice pa x.picks.length pc] 34)))
          have hblk := blk_new wr (.cells #[.int .i64 x.kind, .int .i64 x.i, .int .i64 x.k, strV x.text, .slice pa x.picks.length pc] 34)
          unfold strV at HA hblk
          generalize hwa : wr.alloc _ = wa at HA hblk ⊢
          have hnb : ¬ InD D2 G2 B2 wr.heap.size := HK.out.a.lts 0
          have hdo := do_ok x pa pc hf1 hf2 hxi D2 G2 B2 wa HA.out.a.p (HA.out.a.picksD HRD.out)
          have hrdo := fun w => rdo_ok x pa pc hf1 hf2 hxi R2 Q2 (d := dk) w
          unfold strV at hdo hrdo
          generalize (dk.doS x).toArray = sS at hdo hrdo
          generalize dk.doE x = sE at hdo hrdo
          have HRDO := Lib.hid hrdo
          clear hrdo
          refine hdo.mono ?_
          rintro e w7 ⟨rfl, hp7, k7⟩
          have hb7 := k7.blk hblk hnb
          have y0 := cell_blk hb7 0 _ rfl
          have y1 := cell_blk hb7 1 _ rfl
          have y2 := cell_blk hb7 2 _ rfl
          have y3 := cell_blk hb7 3 _ rfl
          have y4 := cell_blk hb7 4 _ rfl
          have HS7 := Lib.hid (HA.out.a.spec k7)
          have HQ7 := Lib.hid (HA.out.a.picksS k7 HRD.out)
          have HP7 := Lib.hid hp7
          have K7 := Lib.hid k7
          clear hp7 k7 hblk hb7 hdo
          go_wp2_with (go_at_call 14; refine (HRDO.out _ HS7.out HQ7.out).mono ?_; rintro e w8 ⟨rfl, hs8, k8⟩; have HF8 := Lib.hid (HA.out.playA HP7.out K7.out hs8 k8); clear hs8 k8)
          go_roundw
          case rel => exact ⟨k + 1, by omega, by go_num, by rw [HPT.out]; exact HF8.out⟩
          case measure => simp [intOf]; omega
        · obtain rfl : k = m.length := by omega
          rw [List.take_length] at HK
          clear hlt hk H6
          go_wp2_with fail
          refine (sanity_ok _).mono ?_
          rintro e w7 ⟨rfl, k7⟩
          have H7 := Lib.hid (HK.out.kept0 k7)
          clear k7 HK
          go_wp2_with fail
          refine (same_ok _ H7.out.a.p H7.out.a.s).mono ?_
          rintro e w8 ⟨rfl, k8⟩
          have H8 := Lib.hid (H7.out.kept0 k8)
          clear k8 H7
          go_wp2_with fail
          refine (same_ok _ H8.out.b.p H8.out.b.s).mono ?_
          rintro e w9 ⟨rfl, k9⟩
          have H9 := Lib.hid (H8.out.kept0 k9)
          clear k9 H8
          go_wp2_with fail
          go_ret
          exact ⟨rfl, H9.out.a.k⟩
theorem clones_ok (n : Int) (v v2 : Value) (l m : List Op) (w : World) (h : RdOps w v l) (hm : RdOps w v2 m) : Calls Try.prog 8 #[.int .i64 n, v, v2] w fun e w' => e = .returned (.bool true) ∧ Kept NoM w w' := by
  by_cases h0 : 40 < n
  · exact f8_out n h0 v v2 w
  · cases hf : fewB l with
    | false => exact f8_long n h0 v v2 l w h hf
    | true =>
      cases hf2 : fewB m with
      | false => exact f8_many n h0 v v2 l m w h hm hf hf2
      | true =>
        by_cases h1 : n < 1
        · exact f8_bad n h1 v v2 l m w h hm hf hf2
        · obtain ⟨q, rfl⟩ := Int.eq_ofNat_of_zero_le (show 0 ≤ n by omega)
          exact f8_goes q (by omega) (by omega) v v2 l m w h hm hf hf2
end Go.Proofs.Ytohijdopmokkgaa
