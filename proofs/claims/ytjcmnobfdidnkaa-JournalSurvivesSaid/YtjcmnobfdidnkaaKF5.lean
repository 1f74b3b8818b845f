/- The walk of JournalSurvives. -/
import Derived.Test.YtjcmnobfdidnkaaKL6
set_option linter.unusedVariables false
set_option linter.unusedSimpArgs false
set_option linter.unusedSectionVars false
namespace Go.Proofs.Ytjcmnobfdidnkaa
open Go.RowKit
set_option maxHeartbeats 4000000
set_option maxRecDepth 8000
theorem surv_ok (n : Int) (v : Value) (l : List Jo) (o : Jo) (y0 y1 y2 : Int) (q0 q1 q2 : List Int) (a0 a1 a2 : Option Addr) (c0 c1 c2 : Nat) (w : World) (hv : RdS w NoM 4 EJo v l) (hy : (0 ≤ y0 ∧ y0 ≤ 255) ∧ (0 ≤ y1 ∧ y1 ≤ 255) ∧ (0 ≤ y2 ∧ y2 ≤ 255))
    (hq0 : RdS w NoM 1 EInt (.slice a0 q0.length c0) q0) (hq1 : RdS w NoM 1 EInt (.slice a1 q1.length c1) q1) (hq2 : RdS w NoM 1 EInt (.slice a2 q2.length c2) q2) :
    Calls Try.prog 5 #[.int .i64 n, v, .agg (joC o), .agg #[.int .u8 y0, .int .u8 y1, .int .u8 y2], .agg #[.slice a0 q0.length c0, .slice a1 q1.length c1, .slice a2 q2.length c2]] w fun e w' => e = .returned (.bool true) ∧ Kept NoM w w' := by
  obtain ⟨va, vc, rfl, _, _⟩ := hv.shape
  have SN := Lib.hid sanity_ok
  obtain ⟨W1, hW1⟩ : ∃ W, w.alloc (.cells (joC o) 38) = W := ⟨_, rfl⟩
  obtain ⟨W2, hW2⟩ : ∃ W, W1.alloc (.cells #[.int .u8 y0, .int .u8 y1, .int .u8 y2] 59) = W := ⟨_, rfl⟩
  obtain ⟨W0, hW0⟩ : ∃ W, W2.alloc (.cells #[.slice a0 q0.length c0, .slice a1 q1.length c1, .slice a2 q2.length c2] 61) = W := ⟨_, rfl⟩
  have k1 : Kept NoM w W1 := by rw [← hW1]; exact (Kept.refl _ _).alloc _
  have k2 : Kept NoM W1 W2 := by rw [← hW2]; exact (Kept.refl _ _).alloc _
  have k3 : Kept NoM W2 W0 := by rw [← hW0]; exact (Kept.refl _ _).alloc _
  have hb0 : W0.heap[w.heap.size]? = some (.cells (joC o) 38 (0, 0)) := (k2.trans k3).blk (by rw [← hW1]; exact blk_new _ _) (fun x => x)
  have hb1 : W0.heap[W1.heap.size]? = some (.cells #[.int .u8 y0, .int .u8 y1, .int .u8 y2] 59 (0, 0)) := k3.blk (by rw [← hW2]; exact blk_new _ _) (fun x => x)
  have hb2 : W0.heap[W2.heap.size]? = some (.cells #[.slice a0 q0.length c0, .slice a1 q1.length c1, .slice a2 q2.length c2] 61 (0, 0)) := by rw [← hW0]; exact blk_new _ _
  have K0 : Hid (Kept NoM w W0) := Lib.hid (k1.trans (k2.trans k3))
  have old : ∀ {α : Type} {sz : Nat} {E : List Value → α → Prop} {v : Value} {xs : List α}, 0 < sz → RdS w NoM sz E v xs → ∀ wx, Kept (fun i => W0.heap.size ≤ i) W0 wx → RdS wx (fun i => W0.heap.size ≤ i) sz E v xs := fun hs h wx kx => ((h.kept K0.out (fun _ _ x => x)).away hs (fun i hi x => absurd hi (by omega))).kept kx (fun _ _ x => x)
  have HV := Lib.hid (hv.kept K0.out (fun _ _ x => x))
  have HQ0 := Lib.hid (old (by omega) hq0)
  have HQ1 := Lib.hid (old (by omega) hq1)
  have HQ2 := Lib.hid (old (by omega) hq2)
  have FW := Lib.hid (rfew_ok _ l W0 HV.out)
  obtain ⟨b, hbw⟩ : ∃ b, w.heap.size = b := ⟨_, rfl⟩
  obtain ⟨b1, hb1w⟩ : ∃ b, W1.heap.size = b := ⟨_, rfl⟩
  obtain ⟨b2, hb2w⟩ : ∃ b, W2.heap.size = b := ⟨_, rfl⟩
  rw [hbw] at hb0
  rw [hb1w] at hb1
  rw [hb2w] at hb2
  have XC : Hid (∀ wx, Kept NoM W0 wx → wx.cell? ⟨b, 0, none⟩ = some (.int .i64 o.kind) ∧ wx.cell? ⟨b, 1, none⟩ = some (.int .i64 o.n) ∧ wx.cell? ⟨b, 2, none⟩ = some (.int .i64 o.k) ∧ wx.cell? ⟨b, 3, none⟩ = some (.int .u8 o.fill.toNat)) := Lib.hid (fun wx k => by
    have q := k.blk hb0 (fun x => x)
    exact ⟨cell_blk q 0 _ rfl, cell_blk q 1 _ rfl, cell_blk q 2 _ rfl, cell_blk q 3 _ rfl⟩)
  have YC : Hid (∀ wx, Kept NoM W0 wx → wx.cell? ⟨b1, 0, none⟩ = some (.int .u8 y0) ∧ wx.cell? ⟨b1, 1, none⟩ = some (.int .u8 y1) ∧ wx.cell? ⟨b1, 2, none⟩ = some (.int .u8 y2)) := Lib.hid (fun wx k => by
    have q := k.blk hb1 (fun x => x)
    exact ⟨cell_blk q 0 _ rfl, cell_blk q 1 _ rfl, cell_blk q 2 _ rfl⟩)
  have ZC : Hid (∀ wx, Kept NoM W0 wx → wx.cell? ⟨b2, 0, none⟩ = some (.slice a0 q0.length c0) ∧ wx.cell? ⟨b2, 1, none⟩ = some (.slice a1 q1.length c1) ∧ wx.cell? ⟨b2, 2, none⟩ = some (.slice a2 q2.length c2)) := Lib.hid (fun wx k => by
    have q := k.blk hb2 (fun x => x)
    exact ⟨cell_blk q 0 _ rfl, cell_blk q 1 _ rfl, cell_blk q 2 _ rfl⟩)
  have F1 : Hid (∀ wx, Calls Try.prog 8 #[.slice (some ⟨wx.heap.size, 0, none⟩) 1 1] (wx.alloc (.cells (joC o) 38)) fun e w' => e = .returned (.bool (fewJo o)) ∧ Kept NoM wx w') := Lib.hid (fun wx => (rfew_ok _ [o] _ (rdOneJ (blk_new wx _))).mono fun e w' ⟨q1, q2⟩ => ⟨by rw [q1, few_one], ((Kept.refl _ _).alloc _).trans q2⟩)
  have HY := Lib.hid hy
  clear hv hb0 hb1 hb2 hq0 hq1 hq2 k1 k2 k3 old
  have go1 := Lib.hid (And.intro hbw (And.intro hW1 (And.intro hW2 hW0)))
  go_enter Try.func5, Try.ntmps5
  unfold joC at hW1 F1 ⊢
  go_upto_region 1 with fail
  clear hbw hb1w hb2w hW1 hW2 hW0
  have hyw0 : IntKind.i64.wrap y0 = y0 := IntWalk.i64_in _ (by omega)
  have hyw1 : IntKind.i64.wrap y1 = y1 := IntWalk.i64_in _ (by omega)
  have hyw2 : IntKind.i64.wrap y2 = y2 := IntWalk.i64_in _ (by omega)
  by_cases h1 : n < 4
  · skip
    go_wp2_with fail
    refine FW.out.mono ?_
    rintro e w1 ⟨rfl, k⟩
    have K1 := Lib.hid k
    obtain ⟨z0, z1, z2, z3⟩ := XC.out w1 k
    clear k FW
    go_wp2_with fail
    refine (F1.out w1).mono ?_
    rintro e w2 ⟨rfl, k⟩
    have K2 := Lib.hid (K1.out.trans k)
    clear z0 z1 z2 z3 K1
    obtain ⟨z0, z1, z2⟩ := ZC.out w2 K2.out
    clear k F1
    go_wp2_with fail
    refine (SN.out w2).mono ?_
    rintro e w3 ⟨rfl, k⟩
    have K3 := Lib.hid k
    go_wp2_with fail
    go_ret
    exact ⟨rfl, K0.out.trans (K2.out.trans K3.out)⟩
  · skip
    by_cases h2 : n > 24
    · skip
      go_wp2_with fail
      refine FW.out.mono ?_
      rintro e w1 ⟨rfl, k⟩
      have K1 := Lib.hid k
      obtain ⟨z0, z1, z2, z3⟩ := XC.out w1 k
      clear k FW
      go_wp2_with fail
      refine (F1.out w1).mono ?_
      rintro e w2 ⟨rfl, k⟩
      have K2 := Lib.hid (K1.out.trans k)
      clear z0 z1 z2 z3 K1
      obtain ⟨z0, z1, z2⟩ := ZC.out w2 K2.out
      clear k F1
      go_wp2_with fail
      refine (SN.out w2).mono ?_
      rintro e w3 ⟨rfl, k⟩
      have K3 := Lib.hid k
      go_wp2_with fail
      go_ret
      exact ⟨rfl, K0.out.trans (K2.out.trans K3.out)⟩
    · skip
      cases hf0 : fewJ l with
      | false =>
        rw [hf0] at FW
        go_wp2_with fail
        refine FW.out.mono ?_
        rintro e w1 ⟨rfl, k⟩
        have K1 := Lib.hid k
        obtain ⟨z0, z1, z2, z3⟩ := XC.out w1 k
        clear k FW
        go_wp2_with fail
        refine (F1.out w1).mono ?_
        rintro e w2 ⟨rfl, k⟩
        have K2 := Lib.hid (K1.out.trans k)
        clear z0 z1 z2 z3 K1
        obtain ⟨z0, z1, z2⟩ := ZC.out w2 K2.out
        clear k F1
        go_wp2_with fail
        refine (SN.out w2).mono ?_
        rintro e w3 ⟨rfl, k⟩
        have K3 := Lib.hid k
        go_wp2_with fail
        go_ret
        exact ⟨rfl, K0.out.trans (K2.out.trans K3.out)⟩
      | true =>
        rw [hf0] at FW
        cases hf1 : fewJo o with
        | false =>
          rw [hf1] at F1
          go_wp2_with fail
          refine FW.out.mono ?_
          rintro e w1 ⟨rfl, k⟩
          have K1 := Lib.hid k
          obtain ⟨z0, z1, z2, z3⟩ := XC.out w1 k
          clear k FW
          go_wp2_with fail
          refine (F1.out w1).mono ?_
          rintro e w2 ⟨rfl, k⟩
          have K2 := Lib.hid (K1.out.trans k)
          clear z0 z1 z2 z3 K1
          obtain ⟨z0, z1, z2⟩ := ZC.out w2 K2.out
          clear k F1
          go_wp2_with fail
          refine (SN.out w2).mono ?_
          rintro e w3 ⟨rfl, k⟩
          have K3 := Lib.hid k
          go_wp2_with fail
          go_ret
          exact ⟨rfl, K0.out.trans (K2.out.trans K3.out)⟩
        | true =>
          rw [hf1] at F1
          by_cases hp0 : (q0.length : Int) > 64
          · skip
            go_wp2_with fail
            refine FW.out.mono ?_
            rintro e w1 ⟨rfl, k⟩
            have K1 := Lib.hid k
            obtain ⟨z0, z1, z2, z3⟩ := XC.out w1 k
            clear k FW
            go_wp2_with fail
            refine (F1.out w1).mono ?_
            rintro e w2 ⟨rfl, k⟩
            have K2 := Lib.hid (K1.out.trans k)
            clear z0 z1 z2 z3 K1
            obtain ⟨z0, z1, z2⟩ := ZC.out w2 K2.out
            clear k F1
            go_wp2_with fail
            refine (SN.out w2).mono ?_
            rintro e w3 ⟨rfl, k⟩
            have K3 := Lib.hid k
            go_wp2_with fail
            go_ret
            exact ⟨rfl, K0.out.trans (K2.out.trans K3.out)⟩
          · skip
            by_cases hp1 : (q1.length : Int) > 64
            · skip
              go_wp2_with fail
              refine FW.out.mono ?_
              rintro e w1 ⟨rfl, k⟩
              have K1 := Lib.hid k
              obtain ⟨z0, z1, z2, z3⟩ := XC.out w1 k
              clear k FW
              go_wp2_with fail
              refine (F1.out w1).mono ?_
              rintro e w2 ⟨rfl, k⟩
              have K2 := Lib.hid (K1.out.trans k)
              clear z0 z1 z2 z3 K1
              obtain ⟨z0, z1, z2⟩ := ZC.out w2 K2.out
              clear k F1
              go_wp2_with fail
              refine (SN.out w2).mono ?_
              rintro e w3 ⟨rfl, k⟩
              have K3 := Lib.hid k
              go_wp2_with fail
              go_ret
              exact ⟨rfl, K0.out.trans (K2.out.trans K3.out)⟩
            · skip
              by_cases hp2 : (q2.length : Int) > 64
              · skip
                go_wp2_with fail
                refine FW.out.mono ?_
                rintro e w1 ⟨rfl, k⟩
                have K1 := Lib.hid k
                obtain ⟨z0, z1, z2, z3⟩ := XC.out w1 k
                clear k FW
                go_wp2_with fail
                refine (F1.out w1).mono ?_
                rintro e w2 ⟨rfl, k⟩
                have K2 := Lib.hid (K1.out.trans k)
                clear z0 z1 z2 z3 K1
                obtain ⟨z0, z1, z2⟩ := ZC.out w2 K2.out
                clear k F1
                go_wp2_with fail
                refine (SN.out w2).mono ?_
                rintro e w3 ⟨rfl, k⟩
                have K3 := Lib.hid k
                go_wp2_with fail
                go_ret
                exact ⟨rfl, K0.out.trans (K2.out.trans K3.out)⟩
              · skip
                obtain ⟨m, rfl⟩ : ∃ m : Nat, n = (m : Int) := ⟨n.toNat, by omega⟩
                go_wp2_with fail
                refine FW.out.mono ?_
                rintro e w1 ⟨rfl, k⟩
                have K1 := Lib.hid k
                obtain ⟨z0, z1, z2, z3⟩ := XC.out w1 k
                clear k FW
                go_wp2_with fail
                refine (F1.out w1).mono ?_
                rintro e w2 ⟨rfl, k⟩
                have K2 := Lib.hid (K1.out.trans k)
                clear z0 z1 z2 z3 K1
                obtain ⟨z0, z1, z2⟩ := ZC.out w2 K2.out
                have AF1 := Lib.hid (after_ok m (by omega) (by omega) _ l hf0 w2 (HV.out.kept K2.out (fun _ _ x => x)))
                have HO := Lib.hid hf1
                have hm4 : m ≤ 4096 := by omega
                have HP := Lib.hid (And.intro (show q0.length ≤ 1000 by omega) (And.intro (show q1.length ≤ 1000 by omega) (show q2.length ≤ 1000 by omega)))
                clear k F1 HV
                go_wp2_with fail
                refine AF1.out.mono ?_
                rintro e w3 ⟨D, G, B, J, Rr, j, L, rfl, js, rs, gg, hh, k⟩
                have hcap : (m - 2) / 2 * 128 = capN m := rfl
                rw [hcap] at rs
                have HOLD : Hid (∀ i, i = Rr ∨ InJ J D G B i → W0.heap.size ≤ i) := Lib.hid (fun i x => by
                  have := K2.out.size
                  unfold InJ InD at x; omega)
                obtain ⟨ra, rc, hr1, hr2⟩ := rs.ex
                have y1 := cell_blk hr1 1 _ rfl
                have K3 := Lib.hid (K2.out.trans k)
                obtain ⟨t0, t1, t2⟩ := YC.out w3 K3.out
                have TR := Lib.hid (trip_ok y0 (by omega) w3 (JS.p js))
                have HA := Lib.hid (And.intro js (And.intro rs (And.intro gg hh)))
                have HRL := Lib.hid hr2
                have hRJ : ¬ InJ J D G B Rr := hh.2.2.2.2.2
                have HRJ := Lib.hid hRJ
                clear js rs gg hh k AF1 hcap hr1 hr2 z0 z1 z2 hRJ
                go_wp2_with fail
                refine TR.out.mono ?_
                rintro e w4 ⟨rfl, p, k⟩
                clear t0 t1 t2 y1
                have LDO : Hid (Calls Try.prog 13 #[.pointer (some ⟨D, 0, none⟩), .pointer (some ⟨J, 0, none⟩), .agg (joC o)] w4 fun e w' => ∃ v I E, e = .returned (.tuple #[v, .int .i64 I, .int .i64 E]) ∧
                    ((E = rdoE (capN m) L o ∧ FM w' D G B m (fun L' => L' = rdoL (capN m) L o)) ∨ (E = 13 ∧ rdoE (capN m) L o = 0 ∧ FM w' D G B m (fun L' => L' = L ∨ L' = rdoL (capN m) L o))) ∧ Kept (InJ J D G B) w4 w') := Lib.hid (by
                  have N4 : Norm ⟨j.d.doTrip y0, j.h, j.recs, j.cl⟩ L 10 := ⟨HA.out.2.2.1.norm.both.trip (by omega), HA.out.2.2.1.norm.hi, HA.out.2.2.1.norm.cl, HA.out.2.2.1.norm.recs⟩
                  exact last_do (j := ⟨j.d.doTrip y0, j.h, j.recs, j.cl⟩) (JS.disk HA.out.1 p k) N4 HA.out.2.2.1.n o HO.out ⟨N4.both.fit.hds, N4.both.c.off⟩)
                have KB4 : Hid (Kept (fun i => i = Rr ∨ InJ J D G B i) w3 w4) := Lib.hid (k.mono fun i _ x => .inr (.inr x))
                have RS4 := Lib.hid (HA.out.2.1.beside (k.mono fun i _ x => .inr x) HRJ.out)
                have K4 := Lib.hid (K3.out.trans' KB4.out (fun i hi x => absurd (HOLD.out i x) (by omega)))
                obtain ⟨z0, z1, z2, z3⟩ := XC.out w4 K4.out
                unfold joC at LDO
                clear p k TR
                go_wp2_with fail
                refine LDO.out.mono ?_
                rintro e w5 ⟨v5, I5, E, rfl, hE, k⟩
                clear z0 z1 z2 z3
                have KB5 := Lib.hid (KB4.out.trans (k.mono fun i _ x => .inr x))
                have RS5 := Lib.hid (RS4.out.beside k HRJ.out)
                have K5 := Lib.hid (K3.out.trans' KB5.out (fun i hi x => absurd (HOLD.out i x) (by omega)))
                obtain ⟨z0, z1, z2, z3⟩ := XC.out w5 K5.out
                have hlen := HA.out.2.2.1.lens
                have hlt5 : ∀ i, InJ J D G B i → i < w5.heap.size := fun i x => by have := JS.lt HA.out.1 i x; have := KB5.out.size; omega
                have RDO := rdo_ok o HO.out Rr (capN m) L (by omega) (by omega) (show (m - 2) / 2 * 128 ≤ 100000000 by omega) w5 hlt5 RS5.out
                have H2L : Hid ((rdoL (capN m) L o).length ≤ 300001) := Lib.hid (rdoL_len _ _ _ HO.out hlen.1)
                have HLL := Lib.hid hlen.1
                have hP : ∃ P, FM w5 D G B m P ∧ ((E = rdoE (capN m) L o ∧ ∀ L', P L' → L' = rdoL (capN m) L o) ∨ (E = 13 ∧ rdoE (capN m) L o = 0 ∧ ∀ L', P L' → L' = L ∨ L' = rdoL (capN m) L o)) := by
                  rcases hE with ⟨e1, e2⟩ | ⟨e1, e2, e3⟩
                  · exact ⟨_, e2, .inl ⟨e1, fun _ x => x⟩⟩
                  · exact ⟨_, e3, .inr ⟨e1, e2, fun _ x => x⟩⟩
                obtain ⟨P, fm, hEP⟩ := hP
                clear hE hlen hlt5 k
                generalize rdoL (capN m) L o = L2 at *
                generalize rdoI (capN m) L o = I2 at *
                generalize rdoE (capN m) L o = F at *
                have HEP := Lib.hid hEP
                have FM5 := Lib.hid fm
                have RDO := Lib.hid RDO
                unfold joC at RDO
                clear hEP fm
                go_wp2_with fail
                refine RDO.out.mono ?_
                rintro e w6 ⟨rfl, rs, k⟩
                clear z0 z1 z2 z3
                have KB6 := Lib.hid (KB5.out.trans (k.mono fun i _ x => .inl x))
                have K6 := Lib.hid (K3.out.trans' KB6.out (fun i hi x => absurd (HOLD.out i x) (by omega)))
                have RS6 := Lib.hid rs
                have hdR : ¬ InD D G B Rr := fun x => HRJ.out (.inr x)
                have MT := Lib.hid (fm_mount (FM5.out.beside hdR k) q0 a0 c0 HP.out.1 ((HQ0.out w6 K6.out.of_no).away (by omega) (fun i _ x => HOLD.out i (.inr (.inr x)))))
                obtain ⟨z0, z1, z2⟩ := ZC.out w6 K6.out
                clear k rs hdR RDO
                go_wp2_with fail
                refine MT.out.mono ?_
                rintro e w7 ⟨rfl, fp, k⟩
                have k7 : Kept (InJ J D G B) w6 w7 := k.mono fun i _ x => .inr x
                clear k z0 z1 z2 MT
                have KOLD : Hid (∀ wx, Kept (InJ J D G B) w6 wx → Kept NoM W0 wx) := Lib.hid (fun wx kx => K6.out.trans' kx (fun i hi x => absurd (HOLD.out i (.inr x)) (by omega)))
                go_wp2_with fail
                go_loopw [23] (fun i wr => (i = .int .i64 1 ∨ i = .int .i64 2 ∨ i = .int .i64 3) ∧ FP wr D G B m P ∧ Kept (InJ J D G B) w6 wr) (fun i _ => 3 - (intOf i).toNat)
                case atStart => exact ⟨.inl rfl, fp, k7⟩
                case round =>
                  obtain ⟨hi, f, kx⟩ := hrel
                  have FR := Lib.hid f
                  have KR := Lib.hid kx
                  clear fp k7 f kx
                  rcases hi with rfl | rfl | rfl
                  · skip
                    have hz : IntKind.i64.wrap (y1.tmod 4) = y1 % 4 := by rw [Int.tmod_eq_emod_of_nonneg (by omega)]; exact IntWalk.i64_in _ (by omega)
                    have TR := Lib.hid (fp_trip FR.out (y1 % 4) (by omega))
                    obtain ⟨t0, t1, t2⟩ := YC.out wr (KOLD.out wr KR.out)
                    go_wp2_with fail
                    refine TR.out.mono ?_
                    rintro e w8 ⟨rfl, fq, k⟩
                    have OP := Lib.hid (fq_open fq)
                    have K8 := Lib.hid (KR.out.trans (k.mono fun i _ x => .inr x))
                    clear t0 t1 t2 fq k TR
                    go_wp2_with fail
                    refine OP.out.mono ?_
                    rintro e w9 ⟨v9, E9, rfl, hE9, fm, k⟩
                    have K9 := Lib.hid (K8.out.trans (k.mono fun i _ x => .inr x))
                    have K90 := KOLD.out w9 K9.out
                    have MT := Lib.hid (fm_mount fm q1 a1 c1 HP.out.2.1 ((HQ1.out w9 K90.of_no).away (by omega) (fun i _ x => HOLD.out i (.inr (.inr x)))))
                    obtain ⟨z0, z1, z2⟩ := ZC.out w9 K90
                    clear fm k OP K90
                    rcases hE9 with rfl | rfl
                    · go_wp2_with fail
                      refine MT.out.mono ?_
                      rintro e w10 ⟨rfl, fp, k⟩
                      have KT := Lib.hid (K9.out.trans (k.mono fun i _ x => .inr x))
                      clear k z0 z1 z2 MT
                      go_wp2_with fail
                      go_roundw
                      case rel => exact ⟨.inr (.inl rfl), fp, KT.out⟩
                      case measure => simp [intOf]
                    · go_wp2_with fail
                      refine MT.out.mono ?_
                      rintro e w10 ⟨rfl, fp, k⟩
                      have KT := Lib.hid (K9.out.trans (k.mono fun i _ x => .inr x))
                      clear k z0 z1 z2 MT
                      go_wp2_with fail
                      go_roundw
                      case rel => exact ⟨.inr (.inl rfl), fp, KT.out⟩
                      case measure => simp [intOf]
                  · skip
                    have hz : IntKind.i64.wrap (y2.tmod 4) = y2 % 4 := by rw [Int.tmod_eq_emod_of_nonneg (by omega)]; exact IntWalk.i64_in _ (by omega)
                    have TR := Lib.hid (fp_trip FR.out (y2 % 4) (by omega))
                    obtain ⟨t0, t1, t2⟩ := YC.out wr (KOLD.out wr KR.out)
                    go_wp2_with fail
                    refine TR.out.mono ?_
                    rintro e w8 ⟨rfl, fq, k⟩
                    have OP := Lib.hid (fq_open fq)
                    have K8 := Lib.hid (KR.out.trans (k.mono fun i _ x => .inr x))
                    clear t0 t1 t2 fq k TR
                    go_wp2_with fail
                    refine OP.out.mono ?_
                    rintro e w9 ⟨v9, E9, rfl, hE9, fm, k⟩
                    have K9 := Lib.hid (K8.out.trans (k.mono fun i _ x => .inr x))
                    have K90 := KOLD.out w9 K9.out
                    have MT := Lib.hid (fm_mount fm q2 a2 c2 HP.out.2.2 ((HQ2.out w9 K90.of_no).away (by omega) (fun i _ x => HOLD.out i (.inr (.inr x)))))
                    obtain ⟨z0, z1, z2⟩ := ZC.out w9 K90
                    clear fm k OP K90
                    rcases hE9 with rfl | rfl
                    · go_wp2_with fail
                      refine MT.out.mono ?_
                      rintro e w10 ⟨rfl, fp, k⟩
                      have KT := Lib.hid (K9.out.trans (k.mono fun i _ x => .inr x))
                      clear k z0 z1 z2 MT
                      go_wp2_with fail
                      go_roundw
                      case rel => exact ⟨.inr (.inr rfl), fp, KT.out⟩
                      case measure => simp [intOf]
                    · go_wp2_with fail
                      refine MT.out.mono ?_
                      rintro e w10 ⟨rfl, fp, k⟩
                      have KT := Lib.hid (K9.out.trans (k.mono fun i _ x => .inr x))
                      clear k z0 z1 z2 MT
                      go_wp2_with fail
                      go_roundw
                      case rel => exact ⟨.inr (.inr rfl), fp, KT.out⟩
                      case measure => simp [intOf]
                  · skip
                    have LO := Lib.hid (fp_lopen FR.out hm4)
                    go_wp2_with fail
                    refine LO.out.mono ?_
                    rintro e w11 ⟨J2, L', rfl, hPL, g, hJ2, k⟩
                    have KC := Lib.hid (KR.out.trans (k.mono fun i _ x => .inr x))
                    have GR := Lib.hid (grecs g)
                    have hLl := g.lens.1
                    clear g k LO hJ2
                    go_wp2_with fail
                    refine GR.out.mono ?_
                    rintro e w12 ⟨a5, cap5, O5, rfl, r1, r2, k⟩
                    have R5 := Lib.hid (r1.rd (fun _ _ x => x) : RdS w12 NoM 1 EStr (.slice a5 L'.length cap5) L')
                    have KC12 := Lib.hid (KC.out.trans k.of_no)
                    have KE := Lib.hid (K0.out.trans (KOLD.out w12 KC12.out))
                    have RS12 := RS6.out.beside KC12.out HRJ.out
                    obtain ⟨rb, rd, hs1, hs2⟩ := RS12.ex
                    have y1 := cell_blk hs1 1 _ rfl
                    have HB2 := Lib.hid (hs2.away (M' := NoM) (by omega) (fun _ _ x => x.elim))
                    have BF := Lib.hid ((HRL.out.kept (KB6.out.trans (KC12.out.mono fun i _ x => .inr x)) (fun _ _ x => x)).away (M' := NoM) (by omega) (fun _ _ x => x.elim))
                    have YR : Hid (∀ wx, Kept NoM w12 wx → wx.cell? ⟨Rr, 1, none⟩ = some (.slice rb L2.length rd)) := Lib.hid (fun wx kx => kx.cell y1 (fun x => x))
                    have GSM : Hid (∀ wx, Kept NoM w12 wx → Calls Try.prog 15 #[.slice a5 L'.length cap5, .slice rb L2.length rd] wx fun e w' => e = .returned (.bool (decide (L' = L2))) ∧ Kept NoM wx w') := Lib.hid (fun wx kx => (rsame_ok _ _ L' L2 wx (R5.out.kept kx (fun _ _ x => x)) (HB2.out.kept kx (fun _ _ x => x)) (by omega) (by have := H2L.out; omega)).mono fun e w' ⟨q1, n, q2⟩ => ⟨q1, by rw [q2]; exact (Kept.refl _ _).drewN _⟩)
                    have GSB : Hid (∀ wx, Kept NoM w12 wx → Calls Try.prog 15 #[.slice a5 L'.length cap5, .slice ra L.length rc] wx fun e w' => e = .returned (.bool (decide (L' = L))) ∧ Kept NoM wx w') := Lib.hid (fun wx kx => (rsame_ok _ _ L' L wx (R5.out.kept kx (fun _ _ x => x)) (BF.out.kept kx (fun _ _ x => x)) (by omega) (by have := HLL.out; omega)).mono fun e w' ⟨q1, n, q2⟩ => ⟨q1, by rw [q2]; exact (Kept.refl _ _).drewN _⟩)
                    clear r1 r2 k RS12 hs1 hs2 y1 GR hLl
                    rcases HEP.out with ⟨e1, e2⟩ | ⟨e1, e2, e3⟩
                    · have h2 : decide (L' = L2) = true := decide_eq_true (e2 L' hPL)
                      rw [h2] at GSM
                      clear e2 h2 GSB HEP
                      subst e1
                      by_cases hF : E = 0
                      · subst hF
                        go_wp2_with fail
                        refine (SN.out w12).mono ?_
                        rintro e w13 ⟨rfl, k⟩
                        have K13 := Lib.hid k
                        have yR := YR.out w13 k
                        clear k
                        go_wp2_with fail
                        refine (GSM.out w13 K13.out).mono ?_
                        rintro e w14 ⟨rfl, k⟩
                        have K14 := Lib.hid (K13.out.trans k)
                        clear k yR
                        go_wp2_with fail
                        go_ret
                        exact ⟨rfl, KE.out.trans K14.out⟩
                      · have g1 : (E == 0) = false := beq_eq_false_iff_ne.2 hF
                        have g2 : (E != 0) = true := bne_iff_ne.2 hF
                        go_wp2_with fail
                        refine (SN.out w12).mono ?_
                        rintro e w13 ⟨rfl, k⟩
                        have K13 := Lib.hid k
                        have yR := YR.out w13 k
                        clear k
                        go_wp2_with fail
                        refine (GSM.out w13 K13.out).mono ?_
                        rintro e w14 ⟨rfl, k⟩
                        have K14 := Lib.hid (K13.out.trans k)
                        clear k yR
                        go_wp2_with fail
                        go_ret
                        exact ⟨rfl, KE.out.trans K14.out⟩
                    · have h3 := e3 L' hPL
                      clear e3 HEP
                      subst e1 e2
                      cases hd : decide (L' = L2) with
                      | true =>
                        rw [hd] at GSM
                        go_wp2_with fail
                        refine (SN.out w12).mono ?_
                        rintro e w13 ⟨rfl, k⟩
                        have K13 := Lib.hid k
                        have yR := YR.out w13 k
                        clear k
                        go_wp2_with fail
                        refine (GSM.out w13 K13.out).mono ?_
                        rintro e w14 ⟨rfl, k⟩
                        have K14 := Lib.hid (K13.out.trans k)
                        clear k yR
                        go_wp2_with fail
                        go_ret
                        exact ⟨rfl, KE.out.trans K14.out⟩
                      | false =>
                        have h4 : decide (L' = L) = true := by
                          rcases h3 with q | q
                          · exact decide_eq_true q
                          · rw [decide_eq_true q] at hd; cases hd
                        rw [hd] at GSM
                        rw [h4] at GSB
                        clear hd h4 h3
                        go_wp2_with fail
                        refine (SN.out w12).mono ?_
                        rintro e w13 ⟨rfl, k⟩
                        have K13 := Lib.hid k
                        have yR := YR.out w13 k
                        clear k
                        go_wp2_with fail
                        refine (GSM.out w13 K13.out).mono ?_
                        rintro e w14 ⟨rfl, k⟩
                        have K14 := Lib.hid (K13.out.trans k)
                        clear k yR
                        go_wp2_with fail
                        refine (GSB.out w14 K14.out).mono ?_
                        rintro e w15 ⟨rfl, k⟩
                        have K15 := Lib.hid (K14.out.trans k)
                        clear k
                        go_wp2_with fail
                        go_ret
                        exact ⟨rfl, KE.out.trans K15.out⟩
end Go.Proofs.Ytjcmnobfdidnkaa