/- The walk of JournalCloses. -/
import Derived.Test.YtjcmnobfdidnkaaKL5
set_option linter.unusedVariables false
set_option linter.unusedSimpArgs false
set_option linter.unusedSectionVars false
namespace Go.Proofs.Ytjcmnobfdidnkaa
open Go.RowKit
set_option maxHeartbeats 4000000
set_option maxRecDepth 8000
theorem one_jo {w : World} {b : Nat} {o : Jo} (hb : w.heap[b]? = some (.cells (joC o) 38 (0, 0))) : RdS w NoM 4 EJo (.slice (some ⟨b, 0, none⟩) 1 1) [o] := by
  refine ⟨_, 1, rfl, Nat.le_refl _, by decide, .inr ⟨b, 0, rfl, fun i y hy => ⟨fun x => x, ?_⟩⟩⟩
  match i with
  | 0 =>
    cases hy
    refine ⟨(joC o).toList, rfl, rfl, fun j u hu => ?_⟩
    simp only [Nat.zero_mul, Nat.zero_add]
    exact cell_blk hb j u (by rw [← hu]; simp)
  | i + 1 => simp at hy
theorem stab_rd (n : Nat) (L : List Pg) : stab (fun v wx => ∃ a5 cap5, v = .slice a5 n cap5 ∧ RdS wx NoM 1 EStr (.slice a5 n cap5) L) := fun _ _ _ k ⟨a5, cap5, h1, h2⟩ => ⟨a5, cap5, h1, h2.kept k (fun _ _ x => x)⟩
theorem rappE_ne (sz : Nat) (L : List Pg) (x : Pg) : rappE sz L x ≠ 13 := by unfold rappE; split; decide; split <;> decide
theorem rrepE_ne (sz : Nat) (l : List Pg) : rrepE sz l ≠ 13 := by unfold rrepE; split; decide; split <;> decide
theorem rdoE_ne (sz : Nat) (L : List Pg) (o : Jo) : rdoE sz L o ≠ 13 := by
  unfold rdoE
  split
  · exact rappE_ne _ _ _
  · split
    · exact rrepE_ne _ _
    · decide
theorem rrep_nil (sz : Nat) : rrepE sz [] = 0 ∧ ∀ L, rrepL sz L [] = [] := by
  have h : rrepE sz [] = 0 := by unfold rrepE longL streamS; simp
  exact ⟨h, fun L => by unfold rrepL; rw [h]; rfl⟩
theorem fewOne (o : Jo) : fewJ [o] = fewJo o := by unfold fewJ; simp
theorem closes_ok (n : Int) (v : Value) (l : List Jo) (o : Jo) (y : Int) (w : World) (hv : RdS w NoM 4 EJo v l) (hy : 0 ≤ y ∧ y ≤ 255) : Calls Try.prog 6 #[.int .i64 n, v, .agg (joC o), .int .u8 y] w fun e w' => e = .returned (.bool true) ∧ Kept NoM w w' := by
  obtain ⟨va, vc, rfl, _, _⟩ := hv.shape
  have SN := Lib.hid sanity_ok
  obtain ⟨W0, hW0⟩ : ∃ W0, w.alloc (.cells (joC o) 38) = W0 := ⟨_, rfl⟩
  have hb0 : W0.heap[w.heap.size]? = some (.cells (joC o) 38 (0, 0)) := by rw [← hW0]; exact blk_new _ _
  have K0 : Hid (Kept NoM w W0) := Lib.hid (by rw [← hW0]; exact (Kept.refl _ _).alloc _)
  have HV := Lib.hid (hv.kept K0.out (fun _ _ x => x))
  have FW := Lib.hid (rfew_ok _ l W0 HV.out)
  obtain ⟨b, hbw⟩ : ∃ b, w.heap.size = b := ⟨_, rfl⟩
  rw [hbw] at hb0
  have XC : Hid (∀ wx, Kept NoM W0 wx → wx.cell? ⟨b, 0, none⟩ = some (.int .i64 o.kind) ∧ wx.cell? ⟨b, 1, none⟩ = some (.int .i64 o.n) ∧ wx.cell? ⟨b, 2, none⟩ = some (.int .i64 o.k) ∧ wx.cell? ⟨b, 3, none⟩ = some (.int .u8 o.fill.toNat)) := Lib.hid (fun wx k => by
    have q := k.blk hb0 (fun x => x)
    exact ⟨cell_blk q 0 _ rfl, cell_blk q 1 _ rfl, cell_blk q 2 _ rfl, cell_blk q 3 _ rfl⟩)
  have F1 : Hid (∀ wx, Calls Try.prog 8 #[.slice (some ⟨wx.heap.size, 0, none⟩) 1 1] (wx.alloc (.cells (joC o) 38)) fun e w' => e = .returned (.bool (fewJo o)) ∧ Kept NoM wx w') := Lib.hid (fun wx => (rfew_ok _ [o] _ (one_jo (blk_new wx _))).mono fun e w' ⟨q1, q2⟩ => ⟨by rw [q1, fewOne], ((Kept.refl _ _).alloc _).trans q2⟩)
  have HBW := Lib.hid (And.intro hbw hW0)
  clear hv hb0
  have go1 := Lib.hid (And.intro hbw hW0)
  go_enter Try.func6, Try.ntmps6
  unfold joC at hW0 F1 ⊢
  go_upto_region 1 with fail
  clear hbw hW0
  have hyw : IntKind.i64.wrap y = y := IntWalk.i64_in _ (by omega)
  by_cases h1 : n < 4
  · skip
    go_wp2_with fail
    refine FW.out.mono ?_
    rintro e w1 ⟨rfl, k⟩
    have K1 := Lib.hid k
    obtain ⟨z0, z1, z2, z3⟩ := XC.out w1 k
    clear k
    go_wp2_with fail
    refine (F1.out w1).mono ?_
    rintro e w2 ⟨rfl, k⟩
    have K2 := Lib.hid k
    clear z0 z1 z2 z3
    obtain ⟨z4, z5, z6, z7⟩ := XC.out w2 (K1.out.trans k)
    clear k FW F1
    go_wp2_with fail
    refine (SN.out w2).mono ?_
    rintro e w3 ⟨rfl, k⟩
    have K3 := Lib.hid k
    go_wp2_with fail
    go_ret
    exact ⟨rfl, K0.out.trans (K1.out.trans (K2.out.trans K3.out))⟩
  · by_cases h2 : n > 24
    · skip
      go_wp2_with fail
      refine FW.out.mono ?_
      rintro e w1 ⟨rfl, k⟩
      have K1 := Lib.hid k
      obtain ⟨z0, z1, z2, z3⟩ := XC.out w1 k
      clear k
      go_wp2_with fail
      refine (F1.out w1).mono ?_
      rintro e w2 ⟨rfl, k⟩
      have K2 := Lib.hid k
      clear z0 z1 z2 z3
      obtain ⟨z4, z5, z6, z7⟩ := XC.out w2 (K1.out.trans k)
      clear k FW F1
      go_wp2_with fail
      refine (SN.out w2).mono ?_
      rintro e w3 ⟨rfl, k⟩
      have K3 := Lib.hid k
      go_wp2_with fail
      go_ret
      exact ⟨rfl, K0.out.trans (K1.out.trans (K2.out.trans K3.out))⟩
    · cases hf : fewJ l with
      | false =>
        rw [hf] at FW
        go_wp2_with fail
        refine FW.out.mono ?_
        rintro e w1 ⟨rfl, k⟩
        have K1 := Lib.hid k
        obtain ⟨z0, z1, z2, z3⟩ := XC.out w1 k
        clear k
        go_wp2_with fail
        refine (F1.out w1).mono ?_
        rintro e w2 ⟨rfl, k⟩
        have K2 := Lib.hid k
        clear z0 z1 z2 z3
        obtain ⟨z4, z5, z6, z7⟩ := XC.out w2 (K1.out.trans k)
        clear k FW F1
        go_wp2_with fail
        refine (SN.out w2).mono ?_
        rintro e w3 ⟨rfl, k⟩
        have K3 := Lib.hid k
        go_wp2_with fail
        go_ret
        exact ⟨rfl, K0.out.trans (K1.out.trans (K2.out.trans K3.out))⟩
      | true =>
        rw [hf] at FW
        cases ho : fewJo o with
        | false =>
          rw [ho] at F1
          go_wp2_with fail
          refine FW.out.mono ?_
          rintro e w1 ⟨rfl, k⟩
          have K1 := Lib.hid k
          obtain ⟨z0, z1, z2, z3⟩ := XC.out w1 k
          clear k
          go_wp2_with fail
          refine (F1.out w1).mono ?_
          rintro e w2 ⟨rfl, k⟩
          have K2 := Lib.hid k
          clear z0 z1 z2 z3
          obtain ⟨z4, z5, z6, z7⟩ := XC.out w2 (K1.out.trans k)
          clear k FW F1
          go_wp2_with fail
          refine (SN.out w2).mono ?_
          rintro e w3 ⟨rfl, k⟩
          have K3 := Lib.hid k
          go_wp2_with fail
          go_ret
          exact ⟨rfl, K0.out.trans (K1.out.trans (K2.out.trans K3.out))⟩
        | true =>
          rw [ho] at F1
          by_cases hk : ¬ o.kind = 1 ∧ ¬ o.kind = 2
          · have g1 : (o.kind != 1) = true := bne_iff_ne.2 hk.1
            have g2 : (o.kind != 2) = true := bne_iff_ne.2 hk.2
            clear hk
            go_wp2_with fail
            refine FW.out.mono ?_
            rintro e w1 ⟨rfl, k⟩
            have K1 := Lib.hid k
            obtain ⟨z0, z1, z2, z3⟩ := XC.out w1 k
            clear k
            go_wp2_with fail
            refine (F1.out w1).mono ?_
            rintro e w2 ⟨rfl, k⟩
            have K2 := Lib.hid k
            clear z0 z1 z2 z3
            obtain ⟨z4, z5, z6, z7⟩ := XC.out w2 (K1.out.trans k)
            clear k FW F1
            go_wp2_with fail
            refine (SN.out w2).mono ?_
            rintro e w3 ⟨rfl, k⟩
            have K3 := Lib.hid k
            go_wp2_with fail
            go_ret
            exact ⟨rfl, K0.out.trans (K1.out.trans (K2.out.trans K3.out))⟩
          · have hk12 : o.kind = 1 ∨ o.kind = 2 := by omega
            obtain ⟨m, rfl⟩ : ∃ m : Nat, n = (m : Int) := ⟨n.toNat, by omega⟩
            have AF : Hid (∀ wx, Kept NoM W0 wx → Calls Try.prog 26 #[.int .i64 m, .slice va l.length vc] wx fun e w' => ∃ D G B J R j L, e = .returned (.tuple #[.pointer (some ⟨D, 0, none⟩), .pointer (some ⟨J, 0, none⟩), .pointer (some ⟨R, 0, none⟩), .bool true]) ∧ JM w' J D G B j ∧ RS w' R ((m - 2) / 2 * 128) L (InJ J D G B) ∧ Going j L m 10 ∧ (wx.heap.size ≤ D ∧ wx.heap.size ≤ G ∧ wx.heap.size ≤ B ∧ wx.heap.size ≤ J ∧ wx.heap.size ≤ R ∧ ¬ InJ J D G B R) ∧ Kept NoM wx w') := Lib.hid (fun wx k => after_ok m (by omega) (by omega) _ l hf wx (HV.out.kept k (fun _ _ x => x)))
            have HK12 := Lib.hid hk12
            have HO := Lib.hid ho
            have KN : (o.kind = 1 → True) := fun _ => trivial
            rcases hk12 with hk1 | hk1
            · have g1 : (o.kind != 1) = false := by rw [hk1]; rfl
              clear hk1 hk
              go_wp2_with fail
              refine FW.out.mono ?_
              rintro e w1 ⟨rfl, k⟩
              have K1 := Lib.hid k
              obtain ⟨z0, z1, z2, z3⟩ := XC.out w1 k
              clear k
              go_wp2_with fail
              refine (F1.out w1).mono ?_
              rintro e w2 ⟨rfl, k⟩
              have K2 := Lib.hid (K1.out.trans k)
              clear z0 z1 z2 z3
              obtain ⟨z4, z5, z6, z7⟩ := XC.out w2 (K1.out.trans k)
              have AF1 := Lib.hid (AF.out w2 (K1.out.trans k))
              clear k
              go_wp2_with fail
              clear z4 z5 z6 z7 FW F1 AF K1
              refine AF1.out.mono ?_
              rintro e w3 ⟨D, G, B, J, Rr, j, L, rfl, js, rs, gg, hh, k⟩
              have hcap : (m - 2) / 2 * 128 = capN m := rfl
              rw [hcap] at rs
              obtain ⟨ra, rc, hr1, hr2⟩ := rs.ex
              have y1 := cell_blk hr1 1 _ rfl
              have RM := Lib.hid (room_ok w3 js (by have := gg.norm.both.f.n4; omega) (by have := (gg.norm.both.f.lens gg.norm.hi).2.1; omega))
              have HA := Lib.hid (And.intro js (And.intro rs (And.intro gg hh)))
              have HRL := Lib.hid hr2
              have K3 := Lib.hid (K2.out.trans k)
              clear js rs gg hh k AF1 hcap hr1 hr2
              go_wp2_with fail
              refine RM.out.mono ?_
              rintro e w9 ⟨rfl, nn, rfl⟩
              obtain ⟨w4, hw4⟩ : ∃ w4, w3.drewN nn = w4 := ⟨_, rfl⟩
              rw [hw4]
              have k34 : Kept NoM w3 w4 := by rw [← hw4]; exact (Kept.refl _ _).drewN _
              have JM4 := JS.kept0 HA.out.1 k34
              have RS4 := HA.out.2.1.kept0 k34
              have TR := Lib.hid (trip_ok y (by omega) w4 (JS.p JM4))
              have H4 := Lib.hid (And.intro JM4 (And.intro RS4 k34))
              clear JM4 RS4 k34 RM hw4 y1
              go_wp2_with fail
              refine TR.out.mono ?_
              rintro e w5 ⟨rfl, p, k⟩
              have hold : ∀ i, InJ J D G B i → W0.heap.size ≤ i := fun i x => by
                have := HA.out.2.2.2; have := K2.out.size
                unfold InJ InD at x; omega
              have JM5 : JM w5 J D G B ⟨j.d.doTrip y, j.h, j.recs, j.cl⟩ := JS.disk H4.out.1 p k
              have N5 : Norm ⟨j.d.doTrip y, j.h, j.recs, j.cl⟩ L 10 := ⟨HA.out.2.2.1.norm.both.trip (by omega), HA.out.2.2.1.norm.hi, HA.out.2.2.1.norm.cl, HA.out.2.2.1.norm.recs⟩
              have hjc : (j.d.doTrip y).jcap = capN m := by show j.d.jcap = _; unfold Dk.jcap Dk.jp capN; rw [HA.out.2.2.1.n]
              have hjn : (j.d.doTrip y).n = m := HA.out.2.2.1.n
              have K5 := Lib.hid ((K3.out.trans H4.out.2.2).trans' k (fun i hi x => absurd (hold i (.inr x)) (by omega)))
              have KM5 : Kept (fun i => i = Rr ∨ InJ J D G B i) w3 w5 := H4.out.2.2.of_no.trans (k.mono fun i _ x => .inr (.inr x))
              have RS5 := H4.out.2.1.beside (k.mono fun i _ x => .inr x) HA.out.2.2.2.2.2.2.2.2
              obtain ⟨z0, z1, z2, z3⟩ := XC.out w5 K5.out
              have HRM := Lib.hid (show (j.d.jcap : Int) - j.h.size = ((j.d.doTrip y).jcap : Int) - j.h.size from rfl)
              obtain ⟨jt, hjt⟩ : ∃ jt, (⟨j.d.doTrip y, j.h, j.recs, j.cl⟩ : Jn) = jt := ⟨_, rfl⟩
              have hrm : (j.d.jcap : Int) - j.h.size = (jt.d.jcap : Int) - jt.h.size := by rw [← hjt]; rfl
              have hjc2 : jt.d.jcap = capN m := by rw [← hjt]; exact hjc
              have hjn2 : jt.d.n = m := by rw [← hjt]; exact hjn
              rw [hjt] at JM5 N5
              rw [hrm]
              have DO : Hid (Calls Try.prog 13 #[.pointer (some ⟨D, 0, none⟩), .pointer (some ⟨J, 0, none⟩), .agg #[.int .i64 o.kind, .int .i64 o.n, .int .i64 o.k, .int .u8 o.fill.toNat]] w5 fun e w' => e = .returned (.tuple #[.pointer (some ⟨J, 0, none⟩), .int .i64 (jt.actI o), .int .i64 (jt.actE o)]) ∧ JM w' J D G B (jt.act o) ∧ Kept (InJ J D G B) w5 w') := Lib.hid ((do_ok jt o HO.out (K := 10) (by omega) N5.both.f (fun e => by have := HK12.out; omega) w5 JM5).mono fun e w' ⟨J', q1, q2, q3, q4⟩ => by
                have hJ : J' = J := by
                  rcases q3 with q3 | q3
                  · exact q3
                  · have := HK12.out; have := q3.1; omega
                subst hJ
                exact ⟨q1, q2, q4⟩)
              have NA := N5.act (by omega) o
              rw [hjc2] at NA
              have h5 := Lib.hid (And.intro N5 (And.intro hjn2 (And.intro KM5 (And.intro RS5 hold))))
              clear p k TR hold JM5 N5 hjc hjn KM5 RS5 HRM hjt hrm K3
              have hne := rdoE_ne (capN m) L o
              rcases NA with ⟨a1, a2, a3, a4, a5⟩ | ⟨a1, a2, a3, a4⟩
              · have f13 : (jt.actE o == 13) = false := beq_eq_false_iff_ne.2 (by rw [a1]; exact hne)
                have f14 : ¬ jt.actE o = 13 := by rw [a1]; exact hne
                have HA1 := Lib.hid a1
                have HA3 := Lib.hid (And.intro a3 a4)
                clear a1 a2 a3 a4 a5 hne
                generalize hjx : jt.act o = jn at *
                generalize jt.actE o = E at *
                generalize jt.actI o = I at *
                go_wp2_with fail
                refine DO.out.mono ?_
                rintro e w6 ⟨rfl, js6, k6⟩
                have TR2 := Lib.hid (trip_ok (-1) (by omega) w6 (JS.p js6))
                have H6 := Lib.hid (And.intro js6 k6)
                clear js6 k6 DO z0 z1 z2 z3
                go_wp2_with fail
                refine TR2.out.mono ?_
                rintro e w7 ⟨rfl, p, k⟩
                have k57 := H6.out.2.trans (k.mono fun i _ x => .inr x : Kept (InJ J D G B) w6 w7)
                have g7 : GJ w7 J D G B (rdoL (capN m) L o) m 11 := ⟨⟨jn.d.doTrip (-1), jn.h, jn.recs, jn.cl⟩, JS.disk H6.out.1 p k, ⟨⟨HA3.out.1.both.trip (by omega), HA3.out.1.hi, HA3.out.1.cl, HA3.out.1.recs⟩, HA3.out.2.trans h5.out.2.1, rfl⟩⟩
                have K7 : Kept NoM W0 w7 := K5.out.trans' k57 (fun i hi x => absurd (h5.out.2.2.2.2 i x) (by omega))
                have S7 : LM W0 w7 J D G B Rr (rdoL (capN m) L o) L m 11 := ⟨g7, h5.out.2.2.2.1.beside k57 HA.out.2.2.2.2.2.2.2.2, HA.out.2.2.2.2.2.2.2.2, h5.out.2.2.2.2, by have := HA.out.2.2.2; have := K2.out.size; omega, K7⟩
                have RD := S7.rdo o HO.out ⟨(HA.out.2.2.1.lens).1, (HA.out.2.2.1.lens).2.1⟩
                rw [← HA1.out] at RD
                unfold joC at RD
                have RD := Lib.hid RD
                obtain ⟨z0, z1, z2, z3⟩ := XC.out w7 K7
                generalize rdoL (capN m) L o = L2 at *
                generalize rdoI (capN m) L o = I2 at *
                clear p k k57 g7 K7 S7 TR2 H6
                go_wp2_with fail
                refine RD.out.mono ?_
                rintro e w8 ⟨rfl, s⟩
                have S8 := Lib.hid s
                clear s RD z0 z1 z2 z3
                go_wp2_with fail
                obtain ⟨rb, rd, y0, y1, hrd⟩ := S8.out.cells
                have HRD := Lib.hid hrd
                have hln := S8.out.g.lens
                have YC : Hid (∀ wx, Kept NoM w8 wx → wx.cell? ⟨Rr, 1, none⟩ = some (.slice rb L2.length rd)) := Lib.hid (fun wx kx => kx.cell y1 (fun x => x))
                have GRC : Hid (∀ wx, Kept NoM w8 wx → Calls Try.prog 16 #[.pointer (some ⟨J, 0, none⟩)] wx fun e w' => ∃ a cap, e = .returned (.slice a L2.length cap) ∧ RdS w' NoM 1 EStr (.slice a L2.length cap) L2 ∧ Kept NoM wx w') := Lib.hid (fun wx kx => (grecs (S8.out.g.kept0 kx)).mono fun e w' ⟨a, cap, O, q1, q2, q3, q4⟩ => ⟨a, cap, q1, q2.rd (fun _ _ x => x), q4⟩)
                have GSM : Hid (∀ wx a cap, Kept NoM w8 wx → RdS wx NoM 1 EStr (.slice a L2.length cap) L2 → Calls Try.prog 15 #[.slice a L2.length cap, .slice rb L2.length rd] wx fun e w' => e = .returned (.bool true) ∧ Kept NoM wx w') := Lib.hid (fun wx a cap kx hx => (rsame_ok _ _ L2 L2 wx hx (HRD.out.kept kx (fun _ _ x => x)) (by omega) (by omega)).mono fun e w' ⟨q1, n, q2⟩ => ⟨by rw [q1]; simp, by rw [q2]; exact (Kept.refl _ _).drewN _⟩)
                clear y0 y1 hrd hln
                refine wp_region_parG 17 [] [] [] [] [] (fun wx => Kept NoM w8 wx)
                      [fun v _ => v = .bool true, fun v _ => v = .bool true, fun v _ => v = .int .i64 E, fun v _ => v = .int .i64 E, fun v _ => v = .bool true, fun v _ => v = .bool true, fun v _ => v = .bool true, fun v _ => v = .pointer (some ⟨J, 0, none⟩), fun v wx => RecsAt L2 v wx, fun v _ => v = .pointer (some ⟨Rr, 0, none⟩), fun v _ => v = .pointer (some ⟨Rr, 0, none⟩), fun v _ => v = .pointer (some ⟨Rr, 1, none⟩), fun v _ => v = .slice rb L2.length rd, fun v _ => v = .bool true, fun v _ => v = .bool true, fun v _ => v = .bool true, fun v _ => v = .pointer (some ⟨J, 0, none⟩)] (by kernel_rfl) (by kernel_rfl) (by kernel_rfl) ((Kept.refl _ _).drew) (inits_nil) ?_ ?_
                · intro i hi9
                  have hst := stab_all (posts := [fun v _ => v = .bool true, fun v _ => v = .bool true, fun v _ => v = .int .i64 E, fun v _ => v = .int .i64 E, fun v _ => v = .bool true, fun v _ => v = .bool true, fun v _ => v = .bool true, fun v _ => v = .pointer (some ⟨J, 0, none⟩), fun v wx => RecsAt L2 v wx, fun v _ => v = .pointer (some ⟨Rr, 0, none⟩), fun v _ => v = .pointer (some ⟨Rr, 0, none⟩), fun v _ => v = .pointer (some ⟨Rr, 1, none⟩), fun v _ => v = .slice rb L2.length rd, fun v _ => v = .bool true, fun v _ => v = .bool true, fun v _ => v = .bool true, fun v _ => v = .pointer (some ⟨J, 0, none⟩)])        (stab_cons (stab_const _) (stab_cons (stab_const _) (stab_cons (stab_const _) (stab_cons (stab_const _) (stab_cons (stab_const _) (stab_cons (stab_const _) (stab_cons (stab_const _) (stab_cons (stab_const _) (stab_cons (stab_recs _) (stab_cons (stab_const _) (stab_cons (stab_const _) (stab_cons (stab_const _) (stab_cons (stab_const _) (stab_cons (stab_const _) (stab_cons (stab_const _) (stab_cons (stab_const _) (stab_cons (stab_const _) stab_nil)))))))))))))))))
                  have hist := init_stab (inits := []) (fun p h => by cases h)
                  have HST := Lib.hid hst
                  have HIST := Lib.hid hist
                  clear hst hist
                  rcases (show i = 0 ∨ i = 1 ∨ i = 2 ∨ i = 3 ∨ i = 4 ∨ i = 5 ∨ i = 6 ∨ i = 7 ∨ i = 8 ∨ i = 9 ∨ i = 10 ∨ i = 11 ∨ i = 12 ∨ i = 13 ∨ i = 14 ∨ i = 15 ∨ i = 16 by omega) with rfl | rfl | rfl | rfl | rfl | rfl | rfl | rfl | rfl | rfl | rfl | rfl | rfl | rfl | rfl | rfl | rfl
                  · refine asksG_intro ?_; intro o ho a wx hc hout hp hi R hR; cases ho
                    refine ⟨wanted_none rfl, ?_⟩
                    go_simp
                    refine (SN.out wx).mono ?_
                    rintro e w2 ⟨rfl, k1⟩
                    exact ⟨_, rfl, hR _ _ (hc.trans k1) rfl (fun j _ _ _ _ u h => HST.out j u _ _ k1 h) (fun j _ h => HIST.out j _ _ k1 h)⟩
                  · refine asksG_intro ?_; intro o ho a wx hc hout hp hi R hR; cases ho
                    refine ⟨wanted_none rfl, ?_⟩
                    have e126 : a.tmps[126]?.getD undef = .bool true := hp 0 (by omega) rfl
                    go_simp
                    exact hR _ _ hc rfl (fun _ _ _ _ _ u h => h) (fun _ _ h => h)
                  · refine asksG_intro ?_; intro o ho a wx hc hout hp hi R hR; cases ho
                    refine ⟨wanted_some rfl rfl (hp 1 (by omega) rfl), ?_⟩
                    have e19 : a.tmps[19]? = some (.int .i64 E) := hout 19 rfl
                    go_simp
                    exact hR _ _ hc rfl (fun _ _ _ _ _ u h => h) (fun _ _ h => h)
                  · refine asksG_intro ?_; intro o ho a wx hc hout hp hi R hR; cases ho
                    refine ⟨wanted_some rfl rfl (hp 1 (by omega) rfl), ?_⟩
                    have e24 : a.tmps[24]? = some (.int .i64 E) := hout 24 rfl
                    go_simp
                    exact hR _ _ hc rfl (fun _ _ _ _ _ u h => h) (fun _ _ h => h)
                  · refine asksG_intro ?_; intro o ho a wx hc hout hp hi R hR; cases ho
                    refine ⟨wanted_some rfl rfl (hp 1 (by omega) rfl), ?_⟩
                    have e128 : a.tmps[128]?.getD undef = .int .i64 E := hp 2 (by omega) rfl
                    have e129 : a.tmps[129]?.getD undef = .int .i64 E := hp 3 (by omega) rfl
                    go_simp
                    exact hR _ _ hc rfl (fun _ _ _ _ _ u h => h) (fun _ _ h => h)
                  · refine asksG_intro ?_; intro o ho a wx hc hout hp hi R hR; cases ho
                    refine ⟨wanted_none rfl, ?_⟩
                    have e127 : a.tmps[127]?.getD undef = .bool true := hp 1 (by omega) rfl
                    have e130 : a.tmps[130]?.getD undef = .bool true := hp 4 (by omega) rfl
                    go_simp
                    exact hR _ _ hc rfl (fun _ _ _ _ _ u h => h) (fun _ _ h => h)
                  · refine asksG_intro ?_; intro o ho a wx hc hout hp hi R hR; cases ho
                    refine ⟨wanted_none rfl, ?_⟩
                    have e131 : a.tmps[131]?.getD undef = .bool true := hp 5 (by omega) rfl
                    go_simp
                    exact hR _ _ hc rfl (fun _ _ _ _ _ u h => h) (fun _ _ h => h)
                  · refine asksG_intro ?_; intro o ho a wx hc hout hp hi R hR; cases ho
                    refine ⟨wanted_some rfl rfl (hp 6 (by omega) rfl), ?_⟩
                    have e12 : a.tmps[12]? = some (.pointer (some ⟨J, 0, none⟩)) := hout 12 rfl
                    go_simp
                    exact hR _ _ hc rfl (fun _ _ _ _ _ u h => h) (fun _ _ h => h)
                  · refine asksG_intro ?_; intro o ho a wx hc hout hp hi R hR; cases ho
                    refine ⟨wanted_some rfl rfl (hp 6 (by omega) rfl), ?_⟩
                    have e133 : a.tmps[133]?.getD undef = .pointer (some ⟨J, 0, none⟩) := hp 7 (by omega) rfl
                    go_simp
                    refine (GRC.out wx hc).mono ?_
                    rintro e w2 ⟨a5, cap5, rfl, q1, k1⟩
                    exact ⟨_, rfl, hR _ _ (hc.trans k1) (RecsAt.of q1) (fun j _ _ _ _ u h => HST.out j u _ _ k1 h) (fun j _ h => HIST.out j _ _ k1 h)⟩
                  · refine asksG_intro ?_; intro o ho a wx hc hout hp hi R hR; cases ho
                    refine ⟨wanted_some rfl rfl (hp 6 (by omega) rfl), ?_⟩
                    have e13 : a.tmps[13]? = some (.pointer (some ⟨Rr, 0, none⟩)) := hout 13 rfl
                    go_simp
                    exact hR _ _ hc rfl (fun _ _ _ _ _ u h => h) (fun _ _ h => h)
                  · refine asksG_intro ?_; intro o ho a wx hc hout hp hi R hR; cases ho
                    refine ⟨wanted_some rfl rfl (hp 6 (by omega) rfl), ?_⟩
                    have e135 : a.tmps[135]?.getD undef = .pointer (some ⟨Rr, 0, none⟩) := hp 9 (by omega) rfl
                    go_simp
                    exact hR _ _ hc rfl (fun _ _ _ _ _ u h => h) (fun _ _ h => h)
                  · refine asksG_intro ?_; intro o ho a wx hc hout hp hi R hR; cases ho
                    refine ⟨wanted_some rfl rfl (hp 6 (by omega) rfl), ?_⟩
                    have e136 : a.tmps[136]?.getD undef = .pointer (some ⟨Rr, 0, none⟩) := hp 10 (by omega) rfl
                    go_simp
                    exact hR _ _ hc rfl (fun _ _ _ _ _ u h => h) (fun _ _ h => h)
                  · refine asksG_intro ?_; intro o ho a wx hc hout hp hi R hR; cases ho
                    refine ⟨wanted_some rfl rfl (hp 6 (by omega) rfl), ?_⟩
                    have e137 : a.tmps[137]?.getD undef = .pointer (some ⟨Rr, 1, none⟩) := hp 11 (by omega) rfl
                    have y1 := YC.out wx hc
                    go_simp
                    exact hR _ _ hc rfl (fun _ _ _ _ _ u h => h) (fun _ _ h => h)
                  · refine asksG_intro ?_; intro o ho a wx hc hout hp hi R hR; cases ho
                    refine ⟨wanted_some rfl rfl (hp 6 (by omega) rfl), ?_⟩
                    have q9 : RecsAt L2 (a.tmps[134]?.getD undef) wx := hp 8 (by omega) rfl
                    obtain ⟨a5, cap5, e134, r5⟩ := q9.out
                    have e138 : a.tmps[138]?.getD undef = .slice rb L2.length rd := hp 12 (by omega) rfl
                    go_simp
                    refine (GSM.out wx a5 cap5 hc r5).mono ?_
                    rintro e w2 ⟨rfl, k1⟩
                    exact ⟨_, rfl, hR _ _ (hc.trans k1) rfl (fun j _ _ _ _ u h => HST.out j u _ _ k1 h) (fun j _ h => HIST.out j _ _ k1 h)⟩
                  · refine asksG_intro ?_; intro o ho a wx hc hout hp hi R hR; cases ho
                    refine ⟨wanted_none rfl, ?_⟩
                    have e132 : a.tmps[132]?.getD undef = .bool true := hp 6 (by omega) rfl
                    have e139 : a.tmps[139]?.getD undef = .bool true := hp 13 (by omega) rfl
                    go_simp
                    exact hR _ _ hc rfl (fun _ _ _ _ _ u h => h) (fun _ _ h => h)
                  · refine asksG_intro ?_; intro o ho a wx hc hout hp hi R hR; cases ho
                    refine ⟨wanted_none rfl, ?_⟩
                    have e140 : a.tmps[140]?.getD undef = .bool true := hp 14 (by omega) rfl
                    go_simp
                    exact hR _ _ hc rfl (fun _ _ _ _ _ u h => h) (fun _ _ h => h)
                  · refine asksG_intro ?_; intro o ho a wx hc hout hp hi R hR; cases ho
                    refine ⟨wanted_some rfl rfl (hp 15 (by omega) rfl), ?_⟩
                    have e12 : a.tmps[12]? = some (.pointer (some ⟨J, 0, none⟩)) := hout 12 rfl
                    go_simp
                    exact hR _ _ hc rfl (fun _ _ _ _ _ u h => h) (fun _ _ h => h)
                · intro vs w12 hc hp
                  have e126 : vs 0 = .bool true := hp 0 (by omega) rfl
                  have e127 : vs 1 = .bool true := hp 1 (by omega) rfl
                  have e128 : vs 2 = .int .i64 E := hp 2 (by omega) rfl
                  have e129 : vs 3 = .int .i64 E := hp 3 (by omega) rfl
                  have e130 : vs 4 = .bool true := hp 4 (by omega) rfl
                  have e131 : vs 5 = .bool true := hp 5 (by omega) rfl
                  have e132 : vs 6 = .bool true := hp 6 (by omega) rfl
                  have e133 : vs 7 = .pointer (some ⟨J, 0, none⟩) := hp 7 (by omega) rfl
                  have e135 : vs 9 = .pointer (some ⟨Rr, 0, none⟩) := hp 9 (by omega) rfl
                  have e136 : vs 10 = .pointer (some ⟨Rr, 0, none⟩) := hp 10 (by omega) rfl
                  have e137 : vs 11 = .pointer (some ⟨Rr, 1, none⟩) := hp 11 (by omega) rfl
                  have e138 : vs 12 = .slice rb L2.length rd := hp 12 (by omega) rfl
                  have e139 : vs 13 = .bool true := hp 13 (by omega) rfl
                  have e140 : vs 14 = .bool true := hp 14 (by omega) rfl
                  have e141 : vs 15 = .bool true := hp 15 (by omega) rfl
                  have e142 : vs 16 = .pointer (some ⟨J, 0, none⟩) := hp 16 (by omega) rfl
                  simp only [List.take_succ_cons, List.take_zero, List.drop_succ_cons, List.drop_zero, putAll, Act.put, List.setIfInBounds_toArray, List.set_cons_zero, List.set_cons_succ, Nat.reduceAdd, e126, e127, e128, e129, e130, e131, e132, e133, e135, e136, e137, e138, e139, e140, e141, e142]
                  change wpList _ _ _ _ _ _
                  have S12 := Lib.hid (S8.out.kept0 hc)
                  clear hc hp e126 e127 e128 e129 e130 e131 e132 e133 e135 e136 e137 e138 e139 e140 e141 e142 YC GRC GSM HRD
                  have RPN : Hid (Calls Try.prog 29 #[.pointer (some ⟨J, 0, none⟩), .slice none 0 0] w12 fun e w' => e = .returned (.int .i64 0) ∧ LM W0 w' J D G B Rr [] L2 m 12) := Lib.hid ((grep_ S12.out.g (by omega) (l := []) (by decide) (by decide) (RdS.nil _ _ _ _)).mono fun e w' ⟨q1, q2, q3⟩ => by
                      rw [(rrep_nil (capN m)).1] at q1
                      rw [(rrep_nil (capN m)).2] at q2
                      exact ⟨q1, S12.out.step q2 (.inl rfl) q3⟩)
                  go_wp2_with fail
                  refine RPN.out.mono ?_
                  rintro e w13 ⟨rfl, s⟩
                  have LN : Hid (Calls Try.prog 17 #[.pointer (some ⟨J, 0, none⟩)] w13 fun e w' => e = .returned (.int .i64 0) ∧ w13 = w') := Lib.hid (glen s.g)
                  have K13 := Lib.hid s.k
                  clear s RPN
                  go_wp2_with fail
                  refine LN.out.mono ?_
                  rintro e w14 ⟨rfl, rfl⟩
                  go_wp2_with fail
                  go_ret
                  exact ⟨rfl, K0.out.trans K13.out⟩
              · have f13 : jt.actE o = 13 := a1
                have HF := Lib.hid a3
                have HCL := Lib.hid (a4 HK12.out)
                have hrm2 : (jt.d.jcap : Int) - jt.h.size = ((jt.act o).d.jcap : Int) - (jt.act o).h.size := by
                  rw [HF.out.head]
                  unfold Dk.jcap Dk.jp
                  rw [HF.out.n]
                rw [f13] at DO
                have hjx3 : (jt.act o).d.n = m := HF.out.n.trans h5.out.2.1
                clear a1 a2 a3 a4 f13 hne
                rw [hrm2]
                generalize jt.act o = jn at *
                generalize jt.actI o = I at *
                obtain ⟨rm, hrm⟩ : ∃ rm, (jn.d.jcap : Int) - jn.h.size = rm := ⟨_, rfl⟩
                rw [hrm]
                have HRM := Lib.hid hrm
                clear hrm hrm2
                go_wp2_with fail
                refine DO.out.mono ?_
                rintro e w6 ⟨rfl, js6, k6⟩
                have H6 := Lib.hid (And.intro js6 k6)
                have AP : Hid (Calls Try.prog 24 #[.pointer (some ⟨J, 0, none⟩), .string ⟨#[]⟩] w6 fun e w' => e = .returned (.tuple #[.int .i64 0, .int .i64 13]) ∧ Kept NoM w6 w') := Lib.hid (append_closed [] w6 js6 HCL.out)
                clear js6 k6 DO z0 z1 z2 z3
                go_wp2_with fail
                refine AP.out.mono ?_
                rintro e w7 ⟨rfl, k7⟩
                have RP : Hid (Calls Try.prog 29 #[.pointer (some ⟨J, 0, none⟩), .slice none 0 0] w7 fun e w' => e = .returned (.int .i64 13) ∧ Kept NoM w7 w') := Lib.hid (replace_closed (.slice none 0 0) w7 (JS.kept0 H6.out.1 k7) HCL.out)
                have K7 := Lib.hid k7
                clear k7 AP
                go_wp2_with fail
                refine RP.out.mono ?_
                rintro e w8 ⟨rfl, k8⟩
                have K8 := Lib.hid (K7.out.trans k8)
                clear k8 RP K7
                go_wp2_with fail
                refine (SN.out w8).mono ?_
                rintro e w10 ⟨rfl, k⟩
                have K10 := Lib.hid (K8.out.trans k)
                have js10 := JS.kept0 H6.out.1 K10.out
                have hlens := HA.out.2.2.1.lens
                have hrecs : jn.recs = L := HF.out.recs
                have RC : Hid (Calls Try.prog 16 #[.pointer (some ⟨J, 0, none⟩)] w10 fun e w' => ∃ a cap, e = .returned (.slice a L.length cap) ∧ RdS w' NoM 1 EStr (.slice a L.length cap) L ∧ Kept NoM w10 w') := Lib.hid (by
                  have q := records_ok w10 js10 (by rw [hrecs]; omega)
                  rw [hrecs] at q
                  exact q.mono fun e w' ⟨a, cap, O, q1, q2, q3, q4⟩ => ⟨a, cap, q1, q2.rd (fun _ _ x => x), q4⟩)
                have J10 := Lib.hid js10
                clear k js10 hrecs K8
                go_wp2_with fail
                refine RC.out.mono ?_
                rintro e w11 ⟨xa, xc, rfl, rdx, k⟩
                have bef : RdS w11 NoM 1 EStr (.slice ra L.length rc) L := ((HRL.out.kept ((h5.out.2.2.1.trans (H6.out.2.mono fun i _ x => .inr x)).transN (K10.out.trans k)) (fun _ _ x => x)).away (by omega) (fun _ _ x => x.elim))
                have SM : Hid (Calls Try.prog 15 #[.slice xa L.length xc, .slice ra L.length rc] w11 fun e w' => e = .returned (.bool true) ∧ Kept NoM w11 w') := Lib.hid ((rsame_ok _ _ L L w11 rdx bef (by omega) (by omega)).mono fun e w' ⟨q1, n, q2⟩ => ⟨by rw [q1]; simp, by rw [q2]; exact (Kept.refl _ _).drewN _⟩)
                have K11 := Lib.hid k
                clear k rdx bef RC hlens
                go_wp2_with fail
                refine SM.out.mono ?_
                rintro e w12 ⟨rfl, k⟩
                have js12 := JS.kept0 J10.out (K11.out.trans k)
                have h49 := h5.out.1.both.f.n4
                have h4n := HA.out.2.2.1.lens
                have RM2 := room_ok w12 js12 (by have := h5.out.2.1; omega) (by rw [HF.out.head]; have := (h5.out.1.both.f.lens h5.out.1.hi).2.1; omega)
                rw [HRM.out] at RM2
                have RM2 := Lib.hid RM2
                have J12 := Lib.hid js12
                have K12 := Lib.hid (K11.out.trans k)
                clear k js12 SM J10 K11 h49 h4n
                go_wp2_with fail
                refine RM2.out.mono ?_
                rintro e w13 ⟨rfl, n3, rfl⟩
                have UP := up_ok (w12.drewN n3) (JS.p (JS.kept0 J12.out ((Kept.refl _ _).drewN _)))
                rw [HF.out.off] at UP
                have UP := Lib.hid UP
                clear RM2
                go_wp2_with fail
                refine UP.out.mono ?_
                rintro e w14 ⟨rfl, rfl⟩
                go_wp2_with fail
                go_ret
                have k56 : Kept NoM W0 w6 := K5.out.trans' H6.out.2 (fun i hi x => absurd (h5.out.2.2.2.2 i x) (by omega))
                exact ⟨rfl, K0.out.trans (k56.trans (K10.out.trans (K12.out.drewN _)))⟩
              
            · have g1 : (o.kind != 1) = true := by rw [hk1]; rfl
              have g2 : (o.kind != 2) = false := by rw [hk1]; rfl
              clear hk1 hk
              go_wp2_with fail
              refine FW.out.mono ?_
              rintro e w1 ⟨rfl, k⟩
              have K1 := Lib.hid k
              obtain ⟨z0, z1, z2, z3⟩ := XC.out w1 k
              clear k
              go_wp2_with fail
              refine (F1.out w1).mono ?_
              rintro e w2 ⟨rfl, k⟩
              have K2 := Lib.hid (K1.out.trans k)
              clear z0 z1 z2 z3
              obtain ⟨z4, z5, z6, z7⟩ := XC.out w2 (K1.out.trans k)
              have AF1 := Lib.hid (AF.out w2 (K1.out.trans k))
              clear k
              go_wp2_with fail
              clear z4 z5 z6 z7 FW F1 AF K1
              refine AF1.out.mono ?_
              rintro e w3 ⟨D, G, B, J, Rr, j, L, rfl, js, rs, gg, hh, k⟩
              have hcap : (m - 2) / 2 * 128 = capN m := rfl
              rw [hcap] at rs
              obtain ⟨ra, rc, hr1, hr2⟩ := rs.ex
              have y1 := cell_blk hr1 1 _ rfl
              have RM := Lib.hid (room_ok w3 js (by have := gg.norm.both.f.n4; omega) (by have := (gg.norm.both.f.lens gg.norm.hi).2.1; omega))
              have HA := Lib.hid (And.intro js (And.intro rs (And.intro gg hh)))
              have HRL := Lib.hid hr2
              have K3 := Lib.hid (K2.out.trans k)
              clear js rs gg hh k AF1 hcap hr1 hr2
              go_wp2_with fail
              refine RM.out.mono ?_
              rintro e w9 ⟨rfl, nn, rfl⟩
              obtain ⟨w4, hw4⟩ : ∃ w4, w3.drewN nn = w4 := ⟨_, rfl⟩
              rw [hw4]
              have k34 : Kept NoM w3 w4 := by rw [← hw4]; exact (Kept.refl _ _).drewN _
              have JM4 := JS.kept0 HA.out.1 k34
              have RS4 := HA.out.2.1.kept0 k34
              have TR := Lib.hid (trip_ok y (by omega) w4 (JS.p JM4))
              have H4 := Lib.hid (And.intro JM4 (And.intro RS4 k34))
              clear JM4 RS4 k34 RM hw4 y1
              go_wp2_with fail
              refine TR.out.mono ?_
              rintro e w5 ⟨rfl, p, k⟩
              have hold : ∀ i, InJ J D G B i → W0.heap.size ≤ i := fun i x => by
                have := HA.out.2.2.2; have := K2.out.size
                unfold InJ InD at x; omega
              have JM5 : JM w5 J D G B ⟨j.d.doTrip y, j.h, j.recs, j.cl⟩ := JS.disk H4.out.1 p k
              have N5 : Norm ⟨j.d.doTrip y, j.h, j.recs, j.cl⟩ L 10 := ⟨HA.out.2.2.1.norm.both.trip (by omega), HA.out.2.2.1.norm.hi, HA.out.2.2.1.norm.cl, HA.out.2.2.1.norm.recs⟩
              have hjc : (j.d.doTrip y).jcap = capN m := by show j.d.jcap = _; unfold Dk.jcap Dk.jp capN; rw [HA.out.2.2.1.n]
              have hjn : (j.d.doTrip y).n = m := HA.out.2.2.1.n
              have K5 := Lib.hid ((K3.out.trans H4.out.2.2).trans' k (fun i hi x => absurd (hold i (.inr x)) (by omega)))
              have KM5 : Kept (fun i => i = Rr ∨ InJ J D G B i) w3 w5 := H4.out.2.2.of_no.trans (k.mono fun i _ x => .inr (.inr x))
              have RS5 := H4.out.2.1.beside (k.mono fun i _ x => .inr x) HA.out.2.2.2.2.2.2.2.2
              obtain ⟨z0, z1, z2, z3⟩ := XC.out w5 K5.out
              have HRM := Lib.hid (show (j.d.jcap : Int) - j.h.size = ((j.d.doTrip y).jcap : Int) - j.h.size from rfl)
              obtain ⟨jt, hjt⟩ : ∃ jt, (⟨j.d.doTrip y, j.h, j.recs, j.cl⟩ : Jn) = jt := ⟨_, rfl⟩
              have hrm : (j.d.jcap : Int) - j.h.size = (jt.d.jcap : Int) - jt.h.size := by rw [← hjt]; rfl
              have hjc2 : jt.d.jcap = capN m := by rw [← hjt]; exact hjc
              have hjn2 : jt.d.n = m := by rw [← hjt]; exact hjn
              rw [hjt] at JM5 N5
              rw [hrm]
              have DO : Hid (Calls Try.prog 13 #[.pointer (some ⟨D, 0, none⟩), .pointer (some ⟨J, 0, none⟩), .agg #[.int .i64 o.kind, .int .i64 o.n, .int .i64 o.k, .int .u8 o.fill.toNat]] w5 fun e w' => e = .returned (.tuple #[.pointer (some ⟨J, 0, none⟩), .int .i64 (jt.actI o), .int .i64 (jt.actE o)]) ∧ JM w' J D G B (jt.act o) ∧ Kept (InJ J D G B) w5 w') := Lib.hid ((do_ok jt o HO.out (K := 10) (by omega) N5.both.f (fun e => by have := HK12.out; omega) w5 JM5).mono fun e w' ⟨J', q1, q2, q3, q4⟩ => by
                have hJ : J' = J := by
                  rcases q3 with q3 | q3
                  · exact q3
                  · have := HK12.out; have := q3.1; omega
                subst hJ
                exact ⟨q1, q2, q4⟩)
              have NA := N5.act (by omega) o
              rw [hjc2] at NA
              have h5 := Lib.hid (And.intro N5 (And.intro hjn2 (And.intro KM5 (And.intro RS5 hold))))
              clear p k TR hold JM5 N5 hjc hjn KM5 RS5 HRM hjt hrm K3
              have hne := rdoE_ne (capN m) L o
              rcases NA with ⟨a1, a2, a3, a4, a5⟩ | ⟨a1, a2, a3, a4⟩
              · have f13 : (jt.actE o == 13) = false := beq_eq_false_iff_ne.2 (by rw [a1]; exact hne)
                have f14 : ¬ jt.actE o = 13 := by rw [a1]; exact hne
                have HA1 := Lib.hid a1
                have HA3 := Lib.hid (And.intro a3 a4)
                clear a1 a2 a3 a4 a5 hne
                generalize hjx : jt.act o = jn at *
                generalize jt.actE o = E at *
                generalize jt.actI o = I at *
                go_wp2_with fail
                refine DO.out.mono ?_
                rintro e w6 ⟨rfl, js6, k6⟩
                have TR2 := Lib.hid (trip_ok (-1) (by omega) w6 (JS.p js6))
                have H6 := Lib.hid (And.intro js6 k6)
                clear js6 k6 DO z0 z1 z2 z3
                go_wp2_with fail
                refine TR2.out.mono ?_
                rintro e w7 ⟨rfl, p, k⟩
                have k57 := H6.out.2.trans (k.mono fun i _ x => .inr x : Kept (InJ J D G B) w6 w7)
                have g7 : GJ w7 J D G B (rdoL (capN m) L o) m 11 := ⟨⟨jn.d.doTrip (-1), jn.h, jn.recs, jn.cl⟩, JS.disk H6.out.1 p k, ⟨⟨HA3.out.1.both.trip (by omega), HA3.out.1.hi, HA3.out.1.cl, HA3.out.1.recs⟩, HA3.out.2.trans h5.out.2.1, rfl⟩⟩
                have K7 : Kept NoM W0 w7 := K5.out.trans' k57 (fun i hi x => absurd (h5.out.2.2.2.2 i x) (by omega))
                have S7 : LM W0 w7 J D G B Rr (rdoL (capN m) L o) L m 11 := ⟨g7, h5.out.2.2.2.1.beside k57 HA.out.2.2.2.2.2.2.2.2, HA.out.2.2.2.2.2.2.2.2, h5.out.2.2.2.2, by have := HA.out.2.2.2; have := K2.out.size; omega, K7⟩
                have RD := S7.rdo o HO.out ⟨(HA.out.2.2.1.lens).1, (HA.out.2.2.1.lens).2.1⟩
                rw [← HA1.out] at RD
                unfold joC at RD
                have RD := Lib.hid RD
                obtain ⟨z0, z1, z2, z3⟩ := XC.out w7 K7
                generalize rdoL (capN m) L o = L2 at *
                generalize rdoI (capN m) L o = I2 at *
                clear p k k57 g7 K7 S7 TR2 H6
                go_wp2_with fail
                refine RD.out.mono ?_
                rintro e w8 ⟨rfl, s⟩
                have S8 := Lib.hid s
                clear s RD z0 z1 z2 z3
                go_wp2_with fail
                obtain ⟨rb, rd, y0, y1, hrd⟩ := S8.out.cells
                have HRD := Lib.hid hrd
                have hln := S8.out.g.lens
                have YC : Hid (∀ wx, Kept NoM w8 wx → wx.cell? ⟨Rr, 1, none⟩ = some (.slice rb L2.length rd)) := Lib.hid (fun wx kx => kx.cell y1 (fun x => x))
                have GRC : Hid (∀ wx, Kept NoM w8 wx → Calls Try.prog 16 #[.pointer (some ⟨J, 0, none⟩)] wx fun e w' => ∃ a cap, e = .returned (.slice a L2.length cap) ∧ RdS w' NoM 1 EStr (.slice a L2.length cap) L2 ∧ Kept NoM wx w') := Lib.hid (fun wx kx => (grecs (S8.out.g.kept0 kx)).mono fun e w' ⟨a, cap, O, q1, q2, q3, q4⟩ => ⟨a, cap, q1, q2.rd (fun _ _ x => x), q4⟩)
                have GSM : Hid (∀ wx a cap, Kept NoM w8 wx → RdS wx NoM 1 EStr (.slice a L2.length cap) L2 → Calls Try.prog 15 #[.slice a L2.length cap, .slice rb L2.length rd] wx fun e w' => e = .returned (.bool true) ∧ Kept NoM wx w') := Lib.hid (fun wx a cap kx hx => (rsame_ok _ _ L2 L2 wx hx (HRD.out.kept kx (fun _ _ x => x)) (by omega) (by omega)).mono fun e w' ⟨q1, n, q2⟩ => ⟨by rw [q1]; simp, by rw [q2]; exact (Kept.refl _ _).drewN _⟩)
                clear y0 y1 hrd hln
                refine wp_region_parG 17 [] [] [] [] [] (fun wx => Kept NoM w8 wx)
                      [fun v _ => v = .bool true, fun v _ => v = .bool true, fun v _ => v = .int .i64 E, fun v _ => v = .int .i64 E, fun v _ => v = .bool true, fun v _ => v = .bool true, fun v _ => v = .bool true, fun v _ => v = .pointer (some ⟨J, 0, none⟩), fun v wx => RecsAt L2 v wx, fun v _ => v = .pointer (some ⟨Rr, 0, none⟩), fun v _ => v = .pointer (some ⟨Rr, 0, none⟩), fun v _ => v = .pointer (some ⟨Rr, 1, none⟩), fun v _ => v = .slice rb L2.length rd, fun v _ => v = .bool true, fun v _ => v = .bool true, fun v _ => v = .bool true, fun v _ => v = .pointer (some ⟨J, 0, none⟩)] (by kernel_rfl) (by kernel_rfl) (by kernel_rfl) ((Kept.refl _ _).drew) (inits_nil) ?_ ?_
                · intro i hi9
                  have hst := stab_all (posts := [fun v _ => v = .bool true, fun v _ => v = .bool true, fun v _ => v = .int .i64 E, fun v _ => v = .int .i64 E, fun v _ => v = .bool true, fun v _ => v = .bool true, fun v _ => v = .bool true, fun v _ => v = .pointer (some ⟨J, 0, none⟩), fun v wx => RecsAt L2 v wx, fun v _ => v = .pointer (some ⟨Rr, 0, none⟩), fun v _ => v = .pointer (some ⟨Rr, 0, none⟩), fun v _ => v = .pointer (some ⟨Rr, 1, none⟩), fun v _ => v = .slice rb L2.length rd, fun v _ => v = .bool true, fun v _ => v = .bool true, fun v _ => v = .bool true, fun v _ => v = .pointer (some ⟨J, 0, none⟩)])        (stab_cons (stab_const _) (stab_cons (stab_const _) (stab_cons (stab_const _) (stab_cons (stab_const _) (stab_cons (stab_const _) (stab_cons (stab_const _) (stab_cons (stab_const _) (stab_cons (stab_const _) (stab_cons (stab_recs _) (stab_cons (stab_const _) (stab_cons (stab_const _) (stab_cons (stab_const _) (stab_cons (stab_const _) (stab_cons (stab_const _) (stab_cons (stab_const _) (stab_cons (stab_const _) (stab_cons (stab_const _) stab_nil)))))))))))))))))
                  have hist := init_stab (inits := []) (fun p h => by cases h)
                  have HST := Lib.hid hst
                  have HIST := Lib.hid hist
                  clear hst hist
                  rcases (show i = 0 ∨ i = 1 ∨ i = 2 ∨ i = 3 ∨ i = 4 ∨ i = 5 ∨ i = 6 ∨ i = 7 ∨ i = 8 ∨ i = 9 ∨ i = 10 ∨ i = 11 ∨ i = 12 ∨ i = 13 ∨ i = 14 ∨ i = 15 ∨ i = 16 by omega) with rfl | rfl | rfl | rfl | rfl | rfl | rfl | rfl | rfl | rfl | rfl | rfl | rfl | rfl | rfl | rfl | rfl
                  · refine asksG_intro ?_; intro o ho a wx hc hout hp hi R hR; cases ho
                    refine ⟨wanted_none rfl, ?_⟩
                    go_simp
                    refine (SN.out wx).mono ?_
                    rintro e w2 ⟨rfl, k1⟩
                    exact ⟨_, rfl, hR _ _ (hc.trans k1) rfl (fun j _ _ _ _ u h => HST.out j u _ _ k1 h) (fun j _ h => HIST.out j _ _ k1 h)⟩
                  · refine asksG_intro ?_; intro o ho a wx hc hout hp hi R hR; cases ho
                    refine ⟨wanted_none rfl, ?_⟩
                    have e126 : a.tmps[126]?.getD undef = .bool true := hp 0 (by omega) rfl
                    go_simp
                    exact hR _ _ hc rfl (fun _ _ _ _ _ u h => h) (fun _ _ h => h)
                  · refine asksG_intro ?_; intro o ho a wx hc hout hp hi R hR; cases ho
                    refine ⟨wanted_some rfl rfl (hp 1 (by omega) rfl), ?_⟩
                    have e19 : a.tmps[19]? = some (.int .i64 E) := hout 19 rfl
                    go_simp
                    exact hR _ _ hc rfl (fun _ _ _ _ _ u h => h) (fun _ _ h => h)
                  · refine asksG_intro ?_; intro o ho a wx hc hout hp hi R hR; cases ho
                    refine ⟨wanted_some rfl rfl (hp 1 (by omega) rfl), ?_⟩
                    have e24 : a.tmps[24]? = some (.int .i64 E) := hout 24 rfl
                    go_simp
                    exact hR _ _ hc rfl (fun _ _ _ _ _ u h => h) (fun _ _ h => h)
                  · refine asksG_intro ?_; intro o ho a wx hc hout hp hi R hR; cases ho
                    refine ⟨wanted_some rfl rfl (hp 1 (by omega) rfl), ?_⟩
                    have e128 : a.tmps[128]?.getD undef = .int .i64 E := hp 2 (by omega) rfl
                    have e129 : a.tmps[129]?.getD undef = .int .i64 E := hp 3 (by omega) rfl
                    go_simp
                    exact hR _ _ hc rfl (fun _ _ _ _ _ u h => h) (fun _ _ h => h)
                  · refine asksG_intro ?_; intro o ho a wx hc hout hp hi R hR; cases ho
                    refine ⟨wanted_none rfl, ?_⟩
                    have e127 : a.tmps[127]?.getD undef = .bool true := hp 1 (by omega) rfl
                    have e130 : a.tmps[130]?.getD undef = .bool true := hp 4 (by omega) rfl
                    go_simp
                    exact hR _ _ hc rfl (fun _ _ _ _ _ u h => h) (fun _ _ h => h)
                  · refine asksG_intro ?_; intro o ho a wx hc hout hp hi R hR; cases ho
                    refine ⟨wanted_none rfl, ?_⟩
                    have e131 : a.tmps[131]?.getD undef = .bool true := hp 5 (by omega) rfl
                    go_simp
                    exact hR _ _ hc rfl (fun _ _ _ _ _ u h => h) (fun _ _ h => h)
                  · refine asksG_intro ?_; intro o ho a wx hc hout hp hi R hR; cases ho
                    refine ⟨wanted_some rfl rfl (hp 6 (by omega) rfl), ?_⟩
                    have e12 : a.tmps[12]? = some (.pointer (some ⟨J, 0, none⟩)) := hout 12 rfl
                    go_simp
                    exact hR _ _ hc rfl (fun _ _ _ _ _ u h => h) (fun _ _ h => h)
                  · refine asksG_intro ?_; intro o ho a wx hc hout hp hi R hR; cases ho
                    refine ⟨wanted_some rfl rfl (hp 6 (by omega) rfl), ?_⟩
                    have e133 : a.tmps[133]?.getD undef = .pointer (some ⟨J, 0, none⟩) := hp 7 (by omega) rfl
                    go_simp
                    refine (GRC.out wx hc).mono ?_
                    rintro e w2 ⟨a5, cap5, rfl, q1, k1⟩
                    exact ⟨_, rfl, hR _ _ (hc.trans k1) (RecsAt.of q1) (fun j _ _ _ _ u h => HST.out j u _ _ k1 h) (fun j _ h => HIST.out j _ _ k1 h)⟩
                  · refine asksG_intro ?_; intro o ho a wx hc hout hp hi R hR; cases ho
                    refine ⟨wanted_some rfl rfl (hp 6 (by omega) rfl), ?_⟩
                    have e13 : a.tmps[13]? = some (.pointer (some ⟨Rr, 0, none⟩)) := hout 13 rfl
                    go_simp
                    exact hR _ _ hc rfl (fun _ _ _ _ _ u h => h) (fun _ _ h => h)
                  · refine asksG_intro ?_; intro o ho a wx hc hout hp hi R hR; cases ho
                    refine ⟨wanted_some rfl rfl (hp 6 (by omega) rfl), ?_⟩
                    have e135 : a.tmps[135]?.getD undef = .pointer (some ⟨Rr, 0, none⟩) := hp 9 (by omega) rfl
                    go_simp
                    exact hR _ _ hc rfl (fun _ _ _ _ _ u h => h) (fun _ _ h => h)
                  · refine asksG_intro ?_; intro o ho a wx hc hout hp hi R hR; cases ho
                    refine ⟨wanted_some rfl rfl (hp 6 (by omega) rfl), ?_⟩
                    have e136 : a.tmps[136]?.getD undef = .pointer (some ⟨Rr, 0, none⟩) := hp 10 (by omega) rfl
                    go_simp
                    exact hR _ _ hc rfl (fun _ _ _ _ _ u h => h) (fun _ _ h => h)
                  · refine asksG_intro ?_; intro o ho a wx hc hout hp hi R hR; cases ho
                    refine ⟨wanted_some rfl rfl (hp 6 (by omega) rfl), ?_⟩
                    have e137 : a.tmps[137]?.getD undef = .pointer (some ⟨Rr, 1, none⟩) := hp 11 (by omega) rfl
                    have y1 := YC.out wx hc
                    go_simp
                    exact hR _ _ hc rfl (fun _ _ _ _ _ u h => h) (fun _ _ h => h)
                  · refine asksG_intro ?_; intro o ho a wx hc hout hp hi R hR; cases ho
                    refine ⟨wanted_some rfl rfl (hp 6 (by omega) rfl), ?_⟩
                    have q9 : RecsAt L2 (a.tmps[134]?.getD undef) wx := hp 8 (by omega) rfl
                    obtain ⟨a5, cap5, e134, r5⟩ := q9.out
                    have e138 : a.tmps[138]?.getD undef = .slice rb L2.length rd := hp 12 (by omega) rfl
                    go_simp
                    refine (GSM.out wx a5 cap5 hc r5).mono ?_
                    rintro e w2 ⟨rfl, k1⟩
                    exact ⟨_, rfl, hR _ _ (hc.trans k1) rfl (fun j _ _ _ _ u h => HST.out j u _ _ k1 h) (fun j _ h => HIST.out j _ _ k1 h)⟩
                  · refine asksG_intro ?_; intro o ho a wx hc hout hp hi R hR; cases ho
                    refine ⟨wanted_none rfl, ?_⟩
                    have e132 : a.tmps[132]?.getD undef = .bool true := hp 6 (by omega) rfl
                    have e139 : a.tmps[139]?.getD undef = .bool true := hp 13 (by omega) rfl
                    go_simp
                    exact hR _ _ hc rfl (fun _ _ _ _ _ u h => h) (fun _ _ h => h)
                  · refine asksG_intro ?_; intro o ho a wx hc hout hp hi R hR; cases ho
                    refine ⟨wanted_none rfl, ?_⟩
                    have e140 : a.tmps[140]?.getD undef = .bool true := hp 14 (by omega) rfl
                    go_simp
                    exact hR _ _ hc rfl (fun _ _ _ _ _ u h => h) (fun _ _ h => h)
                  · refine asksG_intro ?_; intro o ho a wx hc hout hp hi R hR; cases ho
                    refine ⟨wanted_some rfl rfl (hp 15 (by omega) rfl), ?_⟩
                    have e12 : a.tmps[12]? = some (.pointer (some ⟨J, 0, none⟩)) := hout 12 rfl
                    go_simp
                    exact hR _ _ hc rfl (fun _ _ _ _ _ u h => h) (fun _ _ h => h)
                · intro vs w12 hc hp
                  have e126 : vs 0 = .bool true := hp 0 (by omega) rfl
                  have e127 : vs 1 = .bool true := hp 1 (by omega) rfl
                  have e128 : vs 2 = .int .i64 E := hp 2 (by omega) rfl
                  have e129 : vs 3 = .int .i64 E := hp 3 (by omega) rfl
                  have e130 : vs 4 = .bool true := hp 4 (by omega) rfl
                  have e131 : vs 5 = .bool true := hp 5 (by omega) rfl
                  have e132 : vs 6 = .bool true := hp 6 (by omega) rfl
                  have e133 : vs 7 = .pointer (some ⟨J, 0, none⟩) := hp 7 (by omega) rfl
                  have e135 : vs 9 = .pointer (some ⟨Rr, 0, none⟩) := hp 9 (by omega) rfl
                  have e136 : vs 10 = .pointer (some ⟨Rr, 0, none⟩) := hp 10 (by omega) rfl
                  have e137 : vs 11 = .pointer (some ⟨Rr, 1, none⟩) := hp 11 (by omega) rfl
                  have e138 : vs 12 = .slice rb L2.length rd := hp 12 (by omega) rfl
                  have e139 : vs 13 = .bool true := hp 13 (by omega) rfl
                  have e140 : vs 14 = .bool true := hp 14 (by omega) rfl
                  have e141 : vs 15 = .bool true := hp 15 (by omega) rfl
                  have e142 : vs 16 = .pointer (some ⟨J, 0, none⟩) := hp 16 (by omega) rfl
                  simp only [List.take_succ_cons, List.take_zero, List.drop_succ_cons, List.drop_zero, putAll, Act.put, List.setIfInBounds_toArray, List.set_cons_zero, List.set_cons_succ, Nat.reduceAdd, e126, e127, e128, e129, e130, e131, e132, e133, e135, e136, e137, e138, e139, e140, e141, e142]
                  change wpList _ _ _ _ _ _
                  have S12 := Lib.hid (S8.out.kept0 hc)
                  clear hc hp e126 e127 e128 e129 e130 e131 e132 e133 e135 e136 e137 e138 e139 e140 e141 e142 YC GRC GSM HRD
                  have RPN : Hid (Calls Try.prog 29 #[.pointer (some ⟨J, 0, none⟩), .slice none 0 0] w12 fun e w' => e = .returned (.int .i64 0) ∧ LM W0 w' J D G B Rr [] L2 m 12) := Lib.hid ((grep_ S12.out.g (by omega) (l := []) (by decide) (by decide) (RdS.nil _ _ _ _)).mono fun e w' ⟨q1, q2, q3⟩ => by
                      rw [(rrep_nil (capN m)).1] at q1
                      rw [(rrep_nil (capN m)).2] at q2
                      exact ⟨q1, S12.out.step q2 (.inl rfl) q3⟩)
                  go_wp2_with fail
                  refine RPN.out.mono ?_
                  rintro e w13 ⟨rfl, s⟩
                  have LN : Hid (Calls Try.prog 17 #[.pointer (some ⟨J, 0, none⟩)] w13 fun e w' => e = .returned (.int .i64 0) ∧ w13 = w') := Lib.hid (glen s.g)
                  have K13 := Lib.hid s.k
                  clear s RPN
                  go_wp2_with fail
                  refine LN.out.mono ?_
                  rintro e w14 ⟨rfl, rfl⟩
                  go_wp2_with fail
                  go_ret
                  exact ⟨rfl, K0.out.trans K13.out⟩
              · have f13 : jt.actE o = 13 := a1
                have HF := Lib.hid a3
                have HCL := Lib.hid (a4 HK12.out)
                have hrm2 : (jt.d.jcap : Int) - jt.h.size = ((jt.act o).d.jcap : Int) - (jt.act o).h.size := by
                  rw [HF.out.head]
                  unfold Dk.jcap Dk.jp
                  rw [HF.out.n]
                rw [f13] at DO
                have hjx3 : (jt.act o).d.n = m := HF.out.n.trans h5.out.2.1
                clear a1 a2 a3 a4 f13 hne
                rw [hrm2]
                generalize jt.act o = jn at *
                generalize jt.actI o = I at *
                obtain ⟨rm, hrm⟩ : ∃ rm, (jn.d.jcap : Int) - jn.h.size = rm := ⟨_, rfl⟩
                rw [hrm]
                have HRM := Lib.hid hrm
                clear hrm hrm2
                go_wp2_with fail
                refine DO.out.mono ?_
                rintro e w6 ⟨rfl, js6, k6⟩
                have H6 := Lib.hid (And.intro js6 k6)
                have AP : Hid (Calls Try.prog 24 #[.pointer (some ⟨J, 0, none⟩), .string ⟨#[]⟩] w6 fun e w' => e = .returned (.tuple #[.int .i64 0, .int .i64 13]) ∧ Kept NoM w6 w') := Lib.hid (append_closed [] w6 js6 HCL.out)
                clear js6 k6 DO z0 z1 z2 z3
                go_wp2_with fail
                refine AP.out.mono ?_
                rintro e w7 ⟨rfl, k7⟩
                have RP : Hid (Calls Try.prog 29 #[.pointer (some ⟨J, 0, none⟩), .slice none 0 0] w7 fun e w' => e = .returned (.int .i64 13) ∧ Kept NoM w7 w') := Lib.hid (replace_closed (.slice none 0 0) w7 (JS.kept0 H6.out.1 k7) HCL.out)
                have K7 := Lib.hid k7
                clear k7 AP
                go_wp2_with fail
                refine RP.out.mono ?_
                rintro e w8 ⟨rfl, k8⟩
                have K8 := Lib.hid (K7.out.trans k8)
                clear k8 RP K7
                go_wp2_with fail
                refine (SN.out w8).mono ?_
                rintro e w10 ⟨rfl, k⟩
                have K10 := Lib.hid (K8.out.trans k)
                have js10 := JS.kept0 H6.out.1 K10.out
                have hlens := HA.out.2.2.1.lens
                have hrecs : jn.recs = L := HF.out.recs
                have RC : Hid (Calls Try.prog 16 #[.pointer (some ⟨J, 0, none⟩)] w10 fun e w' => ∃ a cap, e = .returned (.slice a L.length cap) ∧ RdS w' NoM 1 EStr (.slice a L.length cap) L ∧ Kept NoM w10 w') := Lib.hid (by
                  have q := records_ok w10 js10 (by rw [hrecs]; omega)
                  rw [hrecs] at q
                  exact q.mono fun e w' ⟨a, cap, O, q1, q2, q3, q4⟩ => ⟨a, cap, q1, q2.rd (fun _ _ x => x), q4⟩)
                have J10 := Lib.hid js10
                clear k js10 hrecs K8
                go_wp2_with fail
                refine RC.out.mono ?_
                rintro e w11 ⟨xa, xc, rfl, rdx, k⟩
                have bef : RdS w11 NoM 1 EStr (.slice ra L.length rc) L := ((HRL.out.kept ((h5.out.2.2.1.trans (H6.out.2.mono fun i _ x => .inr x)).transN (K10.out.trans k)) (fun _ _ x => x)).away (by omega) (fun _ _ x => x.elim))
                have SM : Hid (Calls Try.prog 15 #[.slice xa L.length xc, .slice ra L.length rc] w11 fun e w' => e = .returned (.bool true) ∧ Kept NoM w11 w') := Lib.hid ((rsame_ok _ _ L L w11 rdx bef (by omega) (by omega)).mono fun e w' ⟨q1, n, q2⟩ => ⟨by rw [q1]; simp, by rw [q2]; exact (Kept.refl _ _).drewN _⟩)
                have K11 := Lib.hid k
                clear k rdx bef RC hlens
                go_wp2_with fail
                refine SM.out.mono ?_
                rintro e w12 ⟨rfl, k⟩
                have js12 := JS.kept0 J10.out (K11.out.trans k)
                have h49 := h5.out.1.both.f.n4
                have h4n := HA.out.2.2.1.lens
                have RM2 := room_ok w12 js12 (by have := h5.out.2.1; omega) (by rw [HF.out.head]; have := (h5.out.1.both.f.lens h5.out.1.hi).2.1; omega)
                rw [HRM.out] at RM2
                have RM2 := Lib.hid RM2
                have J12 := Lib.hid js12
                have K12 := Lib.hid (K11.out.trans k)
                clear k js12 SM J10 K11 h49 h4n
                go_wp2_with fail
                refine RM2.out.mono ?_
                rintro e w13 ⟨rfl, n3, rfl⟩
                have UP := up_ok (w12.drewN n3) (JS.p (JS.kept0 J12.out ((Kept.refl _ _).drewN _)))
                rw [HF.out.off] at UP
                have UP := Lib.hid UP
                clear RM2
                go_wp2_with fail
                refine UP.out.mono ?_
                rintro e w14 ⟨rfl, rfl⟩
                go_wp2_with fail
                go_ret
                have k56 : Kept NoM W0 w6 := K5.out.trans' H6.out.2 (fun i hi x => absurd (h5.out.2.2.2.2 i x) (by omega))
                exact ⟨rfl, K0.out.trans (k56.trans (K10.out.trans (K12.out.drewN _)))⟩
              
end Go.Proofs.Ytjcmnobfdidnkaa
