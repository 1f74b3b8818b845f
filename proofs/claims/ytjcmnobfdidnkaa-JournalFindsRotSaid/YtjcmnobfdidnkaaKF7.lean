/- The walk of JournalFindsRot. -/
import Derived.Test.YtjcmnobfdidnkaaKL5
import Derived.Test.YtjcmnobfdidnkaaKK9
set_option linter.unusedVariables false
set_option linter.unusedSimpArgs false
set_option linter.unusedSectionVars false
namespace Go.Proofs.Ytjcmnobfdidnkaa
open Go.RowKit
set_option maxHeartbeats 4000000
set_option maxRecDepth 8000
theorem hds_of {e : Dk} (h : HdsOk' e) : HdsOk e := fun i hi hz hb => (rd_ok (h i hi) hz hb).ok
theorem finds_ok (n i b : Int) (v : Value) (l : List Jo) (w : World) (hv : RdS w NoM 4 EJo v l) : Calls Try.prog 7 #[.int .i64 n, v, .int .i64 i, .int .i64 b] w fun e w' => e = .returned (.bool true) ∧ Kept NoM w w' := by
  obtain ⟨va, vc, rfl, _, _⟩ := hv.shape
  have SN := Lib.hid sanity_ok
  have HV := Lib.hid hv
  have FW := Lib.hid (rfew_ok _ l w hv)
  clear hv
  go_enter Try.func7, Try.ntmps7
  by_cases h1 : n < 4
  · skip
    go_wp2_with fail
    refine FW.out.mono ?_
    rintro e w1 ⟨rfl, k⟩
    have K1 := Lib.hid k
    clear k FW
    go_wp2_with fail
    refine (SN.out w1).mono ?_
    rintro e w3 ⟨rfl, k⟩
    have K3 := Lib.hid k
    go_wp2_with fail
    go_ret
    exact ⟨rfl, K1.out.trans K3.out⟩
  · skip
    by_cases h2 : n > 24
    · skip
      go_wp2_with fail
      refine FW.out.mono ?_
      rintro e w1 ⟨rfl, k⟩
      have K1 := Lib.hid k
      clear k FW
      go_wp2_with fail
      refine (SN.out w1).mono ?_
      rintro e w3 ⟨rfl, k⟩
      have K3 := Lib.hid k
      go_wp2_with fail
      go_ret
      exact ⟨rfl, K1.out.trans K3.out⟩
    · skip
      cases hf : fewJ l with
      | false =>
        rw [hf] at FW
        go_wp2_with fail
        refine FW.out.mono ?_
        rintro e w1 ⟨rfl, k⟩
        have K1 := Lib.hid k
        clear k FW
        go_wp2_with fail
        refine (SN.out w1).mono ?_
        rintro e w3 ⟨rfl, k⟩
        have K3 := Lib.hid k
        go_wp2_with fail
        go_ret
        exact ⟨rfl, K1.out.trans K3.out⟩
      | true =>
        rw [hf] at FW
        by_cases h3 : i < 0
        · skip
          go_wp2_with fail
          refine FW.out.mono ?_
          rintro e w1 ⟨rfl, k⟩
          have K1 := Lib.hid k
          clear k FW
          go_wp2_with fail
          refine (SN.out w1).mono ?_
          rintro e w3 ⟨rfl, k⟩
          have K3 := Lib.hid k
          go_wp2_with fail
          go_ret
          exact ⟨rfl, K1.out.trans K3.out⟩
        · skip
          by_cases h4 : i ≥ n
          · skip
            go_wp2_with fail
            refine FW.out.mono ?_
            rintro e w1 ⟨rfl, k⟩
            have K1 := Lib.hid k
            clear k FW
            go_wp2_with fail
            refine (SN.out w1).mono ?_
            rintro e w3 ⟨rfl, k⟩
            have K3 := Lib.hid k
            go_wp2_with fail
            go_ret
            exact ⟨rfl, K1.out.trans K3.out⟩
          · skip
            by_cases h5 : b < 0
            · skip
              go_wp2_with fail
              refine FW.out.mono ?_
              rintro e w1 ⟨rfl, k⟩
              have K1 := Lib.hid k
              clear k FW
              go_wp2_with fail
              refine (SN.out w1).mono ?_
              rintro e w3 ⟨rfl, k⟩
              have K3 := Lib.hid k
              go_wp2_with fail
              go_ret
              exact ⟨rfl, K1.out.trans K3.out⟩
            · skip
              by_cases h6 : b ≥ 1024
              · skip
                go_wp2_with fail
                refine FW.out.mono ?_
                rintro e w1 ⟨rfl, k⟩
                have K1 := Lib.hid k
                clear k FW
                go_wp2_with fail
                refine (SN.out w1).mono ?_
                rintro e w3 ⟨rfl, k⟩
                have K3 := Lib.hid k
                go_wp2_with fail
                go_ret
                exact ⟨rfl, K1.out.trans K3.out⟩
              · skip
                obtain ⟨m, rfl⟩ : ∃ m : Nat, n = (m : Int) := ⟨n.toNat, by omega⟩
                obtain ⟨pi, rfl⟩ : ∃ pi : Nat, i = (pi : Int) := ⟨i.toNat, by omega⟩
                obtain ⟨pb, rfl⟩ : ∃ pb : Nat, b = (pb : Int) := ⟨b.toNat, by omega⟩
                have AF : Hid (∀ wx, Kept NoM w wx → Calls Try.prog 26 #[.int .i64 m, .slice va l.length vc] wx fun e w' => ∃ D G B J R j L, e = .returned (.tuple #[.pointer (some ⟨D, 0, none⟩), .pointer (some ⟨J, 0, none⟩), .pointer (some ⟨R, 0, none⟩), .bool true]) ∧ JM w' J D G B j ∧ RS w' R ((m - 2) / 2 * 128) L (InJ J D G B) ∧ Going j L m 10 ∧ (wx.heap.size ≤ D ∧ wx.heap.size ≤ G ∧ wx.heap.size ≤ B ∧ wx.heap.size ≤ J ∧ wx.heap.size ≤ R ∧ ¬ InJ J D G B R) ∧ Kept NoM wx w') := Lib.hid (fun wx k => after_ok m (by omega) (by omega) _ l hf wx (HV.out.kept k (fun _ _ x => x)))
                have hq1 : pi < m := by omega
                have hq2 : pb < 1024 := by omega
                have HQ := Lib.hid (And.intro hq1 hq2)
                go_wp2_with fail
                refine FW.out.mono ?_
                rintro e w1 ⟨rfl, k⟩
                have AF1 := Lib.hid (AF.out w1 k)
                have K1 := Lib.hid k
                clear k FW AF hq1 hq2
                go_wp2_with fail
                refine AF1.out.mono ?_
                rintro e w3 ⟨D, G, B, J, Rr, j, L, rfl, js, rs, gg, hh, k⟩
                have hold : ∀ i, InJ J D G B i ∨ i = Rr → w.heap.size ≤ i := fun i x => by
                  have := K1.out.size
                  unfold InJ InD at x; omega
                have K3 := Lib.hid (K1.out.trans k)
                have HLJ := Lib.hid (JS.lt js)
                have CL := Lib.hid (clone_ok w3 (JS.p js))
                have HA := Lib.hid (And.intro js (And.intro rs (And.intro gg (And.intro hh hold))))
                clear js rs gg hh k AF1 hold
                go_wp2_with fail
                refine CL.out.mono ?_
                rintro e w4 ⟨D2, G2, B2, rfl, p2, hl2, k⟩
                have hr : j.d.rotok pi pb = true := Dk.rotok_iff.2 ⟨⟨by omega, by have := HA.out.2.2.1.n; have := HQ.out.1; omega⟩, by omega, by have := HQ.out.2; omega⟩
                have hrE : j.d.rotE pi pb = 0 := by unfold Dk.rotE; rw [hr]; rfl
                have RT1 := rot_goes pi pb w4 (JS.p (JS.kept0 HA.out.1 k)) hr
                rw [hrE] at RT1
                have RT1 := Lib.hid RT1
                have hrs : RS w4 Rr ((m - 2) / 2 * 128) L (fun i => InJ J D G B i ∨ InD D2 G2 B2 i) := (HA.out.2.1.turn (X' := fun i => InJ J D G B i ∨ InD D2 G2 B2 i) (fun i hi x => by
                  rcases x with x | x
                  · exact x
                  · unfold InD at x; omega)).kept0 k
                have hd2 : ∀ i, InD D2 G2 B2 i → w3.heap.size ≤ i := fun i x => by unfold InD at x; omega
                have H4 := Lib.hid (And.intro p2 (And.intro hd2 (And.intro hrs (And.intro hr hrE))))
                have K4 := Lib.hid (K3.out.trans k)
                clear p2 hl2 k CL hrs hd2 hr hrE
                go_wp2_with fail
                refine RT1.out.mono ?_
                rintro e w5 ⟨rfl, p5, k5⟩
                have hne2 : ∀ i, InD D G B i → ¬ InD D2 G2 B2 i := fun i x y => by
                  have := HLJ.out i (.inr x); have := H4.out.2.1 i y; omega
                have p25 : PD w5 D2 G2 B2 j.d := H4.out.1.kept k5 (fun x => hne2 _ x (.inl rfl)) (fun x => hne2 _ x (.inr (.inl rfl))) (fun x => hne2 _ x (.inr (.inr rfl)))
                have RT2 := rot_goes pi pb w5 p25 H4.out.2.2.2.1
                rw [H4.out.2.2.2.2] at RT2
                have RT2 := Lib.hid RT2
                have hnR : ¬ (InJ J D G B Rr ∨ InD D2 G2 B2 Rr) := fun x => by
                  rcases x with x | x
                  · exact HA.out.2.2.2.1.2.2.2.2.2 x
                  · have := H4.out.2.1 Rr x; have := HA.out.2.1.lt; omega
                have rs5 := H4.out.2.2.1.beside (k5.mono fun i _ x => .inl (.inr x)) hnR
                have K5 := Lib.hid (K4.out.trans' k5 (fun i hi x => absurd (HA.out.2.2.2.2 i (.inl (.inr x))) (by omega)))
                have H5 := Lib.hid (And.intro p5 (And.intro rs5 (And.intro hne2 hnR)))
                clear p5 k5 p25 rs5 RT1 hne2 hnR
                go_wp2_with fail
                refine RT2.out.mono ?_
                rintro e w6 ⟨rfl, p6, k6⟩
                have p16 : PD w6 D G B (j.d.rot pi pb) := H5.out.1.kept k6 (fun x => H5.out.2.2.1 _ (.inl rfl) x) (fun x => H5.out.2.2.1 _ (.inr (.inl rfl)) x) (fun x => H5.out.2.2.1 _ (.inr (.inr rfl)) x)
                have rs6 := H5.out.2.1.beside (k6.mono fun i _ x => .inr x) H5.out.2.2.2
                have K6 := Lib.hid (K5.out.trans' k6 (fun i hi x => absurd (H4.out.2.1 i x) (by have := K3.out.size; omega)))
                have hlen := HA.out.2.2.1.lens
                have both : Both j.d j.h L 10 := by have q := HA.out.2.2.1.norm.both; rw [HA.out.2.2.1.norm.recs] at q; exact q
                obtain ⟨hds, hcase⟩ := both.rot (HA.out.2.2.1.norm.fits (by omega)) pi pb (by rw [HA.out.2.2.1.n]; exact HQ.out.1) HQ.out.2 HA.out.2.2.1.trip
                have hwf := (HA.out.2.2.1.norm.both).c.wf
                have hen : (j.d.rot pi pb).n = m := (Dk.n_rot _ _).trans HA.out.2.2.1.n
                have heo : (j.d.rot pi pb).off = false := (rot_calm both.c pi pb).off
                have het : (j.d.rot pi pb).trip = -1 := by unfold Dk.rot; split; exact HA.out.2.2.1.trip; exact HA.out.2.2.1.trip
                have OP := open_ok (by rw [hen]; exact hlen.2.2.1) (hds_of hds) heo w6 p16
                have HLN := Lib.hid hlen
                have HBT := Lib.hid (And.intro both hwf)
                have H6 := Lib.hid (And.intro p6 rs6)
                clear both hwf hds p6 rs6 k6 RT2
                -- what comes behind: the second rot of the clone, and its opening
                have BACK : Hid (∀ wx, PD wx D2 G2 B2 (j.d.rot pi pb) → Calls Try.prog 32 #[.pointer (some ⟨D2, 0, none⟩), .int .i64 pi, .int .i64 pb] wx fun e w' => (∃ E, e = .returned (.int .i64 E)) ∧ FD w' D2 G2 B2 j.d L 10 ∧ Kept (InD D2 G2 B2) wx w') := Lib.hid (fun wx p => by
                  have hr2 : (j.d.rot pi pb).rotok pi pb = true := Dk.rotok_iff.2 ⟨⟨by omega, by have := HQ.out.1; omega⟩, by omega, by have := HQ.out.2; omega⟩
                  refine (rot_goes pi pb wx p hr2).mono ?_
                  rintro e w' ⟨q1, q2, q3⟩
                  rw [Dk.rot_rot HBT.out.2] at q2
                  exact ⟨⟨_, q1⟩, ⟨q2, j.h, HA.out.2.2.1.norm.fits (by omega), HBT.out.1.fit⟩, q3⟩)
                have hjn := HA.out.2.2.1.n
                have hjt := HA.out.2.2.1.trip
                by_cases hE7 : jopenE (j.d.rot pi pb) = 7
                · have OP1 : Hid (Calls Try.prog 11 #[.pointer (some ⟨D, 0, none⟩)] w6 fun e w' => e = .returned (.tuple #[.pointer none, .int .i64 7]) ∧ Kept (InD D G B) w6 w') := Lib.hid (OP.mono fun e w' q => by
                    rcases q with ⟨_, q1, _, q2⟩ | ⟨q, _⟩
                    · rw [hE7] at q1; exact ⟨q1, q2⟩
                    · rw [hE7] at q; cases q)
                  clear OP hE7 hcase
                  go_wp2_with fail
                  refine OP1.out.mono ?_
                  rintro e w7 ⟨rfl, k7⟩
                  have RS7 := Lib.hid (H6.out.2.beside (k7.mono fun i _ x => .inl (.inr x)) H5.out.2.2.2)
                  have K7 := Lib.hid (K6.out.trans' k7 (fun i hi x => absurd (HA.out.2.2.2.2 i (.inl (.inr x))) (by omega)))
                  have p7 : PD w7 D2 G2 B2 (j.d.rot pi pb) := H6.out.1.kept k7 (fun x => H5.out.2.2.1 _ x (.inl rfl)) (fun x => H5.out.2.2.1 _ x (.inr (.inl rfl))) (fun x => H5.out.2.2.1 _ x (.inr (.inr rfl)))
                  clear k7 OP1
                  go_wp2_with fail
                  go_quiet (fail)
                  have BK := Lib.hid (BACK.out (w7.drewN nq) (p7.kept0 ((Kept.refl _ _).drewN _)))
                  have RS7 := Lib.hid (RS7.out.kept0 ((Kept.refl NoM _).drewN nq))
                  have K7 := Lib.hid (K7.out.drewN nq)
                  clear p7
                  go_wp2_with fail
                  refine BK.out.mono ?_
                  rintro e w8 ⟨⟨E8, rfl⟩, fd, k8⟩
                  have LO := Lib.hid (fd.opn hjn (by omega) hjt)
                  have rs8 := RS7.out.beside (k8.mono fun i _ x => .inr x) H5.out.2.2.2
                  have K8 := Lib.hid (K7.out.trans' k8 (fun i hi x => absurd (H4.out.2.1 i x) (by have := K3.out.size; omega)))
                  have RS8 := Lib.hid rs8
                  clear fd k8 rs8 BK
                  go_wp2_with fail
                  refine LO.out.mono ?_
                  rintro e w9 ⟨J3, rfl, g9, hJ3, k9⟩
                  have rs9 := RS8.out.beside (k9.mono fun i _ x => .inr x) H5.out.2.2.2
                  have K9 := Lib.hid (K8.out.trans' k9 (fun i hi x => absurd (H4.out.2.1 i x) (by have := K3.out.size; omega)))
                  obtain ⟨rb, rd, hR1, hR2⟩ := rs9.ex
                  have y1 := cell_blk hR1 1 _ rfl
                  have HRD := Lib.hid (hR2.away (M' := NoM) (by omega) (fun _ _ x => x.elim))
                  have hln := g9.lens
                  have YC : Hid (∀ wx, Kept NoM w9 wx → wx.cell? ⟨Rr, 1, none⟩ = some (.slice rb L.length rd)) := Lib.hid (fun wx kx => kx.cell y1 (fun x => x))
                  have G9 := Lib.hid g9
                  have GRC : Hid (∀ wx, Kept NoM w9 wx → Calls Try.prog 16 #[.pointer (some ⟨J3, 0, none⟩)] wx fun e w' => ∃ a cap, e = .returned (.slice a L.length cap) ∧ RdS w' NoM 1 EStr (.slice a L.length cap) L ∧ Kept NoM wx w') := Lib.hid (fun wx kx => (grecs (G9.out.kept0 kx)).mono fun e w' ⟨a, cap, O, q1, q2, q3, q4⟩ => ⟨a, cap, q1, q2.rd (fun _ _ x => x), q4⟩)
                  have GSM : Hid (∀ wx a cap, Kept NoM w9 wx → RdS wx NoM 1 EStr (.slice a L.length cap) L → Calls Try.prog 15 #[.slice a L.length cap, .slice rb L.length rd] wx fun e w' => e = .returned (.bool true) ∧ Kept NoM wx w') := Lib.hid (fun wx a cap kx hx => (rsame_ok _ _ L L wx hx (HRD.out.kept kx (fun _ _ x => x)) (by omega) (by omega)).mono fun e w' ⟨q1, n, q2⟩ => ⟨by rw [q1]; simp, by rw [q2]; exact (Kept.refl _ _).drewN _⟩)
                  clear y1 hR1 hR2 g9 rs9 k9 hJ3 LO hln RS8
                  go_wp2_with fail
                  refine wp_region_parG 18 [] [] [] [] [] (fun wx => Kept NoM w9 wx)
                        [fun v _ => v = .bool true, fun v _ => v = .bool true, fun v _ => v = .pointer (some ⟨J3, 0, none⟩), fun v wx => RecsAt L v wx, fun v _ => v = .pointer (some ⟨Rr, 0, none⟩), fun v _ => v = .pointer (some ⟨Rr, 0, none⟩), fun v _ => v = .pointer (some ⟨Rr, 1, none⟩), fun v _ => v = .slice rb L.length rd, fun v _ => v = .bool true, fun v _ => v = .bool true, fun v _ => v = .bool true, fun v _ => v = .pointer none, fun v _ => v = .bool true, fun v _ => v = .int .i64 7, fun v _ => v = .bool true, fun v _ => v = .bool true, fun v _ => v = .bool true, fun v _ => v = .bool true] (by kernel_rfl) (by kernel_rfl) (by kernel_rfl) ((Kept.refl _ _).drew) (inits_nil) ?_ ?_
                  · intro i hi9
                    have hst := stab_all (posts := [fun v _ => v = .bool true, fun v _ => v = .bool true, fun v _ => v = .pointer (some ⟨J3, 0, none⟩), fun v wx => RecsAt L v wx, fun v _ => v = .pointer (some ⟨Rr, 0, none⟩), fun v _ => v = .pointer (some ⟨Rr, 0, none⟩), fun v _ => v = .pointer (some ⟨Rr, 1, none⟩), fun v _ => v = .slice rb L.length rd, fun v _ => v = .bool true, fun v _ => v = .bool true, fun v _ => v = .bool true, fun v _ => v = .pointer none, fun v _ => v = .bool true, fun v _ => v = .int .i64 7, fun v _ => v = .bool true, fun v _ => v = .bool true, fun v _ => v = .bool true, fun v _ => v = .bool true])        (stab_cons (stab_const _) (stab_cons (stab_const _) (stab_cons (stab_const _) (stab_cons (stab_recs _) (stab_cons (stab_const _) (stab_cons (stab_const _) (stab_cons (stab_const _) (stab_cons (stab_const _) (stab_cons (stab_const _) (stab_cons (stab_const _) (stab_cons (stab_const _) (stab_cons (stab_const _) (stab_cons (stab_const _) (stab_cons (stab_const _) (stab_cons (stab_const _) (stab_cons (stab_const _) (stab_cons (stab_const _) (stab_cons (stab_const _) stab_nil))))))))))))))))))
                    have hist := init_stab (inits := []) (fun p h => by cases h)
                    have HST := Lib.hid hst
                    have HIST := Lib.hid hist
                    clear hst hist
                    rcases (show i = 0 ∨ i = 1 ∨ i = 2 ∨ i = 3 ∨ i = 4 ∨ i = 5 ∨ i = 6 ∨ i = 7 ∨ i = 8 ∨ i = 9 ∨ i = 10 ∨ i = 11 ∨ i = 12 ∨ i = 13 ∨ i = 14 ∨ i = 15 ∨ i = 16 ∨ i = 17 by omega) with rfl | rfl | rfl | rfl | rfl | rfl | rfl | rfl | rfl | rfl | rfl | rfl | rfl | rfl | rfl | rfl | rfl | rfl
                    · refine asksG_intro ?_; intro o ho a wx hc hout hp hi R hR; cases ho
                      refine ⟨wanted_none rfl, ?_⟩
                      go_simp
                      refine (SN.out wx).mono ?_
                      rintro e w2 ⟨rfl, k1⟩
                      exact ⟨_, rfl, hR _ _ (hc.trans k1) rfl (fun j _ _ _ _ u h => HST.out j u _ _ k1 h) (fun j _ h => HIST.out j _ _ k1 h)⟩
                    · refine asksG_intro ?_; intro o ho a wx hc hout hp hi R hR; cases ho
                      refine ⟨wanted_none rfl, ?_⟩
                      have e109 : a.tmps[109]?.getD undef = .bool true := hp 0 (by omega) rfl
                      go_simp
                      exact hR _ _ hc rfl (fun _ _ _ _ _ u h => h) (fun _ _ h => h)
                    · refine asksG_intro ?_; intro o ho a wx hc hout hp hi R hR; cases ho
                      refine ⟨wanted_some rfl rfl (hp 1 (by omega) rfl), ?_⟩
                      have e17 : a.tmps[17]? = some (.pointer (some ⟨J3, 0, none⟩)) := hout 17 rfl
                      go_simp
                      exact hR _ _ hc rfl (fun _ _ _ _ _ u h => h) (fun _ _ h => h)
                    · refine asksG_intro ?_; intro o ho a wx hc hout hp hi R hR; cases ho
                      refine ⟨wanted_some rfl rfl (hp 1 (by omega) rfl), ?_⟩
                      have e111 : a.tmps[111]?.getD undef = .pointer (some ⟨J3, 0, none⟩) := hp 2 (by omega) rfl
                      go_simp
                      refine (GRC.out wx hc).mono ?_
                      rintro e w2 ⟨a5, cap5, rfl, q1, k1⟩
                      exact ⟨_, rfl, hR _ _ (hc.trans k1) (RecsAt.of q1) (fun j _ _ _ _ u h => HST.out j u _ _ k1 h) (fun j _ h => HIST.out j _ _ k1 h)⟩
                    · refine asksG_intro ?_; intro o ho a wx hc hout hp hi R hR; cases ho
                      refine ⟨wanted_some rfl rfl (hp 1 (by omega) rfl), ?_⟩
                      have e12 : a.tmps[12]? = some (.pointer (some ⟨Rr, 0, none⟩)) := hout 12 rfl
                      go_simp
                      exact hR _ _ hc rfl (fun _ _ _ _ _ u h => h) (fun _ _ h => h)
                    · refine asksG_intro ?_; intro o ho a wx hc hout hp hi R hR; cases ho
                      refine ⟨wanted_some rfl rfl (hp 1 (by omega) rfl), ?_⟩
                      have e113 : a.tmps[113]?.getD undef = .pointer (some ⟨Rr, 0, none⟩) := hp 4 (by omega) rfl
                      go_simp
                      exact hR _ _ hc rfl (fun _ _ _ _ _ u h => h) (fun _ _ h => h)
                    · refine asksG_intro ?_; intro o ho a wx hc hout hp hi R hR; cases ho
                      refine ⟨wanted_some rfl rfl (hp 1 (by omega) rfl), ?_⟩
                      have e114 : a.tmps[114]?.getD undef = .pointer (some ⟨Rr, 0, none⟩) := hp 5 (by omega) rfl
                      go_simp
                      exact hR _ _ hc rfl (fun _ _ _ _ _ u h => h) (fun _ _ h => h)
                    · refine asksG_intro ?_; intro o ho a wx hc hout hp hi R hR; cases ho
                      refine ⟨wanted_some rfl rfl (hp 1 (by omega) rfl), ?_⟩
                      have e115 : a.tmps[115]?.getD undef = .pointer (some ⟨Rr, 1, none⟩) := hp 6 (by omega) rfl
                      have y1 := YC.out wx hc
                      go_simp
                      exact hR _ _ hc rfl (fun _ _ _ _ _ u h => h) (fun _ _ h => h)
                    · refine asksG_intro ?_; intro o ho a wx hc hout hp hi R hR; cases ho
                      refine ⟨wanted_some rfl rfl (hp 1 (by omega) rfl), ?_⟩
                      have q9 : RecsAt L (a.tmps[112]?.getD undef) wx := hp 3 (by omega) rfl
                      obtain ⟨a5, cap5, e112, r5⟩ := q9.out
                      have e116 : a.tmps[116]?.getD undef = .slice rb L.length rd := hp 7 (by omega) rfl
                      go_simp
                      refine (GSM.out wx a5 cap5 hc r5).mono ?_
                      rintro e w2 ⟨rfl, k1⟩
                      exact ⟨_, rfl, hR _ _ (hc.trans k1) rfl (fun j _ _ _ _ u h => HST.out j u _ _ k1 h) (fun j _ h => HIST.out j _ _ k1 h)⟩
                    · refine asksG_intro ?_; intro o ho a wx hc hout hp hi R hR; cases ho
                      refine ⟨wanted_none rfl, ?_⟩
                      have e110 : a.tmps[110]?.getD undef = .bool true := hp 1 (by omega) rfl
                      have e117 : a.tmps[117]?.getD undef = .bool true := hp 8 (by omega) rfl
                      go_simp
                      exact hR _ _ hc rfl (fun _ _ _ _ _ u h => h) (fun _ _ h => h)
                    · refine asksG_intro ?_; intro o ho a wx hc hout hp hi R hR; cases ho
                      refine ⟨wanted_none rfl, ?_⟩
                      have e118 : a.tmps[118]?.getD undef = .bool true := hp 9 (by omega) rfl
                      go_simp
                      exact hR _ _ hc rfl (fun _ _ _ _ _ u h => h) (fun _ _ h => h)
                    · refine asksG_intro ?_; intro o ho a wx hc hout hp hi R hR; cases ho
                      refine ⟨wanted_some rfl rfl (hp 10 (by omega) rfl), ?_⟩
                      have e15 : a.tmps[15]? = some (.pointer none) := hout 15 rfl
                      go_simp
                      exact hR _ _ hc rfl (fun _ _ _ _ _ u h => h) (fun _ _ h => h)
                    · refine asksG_intro ?_; intro o ho a wx hc hout hp hi R hR; cases ho
                      refine ⟨wanted_some rfl rfl (hp 10 (by omega) rfl), ?_⟩
                      have e120 : a.tmps[120]?.getD undef = .pointer none := hp 11 (by omega) rfl
                      go_simp
                      exact hR _ _ hc rfl (fun _ _ _ _ _ u h => h) (fun _ _ h => h)
                    · refine asksG_intro ?_; intro o ho a wx hc hout hp hi R hR; cases ho
                      refine ⟨wanted_some rfl rfl (hp 10 (by omega) rfl), ?_⟩
                      have e16 : a.tmps[16]? = some (.int .i64 7) := hout 16 rfl
                      go_simp
                      exact hR _ _ hc rfl (fun _ _ _ _ _ u h => h) (fun _ _ h => h)
                    · refine asksG_intro ?_; intro o ho a wx hc hout hp hi R hR; cases ho
                      refine ⟨wanted_some rfl rfl (hp 10 (by omega) rfl), ?_⟩
                      have e122 : a.tmps[122]?.getD undef = .int .i64 7 := hp 13 (by omega) rfl
                      go_simp
                      exact hR _ _ hc rfl (fun _ _ _ _ _ u h => h) (fun _ _ h => h)
                    · refine asksG_intro ?_; intro o ho a wx hc hout hp hi R hR; cases ho
                      refine ⟨wanted_some rfl rfl (hp 10 (by omega) rfl), ?_⟩
                      have e121 : a.tmps[121]?.getD undef = .bool true := hp 12 (by omega) rfl
                      have e123 : a.tmps[123]?.getD undef = .bool true := hp 14 (by omega) rfl
                      go_simp
                      exact hR _ _ hc rfl (fun _ _ _ _ _ u h => h) (fun _ _ h => h)
                    · refine asksG_intro ?_; intro o ho a wx hc hout hp hi R hR; cases ho
                      refine ⟨wanted_none rfl, ?_⟩
                      have e119 : a.tmps[119]?.getD undef = .bool true := hp 10 (by omega) rfl
                      have e124 : a.tmps[124]?.getD undef = .bool true := hp 15 (by omega) rfl
                      go_simp
                      exact hR _ _ hc rfl (fun _ _ _ _ _ u h => h) (fun _ _ h => h)
                    · refine asksG_intro ?_; intro o ho a wx hc hout hp hi R hR; cases ho
                      refine ⟨wanted_none rfl, ?_⟩
                      have e125 : a.tmps[125]?.getD undef = .bool true := hp 16 (by omega) rfl
                      go_simp
                      exact hR _ _ hc rfl (fun _ _ _ _ _ u h => h) (fun _ _ h => h)
                  · intro vs w12 hc hp
                    have e109 : vs 0 = .bool true := hp 0 (by omega) rfl
                    have e110 : vs 1 = .bool true := hp 1 (by omega) rfl
                    have e111 : vs 2 = .pointer (some ⟨J3, 0, none⟩) := hp 2 (by omega) rfl
                    have e113 : vs 4 = .pointer (some ⟨Rr, 0, none⟩) := hp 4 (by omega) rfl
                    have e114 : vs 5 = .pointer (some ⟨Rr, 0, none⟩) := hp 5 (by omega) rfl
                    have e115 : vs 6 = .pointer (some ⟨Rr, 1, none⟩) := hp 6 (by omega) rfl
                    have e116 : vs 7 = .slice rb L.length rd := hp 7 (by omega) rfl
                    have e117 : vs 8 = .bool true := hp 8 (by omega) rfl
                    have e118 : vs 9 = .bool true := hp 9 (by omega) rfl
                    have e119 : vs 10 = .bool true := hp 10 (by omega) rfl
                    have e120 : vs 11 = .pointer none := hp 11 (by omega) rfl
                    have e121 : vs 12 = .bool true := hp 12 (by omega) rfl
                    have e122 : vs 13 = .int .i64 7 := hp 13 (by omega) rfl
                    have e123 : vs 14 = .bool true := hp 14 (by omega) rfl
                    have e124 : vs 15 = .bool true := hp 15 (by omega) rfl
                    have e125 : vs 16 = .bool true := hp 16 (by omega) rfl
                    have e8 : vs 17 = .bool true := hp 17 (by omega) rfl
                    simp only [List.take_succ_cons, List.take_zero, List.drop_succ_cons, List.drop_zero, putAll, Act.put, List.setIfInBounds_toArray, List.set_cons_zero, List.set_cons_succ, Nat.reduceAdd, e109, e110, e111, e113, e114, e115, e116, e117, e118, e119, e120, e121, e122, e123, e124, e125, e8]
                    change wpList _ _ _ _ _ _
                    have KE := Lib.hid (K9.out.trans hc)
                    clear hc hp
                    go_wp2_with fail
                    go_ret
                    exact ⟨rfl, KE.out⟩
                · have hfit : Fit (j.d.rot pi pb) j.h L 10 := by
                    rcases hcase with q | q
                    · exact absurd q hE7
                    · exact q
                  have OP1 : Hid (Calls Try.prog 11 #[.pointer (some ⟨D, 0, none⟩)] w6 fun e w' => ∃ J', e = .returned (.tuple #[.pointer (some ⟨J', 0, none⟩), .int .i64 0]) ∧ GJ w' J' D G B L m 10 ∧ w6.heap.size ≤ J' ∧ Kept (InD D G B) w6 w') := Lib.hid (FD.opn2 ⟨p16, j.h, HA.out.2.2.1.norm.fits (by omega), hfit⟩ hen (by omega) het)
                  clear OP hE7 hcase hfit
                  go_wp2_with fail
                  refine OP1.out.mono ?_
                  rintro e w7 ⟨J2, rfl, g7, hJ2, k7⟩
                  have rs7 := H6.out.2.beside (k7.mono fun i _ x => .inl (.inr x)) H5.out.2.2.2
                  have K7 := Lib.hid (K6.out.trans' k7 (fun i hi x => absurd (HA.out.2.2.2.2 i (.inl (.inr x))) (by omega)))
                  have P7 : Hid (PD w7 D2 G2 B2 (j.d.rot pi pb)) := Lib.hid (H6.out.1.kept k7 (fun x => H5.out.2.2.1 _ x (.inl rfl)) (fun x => H5.out.2.2.1 _ x (.inr (.inl rfl))) (fun x => H5.out.2.2.1 _ x (.inr (.inr rfl))))
                  obtain ⟨rb, rd, hR1, hR2⟩ := rs7.ex
                  have y1 := cell_blk hR1 1 _ rfl
                  have HRD := Lib.hid (hR2.away (M' := NoM) (by omega) (fun _ _ x => x.elim))
                  have RS7 := Lib.hid rs7
                  have hln := g7.lens
                  have YC : Hid (∀ wx, Kept NoM w7 wx → wx.cell? ⟨Rr, 1, none⟩ = some (.slice rb L.length rd)) := Lib.hid (fun wx kx => kx.cell y1 (fun x => x))
                  have G7 := Lib.hid g7
                  have GRC : Hid (∀ wx, Kept NoM w7 wx → Calls Try.prog 16 #[.pointer (some ⟨J2, 0, none⟩)] wx fun e w' => ∃ a cap, e = .returned (.slice a L.length cap) ∧ RdS w' NoM 1 EStr (.slice a L.length cap) L ∧ Kept NoM wx w') := Lib.hid (fun wx kx => (grecs (G7.out.kept0 kx)).mono fun e w' ⟨a, cap, O, q1, q2, q3, q4⟩ => ⟨a, cap, q1, q2.rd (fun _ _ x => x), q4⟩)
                  have GSM : Hid (∀ wx a cap, Kept NoM w7 wx → RdS wx NoM 1 EStr (.slice a L.length cap) L → Calls Try.prog 15 #[.slice a L.length cap, .slice rb L.length rd] wx fun e w' => e = .returned (.bool true) ∧ Kept NoM wx w') := Lib.hid (fun wx a cap kx hx => (rsame_ok _ _ L L wx hx (HRD.out.kept kx (fun _ _ x => x)) (by omega) (by omega)).mono fun e w' ⟨q1, n, q2⟩ => ⟨by rw [q1]; simp, by rw [q2]; exact (Kept.refl _ _).drewN _⟩)
                  clear y1 hR1 hR2 g7 rs7 k7 hJ2 OP1 hln
                  go_wp2_with fail
                  refine wp_region_parG 20 [] [] [] [] [] (fun wx => Kept NoM w7 wx)
                        [fun v _ => v = .int .i64 0, fun v _ => v = .bool true, fun v _ => v = .bool true, fun v _ => v = .int .i64 0, fun v _ => v = .bool false, fun v _ => v = .bool false, fun v _ => v = .pointer (some ⟨J2, 0, none⟩), fun v _ => v = .bool false, fun v _ => v = .bool false, fun v _ => v = .bool false, fun v _ => v = .pointer (some ⟨J2, 0, none⟩), fun v wx => RecsAt L v wx, fun v _ => v = .pointer (some ⟨Rr, 0, none⟩), fun v _ => v = .pointer (some ⟨Rr, 0, none⟩), fun v _ => v = .pointer (some ⟨Rr, 1, none⟩), fun v _ => v = .slice rb L.length rd, fun v _ => v = .bool true, fun v _ => v = .bool false, fun v _ => v = .bool false, fun v _ => v = .bool false] (by kernel_rfl) (by kernel_rfl) (by kernel_rfl) ((Kept.refl _ _).drew) (inits_nil) ?_ ?_
                  · intro i hi9
                    have hst := stab_all (posts := [fun v _ => v = .int .i64 0, fun v _ => v = .bool true, fun v _ => v = .bool true, fun v _ => v = .int .i64 0, fun v _ => v = .bool false, fun v _ => v = .bool false, fun v _ => v = .pointer (some ⟨J2, 0, none⟩), fun v _ => v = .bool false, fun v _ => v = .bool false, fun v _ => v = .bool false, fun v _ => v = .pointer (some ⟨J2, 0, none⟩), fun v wx => RecsAt L v wx, fun v _ => v = .pointer (some ⟨Rr, 0, none⟩), fun v _ => v = .pointer (some ⟨Rr, 0, none⟩), fun v _ => v = .pointer (some ⟨Rr, 1, none⟩), fun v _ => v = .slice rb L.length rd, fun v _ => v = .bool true, fun v _ => v = .bool false, fun v _ => v = .bool false, fun v _ => v = .bool false])        (stab_cons (stab_const _) (stab_cons (stab_const _) (stab_cons (stab_const _) (stab_cons (stab_const _) (stab_cons (stab_const _) (stab_cons (stab_const _) (stab_cons (stab_const _) (stab_cons (stab_const _) (stab_cons (stab_const _) (stab_cons (stab_const _) (stab_cons (stab_const _) (stab_cons (stab_recs _) (stab_cons (stab_const _) (stab_cons (stab_const _) (stab_cons (stab_const _) (stab_cons (stab_const _) (stab_cons (stab_const _) (stab_cons (stab_const _) (stab_cons (stab_const _) (stab_cons (stab_const _) stab_nil))))))))))))))))))))
                    have hist := init_stab (inits := []) (fun p h => by cases h)
                    have HST := Lib.hid hst
                    have HIST := Lib.hid hist
                    clear hst hist
                    rcases (show i = 0 ∨ i = 1 ∨ i = 2 ∨ i = 3 ∨ i = 4 ∨ i = 5 ∨ i = 6 ∨ i = 7 ∨ i = 8 ∨ i = 9 ∨ i = 10 ∨ i = 11 ∨ i = 12 ∨ i = 13 ∨ i = 14 ∨ i = 15 ∨ i = 16 ∨ i = 17 ∨ i = 18 ∨ i = 19 by omega) with rfl | rfl | rfl | rfl | rfl | rfl | rfl | rfl | rfl | rfl | rfl | rfl | rfl | rfl | rfl | rfl | rfl | rfl | rfl | rfl
                    · refine asksG_intro ?_; intro o ho a wx hc hout hp hi R hR; cases ho
                      refine ⟨wanted_none rfl, ?_⟩
                      have e16 : a.tmps[16]? = some (.int .i64 0) := hout 16 rfl
                      go_simp
                      exact hR _ _ hc rfl (fun _ _ _ _ _ u h => h) (fun _ _ h => h)
                    · refine asksG_intro ?_; intro o ho a wx hc hout hp hi R hR; cases ho
                      refine ⟨wanted_none rfl, ?_⟩
                      have e78 : a.tmps[78]?.getD undef = .int .i64 0 := hp 0 (by omega) rfl
                      go_simp
                      exact hR _ _ hc rfl (fun _ _ _ _ _ u h => h) (fun _ _ h => h)
                    · refine asksG_intro ?_; intro o ho a wx hc hout hp hi R hR; cases ho
                      refine ⟨wanted_none rfl, ?_⟩
                      have e79 : a.tmps[79]?.getD undef = .bool true := hp 1 (by omega) rfl
                      go_simp
                      exact hR _ _ hc rfl (fun _ _ _ _ _ u h => h) (fun _ _ h => h)
                    · refine asksG_intro ?_; intro o ho a wx hc hout hp hi R hR; cases ho
                      refine ⟨wanted_some rfl rfl (hp 2 (by omega) rfl), ?_⟩
                      have e16 : a.tmps[16]? = some (.int .i64 0) := hout 16 rfl
                      go_simp
                      exact hR _ _ hc rfl (fun _ _ _ _ _ u h => h) (fun _ _ h => h)
                    · refine asksG_intro ?_; intro o ho a wx hc hout hp hi R hR; cases ho
                      refine ⟨wanted_some rfl rfl (hp 2 (by omega) rfl), ?_⟩
                      have e81 : a.tmps[81]?.getD undef = .int .i64 0 := hp 3 (by omega) rfl
                      go_simp
                      exact hR _ _ hc rfl (fun _ _ _ _ _ u h => h) (fun _ _ h => h)
                    · refine asksG_intro ?_; intro o ho a wx hc hout hp hi R hR; cases ho
                      refine ⟨wanted_some rfl rfl (hp 2 (by omega) rfl), ?_⟩
                      have e82 : a.tmps[82]?.getD undef = .bool false := hp 4 (by omega) rfl
                      go_simp
                      exact hR _ _ hc rfl (fun _ _ _ _ _ u h => h) (fun _ _ h => h)
                    · refine asksG_intro ?_; intro o ho a wx hc hout hp hi R hR; cases ho
                      refine ⟨wanted_some rfl rfl (hp 5 (by omega) rfl), ?_⟩
                      have e15 : a.tmps[15]? = some (.pointer (some ⟨J2, 0, none⟩)) := hout 15 rfl
                      go_simp
                      exact hR _ _ hc rfl (fun _ _ _ _ _ u h => h) (fun _ _ h => h)
                    · refine asksG_intro ?_; intro o ho a wx hc hout hp hi R hR; cases ho
                      refine ⟨wanted_some rfl rfl (hp 5 (by omega) rfl), ?_⟩
                      have e84 : a.tmps[84]?.getD undef = .pointer (some ⟨J2, 0, none⟩) := hp 6 (by omega) rfl
                      go_simp
                      exact hR _ _ hc rfl (fun _ _ _ _ _ u h => h) (fun _ _ h => h)
                    · refine asksG_intro ?_; intro o ho a wx hc hout hp hi R hR; cases ho
                      refine ⟨wanted_some rfl rfl (hp 2 (by omega) rfl), ?_⟩
                      have e83 : a.tmps[83]?.getD undef = .bool false := hp 5 (by omega) rfl
                      have e85 : a.tmps[85]?.getD undef = .bool false := hp 7 (by omega) rfl
                      go_simp
                      exact hR _ _ hc rfl (fun _ _ _ _ _ u h => h) (fun _ _ h => h)
                    · refine asksG_intro ?_; intro o ho a wx hc hout hp hi R hR; cases ho
                      refine ⟨wanted_some rfl rfl (hp 2 (by omega) rfl), ?_⟩
                      have e86 : a.tmps[86]?.getD undef = .bool false := hp 8 (by omega) rfl
                      go_simp
                      exact hR _ _ hc rfl (fun _ _ _ _ _ u h => h) (fun _ _ h => h)
                    · refine asksG_intro ?_; intro o ho a wx hc hout hp hi R hR; cases ho
                      refine ⟨wanted_some rfl rfl (hp 9 (by omega) rfl), ?_⟩
                      have e15 : a.tmps[15]? = some (.pointer (some ⟨J2, 0, none⟩)) := hout 15 rfl
                      go_simp
                      exact hR _ _ hc rfl (fun _ _ _ _ _ u h => h) (fun _ _ h => h)
                    · refine asksG_intro ?_; intro o ho a wx hc hout hp hi R hR; cases ho
                      refine ⟨wanted_some rfl rfl (hp 9 (by omega) rfl), ?_⟩
                      have e88 : a.tmps[88]?.getD undef = .pointer (some ⟨J2, 0, none⟩) := hp 10 (by omega) rfl
                      go_simp
                      refine (GRC.out wx hc).mono ?_
                      rintro e w2 ⟨a5, cap5, rfl, q1, k1⟩
                      exact ⟨_, rfl, hR _ _ (hc.trans k1) (RecsAt.of q1) (fun j _ _ _ _ u h => HST.out j u _ _ k1 h) (fun j _ h => HIST.out j _ _ k1 h)⟩
                    · refine asksG_intro ?_; intro o ho a wx hc hout hp hi R hR; cases ho
                      refine ⟨wanted_some rfl rfl (hp 9 (by omega) rfl), ?_⟩
                      have e12 : a.tmps[12]? = some (.pointer (some ⟨Rr, 0, none⟩)) := hout 12 rfl
                      go_simp
                      exact hR _ _ hc rfl (fun _ _ _ _ _ u h => h) (fun _ _ h => h)
                    · refine asksG_intro ?_; intro o ho a wx hc hout hp hi R hR; cases ho
                      refine ⟨wanted_some rfl rfl (hp 9 (by omega) rfl), ?_⟩
                      have e90 : a.tmps[90]?.getD undef = .pointer (some ⟨Rr, 0, none⟩) := hp 12 (by omega) rfl
                      go_simp
                      exact hR _ _ hc rfl (fun _ _ _ _ _ u h => h) (fun _ _ h => h)
                    · refine asksG_intro ?_; intro o ho a wx hc hout hp hi R hR; cases ho
                      refine ⟨wanted_some rfl rfl (hp 9 (by omega) rfl), ?_⟩
                      have e91 : a.tmps[91]?.getD undef = .pointer (some ⟨Rr, 0, none⟩) := hp 13 (by omega) rfl
                      go_simp
                      exact hR _ _ hc rfl (fun _ _ _ _ _ u h => h) (fun _ _ h => h)
                    · refine asksG_intro ?_; intro o ho a wx hc hout hp hi R hR; cases ho
                      refine ⟨wanted_some rfl rfl (hp 9 (by omega) rfl), ?_⟩
                      have e92 : a.tmps[92]?.getD undef = .pointer (some ⟨Rr, 1, none⟩) := hp 14 (by omega) rfl
                      have y1 := YC.out wx hc
                      go_simp
                      exact hR _ _ hc rfl (fun _ _ _ _ _ u h => h) (fun _ _ h => h)
                    · refine asksG_intro ?_; intro o ho a wx hc hout hp hi R hR; cases ho
                      refine ⟨wanted_some rfl rfl (hp 9 (by omega) rfl), ?_⟩
                      have q9 : RecsAt L (a.tmps[89]?.getD undef) wx := hp 11 (by omega) rfl
                      obtain ⟨a5, cap5, e89, r5⟩ := q9.out
                      have e93 : a.tmps[93]?.getD undef = .slice rb L.length rd := hp 15 (by omega) rfl
                      go_simp
                      refine (GSM.out wx a5 cap5 hc r5).mono ?_
                      rintro e w2 ⟨rfl, k1⟩
                      exact ⟨_, rfl, hR _ _ (hc.trans k1) rfl (fun j _ _ _ _ u h => HST.out j u _ _ k1 h) (fun j _ h => HIST.out j _ _ k1 h)⟩
                    · refine asksG_intro ?_; intro o ho a wx hc hout hp hi R hR; cases ho
                      refine ⟨wanted_some rfl rfl (hp 9 (by omega) rfl), ?_⟩
                      have e94 : a.tmps[94]?.getD undef = .bool true := hp 16 (by omega) rfl
                      go_simp
                      exact hR _ _ hc rfl (fun _ _ _ _ _ u h => h) (fun _ _ h => h)
                    · refine asksG_intro ?_; intro o ho a wx hc hout hp hi R hR; cases ho
                      refine ⟨wanted_some rfl rfl (hp 2 (by omega) rfl), ?_⟩
                      have e87 : a.tmps[87]?.getD undef = .bool false := hp 9 (by omega) rfl
                      have e95 : a.tmps[95]?.getD undef = .bool false := hp 17 (by omega) rfl
                      go_simp
                      exact hR _ _ hc rfl (fun _ _ _ _ _ u h => h) (fun _ _ h => h)
                    · refine asksG_intro ?_; intro o ho a wx hc hout hp hi R hR; cases ho
                      refine ⟨wanted_none rfl, ?_⟩
                      have e80 : a.tmps[80]?.getD undef = .bool true := hp 2 (by omega) rfl
                      have e96 : a.tmps[96]?.getD undef = .bool false := hp 18 (by omega) rfl
                      go_simp
                      exact hR _ _ hc rfl (fun _ _ _ _ _ u h => h) (fun _ _ h => h)
                  · intro vs w20 hc hp
                    have e78 : vs 0 = .int .i64 0 := hp 0 (by omega) rfl
                    have e79 : vs 1 = .bool true := hp 1 (by omega) rfl
                    have e80 : vs 2 = .bool true := hp 2 (by omega) rfl
                    have e81 : vs 3 = .int .i64 0 := hp 3 (by omega) rfl
                    have e82 : vs 4 = .bool false := hp 4 (by omega) rfl
                    have e83 : vs 5 = .bool false := hp 5 (by omega) rfl
                    have e84 : vs 6 = .pointer (some ⟨J2, 0, none⟩) := hp 6 (by omega) rfl
                    have e85 : vs 7 = .bool false := hp 7 (by omega) rfl
                    have e86 : vs 8 = .bool false := hp 8 (by omega) rfl
                    have e87 : vs 9 = .bool false := hp 9 (by omega) rfl
                    have e88 : vs 10 = .pointer (some ⟨J2, 0, none⟩) := hp 10 (by omega) rfl
                    have e90 : vs 12 = .pointer (some ⟨Rr, 0, none⟩) := hp 12 (by omega) rfl
                    have e91 : vs 13 = .pointer (some ⟨Rr, 0, none⟩) := hp 13 (by omega) rfl
                    have e92 : vs 14 = .pointer (some ⟨Rr, 1, none⟩) := hp 14 (by omega) rfl
                    have e93 : vs 15 = .slice rb L.length rd := hp 15 (by omega) rfl
                    have e94 : vs 16 = .bool true := hp 16 (by omega) rfl
                    have e95 : vs 17 = .bool false := hp 17 (by omega) rfl
                    have e96 : vs 18 = .bool false := hp 18 (by omega) rfl
                    have e97 : vs 19 = .bool false := hp 19 (by omega) rfl
                    simp only [List.take_succ_cons, List.take_zero, List.drop_succ_cons, List.drop_zero, putAll, Act.put, List.setIfInBounds_toArray, List.set_cons_zero, List.set_cons_succ, Nat.reduceAdd, e78, e79, e80, e81, e82, e83, e84, e85, e86, e87, e88, e90, e91, e92, e93, e94, e95, e96, e97]
                    change wpList _ _ _ _ _ _
                    have BK := Lib.hid (BACK.out w20 (P7.out.kept0 hc))
                    have RS7 := Lib.hid (RS7.out.kept0 hc)
                    have K7 := Lib.hid (K7.out.trans hc)
                    clear hc hp P7 YC GRC GSM HRD G7 e78 e79 e80 e81 e82 e83 e84 e85 e86 e87 e88 e90 e91 e92 e93 e94 e95 e96 e97
                    go_wp2_with fail
                    refine BK.out.mono ?_
                    rintro e w8 ⟨⟨E8, rfl⟩, fd, k8⟩
                    have LO := Lib.hid (fd.opn hjn (by omega) hjt)
                    have rs8 := RS7.out.beside (k8.mono fun i _ x => .inr x) H5.out.2.2.2
                    have K8 := Lib.hid (K7.out.trans' k8 (fun i hi x => absurd (H4.out.2.1 i x) (by have := K3.out.size; omega)))
                    have RS8 := Lib.hid rs8
                    clear fd k8 rs8 BK
                    go_wp2_with fail
                    refine LO.out.mono ?_
                    rintro e w9 ⟨J3, rfl, g9, hJ3, k9⟩
                    have rs9 := RS8.out.beside (k9.mono fun i _ x => .inr x) H5.out.2.2.2
                    have K9 := Lib.hid (K8.out.trans' k9 (fun i hi x => absurd (H4.out.2.1 i x) (by have := K3.out.size; omega)))
                    obtain ⟨rb, rd, hR1, hR2⟩ := rs9.ex
                    have y1 := cell_blk hR1 1 _ rfl
                    have HRD := Lib.hid (hR2.away (M' := NoM) (by omega) (fun _ _ x => x.elim))
                    have hln := g9.lens
                    have YC : Hid (∀ wx, Kept NoM w9 wx → wx.cell? ⟨Rr, 1, none⟩ = some (.slice rb L.length rd)) := Lib.hid (fun wx kx => kx.cell y1 (fun x => x))
                    have G9 := Lib.hid g9
                    have GRC : Hid (∀ wx, Kept NoM w9 wx → Calls Try.prog 16 #[.pointer (some ⟨J3, 0, none⟩)] wx fun e w' => ∃ a cap, e = .returned (.slice a L.length cap) ∧ RdS w' NoM 1 EStr (.slice a L.length cap) L ∧ Kept NoM wx w') := Lib.hid (fun wx kx => (grecs (G9.out.kept0 kx)).mono fun e w' ⟨a, cap, O, q1, q2, q3, q4⟩ => ⟨a, cap, q1, q2.rd (fun _ _ x => x), q4⟩)
                    have GSM : Hid (∀ wx a cap, Kept NoM w9 wx → RdS wx NoM 1 EStr (.slice a L.length cap) L → Calls Try.prog 15 #[.slice a L.length cap, .slice rb L.length rd] wx fun e w' => e = .returned (.bool true) ∧ Kept NoM wx w') := Lib.hid (fun wx a cap kx hx => (rsame_ok _ _ L L wx hx (HRD.out.kept kx (fun _ _ x => x)) (by omega) (by omega)).mono fun e w' ⟨q1, n, q2⟩ => ⟨by rw [q1]; simp, by rw [q2]; exact (Kept.refl _ _).drewN _⟩)
                    clear y1 hR1 hR2 g9 rs9 k9 hJ3 LO hln RS8
                    go_wp2_with fail
                    refine wp_region_parG 18 [] [] [] [] [] (fun wx => Kept NoM w9 wx)
                          [fun v _ => v = .bool true, fun v _ => v = .bool true, fun v _ => v = .pointer (some ⟨J3, 0, none⟩), fun v wx => RecsAt L v wx, fun v _ => v = .pointer (some ⟨Rr, 0, none⟩), fun v _ => v = .pointer (some ⟨Rr, 0, none⟩), fun v _ => v = .pointer (some ⟨Rr, 1, none⟩), fun v _ => v = .slice rb L.length rd, fun v _ => v = .bool true, fun v _ => v = .bool true, fun v _ => v = .bool true, fun v _ => v = .pointer (some ⟨J2, 0, none⟩), fun v _ => v = .bool false, fun v _ => v = .int .i64 0, fun v _ => v = .bool false, fun v _ => v = .bool true, fun v _ => v = .bool true, fun v _ => v = .bool true] (by kernel_rfl) (by kernel_rfl) (by kernel_rfl) ((Kept.refl _ _).drew) (inits_nil) ?_ ?_
                    · intro i hi9
                      have hst := stab_all (posts := [fun v _ => v = .bool true, fun v _ => v = .bool true, fun v _ => v = .pointer (some ⟨J3, 0, none⟩), fun v wx => RecsAt L v wx, fun v _ => v = .pointer (some ⟨Rr, 0, none⟩), fun v _ => v = .pointer (some ⟨Rr, 0, none⟩), fun v _ => v = .pointer (some ⟨Rr, 1, none⟩), fun v _ => v = .slice rb L.length rd, fun v _ => v = .bool true, fun v _ => v = .bool true, fun v _ => v = .bool true, fun v _ => v = .pointer (some ⟨J2, 0, none⟩), fun v _ => v = .bool false, fun v _ => v = .int .i64 0, fun v _ => v = .bool false, fun v _ => v = .bool true, fun v _ => v = .bool true, fun v _ => v = .bool true])        (stab_cons (stab_const _) (stab_cons (stab_const _) (stab_cons (stab_const _) (stab_cons (stab_recs _) (stab_cons (stab_const _) (stab_cons (stab_const _) (stab_cons (stab_const _) (stab_cons (stab_const _) (stab_cons (stab_const _) (stab_cons (stab_const _) (stab_cons (stab_const _) (stab_cons (stab_const _) (stab_cons (stab_const _) (stab_cons (stab_const _) (stab_cons (stab_const _) (stab_cons (stab_const _) (stab_cons (stab_const _) (stab_cons (stab_const _) stab_nil))))))))))))))))))
                      have hist := init_stab (inits := []) (fun p h => by cases h)
                      have HST := Lib.hid hst
                      have HIST := Lib.hid hist
                      clear hst hist
                      rcases (show i = 0 ∨ i = 1 ∨ i = 2 ∨ i = 3 ∨ i = 4 ∨ i = 5 ∨ i = 6 ∨ i = 7 ∨ i = 8 ∨ i = 9 ∨ i = 10 ∨ i = 11 ∨ i = 12 ∨ i = 13 ∨ i = 14 ∨ i = 15 ∨ i = 16 ∨ i = 17 by omega) with rfl | rfl | rfl | rfl | rfl | rfl | rfl | rfl | rfl | rfl | rfl | rfl | rfl | rfl | rfl | rfl | rfl | rfl
                      · refine asksG_intro ?_; intro o ho a wx hc hout hp hi R hR; cases ho
                        refine ⟨wanted_none rfl, ?_⟩
                        go_simp
                        refine (SN.out wx).mono ?_
                        rintro e w2 ⟨rfl, k1⟩
                        exact ⟨_, rfl, hR _ _ (hc.trans k1) rfl (fun j _ _ _ _ u h => HST.out j u _ _ k1 h) (fun j _ h => HIST.out j _ _ k1 h)⟩
                      · refine asksG_intro ?_; intro o ho a wx hc hout hp hi R hR; cases ho
                        refine ⟨wanted_none rfl, ?_⟩
                        have e109 : a.tmps[109]?.getD undef = .bool true := hp 0 (by omega) rfl
                        go_simp
                        exact hR _ _ hc rfl (fun _ _ _ _ _ u h => h) (fun _ _ h => h)
                      · refine asksG_intro ?_; intro o ho a wx hc hout hp hi R hR; cases ho
                        refine ⟨wanted_some rfl rfl (hp 1 (by omega) rfl), ?_⟩
                        have e17 : a.tmps[17]? = some (.pointer (some ⟨J3, 0, none⟩)) := hout 17 rfl
                        go_simp
                        exact hR _ _ hc rfl (fun _ _ _ _ _ u h => h) (fun _ _ h => h)
                      · refine asksG_intro ?_; intro o ho a wx hc hout hp hi R hR; cases ho
                        refine ⟨wanted_some rfl rfl (hp 1 (by omega) rfl), ?_⟩
                        have e111 : a.tmps[111]?.getD undef = .pointer (some ⟨J3, 0, none⟩) := hp 2 (by omega) rfl
                        go_simp
                        refine (GRC.out wx hc).mono ?_
                        rintro e w2 ⟨a5, cap5, rfl, q1, k1⟩
                        exact ⟨_, rfl, hR _ _ (hc.trans k1) (RecsAt.of q1) (fun j _ _ _ _ u h => HST.out j u _ _ k1 h) (fun j _ h => HIST.out j _ _ k1 h)⟩
                      · refine asksG_intro ?_; intro o ho a wx hc hout hp hi R hR; cases ho
                        refine ⟨wanted_some rfl rfl (hp 1 (by omega) rfl), ?_⟩
                        have e12 : a.tmps[12]? = some (.pointer (some ⟨Rr, 0, none⟩)) := hout 12 rfl
                        go_simp
                        exact hR _ _ hc rfl (fun _ _ _ _ _ u h => h) (fun _ _ h => h)
                      · refine asksG_intro ?_; intro o ho a wx hc hout hp hi R hR; cases ho
                        refine ⟨wanted_some rfl rfl (hp 1 (by omega) rfl), ?_⟩
                        have e113 : a.tmps[113]?.getD undef = .pointer (some ⟨Rr, 0, none⟩) := hp 4 (by omega) rfl
                        go_simp
                        exact hR _ _ hc rfl (fun _ _ _ _ _ u h => h) (fun _ _ h => h)
                      · refine asksG_intro ?_; intro o ho a wx hc hout hp hi R hR; cases ho
                        refine ⟨wanted_some rfl rfl (hp 1 (by omega) rfl), ?_⟩
                        have e114 : a.tmps[114]?.getD undef = .pointer (some ⟨Rr, 0, none⟩) := hp 5 (by omega) rfl
                        go_simp
                        exact hR _ _ hc rfl (fun _ _ _ _ _ u h => h) (fun _ _ h => h)
                      · refine asksG_intro ?_; intro o ho a wx hc hout hp hi R hR; cases ho
                        refine ⟨wanted_some rfl rfl (hp 1 (by omega) rfl), ?_⟩
                        have e115 : a.tmps[115]?.getD undef = .pointer (some ⟨Rr, 1, none⟩) := hp 6 (by omega) rfl
                        have y1 := YC.out wx hc
                        go_simp
                        exact hR _ _ hc rfl (fun _ _ _ _ _ u h => h) (fun _ _ h => h)
                      · refine asksG_intro ?_; intro o ho a wx hc hout hp hi R hR; cases ho
                        refine ⟨wanted_some rfl rfl (hp 1 (by omega) rfl), ?_⟩
                        have q9 : RecsAt L (a.tmps[112]?.getD undef) wx := hp 3 (by omega) rfl
                        obtain ⟨a5, cap5, e112, r5⟩ := q9.out
                        have e116 : a.tmps[116]?.getD undef = .slice rb L.length rd := hp 7 (by omega) rfl
                        go_simp
                        refine (GSM.out wx a5 cap5 hc r5).mono ?_
                        rintro e w2 ⟨rfl, k1⟩
                        exact ⟨_, rfl, hR _ _ (hc.trans k1) rfl (fun j _ _ _ _ u h => HST.out j u _ _ k1 h) (fun j _ h => HIST.out j _ _ k1 h)⟩
                      · refine asksG_intro ?_; intro o ho a wx hc hout hp hi R hR; cases ho
                        refine ⟨wanted_none rfl, ?_⟩
                        have e110 : a.tmps[110]?.getD undef = .bool true := hp 1 (by omega) rfl
                        have e117 : a.tmps[117]?.getD undef = .bool true := hp 8 (by omega) rfl
                        go_simp
                        exact hR _ _ hc rfl (fun _ _ _ _ _ u h => h) (fun _ _ h => h)
                      · refine asksG_intro ?_; intro o ho a wx hc hout hp hi R hR; cases ho
                        refine ⟨wanted_none rfl, ?_⟩
                        have e118 : a.tmps[118]?.getD undef = .bool true := hp 9 (by omega) rfl
                        go_simp
                        exact hR _ _ hc rfl (fun _ _ _ _ _ u h => h) (fun _ _ h => h)
                      · refine asksG_intro ?_; intro o ho a wx hc hout hp hi R hR; cases ho
                        refine ⟨wanted_some rfl rfl (hp 10 (by omega) rfl), ?_⟩
                        have e15 : a.tmps[15]? = some (.pointer (some ⟨J2, 0, none⟩)) := hout 15 rfl
                        go_simp
                        exact hR _ _ hc rfl (fun _ _ _ _ _ u h => h) (fun _ _ h => h)
                      · refine asksG_intro ?_; intro o ho a wx hc hout hp hi R hR; cases ho
                        refine ⟨wanted_some rfl rfl (hp 10 (by omega) rfl), ?_⟩
                        have e120 : a.tmps[120]?.getD undef = .pointer (some ⟨J2, 0, none⟩) := hp 11 (by omega) rfl
                        go_simp
                        exact hR _ _ hc rfl (fun _ _ _ _ _ u h => h) (fun _ _ h => h)
                      · refine asksG_intro ?_; intro o ho a wx hc hout hp hi R hR; cases ho
                        refine ⟨wanted_some rfl rfl (hp 10 (by omega) rfl), ?_⟩
                        have e16 : a.tmps[16]? = some (.int .i64 0) := hout 16 rfl
                        go_simp
                        exact hR _ _ hc rfl (fun _ _ _ _ _ u h => h) (fun _ _ h => h)
                      · refine asksG_intro ?_; intro o ho a wx hc hout hp hi R hR; cases ho
                        refine ⟨wanted_some rfl rfl (hp 10 (by omega) rfl), ?_⟩
                        have e122 : a.tmps[122]?.getD undef = .int .i64 0 := hp 13 (by omega) rfl
                        go_simp
                        exact hR _ _ hc rfl (fun _ _ _ _ _ u h => h) (fun _ _ h => h)
                      · refine asksG_intro ?_; intro o ho a wx hc hout hp hi R hR; cases ho
                        refine ⟨wanted_some rfl rfl (hp 10 (by omega) rfl), ?_⟩
                        have e121 : a.tmps[121]?.getD undef = .bool false := hp 12 (by omega) rfl
                        have e123 : a.tmps[123]?.getD undef = .bool false := hp 14 (by omega) rfl
                        go_simp
                        exact hR _ _ hc rfl (fun _ _ _ _ _ u h => h) (fun _ _ h => h)
                      · refine asksG_intro ?_; intro o ho a wx hc hout hp hi R hR; cases ho
                        refine ⟨wanted_none rfl, ?_⟩
                        have e119 : a.tmps[119]?.getD undef = .bool true := hp 10 (by omega) rfl
                        have e124 : a.tmps[124]?.getD undef = .bool true := hp 15 (by omega) rfl
                        go_simp
                        exact hR _ _ hc rfl (fun _ _ _ _ _ u h => h) (fun _ _ h => h)
                      · refine asksG_intro ?_; intro o ho a wx hc hout hp hi R hR; cases ho
                        refine ⟨wanted_none rfl, ?_⟩
                        have e125 : a.tmps[125]?.getD undef = .bool true := hp 16 (by omega) rfl
                        go_simp
                        exact hR _ _ hc rfl (fun _ _ _ _ _ u h => h) (fun _ _ h => h)
                    · intro vs w12 hc hp
                      have e109 : vs 0 = .bool true := hp 0 (by omega) rfl
                      have e110 : vs 1 = .bool true := hp 1 (by omega) rfl
                      have e111 : vs 2 = .pointer (some ⟨J3, 0, none⟩) := hp 2 (by omega) rfl
                      have e113 : vs 4 = .pointer (some ⟨Rr, 0, none⟩) := hp 4 (by omega) rfl
                      have e114 : vs 5 = .pointer (some ⟨Rr, 0, none⟩) := hp 5 (by omega) rfl
                      have e115 : vs 6 = .pointer (some ⟨Rr, 1, none⟩) := hp 6 (by omega) rfl
                      have e116 : vs 7 = .slice rb L.length rd := hp 7 (by omega) rfl
                      have e117 : vs 8 = .bool true := hp 8 (by omega) rfl
                      have e118 : vs 9 = .bool true := hp 9 (by omega) rfl
                      have e119 : vs 10 = .bool true := hp 10 (by omega) rfl
                      have e120 : vs 11 = .pointer (some ⟨J2, 0, none⟩) := hp 11 (by omega) rfl
                      have e121 : vs 12 = .bool false := hp 12 (by omega) rfl
                      have e122 : vs 13 = .int .i64 0 := hp 13 (by omega) rfl
                      have e123 : vs 14 = .bool false := hp 14 (by omega) rfl
                      have e124 : vs 15 = .bool true := hp 15 (by omega) rfl
                      have e125 : vs 16 = .bool true := hp 16 (by omega) rfl
                      have e8 : vs 17 = .bool true := hp 17 (by omega) rfl
                      simp only [List.take_succ_cons, List.take_zero, List.drop_succ_cons, List.drop_zero, putAll, Act.put, List.setIfInBounds_toArray, List.set_cons_zero, List.set_cons_succ, Nat.reduceAdd, e109, e110, e111, e113, e114, e115, e116, e117, e118, e119, e120, e121, e122, e123, e124, e125, e8]
                      change wpList _ _ _ _ _ _
                      have KE := Lib.hid (K9.out.trans hc)
                      clear hc hp
                      go_wp2_with fail
                      go_ret
                      exact ⟨rfl, KE.out⟩
end Go.Proofs.Ytjcmnobfdidnkaa
