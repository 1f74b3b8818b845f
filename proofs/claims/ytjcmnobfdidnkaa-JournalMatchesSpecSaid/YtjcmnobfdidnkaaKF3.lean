/- The walk of JournalMatchesSpec. -/
import Derived.Test.YtjcmnobfdidnkaaKL5
set_option linter.unusedVariables false
set_option linter.unusedSimpArgs false
set_option linter.unusedSectionVars false
namespace Go.Proofs.Ytjcmnobfdidnkaa
open Go.RowKit
set_option maxHeartbeats 16000000
set_option maxRecDepth 8000
theorem stab_rd (n : Nat) (L : List Pg) : stab (fun v wx => ∃ a5 cap5, v = .slice a5 n cap5 ∧ RdS wx NoM 1 EStr (.slice a5 n cap5) L) := fun _ _ _ k ⟨a5, cap5, h1, h2⟩ => ⟨a5, cap5, h1, h2.kept k (fun _ _ x => x)⟩
theorem matches_ok (n : Int) (v : Value) (l : List Jo) (w : World) (hv : RdS w NoM 4 EJo v l) : Calls Try.prog 3 #[.int .i64 n, v] w fun e w' => e = .returned (.bool true) ∧ Kept NoM w w' := by
  obtain ⟨va, vc, rfl, _, _⟩ := hv.shape
  have HV := Lib.hid hv
  have FW := Lib.hid (rfew_ok _ l w hv)
  have SN := Lib.hid sanity_ok
  clear hv
  cases hf : fewJ l with
  | false =>
    rw [hf] at FW
    go_enter Try.func3, Try.ntmps3
    by_cases h1 : n < 1
    · go_wp2_with (first | (go_at_call 8; refine FW.out.mono ?_; rintro e w1 ⟨rfl, k⟩; have K1 := Lib.hid k; clear k) | (go_at_call 9; refine (SN.out _).mono ?_; rintro e w2 ⟨rfl, k⟩; have K2 := Lib.hid k; clear k))
      go_ret
      exact ⟨rfl, K1.out.trans K2.out⟩
    · by_cases h2 : n > 40
      · go_wp2_with (first | (go_at_call 8; refine FW.out.mono ?_; rintro e w1 ⟨rfl, k⟩; have K1 := Lib.hid k; clear k) | (go_at_call 9; refine (SN.out _).mono ?_; rintro e w2 ⟨rfl, k⟩; have K2 := Lib.hid k; clear k))
        go_ret
        exact ⟨rfl, K1.out.trans K2.out⟩
      · go_wp2_with (first | (go_at_call 8; refine FW.out.mono ?_; rintro e w1 ⟨rfl, k⟩; have K1 := Lib.hid k; clear k) | (go_at_call 9; refine (SN.out _).mono ?_; rintro e w2 ⟨rfl, k⟩; have K2 := Lib.hid k; clear k))
        go_ret
        exact ⟨rfl, K1.out.trans K2.out⟩
  | true =>
    rw [hf] at FW
    obtain ⟨l10, lf⟩ := fewJ_at hf
    have LF := Lib.hid lf
    clear lf hf
    by_cases h1 : n < 1
    · go_enter Try.func3, Try.ntmps3
      go_wp2_with (first | (go_at_call 8; refine FW.out.mono ?_; rintro e w1 ⟨rfl, k⟩; have K1 := Lib.hid k; clear k) | (go_at_call 9; refine (SN.out _).mono ?_; rintro e w2 ⟨rfl, k⟩; have K2 := Lib.hid k; clear k))
      go_ret
      exact ⟨rfl, K1.out.trans K2.out⟩
    · by_cases h2 : n > 40
      · go_enter Try.func3, Try.ntmps3
        go_wp2_with (first | (go_at_call 8; refine FW.out.mono ?_; rintro e w1 ⟨rfl, k⟩; have K1 := Lib.hid k; clear k) | (go_at_call 9; refine (SN.out _).mono ?_; rintro e w2 ⟨rfl, k⟩; have K2 := Lib.hid k; clear k))
        go_ret
        exact ⟨rfl, K1.out.trans K2.out⟩
      · obtain ⟨m, rfl⟩ : ∃ m : Nat, n = (m : Int) := ⟨n.toNat, by omega⟩
        have hnn : (Dk.new m).n = m := List.length_replicate
        have NW := Lib.hid (fun wx => new_ok m (by omega) (by omega) wx)
        by_cases h4 : m < 4
        · have OS : Hid (∀ wx D G B, PD wx D G B (Dk.new m) → Calls Try.prog 11 #[.pointer (some ⟨D, 0, none⟩)] wx fun e w' => e = .returned (.tuple #[.pointer none, .int .i64 1]) ∧ wx = w') := Lib.hid (fun wx D G B p => open_small wx p (by omega))
          have RB := Lib.hid (fun wx => rnew_bad (m : Int) (by omega) wx)
          clear hnn
          go_enter Try.func3, Try.ntmps3
          go_wp2_with (first | (go_at_call 8; refine FW.out.mono ?_; rintro e w1 ⟨rfl, k⟩; have K1 := Lib.hid k; clear k) | (go_at_call 10; refine (NW.out _).mono ?_; rintro e w3 ⟨D, G, B, rfl, p, hl, k⟩; have K3 := Lib.hid k; have OS1 := Lib.hid (OS.out _ D G B p); clear k p hl) | (go_at_call 11; refine OS1.out.mono ?_; rintro e w4 ⟨rfl, rfl⟩) | (go_at_call 12; refine (RB.out _).mono ?_; rintro e w5 ⟨rfl, rfl⟩) | (go_at_call 9; refine (SN.out _).mono ?_; rintro e w2 ⟨rfl, k⟩; have K2 := Lib.hid k; clear k))
          go_ret
          exact ⟨rfl, K1.out.trans (K3.out.trans K2.out)⟩
        · have OP : Hid (∀ wx D G B, PD wx D G B (Dk.new m) → Calls Try.prog 11 #[.pointer (some ⟨D, 0, none⟩)] wx fun e w' => ∃ J, e = .returned (.tuple #[.pointer (some ⟨J, 0, none⟩), .int .i64 0]) ∧ GJ w' J D G B [] m 0 ∧ wx.heap.size ≤ J ∧ Kept (InD D G B) wx w') := Lib.hid (fun wx D G B p => FD.opn2 ⟨p, hd0, (new_both m (by omega)).f.fits (by omega) (by omega), (new_both m (by omega)).fit⟩ hnn (by omega) rfl)
          have RN := Lib.hid (fun wx X => rnew_ok X m (by omega) (by omega) wx)
          clear hnn
          go_enter Try.func3, Try.ntmps3
          go_wp2_with (first | (go_at_call 8; refine FW.out.mono ?_; rintro e w1 ⟨rfl, k⟩; have K1 := Lib.hid k; clear k) | (go_at_call 10; refine (NW.out _).mono ?_; rintro e w3 ⟨D, G, B, rfl, p, hl, k⟩; have K3 := Lib.hid (And.intro hl k); have OP1 := Lib.hid (OP.out _ D G B p); clear k p hl) | (go_at_call 11; refine OP1.out.mono ?_; rintro e w4 ⟨J, rfl, g, hJ, k⟩; have G4 := Lib.hid (And.intro g (And.intro hJ k)); clear g hJ k) | (go_at_call 12; refine (RN.out _ (InJ J D G B)).mono ?_; rintro e w5 ⟨Rr, rfl, r, hR, k⟩; have R5 := Lib.hid (And.intro r (And.intro hR k)); clear r hR k))
          have S0 : LM w w5 J D G B Rr [] [] m 0 := by
            have a1 := K1.out.size
            have a2 := K3.out.2.size
            have a3 := G4.out.2.2.size
            have hlt := G4.out.1.lt
            have ho : ∀ i, InJ J D G B i → w.heap.size ≤ i := fun i x => by
              have := K3.out.1; have := G4.out.2.1
              unfold InJ InD at x; omega
            exact ⟨G4.out.1.kept0 R5.out.2.2, R5.out.1, fun x => by have := hlt Rr x; have := R5.out.2.1; omega, ho, by have := R5.out.2.1; omega, ((K1.out.trans K3.out.2).trans' G4.out.2.2 (fun i hi x => absurd (ho i (.inr x)) (by omega))).trans R5.out.2.2⟩
          have S0 := Lib.hid S0
          clear NW OP RN K1 K3 OP1 G4 R5
          go_loopw [8, 12] (fun s8 i wr => ∃ k : Nat, k ≤ l.length ∧ i = .int .i64 k ∧ ∃ (J' : Nat) (L : List Pg), s8 = .pointer (some ⟨J', 0, none⟩) ∧ LM w wr J' D G B Rr L L m k) (fun _ i _ => l.length - (intOf i).toNat)
          case atStart => exact ⟨0, Nat.zero_le _, rfl, J, [], rfl, S0.out⟩
          case round =>
            obtain ⟨k, hk, rfl, J', L, rfl, hs⟩ := hrel
            have HS := Lib.hid hs
            clear hs S0
            by_cases hlt : k < l.length
            · have hki : (k : Int) < l.length := by omega
              obtain ⟨o, ho⟩ := getAt hlt
              have hfo := LF.out k o ho
              obtain ⟨b, off, e1, _, cs, rfl, _, hc⟩ := (HV.out.kept HS.out.k (fun _ _ x => x)).at ho
              subst e1
              have x0 := hc 0 _ rfl
              have x1 := hc 1 _ rfl
              have x2 := hc 2 _ rfl
              have x3 := hc 3 _ rfl
              simp only [Nat.add_zero] at x0
              have XC : Hid (∀ w', Kept NoM w w' → w'.cell? ⟨b, off + k * 4, none⟩ = some (.int .i64 o.kind) ∧ w'.cell? ⟨b, off + k * 4 + 1, none⟩ = some (.int .i64 o.n) ∧ w'.cell? ⟨b, off + k * 4 + 2, none⟩ = some (.int .i64 o.k) ∧ w'.cell? ⟨b, off + k * 4 + 3, none⟩ = some (.int .u8 o.fill.toNat)) := Lib.hid (fun w' kx => by
                obtain ⟨b5, off5, e5, _, cs5, rfl, _, hc5⟩ := (HV.out.kept kx (fun _ _ x => x)).at ho
                cases e5
                have z0 := hc5 0 _ rfl
                simp only [Nat.add_zero] at z0
                exact ⟨z0, hc5 1 _ rfl, hc5 2 _ rfl, hc5 3 _ rfl⟩)
              have hln := HS.out.g.lens
              have LL := Lib.hid (And.intro hln.1 hln.2.1)
              have DOC := Lib.hid (HS.out.do_ (by omega) o hfo)
              have RDO : Hid (∀ w3 J2, LM w w3 J2 D G B Rr (rdoL (capN m) L o) L m (k + 1) → Calls Try.prog 14 #[.pointer (some ⟨Rr, 0, none⟩), .agg (joC o)] w3 fun e w' => e = .returned (.tuple #[.int .i64 (rdoI (capN m) L o), .int .i64 (rdoE (capN m) L o)]) ∧ LM w w' J2 D G B Rr (rdoL (capN m) L o) (rdoL (capN m) L o) m (k + 1)) := Lib.hid (fun w3 J2 s => s.rdo o hfo LL.out)
              generalize rdoL (capN m) L o = L2 at *
              generalize rdoI (capN m) L o = oI at *
              generalize rdoE (capN m) L o = oE at *
              clear hc hfo ho hln LL
              unfold joC at DOC RDO
              go_wp2_with (first | (go_at_call 13; refine DOC.out.mono ?_; rintro e w3 ⟨J2, rfl, s⟩; have RD1 := Lib.hid (RDO.out w3 J2 s); obtain ⟨z0, z1, z2, z3⟩ := XC.out w3 s.k; clear s) | (go_at_call 14; refine RD1.out.mono ?_; rintro e w4 ⟨rfl, s⟩; have S4 := Lib.hid s; clear s))
              clear x0 x1 x2 x3 z0 z1 z2 z3 DOC RDO RD1 XC
              obtain ⟨ra, rc, y0, y1, hrd⟩ := S4.out.cells
              have HRD := Lib.hid hrd
              have hln := S4.out.g.lens
              have GLN : Hid (∀ wx, Kept NoM w4 wx → Calls Try.prog 17 #[.pointer (some ⟨J2, 0, none⟩)] wx fun e w' => e = .returned (.int .i64 L2.length) ∧ wx = w') := Lib.hid (fun wx kx => glen (S4.out.g.kept0 kx))
              have GUS : Hid (∀ wx, Kept NoM w4 wx → Calls Try.prog 18 #[.pointer (some ⟨J2, 0, none⟩)] wx fun e w' => e = .returned (.int .i64 (streamS L2).length) ∧ wx = w') := Lib.hid (fun wx kx => gused (S4.out.g.kept0 kx))
              have GRM : Hid (∀ wx, Kept NoM w4 wx → Calls Try.prog 20 #[.pointer (some ⟨J2, 0, none⟩)] wx fun e w' => e = .returned (.int .i64 ((capN m : Int) - (streamS L2).length)) ∧ ∃ n, w' = wx.drewN n) := Lib.hid (fun wx kx => groom (S4.out.g.kept0 kx))
              have GRC : Hid (∀ wx, Kept NoM w4 wx → Calls Try.prog 16 #[.pointer (some ⟨J2, 0, none⟩)] wx fun e w' => ∃ a cap, e = .returned (.slice a L2.length cap) ∧ RdS w' NoM 1 EStr (.slice a L2.length cap) L2 ∧ Kept NoM wx w') := Lib.hid (fun wx kx => (grecs (S4.out.g.kept0 kx)).mono fun e w' ⟨a, cap, O, q1, q2, q3, q4⟩ => ⟨a, cap, q1, q2.rd (fun _ _ x => x), q4⟩)
              have GRU : Hid (∀ wx, Kept NoM w4 wx → Calls Try.prog 19 #[.slice ra L2.length rc] wx fun e w' => e = .returned (.int .i64 (streamS L2).length) ∧ wx = w') := Lib.hid (fun wx kx => rused_ok _ L2 NoM wx (HRD.out.kept kx (fun _ _ x => x)) (by omega) (by omega))
              have GSM : Hid (∀ wx a cap, Kept NoM w4 wx → RdS wx NoM 1 EStr (.slice a L2.length cap) L2 → Calls Try.prog 15 #[.slice a L2.length cap, .slice ra L2.length rc] wx fun e w' => e = .returned (.bool true) ∧ Kept NoM wx w') := Lib.hid (fun wx a cap kx hx => (rsame_ok _ _ L2 L2 wx hx (HRD.out.kept kx (fun _ _ x => x)) (by omega) (by omega)).mono fun e w' ⟨q1, n, q2⟩ => ⟨by rw [q1]; simp, by rw [q2]; exact (Kept.refl _ _).drewN _⟩)
              have RCOK : Hid (∀ (q : Nat) (x : Pg), L2[q]? = some x → Calls Try.prog 21 #[.pointer (some ⟨J2, 0, none⟩), .int .i64 q] w4 fun e w' => e = .returned (.tuple #[strV x, .bool true]) ∧ w4 = w') := Lib.hid (fun q x h => grec_ok S4.out.g h)
              have GR2 : Hid (∀ wx, Kept NoM w4 wx → GJ wx J2 D G B L2 m (k + 1)) := Lib.hid (fun wx kx => S4.out.g.kept0 kx)
              have YC : Hid (∀ wx, Kept NoM w4 wx → wx.cell? ⟨Rr, 0, none⟩ = some (.int .i64 (capN m)) ∧ wx.cell? ⟨Rr, 1, none⟩ = some (.slice ra L2.length rc)) := Lib.hid (fun wx kx => ⟨kx.cell y0 (fun x => x), kx.cell y1 (fun x => x)⟩)
              have hcu : (streamS L2).length ≤ 300000 ∧ capN m ≤ 300000 := by omega
              have HLN := Lib.hid hln.1
              generalize capN m = cap0 at *
              generalize (streamS L2).length = u at *
              clear y0 y1 hrd hln
              refine wp_region_parG 53 [] [] [] [] [] (fun wx => Kept NoM w4 wx)
                    [fun v _ => v = .int .i64 oI, fun v _ => v = .int .i64 oI, fun v _ => v = .bool false, fun v _ => v = .bool false, fun v _ => v = .int .i64 oE, fun v _ => v = .int .i64 oE, fun v _ => v = .bool false, fun v _ => v = .bool false, fun v _ => v = .bool false, fun v _ => v = .pointer (some ⟨J2, 0, none⟩), fun v wx => ∃ a5 cap5, v = .slice a5 L2.length cap5 ∧ RdS wx NoM 1 EStr (.slice a5 L2.length cap5) L2, fun v _ => v = .pointer (some ⟨Rr, 0, none⟩), fun v _ => v = .pointer (some ⟨Rr, 0, none⟩), fun v _ => v = .pointer (some ⟨Rr, 1, none⟩), fun v _ => v = .slice ra L2.length rc, fun v _ => v = .bool true, fun v _ => v = .bool false, fun v _ => v = .bool false, fun v _ => v = .bool false, fun v _ => v = .pointer (some ⟨J2, 0, none⟩), fun v _ => v = .int .i64 L2.length, fun v _ => v = .pointer (some ⟨Rr, 0, none⟩), fun v _ => v = .pointer (some ⟨Rr, 0, none⟩), fun v _ => v = .pointer (some ⟨Rr, 1, none⟩), fun v _ => v = .slice ra L2.length rc, fun v _ => v = .int .i64 L2.length, fun v _ => v = .bool false, fun v _ => v = .bool false, fun v _ => v = .bool false, fun v _ => v = .pointer (some ⟨J2, 0, none⟩), fun v _ => v = .int .i64 u, fun v _ => v = .pointer (some ⟨Rr, 0, none⟩), fun v _ => v = .pointer (some ⟨Rr, 0, none⟩), fun v _ => v = .pointer (some ⟨Rr, 1, none⟩), fun v _ => v = .slice ra L2.length rc, fun v _ => v = .int .i64 u, fun v _ => v = .bool false, fun v _ => v = .bool false, fun v _ => v = .bool false, fun v _ => v = .pointer (some ⟨J2, 0, none⟩), fun v _ => v = .int .i64 ((cap0 : Int) - u), fun v _ => v = .pointer (some ⟨Rr, 0, none⟩), fun v _ => v = .pointer (some ⟨Rr, 0, none⟩), fun v _ => v = .pointer (some ⟨Rr, 0, none⟩), fun v _ => v = .int .i64 cap0, fun v _ => v = .pointer (some ⟨Rr, 0, none⟩), fun v _ => v = .pointer (some ⟨Rr, 0, none⟩), fun v _ => v = .pointer (some ⟨Rr, 1, none⟩), fun v _ => v = .slice ra L2.length rc, fun v _ => v = .int .i64 u, fun v _ => v = .int .i64 ((cap0 : Int) - u), fun v _ => v = .bool false, fun v _ => v = .bool false] (by kernel_rfl) (by kernel_rfl) (by kernel_rfl) ((Kept.refl _ _).drew) (inits_nil) ?_ ?_
              · intro i hi9
                have hst := stab_all (posts := [fun v _ => v = .int .i64 oI, fun v _ => v = .int .i64 oI, fun v _ => v = .bool false, fun v _ => v = .bool false, fun v _ => v = .int .i64 oE, fun v _ => v = .int .i64 oE, fun v _ => v = .bool false, fun v _ => v = .bool false, fun v _ => v = .bool false, fun v _ => v = .pointer (some ⟨J2, 0, none⟩), fun v wx => ∃ a5 cap5, v = .slice a5 L2.length cap5 ∧ RdS wx NoM 1 EStr (.slice a5 L2.length cap5) L2, fun v _ => v = .pointer (some ⟨Rr, 0, none⟩), fun v _ => v = .pointer (some ⟨Rr, 0, none⟩), fun v _ => v = .pointer (some ⟨Rr, 1, none⟩), fun v _ => v = .slice ra L2.length rc, fun v _ => v = .bool true, fun v _ => v = .bool false, fun v _ => v = .bool false, fun v _ => v = .bool false, fun v _ => v = .pointer (some ⟨J2, 0, none⟩), fun v _ => v = .int .i64 L2.length, fun v _ => v = .pointer (some ⟨Rr, 0, none⟩), fun v _ => v = .pointer (some ⟨Rr, 0, none⟩), fun v _ => v = .pointer (some ⟨Rr, 1, none⟩), fun v _ => v = .slice ra L2.length rc, fun v _ => v = .int .i64 L2.length, fun v _ => v = .bool false, fun v _ => v = .bool false, fun v _ => v = .bool false, fun v _ => v = .pointer (some ⟨J2, 0, none⟩), fun v _ => v = .int .i64 u, fun v _ => v = .pointer (some ⟨Rr, 0, none⟩), fun v _ => v = .pointer (some ⟨Rr, 0, none⟩), fun v _ => v = .pointer (some ⟨Rr, 1, none⟩), fun v _ => v = .slice ra L2.length rc, fun v _ => v = .int .i64 u, fun v _ => v = .bool false, fun v _ => v = .bool false, fun v _ => v = .bool false, fun v _ => v = .pointer (some ⟨J2, 0, none⟩), fun v _ => v = .int .i64 ((cap0 : Int) - u), fun v _ => v = .pointer (some ⟨Rr, 0, none⟩), fun v _ => v = .pointer (some ⟨Rr, 0, none⟩), fun v _ => v = .pointer (some ⟨Rr, 0, none⟩), fun v _ => v = .int .i64 cap0, fun v _ => v = .pointer (some ⟨Rr, 0, none⟩), fun v _ => v = .pointer (some ⟨Rr, 0, none⟩), fun v _ => v = .pointer (some ⟨Rr, 1, none⟩), fun v _ => v = .slice ra L2.length rc, fun v _ => v = .int .i64 u, fun v _ => v = .int .i64 ((cap0 : Int) - u), fun v _ => v = .bool false, fun v _ => v = .bool false])        (stab_cons (stab_const _) (stab_cons (stab_const _) (stab_cons (stab_const _) (stab_cons (stab_const _) (stab_cons (stab_const _) (stab_cons (stab_const _) (stab_cons (stab_const _) (stab_cons (stab_const _) (stab_cons (stab_const _) (stab_cons (stab_const _) (stab_cons (stab_rd _ _) (stab_cons (stab_const _) (stab_cons (stab_const _) (stab_cons (stab_const _) (stab_cons (stab_const _) (stab_cons (stab_const _) (stab_cons (stab_const _) (stab_cons (stab_const _) (stab_cons (stab_const _) (stab_cons (stab_const _) (stab_cons (stab_const _) (stab_cons (stab_const _) (stab_cons (stab_const _) (stab_cons (stab_const _) (stab_cons (stab_const _) (stab_cons (stab_const _) (stab_cons (stab_const _) (stab_cons (stab_const _) (stab_cons (stab_const _) (stab_cons (stab_const _) (stab_cons (stab_const _) (stab_cons (stab_const _) (stab_cons (stab_const _) (stab_cons (stab_const _) (stab_cons (stab_const _) (stab_cons (stab_const _) (stab_cons (stab_const _) (stab_cons (stab_const _) (stab_cons (stab_const _) (stab_cons (stab_const _) (stab_cons (stab_const _) (stab_cons (stab_const _) (stab_cons (stab_const _) (stab_cons (stab_const _) (stab_cons (stab_const _) (stab_cons (stab_const _) (stab_cons (stab_const _) (stab_cons (stab_const _) (stab_cons (stab_const _) (stab_cons (stab_const _) (stab_cons (stab_const _) (stab_cons (stab_const _) (stab_cons (stab_const _) stab_nil)))))))))))))))))))))))))))))))))))))))))))))))))))))
                have hist := init_stab (inits := []) (fun p h => by cases h)
                have HST := Lib.hid hst
                have HIST := Lib.hid hist
                clear hst hist
                rcases (show i = 0 ∨ i = 1 ∨ i = 2 ∨ i = 3 ∨ i = 4 ∨ i = 5 ∨ i = 6 ∨ i = 7 ∨ i = 8 ∨ i = 9 ∨ i = 10 ∨ i = 11 ∨ i = 12 ∨ i = 13 ∨ i = 14 ∨ i = 15 ∨ i = 16 ∨ i = 17 ∨ i = 18 ∨ i = 19 ∨ i = 20 ∨ i = 21 ∨ i = 22 ∨ i = 23 ∨ i = 24 ∨ i = 25 ∨ i = 26 ∨ i = 27 ∨ i = 28 ∨ i = 29 ∨ i = 30 ∨ i = 31 ∨ i = 32 ∨ i = 33 ∨ i = 34 ∨ i = 35 ∨ i = 36 ∨ i = 37 ∨ i = 38 ∨ i = 39 ∨ i = 40 ∨ i = 41 ∨ i = 42 ∨ i = 43 ∨ i = 44 ∨ i = 45 ∨ i = 46 ∨ i = 47 ∨ i = 48 ∨ i = 49 ∨ i = 50 ∨ i = 51 ∨ i = 52 by omega) with rfl | rfl | rfl | rfl | rfl | rfl | rfl | rfl | rfl | rfl | rfl | rfl | rfl | rfl | rfl | rfl | rfl | rfl | rfl | rfl | rfl | rfl | rfl | rfl | rfl | rfl | rfl | rfl | rfl | rfl | rfl | rfl | rfl | rfl | rfl | rfl | rfl | rfl | rfl | rfl | rfl | rfl | rfl | rfl | rfl | rfl | rfl | rfl | rfl | rfl | rfl | rfl | rfl
                · refine asksG_intro ?_; intro o ho a wx hc hout hp hi R hR; cases ho
                  refine ⟨wanted_none rfl, ?_⟩
                  have e14 : a.tmps[14]? = some (.int .i64 oI) := hout 14 rfl
                  go_simp
                  exact hR _ _ hc rfl (fun _ _ _ _ _ u h => h) (fun _ _ h => h)
                · refine asksG_intro ?_; intro o ho a wx hc hout hp hi R hR; cases ho
                  refine ⟨wanted_none rfl, ?_⟩
                  have e16 : a.tmps[16]? = some (.int .i64 oI) := hout 16 rfl
                  go_simp
                  exact hR _ _ hc rfl (fun _ _ _ _ _ u h => h) (fun _ _ h => h)
                · refine asksG_intro ?_; intro o ho a wx hc hout hp hi R hR; cases ho
                  refine ⟨wanted_none rfl, ?_⟩
                  have e100 : a.tmps[100]?.getD undef = .int .i64 oI := hp 0 (by omega) rfl
                  have e101 : a.tmps[101]?.getD undef = .int .i64 oI := hp 1 (by omega) rfl
                  go_simp
                  exact hR _ _ hc rfl (fun _ _ _ _ _ u h => h) (fun _ _ h => h)
                · refine asksG_intro ?_; intro o ho a wx hc hout hp hi R hR; cases ho
                  refine ⟨wanted_none rfl, ?_⟩
                  have e102 : a.tmps[102]?.getD undef = .bool false := hp 2 (by omega) rfl
                  go_simp
                  exact hR _ _ hc rfl (fun _ _ _ _ _ u h => h) (fun _ _ h => h)
                · refine asksG_intro ?_; intro o ho a wx hc hout hp hi R hR; cases ho
                  refine ⟨wanted_some rfl rfl (hp 3 (by omega) rfl), ?_⟩
                  have e15 : a.tmps[15]? = some (.int .i64 oE) := hout 15 rfl
                  go_simp
                  exact hR _ _ hc rfl (fun _ _ _ _ _ u h => h) (fun _ _ h => h)
                · refine asksG_intro ?_; intro o ho a wx hc hout hp hi R hR; cases ho
                  refine ⟨wanted_some rfl rfl (hp 3 (by omega) rfl), ?_⟩
                  have e17 : a.tmps[17]? = some (.int .i64 oE) := hout 17 rfl
                  go_simp
                  exact hR _ _ hc rfl (fun _ _ _ _ _ u h => h) (fun _ _ h => h)
                · refine asksG_intro ?_; intro o ho a wx hc hout hp hi R hR; cases ho
                  refine ⟨wanted_some rfl rfl (hp 3 (by omega) rfl), ?_⟩
                  have e104 : a.tmps[104]?.getD undef = .int .i64 oE := hp 4 (by omega) rfl
                  have e105 : a.tmps[105]?.getD undef = .int .i64 oE := hp 5 (by omega) rfl
                  go_simp
                  exact hR _ _ hc rfl (fun _ _ _ _ _ u h => h) (fun _ _ h => h)
                · refine asksG_intro ?_; intro o ho a wx hc hout hp hi R hR; cases ho
                  refine ⟨wanted_none rfl, ?_⟩
                  have e103 : a.tmps[103]?.getD undef = .bool false := hp 3 (by omega) rfl
                  have e106 : a.tmps[106]?.getD undef = .bool false := hp 6 (by omega) rfl
                  go_simp
                  exact hR _ _ hc rfl (fun _ _ _ _ _ u h => h) (fun _ _ h => h)
                · refine asksG_intro ?_; intro o ho a wx hc hout hp hi R hR; cases ho
                  refine ⟨wanted_none rfl, ?_⟩
                  have e107 : a.tmps[107]?.getD undef = .bool false := hp 7 (by omega) rfl
                  go_simp
                  exact hR _ _ hc rfl (fun _ _ _ _ _ u h => h) (fun _ _ h => h)
                · refine asksG_intro ?_; intro o ho a wx hc hout hp hi R hR; cases ho
                  refine ⟨wanted_some rfl rfl (hp 8 (by omega) rfl), ?_⟩
                  have e8 : a.tmps[8]? = some (.pointer (some ⟨J2, 0, none⟩)) := hout 8 rfl
                  go_simp
                  exact hR _ _ hc rfl (fun _ _ _ _ _ u h => h) (fun _ _ h => h)
                · refine asksG_intro ?_; intro o ho a wx hc hout hp hi R hR; cases ho
                  refine ⟨wanted_some rfl rfl (hp 8 (by omega) rfl), ?_⟩
                  have e109 : a.tmps[109]?.getD undef = .pointer (some ⟨J2, 0, none⟩) := hp 9 (by omega) rfl
                  go_simp
                  refine (GRC.out wx hc).mono ?_
                  rintro e w2 ⟨a5, cap5, rfl, q1, k1⟩
                  exact ⟨_, rfl, hR _ _ (hc.trans k1) ⟨a5, cap5, rfl, q1⟩ (fun j _ _ _ _ u h => HST.out j u _ _ k1 h) (fun j _ h => HIST.out j _ _ k1 h)⟩
                · refine asksG_intro ?_; intro o ho a wx hc hout hp hi R hR; cases ho
                  refine ⟨wanted_some rfl rfl (hp 8 (by omega) rfl), ?_⟩
                  have e10 : a.tmps[10]? = some (.pointer (some ⟨Rr, 0, none⟩)) := hout 10 rfl
                  go_simp
                  exact hR _ _ hc rfl (fun _ _ _ _ _ u h => h) (fun _ _ h => h)
                · refine asksG_intro ?_; intro o ho a wx hc hout hp hi R hR; cases ho
                  refine ⟨wanted_some rfl rfl (hp 8 (by omega) rfl), ?_⟩
                  have e111 : a.tmps[111]?.getD undef = .pointer (some ⟨Rr, 0, none⟩) := hp 11 (by omega) rfl
                  go_simp
                  exact hR _ _ hc rfl (fun _ _ _ _ _ u h => h) (fun _ _ h => h)
                · refine asksG_intro ?_; intro o ho a wx hc hout hp hi R hR; cases ho
                  refine ⟨wanted_some rfl rfl (hp 8 (by omega) rfl), ?_⟩
                  have e112 : a.tmps[112]?.getD undef = .pointer (some ⟨Rr, 0, none⟩) := hp 12 (by omega) rfl
                  go_simp
                  exact hR _ _ hc rfl (fun _ _ _ _ _ u h => h) (fun _ _ h => h)
                · refine asksG_intro ?_; intro o ho a wx hc hout hp hi R hR; cases ho
                  refine ⟨wanted_some rfl rfl (hp 8 (by omega) rfl), ?_⟩
                  have e113 : a.tmps[113]?.getD undef = .pointer (some ⟨Rr, 1, none⟩) := hp 13 (by omega) rfl
                  obtain ⟨y0, y1⟩ := YC.out wx hc
                  go_simp
                  exact hR _ _ hc rfl (fun _ _ _ _ _ u h => h) (fun _ _ h => h)
                · refine asksG_intro ?_; intro o ho a wx hc hout hp hi R hR; cases ho
                  refine ⟨wanted_some rfl rfl (hp 8 (by omega) rfl), ?_⟩
                  obtain ⟨a5, cap5, e110, r5⟩ : ∃ a5 cap5, a.tmps[110]?.getD undef = .slice a5 L2.length cap5 ∧ RdS wx NoM 1 EStr (.slice a5 L2.length cap5) L2 := hp 10 (by omega) rfl
                  have e114 : a.tmps[114]?.getD undef = .slice ra L2.length rc := hp 14 (by omega) rfl
                  go_simp
                  refine (GSM.out wx a5 cap5 hc r5).mono ?_
                  rintro e w2 ⟨rfl, k1⟩
                  exact ⟨_, rfl, hR _ _ (hc.trans k1) rfl (fun j _ _ _ _ u h => HST.out j u _ _ k1 h) (fun j _ h => HIST.out j _ _ k1 h)⟩
                · refine asksG_intro ?_; intro o ho a wx hc hout hp hi R hR; cases ho
                  refine ⟨wanted_some rfl rfl (hp 8 (by omega) rfl), ?_⟩
                  have e115 : a.tmps[115]?.getD undef = .bool true := hp 15 (by omega) rfl
                  go_simp
                  exact hR _ _ hc rfl (fun _ _ _ _ _ u h => h) (fun _ _ h => h)
                · refine asksG_intro ?_; intro o ho a wx hc hout hp hi R hR; cases ho
                  refine ⟨wanted_none rfl, ?_⟩
                  have e108 : a.tmps[108]?.getD undef = .bool false := hp 8 (by omega) rfl
                  have e116 : a.tmps[116]?.getD undef = .bool false := hp 16 (by omega) rfl
                  go_simp
                  exact hR _ _ hc rfl (fun _ _ _ _ _ u h => h) (fun _ _ h => h)
                · refine asksG_intro ?_; intro o ho a wx hc hout hp hi R hR; cases ho
                  refine ⟨wanted_none rfl, ?_⟩
                  have e117 : a.tmps[117]?.getD undef = .bool false := hp 17 (by omega) rfl
                  go_simp
                  exact hR _ _ hc rfl (fun _ _ _ _ _ u h => h) (fun _ _ h => h)
                · refine asksG_intro ?_; intro o ho a wx hc hout hp hi R hR; cases ho
                  refine ⟨wanted_some rfl rfl (hp 18 (by omega) rfl), ?_⟩
                  have e8 : a.tmps[8]? = some (.pointer (some ⟨J2, 0, none⟩)) := hout 8 rfl
                  go_simp
                  exact hR _ _ hc rfl (fun _ _ _ _ _ u h => h) (fun _ _ h => h)
                · refine asksG_intro ?_; intro o ho a wx hc hout hp hi R hR; cases ho
                  refine ⟨wanted_some rfl rfl (hp 18 (by omega) rfl), ?_⟩
                  have e119 : a.tmps[119]?.getD undef = .pointer (some ⟨J2, 0, none⟩) := hp 19 (by omega) rfl
                  go_simp
                  refine (GLN.out wx hc).mono ?_
                  rintro e w2 ⟨rfl, rfl⟩
                  exact ⟨_, rfl, hR _ _ hc rfl (fun j _ _ _ _ u h => h) (fun j _ h => h)⟩
                · refine asksG_intro ?_; intro o ho a wx hc hout hp hi R hR; cases ho
                  refine ⟨wanted_some rfl rfl (hp 18 (by omega) rfl), ?_⟩
                  have e10 : a.tmps[10]? = some (.pointer (some ⟨Rr, 0, none⟩)) := hout 10 rfl
                  go_simp
                  exact hR _ _ hc rfl (fun _ _ _ _ _ u h => h) (fun _ _ h => h)
                · refine asksG_intro ?_; intro o ho a wx hc hout hp hi R hR; cases ho
                  refine ⟨wanted_some rfl rfl (hp 18 (by omega) rfl), ?_⟩
                  have e121 : a.tmps[121]?.getD undef = .pointer (some ⟨Rr, 0, none⟩) := hp 21 (by omega) rfl
                  go_simp
                  exact hR _ _ hc rfl (fun _ _ _ _ _ u h => h) (fun _ _ h => h)
                · refine asksG_intro ?_; intro o ho a wx hc hout hp hi R hR; cases ho
                  refine ⟨wanted_some rfl rfl (hp 18 (by omega) rfl), ?_⟩
                  have e122 : a.tmps[122]?.getD undef = .pointer (some ⟨Rr, 0, none⟩) := hp 22 (by omega) rfl
                  go_simp
                  exact hR _ _ hc rfl (fun _ _ _ _ _ u h => h) (fun _ _ h => h)
                · refine asksG_intro ?_; intro o ho a wx hc hout hp hi R hR; cases ho
                  refine ⟨wanted_some rfl rfl (hp 18 (by omega) rfl), ?_⟩
                  have e123 : a.tmps[123]?.getD undef = .pointer (some ⟨Rr, 1, none⟩) := hp 23 (by omega) rfl
                  obtain ⟨y0, y1⟩ := YC.out wx hc
                  go_simp
                  exact hR _ _ hc rfl (fun _ _ _ _ _ u h => h) (fun _ _ h => h)
                · refine asksG_intro ?_; intro o ho a wx hc hout hp hi R hR; cases ho
                  refine ⟨wanted_some rfl rfl (hp 18 (by omega) rfl), ?_⟩
                  have e124 : a.tmps[124]?.getD undef = .slice ra L2.length rc := hp 24 (by omega) rfl
                  go_simp
                  exact hR _ _ hc rfl (fun _ _ _ _ _ u h => h) (fun _ _ h => h)
                · refine asksG_intro ?_; intro o ho a wx hc hout hp hi R hR; cases ho
                  refine ⟨wanted_some rfl rfl (hp 18 (by omega) rfl), ?_⟩
                  have e120 : a.tmps[120]?.getD undef = .int .i64 L2.length := hp 20 (by omega) rfl
                  have e125 : a.tmps[125]?.getD undef = .int .i64 L2.length := hp 25 (by omega) rfl
                  go_simp
                  exact hR _ _ hc rfl (fun _ _ _ _ _ u h => h) (fun _ _ h => h)
                · refine asksG_intro ?_; intro o ho a wx hc hout hp hi R hR; cases ho
                  refine ⟨wanted_none rfl, ?_⟩
                  have e118 : a.tmps[118]?.getD undef = .bool false := hp 18 (by omega) rfl
                  have e126 : a.tmps[126]?.getD undef = .bool false := hp 26 (by omega) rfl
                  go_simp
                  exact hR _ _ hc rfl (fun _ _ _ _ _ u h => h) (fun _ _ h => h)
                · refine asksG_intro ?_; intro o ho a wx hc hout hp hi R hR; cases ho
                  refine ⟨wanted_none rfl, ?_⟩
                  have e127 : a.tmps[127]?.getD undef = .bool false := hp 27 (by omega) rfl
                  go_simp
                  exact hR _ _ hc rfl (fun _ _ _ _ _ u h => h) (fun _ _ h => h)
                · refine asksG_intro ?_; intro o ho a wx hc hout hp hi R hR; cases ho
                  refine ⟨wanted_some rfl rfl (hp 28 (by omega) rfl), ?_⟩
                  have e8 : a.tmps[8]? = some (.pointer (some ⟨J2, 0, none⟩)) := hout 8 rfl
                  go_simp
                  exact hR _ _ hc rfl (fun _ _ _ _ _ u h => h) (fun _ _ h => h)
                · refine asksG_intro ?_; intro o ho a wx hc hout hp hi R hR; cases ho
                  refine ⟨wanted_some rfl rfl (hp 28 (by omega) rfl), ?_⟩
                  have e129 : a.tmps[129]?.getD undef = .pointer (some ⟨J2, 0, none⟩) := hp 29 (by omega) rfl
                  go_simp
                  refine (GUS.out wx hc).mono ?_
                  rintro e w2 ⟨rfl, rfl⟩
                  exact ⟨_, rfl, hR _ _ hc rfl (fun j _ _ _ _ u h => h) (fun j _ h => h)⟩
                · refine asksG_intro ?_; intro o ho a wx hc hout hp hi R hR; cases ho
                  refine ⟨wanted_some rfl rfl (hp 28 (by omega) rfl), ?_⟩
                  have e10 : a.tmps[10]? = some (.pointer (some ⟨Rr, 0, none⟩)) := hout 10 rfl
                  go_simp
                  exact hR _ _ hc rfl (fun _ _ _ _ _ u h => h) (fun _ _ h => h)
                · refine asksG_intro ?_; intro o ho a wx hc hout hp hi R hR; cases ho
                  refine ⟨wanted_some rfl rfl (hp 28 (by omega) rfl), ?_⟩
                  have e131 : a.tmps[131]?.getD undef = .pointer (some ⟨Rr, 0, none⟩) := hp 31 (by omega) rfl
                  go_simp
                  exact hR _ _ hc rfl (fun _ _ _ _ _ u h => h) (fun _ _ h => h)
                · refine asksG_intro ?_; intro o ho a wx hc hout hp hi R hR; cases ho
                  refine ⟨wanted_some rfl rfl (hp 28 (by omega) rfl), ?_⟩
                  have e132 : a.tmps[132]?.getD undef = .pointer (some ⟨Rr, 0, none⟩) := hp 32 (by omega) rfl
                  go_simp
                  exact hR _ _ hc rfl (fun _ _ _ _ _ u h => h) (fun _ _ h => h)
                · refine asksG_intro ?_; intro o ho a wx hc hout hp hi R hR; cases ho
                  refine ⟨wanted_some rfl rfl (hp 28 (by omega) rfl), ?_⟩
                  have e133 : a.tmps[133]?.getD undef = .pointer (some ⟨Rr, 1, none⟩) := hp 33 (by omega) rfl
                  obtain ⟨y0, y1⟩ := YC.out wx hc
                  go_simp
                  exact hR _ _ hc rfl (fun _ _ _ _ _ u h => h) (fun _ _ h => h)
                · refine asksG_intro ?_; intro o ho a wx hc hout hp hi R hR; cases ho
                  refine ⟨wanted_some rfl rfl (hp 28 (by omega) rfl), ?_⟩
                  have e134 : a.tmps[134]?.getD undef = .slice ra L2.length rc := hp 34 (by omega) rfl
                  go_simp
                  refine (GRU.out wx hc).mono ?_
                  rintro e w2 ⟨rfl, rfl⟩
                  exact ⟨_, rfl, hR _ _ hc rfl (fun j _ _ _ _ u h => h) (fun j _ h => h)⟩
                · refine asksG_intro ?_; intro o ho a wx hc hout hp hi R hR; cases ho
                  refine ⟨wanted_some rfl rfl (hp 28 (by omega) rfl), ?_⟩
                  have e130 : a.tmps[130]?.getD undef = .int .i64 u := hp 30 (by omega) rfl
                  have e135 : a.tmps[135]?.getD undef = .int .i64 u := hp 35 (by omega) rfl
                  go_simp
                  exact hR _ _ hc rfl (fun _ _ _ _ _ u h => h) (fun _ _ h => h)
                · refine asksG_intro ?_; intro o ho a wx hc hout hp hi R hR; cases ho
                  refine ⟨wanted_none rfl, ?_⟩
                  have e128 : a.tmps[128]?.getD undef = .bool false := hp 28 (by omega) rfl
                  have e136 : a.tmps[136]?.getD undef = .bool false := hp 36 (by omega) rfl
                  go_simp
                  exact hR _ _ hc rfl (fun _ _ _ _ _ u h => h) (fun _ _ h => h)
                · refine asksG_intro ?_; intro o ho a wx hc hout hp hi R hR; cases ho
                  refine ⟨wanted_none rfl, ?_⟩
                  have e137 : a.tmps[137]?.getD undef = .bool false := hp 37 (by omega) rfl
                  go_simp
                  exact hR _ _ hc rfl (fun _ _ _ _ _ u h => h) (fun _ _ h => h)
                · refine asksG_intro ?_; intro o ho a wx hc hout hp hi R hR; cases ho
                  refine ⟨wanted_some rfl rfl (hp 38 (by omega) rfl), ?_⟩
                  have e8 : a.tmps[8]? = some (.pointer (some ⟨J2, 0, none⟩)) := hout 8 rfl
                  go_simp
                  exact hR _ _ hc rfl (fun _ _ _ _ _ u h => h) (fun _ _ h => h)
                · refine asksG_intro ?_; intro o ho a wx hc hout hp hi R hR; cases ho
                  refine ⟨wanted_some rfl rfl (hp 38 (by omega) rfl), ?_⟩
                  have e139 : a.tmps[139]?.getD undef = .pointer (some ⟨J2, 0, none⟩) := hp 39 (by omega) rfl
                  go_simp
                  refine (GRM.out wx hc).mono ?_
                  rintro e w2 ⟨rfl, nn, rfl⟩
                  have k1 : Kept NoM wx (wx.drewN nn) := (Kept.refl _ _).drewN _
                  exact ⟨_, rfl, hR _ _ (hc.trans k1) rfl (fun j _ _ _ _ u h => HST.out j u _ _ k1 h) (fun j _ h => HIST.out j _ _ k1 h)⟩
                · refine asksG_intro ?_; intro o ho a wx hc hout hp hi R hR; cases ho
                  refine ⟨wanted_some rfl rfl (hp 38 (by omega) rfl), ?_⟩
                  have e10 : a.tmps[10]? = some (.pointer (some ⟨Rr, 0, none⟩)) := hout 10 rfl
                  go_simp
                  exact hR _ _ hc rfl (fun _ _ _ _ _ u h => h) (fun _ _ h => h)
                · refine asksG_intro ?_; intro o ho a wx hc hout hp hi R hR; cases ho
                  refine ⟨wanted_some rfl rfl (hp 38 (by omega) rfl), ?_⟩
                  have e141 : a.tmps[141]?.getD undef = .pointer (some ⟨Rr, 0, none⟩) := hp 41 (by omega) rfl
                  go_simp
                  exact hR _ _ hc rfl (fun _ _ _ _ _ u h => h) (fun _ _ h => h)
                · refine asksG_intro ?_; intro o ho a wx hc hout hp hi R hR; cases ho
                  refine ⟨wanted_some rfl rfl (hp 38 (by omega) rfl), ?_⟩
                  have e142 : a.tmps[142]?.getD undef = .pointer (some ⟨Rr, 0, none⟩) := hp 42 (by omega) rfl
                  go_simp
                  exact hR _ _ hc rfl (fun _ _ _ _ _ u h => h) (fun _ _ h => h)
                · refine asksG_intro ?_; intro o ho a wx hc hout hp hi R hR; cases ho
                  refine ⟨wanted_some rfl rfl (hp 38 (by omega) rfl), ?_⟩
                  have e143 : a.tmps[143]?.getD undef = .pointer (some ⟨Rr, 0, none⟩) := hp 43 (by omega) rfl
                  obtain ⟨y0, y1⟩ := YC.out wx hc
                  go_simp
                  exact hR _ _ hc rfl (fun _ _ _ _ _ u h => h) (fun _ _ h => h)
                · refine asksG_intro ?_; intro o ho a wx hc hout hp hi R hR; cases ho
                  refine ⟨wanted_some rfl rfl (hp 38 (by omega) rfl), ?_⟩
                  have e10 : a.tmps[10]? = some (.pointer (some ⟨Rr, 0, none⟩)) := hout 10 rfl
                  go_simp
                  exact hR _ _ hc rfl (fun _ _ _ _ _ u h => h) (fun _ _ h => h)
                · refine asksG_intro ?_; intro o ho a wx hc hout hp hi R hR; cases ho
                  refine ⟨wanted_some rfl rfl (hp 38 (by omega) rfl), ?_⟩
                  have e145 : a.tmps[145]?.getD undef = .pointer (some ⟨Rr, 0, none⟩) := hp 45 (by omega) rfl
                  go_simp
                  exact hR _ _ hc rfl (fun _ _ _ _ _ u h => h) (fun _ _ h => h)
                · refine asksG_intro ?_; intro o ho a wx hc hout hp hi R hR; cases ho
                  refine ⟨wanted_some rfl rfl (hp 38 (by omega) rfl), ?_⟩
                  have e146 : a.tmps[146]?.getD undef = .pointer (some ⟨Rr, 0, none⟩) := hp 46 (by omega) rfl
                  go_simp
                  exact hR _ _ hc rfl (fun _ _ _ _ _ u h => h) (fun _ _ h => h)
                · refine asksG_intro ?_; intro o ho a wx hc hout hp hi R hR; cases ho
                  refine ⟨wanted_some rfl rfl (hp 38 (by omega) rfl), ?_⟩
                  have e147 : a.tmps[147]?.getD undef = .pointer (some ⟨Rr, 1, none⟩) := hp 47 (by omega) rfl
                  obtain ⟨y0, y1⟩ := YC.out wx hc
                  go_simp
                  exact hR _ _ hc rfl (fun _ _ _ _ _ u h => h) (fun _ _ h => h)
                · refine asksG_intro ?_; intro o ho a wx hc hout hp hi R hR; cases ho
                  refine ⟨wanted_some rfl rfl (hp 38 (by omega) rfl), ?_⟩
                  have e148 : a.tmps[148]?.getD undef = .slice ra L2.length rc := hp 48 (by omega) rfl
                  go_simp
                  refine (GRU.out wx hc).mono ?_
                  rintro e w2 ⟨rfl, rfl⟩
                  exact ⟨_, rfl, hR _ _ hc rfl (fun j _ _ _ _ u h => h) (fun j _ h => h)⟩
                · refine asksG_intro ?_; intro o ho a wx hc hout hp hi R hR; cases ho
                  refine ⟨wanted_some rfl rfl (hp 38 (by omega) rfl), ?_⟩
                  have e144 : a.tmps[144]?.getD undef = .int .i64 cap0 := hp 44 (by omega) rfl
                  have e149 : a.tmps[149]?.getD undef = .int .i64 u := hp 49 (by omega) rfl
                  have q := IntWalk.i64_in ((cap0 : Int) - u) (by omega)
                  go_simp
                  exact hR _ _ hc rfl (fun _ _ _ _ _ u h => h) (fun _ _ h => h)
                · refine asksG_intro ?_; intro o ho a wx hc hout hp hi R hR; cases ho
                  refine ⟨wanted_some rfl rfl (hp 38 (by omega) rfl), ?_⟩
                  have e140 : a.tmps[140]?.getD undef = .int .i64 ((cap0 : Int) - u) := hp 40 (by omega) rfl
                  have e150 : a.tmps[150]?.getD undef = .int .i64 ((cap0 : Int) - u) := hp 50 (by omega) rfl
                  go_simp
                  exact hR _ _ hc rfl (fun _ _ _ _ _ u h => h) (fun _ _ h => h)
                · refine asksG_intro ?_; intro o ho a wx hc hout hp hi R hR; cases ho
                  refine ⟨wanted_none rfl, ?_⟩
                  have e138 : a.tmps[138]?.getD undef = .bool false := hp 38 (by omega) rfl
                  have e151 : a.tmps[151]?.getD undef = .bool false := hp 51 (by omega) rfl
                  go_simp
                  exact hR _ _ hc rfl (fun _ _ _ _ _ u h => h) (fun _ _ h => h)
              · intro vs w9 hc hp
                have e100 : vs 0 = .int .i64 oI := hp 0 (by omega) rfl
                have e101 : vs 1 = .int .i64 oI := hp 1 (by omega) rfl
                have e102 : vs 2 = .bool false := hp 2 (by omega) rfl
                have e103 : vs 3 = .bool false := hp 3 (by omega) rfl
                have e104 : vs 4 = .int .i64 oE := hp 4 (by omega) rfl
                have e105 : vs 5 = .int .i64 oE := hp 5 (by omega) rfl
                have e106 : vs 6 = .bool false := hp 6 (by omega) rfl
                have e107 : vs 7 = .bool false := hp 7 (by omega) rfl
                have e108 : vs 8 = .bool false := hp 8 (by omega) rfl
                have e109 : vs 9 = .pointer (some ⟨J2, 0, none⟩) := hp 9 (by omega) rfl
                obtain ⟨a5, cap5, e110, r5⟩ : ∃ a5 cap5, vs 10 = .slice a5 L2.length cap5 ∧ RdS w9 NoM 1 EStr (.slice a5 L2.length cap5) L2 := hp 10 (by omega) rfl
                have e111 : vs 11 = .pointer (some ⟨Rr, 0, none⟩) := hp 11 (by omega) rfl
                have e112 : vs 12 = .pointer (some ⟨Rr, 0, none⟩) := hp 12 (by omega) rfl
                have e113 : vs 13 = .pointer (some ⟨Rr, 1, none⟩) := hp 13 (by omega) rfl
                have e114 : vs 14 = .slice ra L2.length rc := hp 14 (by omega) rfl
                have e115 : vs 15 = .bool true := hp 15 (by omega) rfl
                have e116 : vs 16 = .bool false := hp 16 (by omega) rfl
                have e117 : vs 17 = .bool false := hp 17 (by omega) rfl
                have e118 : vs 18 = .bool false := hp 18 (by omega) rfl
                have e119 : vs 19 = .pointer (some ⟨J2, 0, none⟩) := hp 19 (by omega) rfl
                have e120 : vs 20 = .int .i64 L2.length := hp 20 (by omega) rfl
                have e121 : vs 21 = .pointer (some ⟨Rr, 0, none⟩) := hp 21 (by omega) rfl
                have e122 : vs 22 = .pointer (some ⟨Rr, 0, none⟩) := hp 22 (by omega) rfl
                have e123 : vs 23 = .pointer (some ⟨Rr, 1, none⟩) := hp 23 (by omega) rfl
                have e124 : vs 24 = .slice ra L2.length rc := hp 24 (by omega) rfl
                have e125 : vs 25 = .int .i64 L2.length := hp 25 (by omega) rfl
                have e126 : vs 26 = .bool false := hp 26 (by omega) rfl
                have e127 : vs 27 = .bool false := hp 27 (by omega) rfl
                have e128 : vs 28 = .bool false := hp 28 (by omega) rfl
                have e129 : vs 29 = .pointer (some ⟨J2, 0, none⟩) := hp 29 (by omega) rfl
                have e130 : vs 30 = .int .i64 u := hp 30 (by omega) rfl
                have e131 : vs 31 = .pointer (some ⟨Rr, 0, none⟩) := hp 31 (by omega) rfl
                have e132 : vs 32 = .pointer (some ⟨Rr, 0, none⟩) := hp 32 (by omega) rfl
                have e133 : vs 33 = .pointer (some ⟨Rr, 1, none⟩) := hp 33 (by omega) rfl
                have e134 : vs 34 = .slice ra L2.length rc := hp 34 (by omega) rfl
                have e135 : vs 35 = .int .i64 u := hp 35 (by omega) rfl
                have e136 : vs 36 = .bool false := hp 36 (by omega) rfl
                have e137 : vs 37 = .bool false := hp 37 (by omega) rfl
                have e138 : vs 38 = .bool false := hp 38 (by omega) rfl
                have e139 : vs 39 = .pointer (some ⟨J2, 0, none⟩) := hp 39 (by omega) rfl
                have e140 : vs 40 = .int .i64 ((cap0 : Int) - u) := hp 40 (by omega) rfl
                have e141 : vs 41 = .pointer (some ⟨Rr, 0, none⟩) := hp 41 (by omega) rfl
                have e142 : vs 42 = .pointer (some ⟨Rr, 0, none⟩) := hp 42 (by omega) rfl
                have e143 : vs 43 = .pointer (some ⟨Rr, 0, none⟩) := hp 43 (by omega) rfl
                have e144 : vs 44 = .int .i64 cap0 := hp 44 (by omega) rfl
                have e145 : vs 45 = .pointer (some ⟨Rr, 0, none⟩) := hp 45 (by omega) rfl
                have e146 : vs 46 = .pointer (some ⟨Rr, 0, none⟩) := hp 46 (by omega) rfl
                have e147 : vs 47 = .pointer (some ⟨Rr, 1, none⟩) := hp 47 (by omega) rfl
                have e148 : vs 48 = .slice ra L2.length rc := hp 48 (by omega) rfl
                have e149 : vs 49 = .int .i64 u := hp 49 (by omega) rfl
                have e150 : vs 50 = .int .i64 ((cap0 : Int) - u) := hp 50 (by omega) rfl
                have e151 : vs 51 = .bool false := hp 51 (by omega) rfl
                have e152 : vs 52 = .bool false := hp 52 (by omega) rfl
                simp only [List.take_succ_cons, List.take_zero, List.drop_succ_cons, List.drop_zero, putAll, Act.put, List.setIfInBounds_toArray, List.set_cons_zero, List.set_cons_succ, Nat.reduceAdd, e100, e101, e102, e103, e104, e105, e106, e107, e108, e109, e111, e112, e113, e114, e115, e116, e117, e118, e119, e120, e121, e122, e123, e124, e125, e126, e127, e128, e129, e130, e131, e132, e133, e134, e135, e136, e137, e138, e139, e140, e141, e142, e143, e144, e145, e146, e147, e148, e149, e150, e151, e152]
                change wpList _ _ _ _ _ _
                have HC := Lib.hid hc
                have GW := Lib.hid (GR2.out w9 hc)
                obtain ⟨y0, y1⟩ := YC.out w9 hc
                have HRD0 := Lib.hid HRD.out
                clear hc hp e100 e101 e102 e103 e104 e105 e106 e107 e108 e109 e111 e112 e113 e114 e115 e116 e117 e118 e119 e120 e121 e122 e123 e124 e125 e126 e127 e128 e129 e130 e131 e132 e133 e134 e135 e136 e137 e138 e139 e140 e141 e142 e143 e144 e145 e146 e147 e148 e149 e150 e151 e152 r5 e110 GLN GUS GRM GRC GRU GSM RCOK YC HRD GR2
                have HRD9 := Lib.hid (HRD0.out.kept HC.out (fun _ _ x => x))
                clear HRD0
                have hl9 : L2.length ≤ 300000 := HLN.out
                have GLST : Hid (∀ q x, L2[q]? = some x → Calls Try.prog 21 #[.pointer (some ⟨J2, 0, none⟩), .int .i64 (q : Nat)] w9 fun e w' => e = .returned (.tuple #[strV x, .bool true]) ∧ w9 = w') := Lib.hid (fun q x h => grec_ok GW.out h)
                have GNO : Hid (∀ k : Int, (k < 0 ∨ (L2.length : Int) ≤ k) → Calls Try.prog 21 #[.pointer (some ⟨J2, 0, none⟩), .int .i64 k] w9 fun e w' => e = .returned (.tuple #[strV [], .bool false]) ∧ w9 = w') := Lib.hid (fun k h => grec_no GW.out h)
                have GAT : Hid (∀ q, q < L2.length → ∃ x, L2[q]? = some x) := Lib.hid (fun q h => getAt h)
                have S9 := Lib.hid (S4.out.kept0 HC.out)
                clear HLN GW HC S4
                unfold strV at GLST GNO
                generalize hn1 : L2.length = n1 at *
                have HN1 := Lib.hid hn1
                clear hn1
                cases n1 with
                | zero =>
                  have N1 := Lib.hid (GNO.out (-1) (.inl (by decide)))
                  have N2 := Lib.hid (GNO.out 0 (.inr (by decide)))
                  have q8 : IntKind.i64.wrap (-1) = -1 := by decide
                  clear GLST GNO GAT HRD9
                  go_wp2_with fail
                  refine N1.out.mono ?_
                  rintro e w10 ⟨rfl, rfl⟩
                  go_wp2_with fail
                  refine N2.out.mono ?_
                  rintro e w11 ⟨rfl, rfl⟩
                  go_wp2_with fail
                  go_quiet (fail)
                  go_wp2_with fail
                  go_roundw
                  case rel => exact ⟨k + 1, by omega, by go_num, J2, L2, rfl, S9.out.kept0 ((Kept.refl _ _).drewN _)⟩
                  case measure => simp [intOf]; omega
                | succ q =>
                  obtain ⟨x, hx⟩ := GAT.out q (by omega)
                  have N1 := Lib.hid (GLST.out q x hx)
                  have N2 := Lib.hid (GNO.out ((q + 1 : Nat) : Int) (.inr (by omega)))
                  have q8 : IntKind.i64.wrap (((q + 1 : Nat) : Int) - 1) = (q : Int) := by rw [IntWalk.i64_in _ (by omega)]; omega
                  obtain ⟨b9, off9, e9, _, cs9, rfl, _, hc9⟩ := HRD9.out.at hx
                  subst e9
                  have x9 := hc9 0 _ rfl
                  simp only [Nat.mul_one, Nat.add_zero] at x9
                  unfold strV at x9
                  clear GLST GNO GAT HRD9 hx hc9
                  go_wp2_with fail
                  refine N1.out.mono ?_
                  rintro e w10 ⟨rfl, rfl⟩
                  go_wp2_with fail
                  refine N2.out.mono ?_
                  rintro e w11 ⟨rfl, rfl⟩
                  go_wp2_with fail
                  go_quiet (fail)
                  go_wp2_with fail
                  go_roundw
                  case rel => exact ⟨k + 1, by omega, by go_num, J2, L2, rfl, S9.out.kept0 ((Kept.refl _ _).drewN _)⟩
                  case measure => simp [intOf]; omega
            · obtain rfl : k = l.length := by omega
              have f1 := decide_eq_false (show ¬ ((l.length : Nat) : Int) < l.length by omega)
              have f2 := decide_eq_false (show ¬ l.length < l.length by omega)
              go_wp2_with (go_at_call 9; refine (SN.out _).mono ?_; rintro e w2 ⟨rfl, k⟩; have K2 := Lib.hid k; clear k)
              go_ret
              exact ⟨rfl, HS.out.k.trans K2.out⟩
end Go.Proofs.Ytjcmnobfdidnkaa
