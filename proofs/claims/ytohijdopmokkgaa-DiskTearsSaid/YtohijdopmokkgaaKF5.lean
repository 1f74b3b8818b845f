/- Walks: the law that a failure of the power tears pending pages. -/
import Derived.Test.YtohijdopmokkgaaKF0
import Derived.IntWalk
import Derived.StillTailTactics
import Derived.Deep.QuietTactic
set_option linter.unusedVariables false
set_option linter.unusedSimpArgs false
set_option linter.unusedSectionVars false
namespace Go.Proofs.Ytohijdopmokkgaa
open Go.RowKit
set_option maxHeartbeats 4000000
set_option maxRecDepth 100000
theorem f5_out (n : Int) (h1 : 40 < n) (v pv : Value) (w : World) : Calls Try.prog 5 #[.int .i64 n, v, pv] w fun e w' => e = .returned (.bool true) ∧ Kept NoM w w' := by
  go_enter Try.func5, Try.ntmps5
  go_wp2_with (first | (go_at_call 10; refine (sanity_ok _).mono ?_; rintro e w1 ⟨rfl, k1⟩))
  go_ret
  exact ⟨rfl, k1⟩
theorem f5_long (n : Int) (h1 : ¬ 40 < n) (v pv : Value) (l : List Op) (w : World) (h : RdOps w v l) (hf : fewB l = false) : Calls Try.prog 5 #[.int .i64 n, v, pv] w fun e w' => e = .returned (.bool true) ∧ Kept NoM w w' := by
  have HH := Lib.hid h
  clear h
  go_enter Try.func5, Try.ntmps5
  go_wp2_with (first | (go_at_call 9; refine (few_ok _ _ _ HH.out).mono ?_; rw [hf]; rintro e w0 ⟨rfl, k0⟩) | (go_at_call 10; refine (sanity_ok _).mono ?_; rintro e w1 ⟨rfl, k1⟩))
  go_ret
  exact ⟨rfl, k0.trans k1⟩
theorem f5_many (n : Int) (h1 : ¬ 40 < n) (v : Value) (l : List Op) (zs : List Int) (pa : Option Addr) (pc : Nat) (w : World) (h : RdOps w v l) (hf : fewB l = true) (hp : 70 < zs.length) : Calls Try.prog 5 #[.int .i64 n, v, .slice pa zs.length pc] w fun e w' => e = .returned (.bool true) ∧ Kept NoM w w' := by
  have HH := Lib.hid h
  have hp2 : (70 : Int) < zs.length := by omega
  clear h
  go_enter Try.func5, Try.ntmps5
  go_wp2_with (first | (go_at_call 9; refine (few_ok _ _ _ HH.out).mono ?_; rw [hf]; rintro e w0 ⟨rfl, k0⟩) | (go_at_call 10; refine (sanity_ok _).mono ?_; rintro e w1 ⟨rfl, k1⟩))
  go_ret
  exact ⟨rfl, k0.trans k1⟩
theorem f5_bad (n : Int) (hn : n < 1) (v : Value) (l : List Op) (zs : List Int) (pa : Option Addr) (pc : Nat) (w : World) (h : RdOps w v l) (hf : fewB l = true) (hp : zs.length ≤ 70) : Calls Try.prog 5 #[.int .i64 n, v, .slice pa zs.length pc] w fun e w' => e = .returned (.bool true) ∧ Kept NoM w w' := by
  have HH := Lib.hid h
  have hb := fun w => played_bad n (.inl hn) v w
  have g1 : ¬ (40 : Int) < n := by omega
  have hp2 : ¬ (70 : Int) < zs.length := by omega
  clear h
  go_enter Try.func5, Try.ntmps5
  go_wp2_with (first | (go_at_call 9; refine (few_ok _ _ _ HH.out).mono ?_; rw [hf]; rintro e w0 ⟨rfl, k0⟩) | (go_at_call 16; refine (hb _).mono ?_; rintro e w1 ⟨rfl, rfl⟩) | (go_at_call 10; refine (sanity_ok _).mono ?_; rintro e w1 ⟨rfl, k1⟩))
  go_ret
  exact ⟨rfl, k0.trans k1⟩
/-- a specification's disk beside the program's -/
def Apart5 (D G B R Q : Nat) : Prop := ¬ InD D G B R ∧ ¬ InD D G B Q
theorem Both.apart5 {w0 w : World} {D G B R Q : Nat} {d : Dk} (h : Both w0 w D G B R Q d) : Apart5 D G B R Q := by
  obtain ⟨_, _, _, _, ⟨⟨s1, s2, s3⟩, s4, s5, s6⟩, _⟩ := h
  unfold Apart5 InD
  omega
theorem torn_bytes (p g : Pg) (c : Nat) (hp : p.length = 128) (hg : g.length = 128) (hc : c ≤ 128) : (⟨p.toArray⟩ : ByteArray).extract 0 c ++ (⟨g.toArray⟩ : ByteArray).extract c 128 = ⟨(p.take c ++ g.drop c).toArray⟩ := by
  rw [ByteArray.extract_mk, ByteArray.extract_mk]
  have e : (g.drop c).take (128 - c) = g.drop c := List.take_of_length_le (by simp; omega)
  rw [e, bytes_app]
  rfl
theorem torn_bytes_all (p g : Pg) (hg : g.length = 128) : (⟨p.toArray⟩ : ByteArray).extract 0 128 = ⟨(p.take 128 ++ g.drop 128).toArray⟩ := by
  rw [ByteArray.extract_mk, List.drop_eq_nil_of_le (Nat.le_of_eq hg), List.append_nil]
  rfl
theorem torn_some {d : Dk} {i : Nat} {p : Pg} (picks : List Int) (h : d.pn i = some p) : d.torn picks i = p.take (Dk.pick picks (d.rank i)) ++ (d.pg i).drop (Dk.pick picks (d.rank i)) := by unfold Dk.torn; rw [h]
theorem f5_goes (n : Nat) (h1 : 1 ≤ n) (h2 : n ≤ 40) (v : Value) (l : List Op) (zs : List Int) (pa : Option Addr) (pc : Nat) (w : World) (h : RdOps w v l) (hz : RdS w NoM 1 EInt (.slice pa zs.length pc) zs) (hf : fewB l = true) (hp : zs.length ≤ 70) : Calls Try.prog 5 #[.int .i64 n, v, .slice pa zs.length pc] w fun e w' => e = .returned (.bool true) ∧ Kept NoM w w' := by
  obtain ⟨hsm, hll⟩ := fewB_all hf
  obtain ⟨hwf, hnn⟩ := new_plays_wf (n := n) h.lims
  have HH := Lib.hid h
  have HZ := Lib.hid hz
  have g1 : ¬ (40 : Int) < n := by omega
  have hp2 : ¬ (70 : Int) < zs.length := by omega
  have hpl := fun w h => played_ok n h1 (by omega) v l w h hsm
  generalize (Dk.new n).plays l = dd at hwf hnn hpl
  subst hnn
  have HPL := Lib.hid hpl
  have HWF := Lib.hid hwf
  have hpen : dd.pending.length ≤ 1000000 := by
    have := pendI_len dd dd.n
    rw [pendI_n] at this
    simp at this
    omega
  clear h hz hpl hwf
  go_enter Try.func5, Try.ntmps5
  go_wp2_with (first | (go_at_call 9; refine (few_ok _ _ _ HH.out).mono ?_; rw [hf]; rintro e w0 ⟨rfl, k0⟩; have K0 := Lib.hid k0; clear k0) | (go_at_call 16; refine (HPL.out _ (HH.out.kept K0.out)).mono ?_; rintro e w1 ⟨D, G, B, R, Q, rfl, hb⟩; have P1 := Lib.hid ((hb.pre K0.out).pk); have S1 := Lib.hid hb.s; have BE := Lib.hid hb.apart5; clear hb) | (go_at_call 24; refine (image_ok _ P1.out.p).mono ?_; rintro e w2 ⟨ia, icap, IO, rfl, own2, n2, k2⟩; have A2 := Lib.hid (P1.out.aside n2); have IM2 := Lib.hid own2; have P2 := Lib.hid (P1.out.kept0 k2); have S2 := Lib.hid (S1.out.kept0 k2); clear own2 n2 k2) | (go_at_call 25; refine (pending_ok _ P2.out.p).mono ?_; rintro e w3 ⟨qa, qcap, PO, rfl, own3, n3, k3⟩; have A3 := Lib.hid (P2.out.aside n3); have PE3 := Lib.hid own3; have P3 := Lib.hid (P2.out.kept0 k3); have S3 := Lib.hid (S2.out.kept0 k3); have IM3 := Lib.hid (IM2.out.still k3); clear own3 n3 k3) | (go_at_call 22; refine (mount_ok zs pa pc (by omega) _ P3.out.p (P3.out.picks HZ.out)).mono ?_; rintro e w4 ⟨rfl, p4, k4⟩; have P4 := Lib.hid (P3.out.step p4 k4); have IM4 := Lib.hid (IM3.out.beside A2.out k4); have PE4 := Lib.hid (PE3.out.beside A3.out k4); have S4 := Lib.hid (S3.out.kept k4 BE.out.1 BE.out.2); clear p4 k4))
  obtain ⟨scap, sc0, _, _⟩ := S4.out.cells
  have SC := Lib.hid (fun w' (k : Kept NoM w4 w') => k.cell sc0 (fun x => x))
  clear sc0
  go_loopw [12, 57] (fun c i wr => ∃ k : Nat, k ≤ dd.n ∧ i = .int .i64 k ∧ c = .int .i64 (dd.rank k) ∧ Kept NoM w4 wr) (fun _ i _ => dd.n - (intOf i).toNat)
  case atStart => exact ⟨0, Nat.zero_le _, rfl, rfl, Kept.refl _ _⟩
  case round =>
    obtain ⟨k, hk, rfl, rfl, hK⟩ := hrel
    have KK := Lib.hid hK
    clear hK
    by_cases hlt : k < dd.n
    · have hlti : (k : Int) < dd.n := by omega
      obtain ⟨hre, hrs⟩ := Dk.readS_mount HWF.out zs hlt
      have hgk := HWF.out.pg_len hlt
      have hgl := hgk.1
      have hat := Dk.pending_at_rank (d := dd) hlt
      have hrk := Dk.rank_succ (d := dd) k
      obtain ⟨ob, oo, eo, _, cs, rfl, _, oc⟩ := ((IM4.out.still KK.out).rd (M := NoM) (fun _ _ x => x)).at hgk.2
      subst eo
      have x0 := oc 0 _ rfl
      simp only [Nat.mul_one, Nat.add_zero] at x0
      unfold strV at x0
      have hrkn : dd.rank k ≤ k := by
        have : dd.rank k ≤ (List.range k).length := List.length_filter_le _ _
        simpa using this
      cases hpn : dd.pn k with
      | none =>
        rw [hpn] at hat hrk
        simp only [Option.isSome_none, Bool.false_eq_true, iff_false, if_false] at hat hrk
        rw [Dk.torn_none zs hpn] at hrs
        have HRD := Lib.hid (read_e (k : Int) wr (P4.out.kept0 KK.out).p hrs hre)
        have HRK := Lib.hid hrk
        generalize dd.pg k = g at *
        clear hre hrs hgk oc hrk hpn
        by_cases hr : dd.rank k < dd.pending.length
        · have hri : (dd.rank k : Int) < dd.pending.length := by omega
          obtain ⟨j, hj⟩ := getAt hr
          have hjk : j ≠ k := fun e => hat ⟨hr, by rw [hj, e]⟩
          have hjm : (dd.pending.map fun i : Nat => (i : Int))[dd.rank k]? = some (j : Int) := by rw [List.getElem?_map, hj]; rfl
          obtain ⟨qb, qo, eq, _, cs, rfl, _, qc⟩ := ((PE4.out.still KK.out).rd (M := NoM) (fun _ _ x => x)).at hjm
          subst eq
          have y0 := qc 0 _ rfl
          simp only [Nat.mul_one, Nat.add_zero] at y0
          have hne : ((j : Int) == (k : Int)) = false := by simp; omega
          have hne2 : ¬ (j : Int) = (k : Int) := by omega
          have X0 := Lib.hid (fun w' (kw : Kept NoM wr w') => kw.cell x0 (fun x => x))
          have Y0 := Lib.hid (fun w' (kw : Kept NoM wr w') => kw.cell y0 (fun x => x))
          clear qc hjm hj hat x0 y0
          generalize hrr : dd.rank k = r at *
          go_wp2_with (go_at_call 18; refine HRD.out.mono ?_; rintro e w5 ⟨rfl, k5⟩; have K5 := Lib.hid (KK.out.trans k5); have x1 := X0.out _ k5; have y1 := Y0.out _ k5; clear k5)
          go_roundw
          case rel => exact ⟨k + 1, by omega, by go_num, by rw [HRK.out], K5.out⟩
          case measure => simp [intOf]; omega
        · have hri : ¬ (dd.rank k : Int) < dd.pending.length := by omega
          have X0 := Lib.hid (fun w' (kw : Kept NoM wr w') => kw.cell x0 (fun x => x))
          clear hat x0
          generalize hrr : dd.rank k = r at *
          go_wp2_with (go_at_call 18; refine HRD.out.mono ?_; rintro e w5 ⟨rfl, k5⟩; have K5 := Lib.hid (KK.out.trans k5); have x1 := X0.out _ k5; clear k5)
          go_roundw
          case rel => exact ⟨k + 1, by omega, by go_num, by rw [HRK.out], K5.out⟩
          case measure => simp [intOf]; omega
      | some p =>
        rw [hpn] at hat hrk
        simp only [Option.isSome_some, iff_true, if_true] at hat hrk
        rw [torn_some zs hpn] at hrs
        have hpl := (HWF.out.pn_len hpn).1
        have hcl := Dk.pick_le zs (dd.rank k)
        obtain ⟨hr, hj⟩ := hat
        have hjm : (dd.pending.map fun i : Nat => (i : Int))[dd.rank k]? = some (k : Int) := by rw [List.getElem?_map, hj]; rfl
        obtain ⟨qb, qo, eq, _, cs, rfl, _, qc⟩ := ((PE4.out.still KK.out).rd (M := NoM) (fun _ _ x => x)).at hjm
        subst eq
        have y0 := qc 0 _ rfl
        simp only [Nat.mul_one, Nat.add_zero] at y0
        have hri : (dd.rank k : Int) < dd.pending.length := by omega
        have srow := (S4.out.row hlt).2.1
        rw [hpn] at srow
        unfold strV at srow
        simp only [Option.getD_some] at srow
        have Z0 := Lib.hid (fun w' (kw : Kept NoM w4 w') => kw.cell srow (fun x => x))
        have hpick := fun y (hy : zs[dd.rank k]? = some y) => pick_of hy
        have hpick0 := pick_none (picks := zs) (k := dd.rank k)
        have HCAT := Lib.hid (torn_bytes p (dd.pg k) (Dk.pick zs (dd.rank k)) hpl hgl hcl)
        have HRD := Lib.hid (read_e (k : Int) wr (P4.out.kept0 KK.out).p hrs hre)
        have HRK := Lib.hid hrk
        have X0 := Lib.hid (fun w' (kw : Kept NoM wr w') => kw.cell x0 (fun x => x))
        have Y0 := Lib.hid (fun w' (kw : Kept NoM wr w') => kw.cell y0 (fun x => x))
        generalize dd.pg k = g at *
        have hgz : (⟨g.toArray⟩ : ByteArray).size = 128 := by simp [ByteArray.size, hgl]
        have hpz : (⟨p.toArray⟩ : ByteArray).size = 128 := by simp [ByteArray.size, hpl]
        clear hre hrs hgk oc hrk hpn qc hjm hj x0 y0 srow
        have hr6 : (dd.rank k : Int) < 1000000 := by omega
        have hrw : IntKind.i64.wrap ((dd.rank k : Int) + 1) = ((dd.rank k + 1 : Nat) : Int) := by rw [IntWalk.i64_in _ (by omega)]; omega
        generalize dd.rank k = r at *
        generalize Dk.pick zs r = c at *
        have hci : (c : Int) ≤ 128 := by omega
        have hmin : min c 128 = c := Nat.min_eq_left hcl
        have hmini : min (c : Int) 128 = c := by omega
        have hov : ¬ 9223372036854775807 < c + (128 - c) := by omega
        by_cases hrz : r < zs.length
        · have hrzi : (r : Int) < zs.length := by omega
          obtain ⟨y, hy⟩ := getAt hrz
          have hpy := hpick y hy
          have hmm : min (max y 0) 128 = (c : Int) := by
            rcases hpy with ⟨a1, a2⟩ | ⟨a1, a2⟩ | ⟨a1, a2⟩ <;> omega
          obtain ⟨zb, zo, ez, _, cs, rfl, _, zc⟩ := HZ.out.at hy
          subst ez
          have z0 := P4.out.k.cell (zc 0 _ rfl) (fun x => x)
          simp only [Nat.mul_one, Nat.add_zero] at z0
          have V0 := Lib.hid (fun w' (kw : Kept NoM w4 w') => kw.cell z0 (fun x => x))
          clear zc hy hpy z0 hpick hpick0
          go_wp2_with (go_at_call 18; refine HRD.out.mono ?_; rintro e w5 ⟨rfl, k5⟩; have K5 := Lib.hid (KK.out.trans k5); have x1 := X0.out _ k5; have y1 := Y0.out _ k5; have v1 := V0.out _ K5.out; have s1 := SC.out _ K5.out; have s2 := Z0.out _ K5.out; clear k5)
          go_still_tail 27, (by kernel_rfl)
          clear hmin hmini hov
          change wpList _ _ _ _ _ w5.drew
          rw [HCAT.out]
          go_wp2_with fail
          go_roundw
          case rel => exact ⟨k + 1, by omega, by go_num, by rw [HRK.out]; go_num, K5.out.drew⟩
          case measure => simp [intOf]; omega
        · have hrzi : ¬ (r : Int) < zs.length := by omega
          have hc := hpick0 hrz
          clear hpick hpick0
          subst hc
          go_wp2_with (go_at_call 18; refine HRD.out.mono ?_; rintro e w5 ⟨rfl, k5⟩; have K5 := Lib.hid (KK.out.trans k5); have x1 := X0.out _ k5; have y1 := Y0.out _ k5; have s1 := SC.out _ K5.out; have s2 := Z0.out _ K5.out; clear k5)
          go_still_tail 27, (by kernel_rfl)
          clear hmin hmini hov
          change wpList _ _ _ _ _ w5.drew
          rw [torn_bytes_all p g hgl]
          go_wp2_with fail
          go_roundw
          case rel => exact ⟨k + 1, by omega, by go_num, by rw [HRK.out]; go_num, K5.out.drew⟩
          case measure => simp [intOf]; omega
    · obtain rfl : k = dd.n := by omega
      have hf1 := decide_eq_false (show ¬ ((dd.n : Nat) : Int) < (dd.n : Int) by omega)
      have hf2 := decide_eq_false (show ¬ dd.n < dd.n by omega)
      have P5 := Lib.hid (P4.out.kept0 KK.out)
      have hp0 : (dd.mount zs).pending = [] := Dk.pending_nil (fun i _ => Dk.pn_mount zs i)
      have hrn : dd.rank dd.n = dd.pending.length := Dk.rank_n
      rw [hrn]
      clear hlt hk
      go_wp2_with fail
      refine (sanity_ok _).mono ?_
      rintro e w6 ⟨rfl, k6⟩
      have P6 := Lib.hid (P5.out.kept0 k6)
      clear k6
      go_wp2_with fail
      refine (pending0_ok _ P6.out.p hp0).mono ?_
      rintro e w7 ⟨za, zcap, rfl, k7⟩
      go_wp2_with fail
      go_ret
      exact ⟨rfl, P6.out.k.trans k7⟩
theorem tears_ok (n : Int) (v : Value) (l : List Op) (zs : List Int) (pa : Option Addr) (pc : Nat) (w : World) (h : RdOps w v l) (hz : RdS w NoM 1 EInt (.slice pa zs.length pc) zs) : Calls Try.prog 5 #[.int .i64 n, v, .slice pa zs.length pc] w fun e w' => e = .returned (.bool true) ∧ Kept NoM w w' := by
  by_cases h0 : 40 < n
  · exact f5_out n h0 v _ w
  · cases hf : fewB l with
    | false => exact f5_long n h0 v _ l w h hf
    | true =>
      by_cases hp : zs.length ≤ 70
      · by_cases h1 : n < 1
        · exact f5_bad n h1 v l zs pa pc w h hf hp
        · obtain ⟨m, rfl⟩ := Int.eq_ofNat_of_zero_le (show 0 ≤ n by omega)
          exact f5_goes m (by omega) (by omega) v l zs pa pc w h hz hf hp
      · exact f5_many n h0 v l zs pa pc w h hf (by omega)
end Go.Proofs.Ytohijdopmokkgaa
