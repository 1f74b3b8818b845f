/- Walks: Mount of the specification's disk. -/
import Derived.Test.YtohijdopmokkgaaKB6
set_option linter.unusedVariables false
set_option linter.unusedSimpArgs false
set_option linter.unusedSectionVars false
namespace Go.Proofs.Ytohijdopmokkgaa
open Go.RowKit
set_option maxHeartbeats 4000000
set_option maxRecDepth 4000
theorem getAt {α : Type} {xs : List α} {k : Nat} (h : k < xs.length) : ∃ x, xs[k]? = some x := ⟨xs[k], by simp [h]⟩
theorem Dk.torn_succ {d : Dk} {picks : List Int} {k i : Nat} (h : d.pending[k]? = some i) : (d.tornTo picks k).settle1 i (Dk.pick picks k) = d.tornTo picks (k + 1) := by
  obtain ⟨h1, ⟨p, h2⟩, h3⟩ := Dk.rank_pending h
  obtain ⟨e1, e2⟩ := Dk.tornTo_now (picks := picks) h
  unfold Dk.settle1
  rw [e2, h2, e1]
  have e3 : p.take (Dk.pick picks k) ++ (d.pg i).drop (Dk.pick picks k) = d.torn picks i := by unfold Dk.torn; rw [h2, h3]
  show Dk.mk ((d.tornTo picks k).pages.set i (p.take (Dk.pick picks k) ++ (d.pg i).drop (Dk.pick picks k))) ((d.tornTo picks k).pend.set i none) _ _ = _
  rw [e3, Dk.torn_pages_succ h, Dk.torn_pend_succ h]
  rfl
theorem pick_of {picks : List Int} {k : Nat} {x : Int} (h : picks[k]? = some x) : (x < 0 ∧ Dk.pick picks k = 0) ∨ (128 < x ∧ Dk.pick picks k = 128) ∨ (x = (Dk.pick picks k : Nat) ∧ Dk.pick picks k ≤ 128) := by
  have e : Dk.pick picks k = Dk.clamp x := by unfold Dk.pick; rw [h]; rfl
  rw [e]
  unfold Dk.clamp
  by_cases h1 : x < 0
  · exact .inl ⟨h1, by omega⟩
  · by_cases h2 : 128 < x
    · exact .inr (.inl ⟨h2, by omega⟩)
    · exact .inr (.inr ⟨by omega, by omega⟩)
theorem pick_none {picks : List Int} {k : Nat} (h : ¬ k < picks.length) : Dk.pick picks k = 128 := by
  unfold Dk.pick; rw [List.getElem?_eq_none (by omega)]; rfl
theorem torn_n {d : Dk} (picks : List Int) (k : Nat) : (d.tornTo picks k).n = d.n := Dk.at_n _ _
variable {R Q : Nat} {d : Dk}
theorem rmount_ok (picks : List Int) (a : Option Addr) (pc : Nat) (hpl : picks.length ≤ 1000) (w : World) (h : SD w R Q d) (hp : RdS w (InS R Q) 1 EInt (.slice a picks.length pc) picks) :
    Calls Try.prog 37 #[.pointer (some ⟨R, 0, none⟩), .slice a picks.length pc] w fun e w' => e = .returned (.tuple #[]) ∧ SD w' R Q (d.mount picks) ∧ Kept (InS R Q) w w' := by
  have hn := h.n_hi
  have hwf := h.wf
  have HWF := Lib.hid hwf
  have HH := Lib.hid h
  have hlt := h.lt
  have HPP := Lib.hid hp
  have hpend : d.pending.length ≤ d.n := by
    have := pendI_len d d.n
    rw [pendI_n, List.length_map] at this
    exact this
  clear h hwf hp
  go_enter Try.func37, Try.ntmps37
  go_wp2_with (go_at_call 42; refine (rpending_ok _ HH.out).mono ?_; rintro e w1 ⟨la, lc, O, rfl, own, hnew, k1⟩)
  have hrd := own.rdNew (M := InS R Q) hnew (fun g hg hh => by rcases hh with h | h <;> omega)
  have HRD := Lib.hid hrd
  have K1 := Lib.hid k1
  clear own hnew hrd k1
  generalize hpq : (d.pending.map fun i : Nat => (i : Int)) = pend at *
  have HPQ := Lib.hid hpq
  have hpl2 : pend.length = d.pending.length := by rw [← hpq, List.length_map]
  rw [← hpl2] at HRD hpend ⊢
  clear hpq
  have HL2 := Lib.hid hpl2
  clear hpl2
  go_loopw [5, 6] (fun i _ wr => ∃ k : Nat, k ≤ pend.length ∧ i = .int .i64 k ∧ SD wr R Q (d.tornTo picks k) ∧ Kept (InS R Q) w1 wr) (fun i _ _ => pend.length - (intOf i).toNat)
  case atStart => exact ⟨0, Nat.zero_le _, rfl, by rw [HWF.out.torn0]; exact HH.out.kept0 K1.out, Kept.refl _ _⟩
  case round =>
    obtain ⟨k, hk, rfl, hS, hK⟩ := hrel
    have HS := Lib.hid hS
    have HK := Lib.hid hK
    by_cases hlt : k < pend.length
    · have hki : (k : Int) < pend.length := by omega
      obtain ⟨x, hx⟩ := getAt hlt
      have hx2 : ∃ i, d.pending[k]? = some i ∧ x = (i : Int) := by
        rw [← HPQ.out, List.getElem?_map] at hx
        simp only [Option.map_eq_some_iff] at hx
        obtain ⟨i, h1, h2⟩ := hx
        exact ⟨i, h1, h2.symm⟩
      obtain ⟨lb, loff, e1, hM, cs, rfl, _, hcc⟩ := HRD.out.at hx
      subst e1
      have x0 := hcc 0 _ rfl
      have x1 := hK.cell x0 hM
      simp only [Nat.mul_one, Nat.add_zero] at x1
      clear x0 hcc hS hK
      obtain ⟨i, hpi, rfl⟩ := hx2
      have HPI := Lib.hid hpi
      have hin : i < (d.tornTo picks k).n := by rw [torn_n]; exact (Dk.rank_pending hpi).1
      clear hpi hx
      by_cases hpk : k < picks.length
      · have hpki : (k : Int) < picks.length := by omega
        obtain ⟨y, hy⟩ := getAt hpk
        obtain ⟨pb, poff, e1, hM2, cs, rfl, _, hcc⟩ := HPP.out.at hy
        subst e1
        have y0 := hcc 0 _ rfl
        have y1 := HK.out.cell (K1.out.cell y0 (fun x => x)) hM2
        simp only [Nat.mul_one, Nat.add_zero] at y1
        have hpo := pick_of hy
        have HPO := Lib.hid hpo
        clear y0 hcc hpo hy
        go_wp2_with (go_at_call 53; refine (rsettle_ok i y (Dk.pick picks k) HPO.out hin _ HS.out).mono ?_; rintro e w2 ⟨rfl, p2, k2⟩)
        rw [Dk.torn_succ HPI.out] at p2
        have P2 := Lib.hid p2
        have K2 := Lib.hid (HK.out.trans k2)
        clear p2 k2
        go_roundw
        case rel => exact ⟨k + 1, by omega, by go_num, P2.out, K2.out⟩
        case measure => simp [intOf]; omega
      · have f1 := decide_eq_false (show ¬ (k : Int) < picks.length by omega)
        have f2 := decide_eq_false hpk
        have hpo := pick_none hpk
        have HPO := Lib.hid hpo
        clear hpo hpk
        go_wp2_with (go_at_call 53; refine (rsettle_ok i 128 128 (.inr (.inr ⟨rfl, Nat.le_refl _⟩)) hin _ HS.out).mono ?_; rintro e w2 ⟨rfl, p2, k2⟩)
        rw [← HPO.out, Dk.torn_succ HPI.out] at p2
        have P2 := Lib.hid p2
        have K2 := Lib.hid (HK.out.trans k2)
        clear p2 k2
        go_roundw
        case rel => exact ⟨k + 1, by omega, by go_num, P2.out, K2.out⟩
        case measure => simp [intOf]; omega
    · obtain rfl : k = pend.length := by omega
      have f1 := decide_eq_false (show ¬ ((pend.length : Nat) : Int) < pend.length by omega)
      have f2 := decide_eq_false (show ¬ pend.length < pend.length by omega)
      have hmw := HWF.out.mount picks
      have HMW := Lib.hid hmw
      obtain ⟨w3, cap3, rfl, zR, hO, k3⟩ := hS.opn
      have HO := Lib.hid hO
      have hne := hS.ne
      clear hS hK hmw hO k3
      go_wp2_with fail
      go_end0
      refine ⟨rfl, ?_, (K1.out.of_no.trans HK.out).trans ((keptD (M := InS R Q) (.inl rfl) _ _).offB (.inl rfl))⟩
      have e := Dk.torn_all (d := d) picks
      rw [← HL2.out] at e
      rw [← e]
      exact SD.turn (d := d.tornTo picks pend.length) (d' := { d.tornTo picks pend.length with off := false, trip := -1 }) zR hne HO.out rfl rfl (by rw [e]; exact HMW.out) (by rw [torn_n]; exact hn.1) (by rw [torn_n]; exact hn.2)
end Go.Proofs.Ytohijdopmokkgaa
