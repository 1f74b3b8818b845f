/- Walks: Flush of the program's disk. -/
import Derived.Test.YtjcmnobfdidnkaaKA8
import Derived.StillTailTactics
set_option linter.unusedVariables false
set_option linter.unusedSimpArgs false
set_option linter.unusedSectionVars false
namespace Go.Proofs.Ytjcmnobfdidnkaa
open Go.RowKit
set_option maxHeartbeats 4000000
set_option maxRecDepth 4000
theorem Dk.done_congr {d : Dk} {l l' : Nat → Bool} (h : ∀ i, i < d.n → l i = l' i) : d.done l = d.done l' := by
  unfold Dk.done
  refine map_range_congr fun i hi => ?_
  rw [h i hi]
/-- a page's load in a region's quiet part -/
theorem wpStill_load_pg {ops : Array Oper} {rest : List Oper} {o : Oper} {a : Act} {W : World} {Q : Act → Prop} (hgd : o.guard = none) (x : Operand) (ho : o.op = .load 97 x) {p : Pg} (b off : Nat) (hx : a.eval x = .pointer (some ⟨b, off, none⟩)) (hc : W.rangeAt b off (pgCells p)) (hp : p.length = 128)
    (h : wpStill Try.prog ops W Q rest (a.put o.dst (.agg (pgCells p).toArray))) : wpStill Try.prog ops W Q (o :: rest) a := by
  refine wpStill_step fun K hK => ?_
  have hw : Region.wanted o (yielded ops a.tmps) = true := by simp [Region.wanted, hgd]
  rw [if_pos hw]
  have hl := run_loadVar_mid (P := Try.prog) W b off 97 (pgCells p) _ hc undPg rfl (by rw [pgCells_len, hp]; exact infoPg)
  unfold Oper.still execOp
  simp only [ho, hx, Instr.loadAt, Instr.sureAddr, Sem.run_bind, Sem.run_pure, Result.andThen_ok, hl]
  exact ⟨rfl, hK _ h⟩
variable {D G B : Nat} {d : Dk}
theorem flush_goes (w : World) (h : PD w D G B d) (ho : d.off = false) (ht : d.trip ≠ 0) : Calls Try.prog 60 #[.pointer (some ⟨D, 0, none⟩)] w fun e w' => e = .returned (.int .i64 d.flushE) ∧ PD w' D G B d.flush ∧ Kept (InD D G B) w w' := by
  have HH := Lib.hid h
  have hwf := h.wf
  obtain ⟨cap, c0, c1, c2, _⟩ := h.cells
  rw [ho] at c2
  have e1 : d.flushE = 0 := by unfold Dk.flushE Dk.stepE; rw [ho, if_neg ht]; rfl
  have e2 : d.flush = d.step.settled := by unfold Dk.flush; rw [ho, if_neg ht]; rfl
  have e3 : d.stepE = 0 := by unfold Dk.stepE; rw [if_neg ht]
  have hwf' := hwf.step
  have HWF := Lib.hid hwf'
  have E1 := Lib.hid e1
  have E2 := Lib.hid e2
  have E3 := Lib.hid e3
  clear e1 e2 e3 ho c0 c1 h hwf ht hwf'
  go_enter Try.func60, Try.ntmps60
  go_wp2_with (first | (go_at_call 70; refine (step_ok _ HH.out).mono ?_; rintro e w1 ⟨rfl, p1, k1⟩; rw [E3.out]; have P1 := Lib.hid p1; have K1 := Lib.hid k1; obtain ⟨cap1, d0, d1, _, _⟩ := p1.cells; clear p1 k1) | (at_range; refine wpList_range_P rfl _ 73 rfl Try.underlying3 Try.underlying73 rfl P1.out.pmap ?_; intro w0 left0 cnt0 hr0 hl0 k0 hs0))
  have HR0 := Lib.hid hr0
  have HL0 := Lib.hid hl0
  have HK0 := Lib.hid k0
  have HLT := Lib.hid P1.out.lt
  have HNE := Lib.hid P1.out.ne
  have hn := P1.out.n_hi
  clear hr0 hl0 k0 hs0 d1
  generalize hdd : d.step = dd at *
  have HDD := Lib.hid hdd
  clear hdd
  obtain ⟨cap2, hD, hC, _, _⟩ := P1.out
  obtain rfl : cap2 = cap1 := by
    have := cell_blk hD 0 _ rfl
    rw [d0] at this
    simp at this
    exact this.symm
  have HDB := Lib.hid hD
  have HC := Lib.hid hC
  clear hD hC d0
  go_frame
  go_loopw [] (fun wr => ∃ (left : Nat → Bool) (cnt : Nat), PRange Try.prog 3 wr B w1.heap.size dd.n dd.pn left cnt ∧ wr.heap[D]? = some (.cells #[.slice (some ⟨G, 0, none⟩) dd.n cap2, .map (some B), .bool dd.off, .int .i64 dd.trip] 75 (0, 0)) ∧
    OwnS wr (some G) 97 128 EPg (.slice (some ⟨G, 0, none⟩) dd.n cap2) (dd.done left) ∧ Kept (InD D G B) w1 wr) (fun wr => wr.rangeLeft B w1.heap.size)
  case atStart =>
    refine ⟨left0, cnt0, HR0.out, HK0.out.blk HDB.out (fun x => x), ?_, HK0.out.of_no⟩
    rw [Dk.done_congr (fun i hi => HL0.out i hi), HWF.out.done_start]
    exact HC.out.own.kept HK0.out (fun _ _ x => x) (fun _ _ x => x)
  case round =>
    obtain ⟨left, cnt, hR, hDr, hO, hK⟩ := hrel
    have HRR := Lib.hid hR
    have HDR := Lib.hid hDr
    have HO := Lib.hid hO
    have HKK := Lib.hid hK
    clear hR hDr hO hK
    go_wp2_with (at_next; refine wpList_next_P rfl _ rfl Try.underlying3 rfl HRR.out ?_ ?_)
    · intro hl
      have he := Dk.done_end (d := dd) hl
      have HE := Lib.hid he
      have cD := cell_blk HDR.out 1 _ rfl
      clear hl he
      go_wp2_with (refine wpList_clear_P rfl _ 73 rfl Try.underlying73 rfl HRR.out.map ?_; intro w4 m4 k4 z4)
      have hKf : Kept (InD D G B) w w4 := K1.out.trans (HKK.out.trans' k4 (fun _ _ hh => .inr (.inr hh)))
      have hO4 := HO.out.kept k4 (fun g hg => by cases hg; exact HNE.out.2.2) (fun _ _ x => x)
      rw [HE.out] at hO4
      have hD4 := k4.blk HDR.out HNE.out.2.1
      have hn2 : dd.settled.n = dd.n := by show ((List.range dd.n).map _).length = _; simp
      have P4 : PD w4 D G B dd.settled := by
        refine ⟨cap2, ?_, ⟨?_, ?_, HWF.out.settled, ?_, ?_, HNE.out.2.2⟩, HNE.out.1, HNE.out.2.1⟩
        · rw [hn2]; exact hD4
        · rw [hn2]; exact hO4
        · rw [hn2]
          have e : dd.settled.pn = fun _ => none := by funext i; exact Dk.pn_settled i
          rw [e]; exact m4
        · rw [hn2]; exact hn.1
        · rw [hn2]; exact hn.2
      have HP4 := Lib.hid P4
      have HKF := Lib.hid hKf
      clear P4 hKf m4 k4 z4 hO4 hD4 hn2 cD
      go_wp2_with fail
      go_ret
      exact ⟨ret_e' E1.out.symm, by rw [E2.out]; exact HP4.out, HKF.out⟩
    · intro i p w2 cnt2 hi hp hpl hli hr1 hlt k2 hz1 hen
      have HR1 := Lib.hid hr1
      have HCN := Lib.hid hlt
      have HPL := Lib.hid hpl
      have HP := Lib.hid hp
      have zr := hr1.lt
      have hki : (i : Int) < dd.n := by omega
      have kA : Kept (fun b => b = w1.heap.size) wr (w2.alloc (.cells (pgCells p).toArray 97)) := k2.alloc _
      have hDW := kA.blk HDR.out (fun e => by have := HLT.out.1; omega)
      have HDW := Lib.hid hDW
      have cW0 := cell_blk hDW 0 _ rfl
      have rW := range_blk (blk_new w2 (.cells (pgCells p).toArray 97))
      have hOW := HO.out.kept kA (fun g hg e => by cases hg; have := HLT.out.2.1; omega) (fun _ _ x => x)
      have HOW := Lib.hid hOW
      have HRW := Lib.hid (hr1.kept ((Kept.refl NoM w2).alloc (.cells (pgCells p).toArray 97)) (fun x => x) (fun x => x))
      have HKA := Lib.hid (HKK.out.trans' kA (fun i hi e => by omega))
      have HST := Lib.hid (Dk.done_step (d := dd) (left := left) hp)
      have hxi : (dd.done left)[i]? = some ((dd.done left)[i]'(by rw [Dk.done_len]; exact hi)) := List.getElem?_eq_getElem _
      obtain ⟨g, capx, cur, e1, e2, e3, e4, e5, e6, e7⟩ := hOW.part (j := 0) (us := pgCells p) (x' := p) hxi (by rw [pgCells_len, hpl]; omega) (by rintro cs rfl hcl; exact splice_full (by rw [hcl, pgCells_len, hpl]))
      simp only [Option.some.injEq] at e4
      subst e4
      have HCU := Lib.hid e5
      have HFI := Lib.hid e6
      have HO7 := Lib.hid e7
      clear hp hli hr1 hlt k2 hz1 hpl kA hDW hOW hxi e1 e2 e3 e5 e6 e7
      go_wp2_with (first | (refine wpList_alloc_pg rfl rfl ?_) | (refine wpList_store_pgn rfl _ _ rfl _ rfl rfl rfl zero128 HPL.out ?_))
      generalize hWe : w2.alloc (.cells (pgCells p).toArray 97) = W at *
      have HWE := Lib.hid hWe
      have hld : World.rangeAt { heap := W.heap, tape := W.tape, drawn := W.drawn + 1, os := W.os, output := W.output } w2.heap.size 0 (pgCells p) := fun j v hv => rW j v hv
      clear hWe hen
      go_still_tail 7, (by kernel_rfl)
      refine wpStill_load_pg rfl _ rfl w2.heap.size 0 rfl hld HPL.out ?_
      repeat still_step
      refine wpStill_nil ?_
      change wpList _ _ _ _ _ W.drew
      refine wpList_store_blk rfl 97 _ _ rfl G (i * 128) (pgCells p).toArray cur 97 rfl rfl HCU.out (by rw [pgc128 HPL.out]; have := HFI.out; rw [pgCells_len, HPL.out] at this; omega) (by rw [pgc128 HPL.out]; exact infoPg) (pgc1 p) ?_
      have hO8 : OwnS (putB W.drew G (splice cur.toList (i * 128) (pgCells p).toArray.toList).toArray 97) (some G) 97 128 EPg (.slice (some ⟨G, 0, none⟩) dd.n cap2) (dd.done (fun j => left j && !(j == i))) := by
        have := HO7.out
        rw [HST.out] at this
        have e8 : (pgCells p).toArray.toList = pgCells p := by simp
        rw [e8]
        exact this.kept (M := NoM) ((Kept.refl NoM _).drew) (fun _ _ x => x) (fun _ _ x => x)
      have hK8 : Kept (fun b => b = G) W (putB W.drew G (splice cur.toList (i * 128) (pgCells p).toArray.toList).toArray 97) := ((Kept.refl (fun b => b = G) W).drew).putM rfl _ _
      have HO8 := Lib.hid hO8
      have HK8 := Lib.hid hK8
      have hR8 := HRW.out.kept hK8 (fun e => HNE.out.2.2 e.symm) (fun e => by have := HLT.out.2.1; omega)
      have HR8 := Lib.hid hR8
      clear hO8 hK8 hR8 hld rW cW0
      generalize putB W.drew G (splice cur.toList (i * 128) (pgCells p).toArray.toList).toArray 97 = W8 at *
      try simp only [Act.put]
      go_wp2_with fail
      go_roundw
      case rel => exact ⟨_, cnt2, HR8.out, HK8.out.blk HDW.out HNE.out.1, HO8.out, HKA.out.trans' HK8.out (fun _ _ hh => .inr (.inl hh))⟩
      case measure => rw [HR8.out.left_eq, HRR.out.left_eq]; exact HCN.out
end Go.Proofs.Ytjcmnobfdidnkaa
