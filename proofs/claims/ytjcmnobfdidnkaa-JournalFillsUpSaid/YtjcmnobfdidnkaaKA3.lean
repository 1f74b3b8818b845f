/- Walks: what is read of a page. -/
import Derived.Test.YtjcmnobfdidnkaaKA2
set_option linter.unusedVariables false
set_option linter.unusedSimpArgs false
set_option linter.unusedSectionVars false
namespace Go.Proofs.Ytjcmnobfdidnkaa
open Go.RowKit
set_option maxHeartbeats 1000000
set_option maxRecDepth 4000
variable {D G B : Nat} {d : Dk}
theorem now_ok (i : Nat) (hi : i < d.n) (w : World) (h : PD w D G B d) : Calls Try.prog 49 #[.pointer (some ⟨D, 0, none⟩), .int .i64 i] w fun e w' => e = .returned (pgV (d.now i)) ∧ Kept NoM w w' := by
  have hn := h.n_hi
  have hwf := h.wf
  obtain ⟨cap, hD, hC, _⟩ := h
  have c1 := cell_blk hD 1 _ rfl
  have c0 := cell_blk hD 0 _ rfl
  have zD := lt_of_block hD
  have hM := hC.map
  have zG := hC.lt.1
  have hg := gI_nat d.pn hi
  have hz : (Dk.zero : Pg).length = 128 := by decide
  obtain ⟨b, off, cs, e0, _, hcs, hcl, hr⟩ := (hC.own.rd (M := NoM) (fun _ _ x => x)).range (hwf.pg_len hi).2
  simp only [Option.some.injEq, Addr.mk.injEq] at e0
  obtain ⟨rfl, rfl, _⟩ := e0
  obtain rfl : cs = pgCells (d.pg i) := hcs
  have HM := Lib.hid hM
  rw [Nat.zero_add] at hr
  have HR := Lib.hid hr
  have HL := Lib.hid (hwf.pg_len hi).1
  have HG := Lib.hid hg
  have HW := Lib.hid hwf
  have HCL := Lib.hid hcl
  clear hM hr hg hwf hC hD hcl
  have hki : (i : Int) < d.n := by omega
  cases hp : d.pn i with
  | none =>
    have HP := Lib.hid hp
    clear hp
    have hnow : d.now i = d.pg i := by unfold Dk.now; rw [HP.out]; rfl
    have HN := Lib.hid hnow
    clear hnow
    go_enter Try.func49, Try.ntmps49
    go_wp2_with (first | (refine wpList_alloc_pg rfl rfl ?_) | (at_lookup; refine wpList_look_P rfl _ _ 73 rfl Try.underlying3 Try.underlying73 zeroPg zero128 rfl (HM.out.kept ((Kept.refl NoM w).alloc _) (fun x => x)) (i : Int) rfl (by omega) (by omega) ?_; rw [HG.out, HP.out]; simp only [Option.getD_none, Option.isSome_none]) | (refine wpList_store_pgn rfl _ _ rfl _ (by simp) rfl rfl zero128 zero128 ?_) | (refine wpList_load_pg rfl _ rfl G (i * 128) rfl (rangeAt_kept HR.out (((Kept.refl NoM w).alloc _).alloc _) (fun x => x)) HL.out ?_) | (refine wpList_store_pgb rfl _ _ rfl w.heap.size rfl rfl (blk_old (blk_new w _) _) zero128 HL.out ?_))
    refine bodyPost_ret (v := pgV (d.pg i)) (results_cell_row (g := w.heap.size) (t := 97) (cs := (pgCells (d.pg i)).toArray) (fr := (0, 0)) rfl _ _ _ rfl (putB_blk _ _ _ _ (by simp; omega)) undPg rfl (by rw [pgc128 HL.out]; exact infoPg)) rfl ⟨by rw [HN.out], ?_⟩
    exact (((Kept.refl NoM w).alloc _).alloc _).putN (by omega) _ _
  | some p =>
    have hpl := (HW.out.pn_len hp).1
    have HL := Lib.hid hpl
    have HP := Lib.hid hp
    have hnow : d.now i = p := by unfold Dk.now; rw [hp]; rfl
    have HN := Lib.hid hnow
    clear hnow hp hpl
    go_enter Try.func49, Try.ntmps49
    go_wp2_with (first | (refine wpList_alloc_pg rfl rfl ?_) | (at_lookup; refine wpList_look_P rfl _ _ 73 rfl Try.underlying3 Try.underlying73 zeroPg zero128 rfl (HM.out.kept ((Kept.refl NoM w).alloc _) (fun x => x)) (i : Int) rfl (by omega) (by omega) ?_; rw [HG.out, HP.out]; simp only [Option.getD_some, Option.isSome_some]) | (refine wpList_store_pgn rfl _ _ rfl _ (by simp) rfl rfl zero128 HL.out ?_) | (refine wpList_load_pg rfl _ rfl (w.heap.size + 1) 0 rfl (range_blk (blk_new' _ _ _ (by simp))) HL.out ?_) | (refine wpList_store_pgb rfl _ _ rfl w.heap.size rfl rfl (blk_old (blk_new w _) _) zero128 HL.out ?_))
    refine bodyPost_ret (v := pgV p) (results_cell_row (g := w.heap.size) (t := 97) (cs := (pgCells p).toArray) (fr := (0, 0)) rfl _ _ _ rfl (putB_blk _ _ _ _ (by simp; omega)) undPg rfl (by rw [pgc128 HL.out]; exact infoPg)) rfl ⟨by rw [HN.out], ?_⟩
    exact (((Kept.refl NoM w).alloc _).alloc _).putN (by omega) _ _
end Go.Proofs.Ytjcmnobfdidnkaa
