/- Walks: whether a device is right, told of the first world. -/
import Derived.Test.YtghgegghlefclaaKW20
set_option linter.unusedVariables false
set_option linter.unusedSimpArgs false
set_option linter.unusedSectionVars false
namespace Go.Proofs.Ytghgegghlefclaa
open Go.RowKit
set_option maxHeartbeats 2000000
set_option maxRecDepth 8000
theorem fewd2_ok (d : Dev) (ta qa da la : Option Addr) (tc qc dc lc : Nat) (M : Nat → Prop) (w0 w : World) (k0 : Kept NoM w0 w) (h : DevR w M d ta tc qa qc da dc la lc) (hot : ∀ r ∈ d.table, OutR w0 r) (hoq : ∀ x ∈ d.queue, OutR w0 x.rule) (ht : d.table.length ≤ 9223372036854775807) (hq : d.queue.length ≤ 9223372036854775807) :
    Calls Try.prog 42 #[.agg (devC d ta tc qa qc da dc la lc)] w (ImpP ((d.table.length ≤ 40 ∧ d.queue.length ≤ 70 ∧ d.done.length ≤ 100 ∧ d.lost.length ≤ 100) ∧ DevB w0 d) w) := by
  have K0 := Lib.hid ((Kept.refl NoM w).alloc (.cells (devC d ta tc qa qc da dc la lc) 27))
  have HB := Lib.hid (blk_new w (.cells (devC d ta tc qa qc da dc la lc) 27))
  have x2 := cell_blk HB.out 2 _ dv2
  have CT := Lib.hid (fewt_ok _ d.table M 40 _ (h.rt.kept K0.out.of_no (fun _ _ x => x)) ht w0 (k0.trans K0.out) hot)
  have CQ : Hid (∀ wx, Kept NoM w wx → Calls Try.prog 16 #[.slice qa d.queue.length qc, .int .i64 70] wx (ImpP ((d.queue.length : Int) ≤ 70 ∧ ∀ x ∈ d.queue, OutB w0 x.rule) wx)) := Lib.hid (fun wx k => feww_ok _ d.queue M 70 wx (h.rq.kept k.of_no (fun _ _ x => x)) hq w0 (k0.trans k) hoq)
  clear h hot hoq ht hq k0
  go_enter Try.func42, Try.ntmps42
  go_wp2_with (first
    | (go_at_call 26; refine CT.out.mono ?_; rintro e w1 ⟨b1, rfl, hb, k1⟩; have B1 := Lib.hid hb; have K1 := Lib.hid (K0.out.trans k1); have x3 := cell_blk (k1.blk HB.out (fun x => x)) 3 _ dv3; have HB1 := Lib.hid (k1.blk HB.out (fun x => x)); clear hb k1)
    | (go_at_call 16; refine (CQ.out _ K1.out).mono ?_; rintro e w2 ⟨b2, rfl, hb, k2⟩; have B2 := Lib.hid hb; have K2 := Lib.hid (K1.out.trans k2); have x4 := cell_blk (k2.blk HB1.out (fun x => x)) 4 _ dv4; have x5 := cell_blk (k2.blk HB1.out (fun x => x)) 5 _ dv5; clear hb k2; by_cases g1 : (d.done.length : Int) ≤ 100 <;> by_cases g2 : (d.lost.length : Int) ≤ 100 <;> cases b1 <;> cases b2))
  all_goals
    go_ret
    first
    | exact ⟨false, rfl, fun h => by simp at h, K2.out⟩
    | (refine ⟨_, rfl, fun h => ?_, K2.out⟩
       have g3 : (d.lost.length : Int) ≤ 100 := (by first | exact g2 | exact of_decide_eq_true h)
       obtain ⟨q1, q2⟩ := B1.out (by first | trivial | rfl)
       obtain ⟨q3, q4⟩ := B2.out (by first | trivial | rfl)
       exact ⟨⟨by omega, by omega, by omega, by omega⟩, ⟨q2, q4, by omega, by omega, by omega, by omega⟩⟩)
/-- the law's 'right' -/
theorem right2_ok (d : Dev) (ta qa da la : Option Addr) (tc qc dc lc : Nat) (M : Nat → Prop) (w0 w : World) (k0 : Kept NoM w0 w) (h : DevR w M d ta tc qa qc da dc la lc) (hot : ∀ r ∈ d.table, OutR w0 r) (hoq : ∀ x ∈ d.queue, OutR w0 x.rule) (ht : d.table.length ≤ 9223372036854775807) (hq : d.queue.length ≤ 9223372036854775807) :
    Calls Try.prog 10 #[.agg (devC d ta tc qa qc da dc la lc)] w (ImpP (((d.table.length ≤ 40 ∧ d.queue.length ≤ 70 ∧ d.done.length ≤ 100 ∧ d.lost.length ≤ 100) ∧ DevB w0 d) ∧ RD d) w) := by
  have K0 := Lib.hid ((Kept.refl NoM w).alloc (.cells (devC d ta tc qa qc da dc la lc) 27))
  have HB := Lib.hid (blk_new w (.cells (devC d ta tc qa qc da dc la lc) 27))
  have KW0 := Lib.hid (k0.trans K0.out)
  have FW := Lib.hid (fewd2_ok d ta qa da la tc qc dc lc M w0 (w.alloc (.cells (devC d ta tc qa qc da dc la lc) 27)) KW0.out (h.kept K0.out.of_no) hot hoq ht hq)
  have CK : Hid (∀ wx, Kept NoM (w.alloc (.cells (devC d ta tc qa qc da dc la lc) 27)) wx → DevB w0 d → Calls Try.prog 33 #[.agg (devC d ta tc qa qc da dc la lc)] wx (ChkP (RD d) wx)) := Lib.hid (fun wx k hb => rcheck_ok d ta qa da la tc qc dc lc M wx (h.kept (K0.out.trans k).of_no) (hb.kept (KW0.out.trans k)))
  clear h hot hoq ht hq k0
  go_enter Try.func10, Try.ntmps10
  go_wp2_with (first
    | (refine wpList_load_big bigDev rfl _ rfl _ 0 (devC d ta tc qa qc da dc la lc) rfl (dev_load HB.out) rfl ?_)
    | (go_at_call 42; refine FW.out.mono ?_; rintro e w1 ⟨b1, rfl, hb, k1⟩; have B1 := Lib.hid hb; have K1 := Lib.hid k1; have K2 := Lib.hid (K0.out.trans k1); have HB1 := Lib.hid (k1.blk HB.out (fun x => x)); clear hb k1; cases b1)
    | (refine wpList_load_bigG bigDev (by rfl) _ rfl _ 0 (devC d ta tc qa qc da dc la lc) rfl (dev_load HB1.out) rfl ?_)
    | (go_at_call 33; refine (CK.out _ K1.out (B1.out (by first | trivial | rfl)).2).mono ?_; rintro e w2 ⟨c, rfl, hc, k2⟩; have HC := Lib.hid hc; have K3 := Lib.hid (K2.out.trans k2); have K4 := Lib.hid (K1.out.trans k2); clear hc k2))
  all_goals go_ret
  all_goals first
    | exact ⟨false, rfl, fun h => by simp at h, K2.out⟩
    | (refine ⟨_, rfl, fun h => ⟨⟨(B1.out (by first | trivial | rfl)).1, (B1.out (by first | trivial | rfl)).2⟩, HC.out.1 ?_⟩, K3.out⟩
       simpa using h)
end Go.Proofs.Ytghgegghlefclaa
