/- Walks: the law's comparison of the two disks. -/
import Derived.Test.YtohijdopmokkgaaKE1
import Derived.Test.YtohijdopmokkgaaKA12
set_option linter.unusedVariables false
set_option linter.unusedSimpArgs false
set_option linter.unusedSectionVars false
namespace Go.Proofs.Ytohijdopmokkgaa
open Go.RowKit
set_option maxHeartbeats 2000000
set_option maxRecDepth 4000
variable {D G B R Q : Nat} {d : Dk}
theorem same_ok (w : World) (h : PD w D G B d) (h' : SD w R Q d) : Calls Try.prog 15 #[.pointer (some ⟨D, 0, none⟩), .pointer (some ⟨R, 0, none⟩)] w fun e w' => e = .returned (.bool true) ∧ Kept NoM w w' := by
  have HP := Lib.hid h
  have HS := Lib.hid h'
  have hn := h.n_hi
  have hl : d.pages.length ≤ 1000000 := by have : d.pages.length = d.n := rfl; omega
  have hl2 : (d.pending.map fun i : Nat => (i : Int)).length ≤ 1000000 := by
    have := pendI_len d d.n
    rw [pendI_n] at this
    omega
  clear h h'
  have tt : ((d.n : Int) == (d.n : Int)) = true := by simp
  have tt2 : ((!d.off) == (!d.off)) = true := by simp
  go_enter Try.func15, Try.ntmps15
  go_wp2_with (first | (go_at_call 31; refine (len_ok _ HP.out).mono ?_; rintro e w' ⟨rfl, rfl⟩) | (go_at_call 39; refine (rlen_ok _ HS.out).mono ?_; rintro e w' ⟨rfl, rfl⟩) | (go_at_call 20; refine (up_ok _ HP.out).mono ?_; rintro e w' ⟨rfl, rfl⟩) | (go_at_call 40; refine (rup_ok _ HS.out).mono ?_; rintro e w' ⟨rfl, rfl⟩) | (go_at_call 24; refine (image_ok _ HP.out).mono ?_; rintro e w1 ⟨a1, p1, O1, rfl, own1, _, k1⟩; have OW1 := Lib.hid own1; have K1 := Lib.hid k1; clear own1 k1) | (go_at_call 41; refine (rimage_ok _ (HS.out.kept0 K1.out)).mono ?_; rintro e w2 ⟨a2, p2, O2, rfl, own2, _, k2⟩; have OW2 := Lib.hid own2; have K2 := Lib.hid k2; clear own2 k2) | (go_at_call 23; refine (sametexts_ok _ _ d.pages _ ((OW1.out.kept K2.out (fun _ _ x => x) (fun _ _ x => x)).rd (fun _ _ x => x)) (OW2.out.rd (fun _ _ x => x)) hl).mono ?_; rintro e w3 ⟨rfl, n3, hw3⟩; have K3 : Hid (Kept NoM w w3) := Lib.hid (by rw [hw3]; exact (K1.out.trans K2.out).drewN n3); clear hw3) | (go_at_call 25; refine (pending_ok _ (HP.out.kept0 K3.out)).mono ?_; rintro e w4 ⟨a4, p4, O4, rfl, own4, _, k4⟩; have OW4 := Lib.hid own4; have K4 := Lib.hid k4; clear own4 k4) | (go_at_call 42; refine (rpending_ok _ (HS.out.kept0 (K3.out.trans K4.out))).mono ?_; rintro e w5 ⟨a5, p5, O5, rfl, own5, _, k5⟩; have OW5 := Lib.hid own5; have K5 := Lib.hid k5; clear own5 k5) | (go_at_call 27; refine (sameints_ok _ _ (d.pending.map fun i : Nat => (i : Int)) _ ((OW4.out.kept K5.out (fun _ _ x => x) (fun _ _ x => x)).rd (fun _ _ x => x)) (OW5.out.rd (fun _ _ x => x)) hl2).mono ?_; rintro e w6 ⟨rfl, n6, hw6⟩; have K6 : Hid (Kept NoM w w6) := Lib.hid (by rw [hw6]; exact ((K3.out.trans K4.out).trans K5.out).drewN n6); clear hw6))
  go_ret
  exact ⟨rfl, K6.out⟩
end Go.Proofs.Ytohijdopmokkgaa
