/- Walk: the law's play, an event of kind 1. -/
import Derived.Test.YtgohploghbimlaaDoorKPB
import Derived.Test.YtgohploghbimlaaDoorKDeed
import Derived.Test.YtgohploghbimlaaDoorKWE
import Derived.Test.YtgohploghbimlaaDoorKRJ
import Derived.Test.YtgohploghbimlaaDoorKRF
import Derived.BigRegion
import Derived.Deep.CutRange
import Derived.Deep.DeepCutAuto
import Derived.Deep.RegionHeld3
set_option linter.unusedVariables false
set_option linter.unusedSimpArgs false
set_option linter.unusedSectionVars false
namespace Go.Proofs.YtgohploghbimlaaDoor
open Go.RowKit
set_option linter.unusedSectionVars false
variable [BB : Beside]
set_option maxHeartbeats 1000000
set_option maxRecDepth 4000

theorem play_timeout (n j : Nat) (s : WS) (r : Rep) (b : Int) (W : Nat) (OR OL : Option Nat) (w : World) (hs : WState w W OR OL s) (ho : WOk n s) (hn : n ≤ 7) (hj : s.reps[j]? = some r) (hl : s.lets.length ≤ 100000) :
    Calls Tryd.prog 11 #[.pointer (some ⟨W, 0, none⟩), .agg #[.int .i64 1, .int .i64 j, .int .i64 b]] w (Played w W OR OL (stepF s j (timeoutF r))) := by
  have HM := hs.lt
  obtain ⟨rv, lvL, hW, hR, hL, n1, n2, n3, hBs⟩ := hs
  have hjl := (List.getElem?_eq_some_iff.1 hj).1
  obtain ⟨g, cap, cur, rfl, rfl, hg, hc, hm, hsz, hrow⟩ := hR.openN (by omega)
  obtain ⟨cs, ⟨lv0, vv0, mv0, rfl, ra, rb, rc⟩, _, hcell⟩ := hrow j r hj
  have zW := lt_of_block hW
  have zg := lt_of_block hg
  have hgW : ¬ g = W := fun h => n1 (by rw [h])
  have hWg : ¬ W = g := fun h => n1 (by rw [h])
  have n3 := n3 g rfl
  obtain ⟨la1, lcap1, rfl, _, _, _, _⟩ := hL.shape
  obtain ⟨la0, lc0, rfl, _, _⟩ := ra.shape
  obtain ⟨va0, vc0, rfl, _, _⟩ := rb.shape
  obtain ⟨ma0, mc0, rfl, _, _⟩ := rc.shape
  have y0 : w.cell? ⟨g, j * 9, none⟩ = _ := cell_blk hg _ _ (hcell 0 _ rfl)
  have y1 := cell_blk hg _ _ (hcell 1 _ rfl)
  have y2 := cell_blk hg _ _ (hcell 2 _ rfl)
  have y3 := cell_blk hg _ _ (hcell 3 _ rfl)
  have y4 := cell_blk hg _ _ (hcell 4 _ rfl)
  have y5 := cell_blk hg _ _ (hcell 5 _ rfl)
  have y6 := cell_blk hg _ _ (hcell 6 _ rfl)
  have y7 := cell_blk hg _ _ (hcell 7 _ rfl)
  have y8 := cell_blk hg _ _ (hcell 8 _ rfl)
  have v0 := cell_blk hW 0 _ rfl
  have v1 := cell_blk hW 1 _ rfl
  have hv := (ho.inv.rep j r hj).1
  have hv' : Valid (timeoutF r).1 := hv.timeoutF
  have hsm := hv'.small
  have hfew := timeoutF_few hv.count7
  have hsh := timeoutF_short r
  obtain ⟨r', ls, hF⟩ : ∃ r' ls, timeoutF r = (r', ls) := ⟨_, _, rfl⟩
  have HT : ∀ W1, Kept NoM w W1 → Calls Tryd.prog 21 #[.agg #[.int .i64 r.id, .int .i64 r.count, .int .i64 r.epoch, .int .i64 r.voted, .int .i64 r.role, .slice la0 r.log.length lc0, .int .i64 r.conf, .slice va0 r.votes.length vc0, .slice ma0 r.mat.length mc0]] W1 fun e w' => ∃ lv vv mv tv, e = .returned (.tuple #[.agg #[.int .i64 r'.id, .int .i64 r'.count, .int .i64 r'.epoch, .int .i64 r'.voted, .int .i64 r'.role, lv, .int .i64 r'.conf, vv, mv], tv]) ∧
      RdItems w' (New w W1 (RX W (some g) OL)) lv r'.log ∧ RdBools w' (New w W1 (RX W (some g) OL)) vv r'.votes ∧ RdInts w' (New w W1 (RX W (some g) OL)) mv r'.mat ∧ RdLets w' (New w W1 (RX W (some g) OL)) tv ls ∧ Kept NoM W1 w' := by
    intro W1 k
    have h := @timeout_ok ⟨fun i => RX W (some g) OL i ∨ w.heap.size ≤ i⟩ r _ _ _ W1 (ra.step k.of_no newX) (rb.step k.of_no newX) (rc.step k.of_no newX) hv
    rw [hF] at h
    exact h
  have HR : ∀ W1, Kept NoM w W1 → Calls Tryd.prog 22 #[.agg #[.int .i64 r.id, .int .i64 r.count, .int .i64 r.epoch, .int .i64 r.voted, .int .i64 r.role, .slice la0 r.log.length lc0, .int .i64 r.conf, .slice va0 r.votes.length vc0, .slice ma0 r.mat.length mc0]] W1 (RSent (fun i => RX W (some g) OL i ∨ w.heap.size ≤ i) W1 r' ls 0) := by
    intro W1 k
    have h := rtimeout_ok r _ _ _ (fun i => RX W (some g) OL i ∨ w.heap.size ≤ i) W1 (ra.step k.of_no newX) (rb.step k.of_no newX) (rc.step k.of_no newX) hv
    rw [hF] at h
    exact h
  rw [hF] at hv' hsm hfew hsh ⊢
  have HT := Lib.hid HT
  have HR := Lib.hid HR
  have HV := Lib.hid hv'
  have HSM := Lib.hid hsm
  have HFEW := Lib.hid hfew
  have HSH := Lib.hid hsh
  have hjn : (j : Int) < s.reps.length := by omega
  have t1 : decide ((j : Int) < 0) = false := decide_eq_false (by omega)
  have t2 : decide ((s.reps.length : Int) ≤ j) = false := decide_eq_false (by omega)
  have t3 : decide (s.reps.length ≤ j) = false := decide_eq_false (by omega)
  have HROW := Lib.hid hrow
  have HL := Lib.hid hL
  have HMX := Lib.hid HM
  have HG := Lib.hid hg
  have HW := Lib.hid hW
  have hsz9 : (j + 1) * 9 ≤ cur.size := by rw [hsz]; exact Nat.mul_le_mul_right 9 (by omega)
  have HSZ := Lib.hid hsz
  clear hcell hrow hR hL ho hF ra rb rc hv hv' hsm hfew hsh HM hg hW hsz hj
  go_enter Tryd.func11, Tryd.ntmps11
  go_wp2_with fail
  go_quiet (fail)
  go_wp2_with fail
  have E0 : Kept NoM w ((w.alloc (.cells #[.int .i64 1, .int .i64 j, .int .i64 b] 39)).drewN nq) := ((Kept.refl NoM w).alloc _).drewN nq
  have bE : ((w.alloc (.cells #[.int .i64 1, .int .i64 j, .int .i64 b] 39)).drewN nq).heap[w.heap.size]? = some (.cells #[.int .i64 1, .int .i64 j, .int .i64 b] 39 (0, 0)) := blk_drewN (blk_new _ _) nq
  generalize (w.alloc (.cells #[.int .i64 1, .int .i64 j, .int .i64 b] 39)).drewN nq = w0 at *
  have zE := lt_of_block bE
  have zW0 : W < w0.heap.size := by omega
  have zg0 : g < w0.heap.size := by omega
  have hgE : g < w.heap.size := zg
  have KS : ∀ w', Kept NoM w0 w' → w'.cell? ⟨W, 0, none⟩ = some (.slice (some ⟨g, 0, none⟩) s.reps.length cap) ∧ w'.cell? ⟨w.heap.size, 1, none⟩ = some (.int .i64 j) ∧ w'.cell? ⟨g, j * 9, none⟩ = some (.int .i64 r.id) ∧ w'.cell? ⟨g, j * 9 + 1, none⟩ = some (.int .i64 r.count) ∧ w'.cell? ⟨g, j * 9 + 2, none⟩ = some (.int .i64 r.epoch) ∧ w'.cell? ⟨g, j * 9 + 3, none⟩ = some (.int .i64 r.voted) ∧ w'.cell? ⟨g, j * 9 + 4, none⟩ = some (.int .i64 r.role) ∧ w'.cell? ⟨g, j * 9 + 5, none⟩ = some (.slice la0 r.log.length lc0) ∧ w'.cell? ⟨g, j * 9 + 6, none⟩ = some (.int .i64 r.conf) ∧ w'.cell? ⟨g, j * 9 + 7, none⟩ = some (.slice va0 r.votes.length vc0) ∧ w'.cell? ⟨g, j * 9 + 8, none⟩ = some (.slice ma0 r.mat.length mc0) := by
    intro w' k
    have e1 := k.cell (cell_blk bE 1 _ rfl) (fun x => x)
    have k := E0.trans k
    exact ⟨k.cell v0 (fun x => x), e1, k.cell y0 (fun x => x), k.cell y1 (fun x => x), k.cell y2 (fun x => x), k.cell y3 (fun x => x), k.cell y4 (fun x => x), k.cell y5 (fun x => x), k.cell y6 (fun x => x), k.cell y7 (fun x => x), k.cell y8 (fun x => x)⟩
  have HKS := Lib.hid KS
  obtain ⟨v0, e1, y0, y1, y2, y3, y4, y5, y6, y7, y8⟩ := KS _ (Kept.refl NoM w0)
  have E1 := Kept.refl NoM w0
  have HE := Lib.hid bE
  clear bE KS
  go_cut [5, 6] from 34 to 45 (fun c5 c6 wx => Got w0 w0.heap.size (RX W (some g) OL) r' c5 wx ∧ RdLets wx (RX W (some g) OL) c6 ls)
  case first =>
    go_region_held3 (fun w' => w'.cell? ⟨W, 0, none⟩ = some (.slice (some ⟨g, 0, none⟩) s.reps.length cap) ∧ w'.cell? ⟨w.heap.size, 1, none⟩ = some (.int .i64 j) ∧ w'.cell? ⟨g, j * 9, none⟩ = some (.int .i64 r.id) ∧ w'.cell? ⟨g, j * 9 + 1, none⟩ = some (.int .i64 r.count) ∧ w'.cell? ⟨g, j * 9 + 2, none⟩ = some (.int .i64 r.epoch) ∧ w'.cell? ⟨g, j * 9 + 3, none⟩ = some (.int .i64 r.voted) ∧ w'.cell? ⟨g, j * 9 + 4, none⟩ = some (.int .i64 r.role) ∧ w'.cell? ⟨g, j * 9 + 5, none⟩ = some (.slice la0 r.log.length lc0) ∧ w'.cell? ⟨g, j * 9 + 6, none⟩ = some (.int .i64 r.conf) ∧ w'.cell? ⟨g, j * 9 + 7, none⟩ = some (.slice va0 r.votes.length vc0) ∧ w'.cell? ⟨g, j * 9 + 8, none⟩ = some (.slice ma0 r.mat.length mc0)) (first | go_keep | exact HKS.out _ (k3.putN (Nat.le_refl _) _ _) | exact HKS.out _ E1.drew | exact HKS.out _ (E1.drew.alloc _) | exact HKS.out _ ((E1.alloc _).drew) | exact HKS.out _ k2 | exact HKS.out _ (k2.alloc _))
      (first | (go_at_call 21; refine (HT.out _ ((E0.trans E1).drew)).mono ?_; rintro e w2 ⟨lv2, vv2, mv2, tv2, rfl, q1, q2, q3, q4, q5⟩; obtain ⟨la2, lc2, rfl, _, _⟩ := q1.shape; obtain ⟨va2, vc2, rfl, _, _⟩ := q2.shape; obtain ⟨ma2, mc2, rfl, _, _⟩ := q3.shape; obtain ⟨ta2, tc2, rfl, _, _⟩ := q4.shape; have k2 := E1.drew.trans q5) | (go_at_call 21; refine (HT.out _ (((E0.trans E1).alloc _).drew)).mono ?_; rintro e w2 ⟨lv2, vv2, mv2, tv2, rfl, q1, q2, q3, q4, q5⟩; obtain ⟨la2, lc2, rfl, _, _⟩ := q1.shape; obtain ⟨va2, vc2, rfl, _, _⟩ := q2.shape; obtain ⟨ma2, mc2, rfl, _, _⟩ := q3.shape; obtain ⟨ta2, tc2, rfl, _, _⟩ := q4.shape; have k2 := (E1.alloc _).drew.trans q5; obtain ⟨w3, rfl, z3, k3⟩ : ∃ w3, w2 = putB w3 w0.heap.size #[.int .i64 0, .int .i64 0, .int .i64 0, .int .i64 0, .int .i64 0, .slice none 0 0, .int .i64 0, .slice none 0 0, .slice none 0 0] 32 ∧ w0.heap.size < w3.heap.size ∧ Kept NoM w0 w3 := ⟨w2, putB_self (q5.blk (blk_drew (blk_new _ _)) (fun x => x)), by have := q5.size; simp at this; omega, k2⟩))
    · go_wp2_with fail
      go_meet
      exact got_new (fun i h => Nat.lt_of_lt_of_le (HMX.out i h) E0.size) (Nat.le_refl _) (Nat.le_refl _) q1 q2 q3 q4 k2
    · go_wp2_with fail
      go_meet
      exact got_old (fun i h => Nat.lt_of_lt_of_le (HMX.out i h) E0.size) (Nat.le_refl _) E0.size rfl (by simp) z3 q1 q2 q3 q4 k3
  case rest =>
    obtain ⟨⟨b5, lv, vv, mv, rfl, h5N, h5, p1, p2, p3, K5⟩, p4⟩ := hcut
    obtain ⟨la5, lc5, rfl, _, _⟩ := p1.shape
    obtain ⟨va5, vc5, rfl, _, _⟩ := p2.shape
    obtain ⟨ma5, mc5, rfl, _, _⟩ := p3.shape
    obtain ⟨ta5, tc5, rfl, _, _⟩ := p4.shape
    generalize wc = w1 at *
    clear E1 v0 e1 y0 y1 y2 y3 y4 y5 y6 y7 y8
    have E1 : Kept NoM w1 w1 := Kept.refl NoM w1
    have KS1 : ∀ w', Kept NoM w1 w' → w'.cell? ⟨W, 0, none⟩ = some (.slice (some ⟨g, 0, none⟩) s.reps.length cap) ∧ w'.cell? ⟨w.heap.size, 1, none⟩ = some (.int .i64 j) ∧ w'.cell? ⟨g, j * 9, none⟩ = some (.int .i64 r.id) ∧ w'.cell? ⟨g, j * 9 + 1, none⟩ = some (.int .i64 r.count) ∧ w'.cell? ⟨g, j * 9 + 2, none⟩ = some (.int .i64 r.epoch) ∧ w'.cell? ⟨g, j * 9 + 3, none⟩ = some (.int .i64 r.voted) ∧ w'.cell? ⟨g, j * 9 + 4, none⟩ = some (.int .i64 r.role) ∧ w'.cell? ⟨g, j * 9 + 5, none⟩ = some (.slice la0 r.log.length lc0) ∧ w'.cell? ⟨g, j * 9 + 6, none⟩ = some (.int .i64 r.conf) ∧ w'.cell? ⟨g, j * 9 + 7, none⟩ = some (.slice va0 r.votes.length vc0) ∧ w'.cell? ⟨g, j * 9 + 8, none⟩ = some (.slice ma0 r.mat.length mc0) := fun w' k => HKS.out w' (K5.trans k)
    have HKS1 := Lib.hid KS1
    clear KS1
    have E01 := E0.trans K5
    have z5 := lt_of_block h5
    have zg1 : g < w1.heap.size := by omega
    have zW1 : W < w1.heap.size := by omega
    obtain ⟨v0, e1, y0, y1, y2, y3, y4, y5, y6, y7, y8⟩ := HKS1.out _ E1
    have H5 := Lib.hid h5
    have P1 := Lib.hid p1
    have P2 := Lib.hid p2
    have P3 := Lib.hid p3
    have P4 := Lib.hid p4
    have H5N := Lib.hid h5N
    clear h5 p1 p2 p3 p4
    go_wp2_with fail
    go_cut [7] from 46 to 54 (fun c7 wx => Want w1 w1.heap.size r' ls 0 c7 wx)
    case first =>
      go_region_held3 (fun w' => w'.cell? ⟨W, 0, none⟩ = some (.slice (some ⟨g, 0, none⟩) s.reps.length cap) ∧ w'.cell? ⟨w.heap.size, 1, none⟩ = some (.int .i64 j) ∧ w'.cell? ⟨g, j * 9, none⟩ = some (.int .i64 r.id) ∧ w'.cell? ⟨g, j * 9 + 1, none⟩ = some (.int .i64 r.count) ∧ w'.cell? ⟨g, j * 9 + 2, none⟩ = some (.int .i64 r.epoch) ∧ w'.cell? ⟨g, j * 9 + 3, none⟩ = some (.int .i64 r.voted) ∧ w'.cell? ⟨g, j * 9 + 4, none⟩ = some (.int .i64 r.role) ∧ w'.cell? ⟨g, j * 9 + 5, none⟩ = some (.slice la0 r.log.length lc0) ∧ w'.cell? ⟨g, j * 9 + 6, none⟩ = some (.int .i64 r.conf) ∧ w'.cell? ⟨g, j * 9 + 7, none⟩ = some (.slice va0 r.votes.length vc0) ∧ w'.cell? ⟨g, j * 9 + 8, none⟩ = some (.slice ma0 r.mat.length mc0)) (first | go_keep | exact HKS1.out _ (k3.putN (Nat.le_refl _) _ _) | exact HKS1.out _ E1.drew | exact HKS1.out _ (E1.drew.alloc _) | exact HKS1.out _ ((E1.alloc _).drew) | exact HKS1.out _ k2 | exact HKS1.out _ (k2.alloc _))
        (first | (go_at_call 22; refine (HR.out _ ((E01.trans E1).drew)).mono ?_; rintro e w2 ⟨lv2, vv2, mv2, tv2, rfl, q1, q2, q3, q4, q5⟩; obtain ⟨la2, lc2, rfl, _, _⟩ := q1.shape; obtain ⟨va2, vc2, rfl, _, _⟩ := q2.shape; obtain ⟨ma2, mc2, rfl, _, _⟩ := q3.shape; obtain ⟨ta2, tc2, rfl, _, _⟩ := q4.shape; have k2 := E1.drew.trans q5) | (go_at_call 22; refine (HR.out _ (((E01.trans E1).alloc _).drew)).mono ?_; rintro e w2 ⟨lv2, vv2, mv2, tv2, rfl, q1, q2, q3, q4, q5⟩; obtain ⟨la2, lc2, rfl, _, _⟩ := q1.shape; obtain ⟨va2, vc2, rfl, _, _⟩ := q2.shape; obtain ⟨ma2, mc2, rfl, _, _⟩ := q3.shape; obtain ⟨ta2, tc2, rfl, _, _⟩ := q4.shape; have k2 := (E1.alloc _).drew.trans q5; obtain ⟨w3, rfl, z3, k3⟩ : ∃ w3, w2 = putB w3 w1.heap.size #[.int .i64 0, .int .i64 0, .int .i64 0, .int .i64 0, .int .i64 0, .slice none 0 0, .int .i64 0, .slice none 0 0, .slice none 0 0, .slice none 0 0, .int .i64 0] 62 ∧ w1.heap.size < w3.heap.size ∧ Kept NoM w1 w3 := ⟨w2, putB_self (q5.blk (blk_drew (blk_new _ _)) (fun x => x)), by have := q5.size; simp at this; omega, k2⟩))
      · go_wp2_with fail
        go_meet
        exact want_new (Nat.le_refl _) q1 q2 q3 q4 k2
      · go_wp2_with fail
        go_meet
        exact want_old (Nat.le_refl _) rfl ⟨by simp, .inr E01.size⟩ z3 q1 q2 q3 q4 k3
    case rest =>
      obtain ⟨b7, lv7, vv7, mv7, tv7, rfl, h7N, h7, u1, u2, u3, u4, K7⟩ := hcut
      generalize wc = w2 at *
      obtain ⟨la7, lc7, rfl, _, _⟩ := u1.shape
      obtain ⟨va7, vc7, rfl, _, _⟩ := u2.shape
      obtain ⟨ma7, mc7, rfl, _, _⟩ := u3.shape
      obtain ⟨ta7, tc7, rfl, _, _⟩ := u4.shape
      have K02 := E01.trans K7
      have h5 := K7.blk H5.out (fun x => x)
      have z7 := lt_of_block h7
      have z52 := lt_of_block h5
      have hsame := rsame_ok r' _ _ _ _ _ _ w2 (P1.out.any.kept K7) (P2.out.any.kept K7) (P3.out.any.kept K7) u1 u2 u3 (by have := HSM.out; omega) (by have := HSM.out; omega) (by have := HSM.out; omega)
      have hsameL : ∀ w3, Kept NoM w2 w3 → Calls Tryd.prog 23 #[.slice ta5 ls.length tc5, .slice ta7 ls.length tc7] w3 fun e w' => e = .returned (.bool true) ∧ ∃ n, w' = w3.drewN n := fun w3 k =>
        sameLets_ok _ _ ls w3 (P4.out.any.kept (K7.trans k)) (u4.kept k) (by have := HFEW.out; omega) (fun m hm => by have := HSH.out m hm; omega)
      have HS := Lib.hid hsame
      have HSL := Lib.hid hsameL
      have c50 := cell_blk h5 0 _ rfl
      have c51 := cell_blk h5 1 _ rfl
      have c52 := cell_blk h5 2 _ rfl
      have c53 := cell_blk h5 3 _ rfl
      have c54 := cell_blk h5 4 _ rfl
      have c55 := cell_blk h5 5 _ rfl
      have c56 := cell_blk h5 6 _ rfl
      have c57 := cell_blk h5 7 _ rfl
      have c58 := cell_blk h5 8 _ rfl
      have c70 := cell_blk h7 0 _ rfl
      have c71 := cell_blk h7 1 _ rfl
      have c72 := cell_blk h7 2 _ rfl
      have c73 := cell_blk h7 3 _ rfl
      have c74 := cell_blk h7 4 _ rfl
      have c75 := cell_blk h7 5 _ rfl
      have c76 := cell_blk h7 6 _ rfl
      have c77 := cell_blk h7 7 _ rfl
      have c78 := cell_blk h7 8 _ rfl
      have c79 := cell_blk h7 9 _ rfl
      have c7x := cell_blk h7 10 _ rfl
      have H5' := Lib.hid h5
      clear h5 hsame hsameL u1 u2 u3 u4 h7 v0 e1 y0 y1 y2 y3 y4 y5 y6 y7 y8
      go_wp2_with (first | (go_at_call 10; refine HS.out.mono ?_; rintro e w3 ⟨rfl, k3⟩; have d79 := k3.cell c79 (fun x => x)) | (go_at_call 23; refine (HSL.out _ k3).mono ?_; rintro e w4 ⟨rfl, n4, rfl⟩))
      have K04 := (K02.trans k3).drewN n4
      have h5w := blk_drewN (k3.blk H5'.out (fun x => x)) n4
      have hgw := K04.blk HG.out (fun x => x)
      have hWw := K04.blk HW.out (fun x => x)
      have p1w := P1.out.kept ((K7.trans k3).drewN n4).of_no
      have p2w := P2.out.kept ((K7.trans k3).drewN n4).of_no
      have p3w := P3.out.kept ((K7.trans k3).drewN n4).of_no
      have p4w := P4.out.kept ((K7.trans k3).drewN n4).of_no
      have K24 := k3.drewN n4
      have fe := ((K5.trans K7).trans K24).cell (cell_blk HE.out 1 _ rfl) (fun x => x)
      have hLw := HL.out.kept K04 (fun _ _ x => x) (fun _ _ h => h.kept K04.of_no)
      have rows := HROW.out.map (fun _ _ h => h.kept (w' := w3.drewN n4) K04.of_no)
      generalize w3.drewN n4 = w4 at *
      clear c50 c51 c52 c53 c54 c55 c56 c57 c58 c70 c71 c72 c73 c74 c75 c76 c77 c78 c79 c7x d79 K24 k3
      have z4 := K04.size
      have f0 := cell_blk hWw 0 _ rfl
      have f1 := cell_blk hWw 1 _ rfl
      have d50 := cell_blk h5w 0 _ rfl
      have d51 := cell_blk h5w 1 _ rfl
      have d52 := cell_blk h5w 2 _ rfl
      have d53 := cell_blk h5w 3 _ rfl
      have d54 := cell_blk h5w 4 _ rfl
      have d55 := cell_blk h5w 5 _ rfl
      have d56 := cell_blk h5w 6 _ rfl
      have d57 := cell_blk h5w 7 _ rfl
      have d58 := cell_blk h5w 8 _ rfl
      have hz5 := lt_of_block h5w
      obtain ⟨w5, e5, g0, g1, ge, h50, h51, h52, h53, h54, h55, h56, h57, h58, zz, kk, hW5⟩ : ∃ w5, w4 = putB w5 g cur 32 ∧ w5.cell? ⟨W, 0, none⟩ = some (.slice (some ⟨g, 0, none⟩) s.reps.length cap) ∧ w5.cell? ⟨W, 1, none⟩ = some (.slice la1 s.lets.length lcap1) ∧ w5.cell? ⟨w.heap.size, 1, none⟩ = some (.int .i64 j) ∧ w5.cell? ⟨b5, 0, none⟩ = some (.int .i64 r'.id) ∧ w5.cell? ⟨b5, 1, none⟩ = some (.int .i64 r'.count) ∧ w5.cell? ⟨b5, 2, none⟩ = some (.int .i64 r'.epoch) ∧ w5.cell? ⟨b5, 3, none⟩ = some (.int .i64 r'.voted) ∧ w5.cell? ⟨b5, 4, none⟩ = some (.int .i64 r'.role) ∧ w5.cell? ⟨b5, 5, none⟩ = some (.slice la5 r'.log.length lc5) ∧ w5.cell? ⟨b5, 6, none⟩ = some (.int .i64 r'.conf) ∧ w5.cell? ⟨b5, 7, none⟩ = some (.slice va5 r'.votes.length vc5) ∧ w5.cell? ⟨b5, 8, none⟩ = some (.slice ma5 r'.mat.length mc5) ∧ w4.heap.size = w5.heap.size ∧ Kept NoM w w5 ∧ w5.heap[W]? = some (.cells #[.slice (some ⟨g, 0, none⟩) s.reps.length cap, .slice la1 s.lets.length lcap1] 27 (0, 0)) :=
        ⟨w4, putB_self hgw, f0, f1, fe, d50, d51, d52, d53, d54, d55, d56, d57, d58, rfl, K04, hWw⟩
      clear f0 f1 fe d50 d51 d52 d53 d54 d55 d56 d57 d58 hWw h5w
      have HW5 := Lib.hid hW5
      have P1w := Lib.hid p1w
      have P2w := Lib.hid p2w
      have P3w := Lib.hid p3w
      have P4w := Lib.hid p4w
      have HLw := Lib.hid hLw
      have ROWS := Lib.hid rows
      clear hW5 p1w p2w p3w p4w hLw rows hgw K04
      subst e5
      have zg5 : g < w5.heap.size := by omega
      have zW5 : W < w5.heap.size := by omega
      have zE5 : w.heap.size < w5.heap.size := by omega
      have zb5 : b5 < w5.heap.size := by omega
      have hgb : g < b5 := by have := H5N.out; omega
      clear zz
      obtain ⟨u0, F0⟩ : ∃ u, cur[j * 9]? = some u := ⟨_, Array.getElem?_eq_getElem (by (try simp only [Array.size_setIfInBounds]); omega)⟩
      obtain ⟨u1, F1⟩ : ∃ u, (cur.setIfInBounds (j * 9) (.int .i64 r'.id))[j * 9 + 1]? = some u := ⟨_, Array.getElem?_eq_getElem (by (try simp only [Array.size_setIfInBounds]); omega)⟩
      obtain ⟨u2, F2⟩ : ∃ u, ((cur.setIfInBounds (j * 9) (.int .i64 r'.id)).setIfInBounds (j * 9 + 1) (.int .i64 r'.count))[j * 9 + 2]? = some u := ⟨_, Array.getElem?_eq_getElem (by (try simp only [Array.size_setIfInBounds]); omega)⟩
      obtain ⟨u3, F3⟩ : ∃ u, (((cur.setIfInBounds (j * 9) (.int .i64 r'.id)).setIfInBounds (j * 9 + 1) (.int .i64 r'.count)).setIfInBounds (j * 9 + 2) (.int .i64 r'.epoch))[j * 9 + 3]? = some u := ⟨_, Array.getElem?_eq_getElem (by (try simp only [Array.size_setIfInBounds]); omega)⟩
      obtain ⟨u4, F4⟩ : ∃ u, ((((cur.setIfInBounds (j * 9) (.int .i64 r'.id)).setIfInBounds (j * 9 + 1) (.int .i64 r'.count)).setIfInBounds (j * 9 + 2) (.int .i64 r'.epoch)).setIfInBounds (j * 9 + 3) (.int .i64 r'.voted))[j * 9 + 4]? = some u := ⟨_, Array.getElem?_eq_getElem (by (try simp only [Array.size_setIfInBounds]); omega)⟩
      obtain ⟨u5, F5⟩ : ∃ u, (((((cur.setIfInBounds (j * 9) (.int .i64 r'.id)).setIfInBounds (j * 9 + 1) (.int .i64 r'.count)).setIfInBounds (j * 9 + 2) (.int .i64 r'.epoch)).setIfInBounds (j * 9 + 3) (.int .i64 r'.voted)).setIfInBounds (j * 9 + 4) (.int .i64 r'.role))[j * 9 + 5]? = some u := ⟨_, Array.getElem?_eq_getElem (by (try simp only [Array.size_setIfInBounds]); omega)⟩
      obtain ⟨u6, F6⟩ : ∃ u, ((((((cur.setIfInBounds (j * 9) (.int .i64 r'.id)).setIfInBounds (j * 9 + 1) (.int .i64 r'.count)).setIfInBounds (j * 9 + 2) (.int .i64 r'.epoch)).setIfInBounds (j * 9 + 3) (.int .i64 r'.voted)).setIfInBounds (j * 9 + 4) (.int .i64 r'.role)).setIfInBounds (j * 9 + 5) (.slice la5 r'.log.length lc5))[j * 9 + 6]? = some u := ⟨_, Array.getElem?_eq_getElem (by (try simp only [Array.size_setIfInBounds]); omega)⟩
      obtain ⟨u7, F7⟩ : ∃ u, (((((((cur.setIfInBounds (j * 9) (.int .i64 r'.id)).setIfInBounds (j * 9 + 1) (.int .i64 r'.count)).setIfInBounds (j * 9 + 2) (.int .i64 r'.epoch)).setIfInBounds (j * 9 + 3) (.int .i64 r'.voted)).setIfInBounds (j * 9 + 4) (.int .i64 r'.role)).setIfInBounds (j * 9 + 5) (.slice la5 r'.log.length lc5)).setIfInBounds (j * 9 + 6) (.int .i64 r'.conf))[j * 9 + 7]? = some u := ⟨_, Array.getElem?_eq_getElem (by (try simp only [Array.size_setIfInBounds]); omega)⟩
      obtain ⟨u8, F8⟩ : ∃ u, ((((((((cur.setIfInBounds (j * 9) (.int .i64 r'.id)).setIfInBounds (j * 9 + 1) (.int .i64 r'.count)).setIfInBounds (j * 9 + 2) (.int .i64 r'.epoch)).setIfInBounds (j * 9 + 3) (.int .i64 r'.voted)).setIfInBounds (j * 9 + 4) (.int .i64 r'.role)).setIfInBounds (j * 9 + 5) (.slice la5 r'.log.length lc5)).setIfInBounds (j * 9 + 6) (.int .i64 r'.conf)).setIfInBounds (j * 9 + 7) (.slice va5 r'.votes.length vc5))[j * 9 + 8]? = some u := ⟨_, Array.getElem?_eq_getElem (by (try simp only [Array.size_setIfInBounds]); omega)⟩
      go_cut [] from 67 to 74 (fun wx => wx = (putB w5 g (setL cur (j * 9) (repC r' (.slice la5 r'.log.length lc5) (.slice va5 r'.votes.length vc5) (.slice ma5 r'.mat.length mc5)).toList) 32).drew)
      case first =>
        go_region
        all_goals go_wp2
        all_goals go_meet
        all_goals rfl
      case rest =>
        obtain rfl := hcut
        obtain ⟨c2, hc2⟩ : ∃ c2, setL cur (j * 9) (repC r' (.slice la5 r'.log.length lc5) (.slice va5 r'.votes.length vc5) (.slice ma5 r'.mat.length mc5)).toList = c2 := ⟨_, rfl⟩
        have hc2s : c2.size = cap * 9 := by rw [← hc2, setL_size]; exact HSZ.out
        have KB : Kept (MX W (some g) OL) w (putB w5 g c2 32).drew := (kk.of_no.putM (.inr (.inl rfl)) _ _).drew
        have Kgg : Kept (fun k => k = g) (putB w5 g cur 32) (putB w5 g c2 32).drew := (((Kept.refl (fun k => k = g) w5).putM (b := g) rfl c2 32).drew).offB rfl
        have Kg : Kept (RX W (some g) OL) (putB w5 g cur 32) (putB w5 g c2 32).drew := Kgg.mono (fun _ _ h => .inl (.inr (.inl (by rw [h]))))
        have rB : OwnS (putB w5 g c2 32).drew (some g) 32 9 (ERep (putB w5 g c2 32).drew (RX W (some g) OL)) (.slice (some ⟨g, 0, none⟩) s.reps.length cap) (s.reps.set j r') := by
          refine OwnS.closeN (blk_drew (putB_blk _ _ _ _ zg5)) _ (by simp) hc hm hc2s ?_
          rw [← hc2]
          exact (ROWS.out.map (fun _ _ h => h.kept (by rw [hc2]; exact Kg))).setR hsz9 (P1w.out.kept (by rw [hc2]; exact Kg)) (P2w.out.kept (by rw [hc2]; exact Kg)) (P3w.out.kept (by rw [hc2]; exact Kg))
        have ownB := HLw.out.kept Kgg (fun g' h h2 => n3 (by rw [h, h2])) (fun _ _ h => h.kept Kg)
        have rdB := P4w.out.kept Kg
        have bW := Kgg.blk ((putB_blk_ne w5 g W cur 32 hWg).trans HW5.out) hWg
        have zB : W < (putB w5 g c2 32).drew.heap.size := lt_of_block bW
        rw [hc2]
        have HC2 := Lib.hid hc2
        clear hc2
        generalize (putB w5 g c2 32).drew = wB at *
        have b0 := cell_blk bW 0 _ rfl
        have b1 := cell_blk bW 1 _ rfl
        have HBW := Lib.hid bW
        have OWN := Lib.hid ownB
        have RDB := Lib.hid rdB
        have RB := Lib.hid rB
        have KBH := Lib.hid KB
        have HFL := HFEW.out
        have hb1 : s.lets.length + ls.length ≤ maxLen := by unfold maxLen; omega
        have hb2 : (s.lets.length + ls.length) * 88 ≤ 140737488355328 := by omega
        clear bW ownB rdB rB KB Kgg Kg F0 F1 F2 F3 F4 F5 F6 F7 F8 g0 g1 ge h50 h51 h52 h53 h54 h55 h56 h57 h58 kk
        go_wp2_with (at_builtin; go_loud (refine wpList_append_S (M := RX W (some g) OL) rfl (.tmp 79) (.tmp 80) 25 rfl 88 tyLets _ rfl OWN.out _ rfl RDB.out eLet_one _ _ rfl rfl hb1 hb2 ?_; intro a1 cap1 w6 O1 own1 k6 n6; obtain ⟨w7, e7, z7⟩ : ∃ w7, w6 = putB w7 W #[.slice (some ⟨g, 0, none⟩) s.reps.length cap, .slice la1 s.lets.length lcap1] 27 ∧ W < w7.heap.size := ⟨w6, putB_self (k6.blk HBW.out (fun h => n2 h.symm)), by have := k6.size; omega⟩; rw [e7]; have E7 := Lib.hid e7; clear e7; have K6 := Lib.hid k6; have O6 := Lib.hid own1; have N6 := Lib.hid n6; clear k6 own1 n6))
        go_ret
        exact play_end hgW n2 n3 zW zg (fun k hk => HMX.out k (.inr hk)) KBH.out RB.out O6.out K6.out N6.out E7.out z7
end Go.Proofs.YtgohploghbimlaaDoor
