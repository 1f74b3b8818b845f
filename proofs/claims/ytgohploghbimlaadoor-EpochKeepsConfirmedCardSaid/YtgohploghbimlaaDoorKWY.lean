/- Walk: Handle: a letter of a newer epoch. -/
import Derived.Test.YtgohploghbimlaaDoorKWV
import Derived.Deep.RegionWith
set_option linter.unusedVariables false
set_option linter.unusedSimpArgs false
set_option linter.unusedSectionVars false
namespace Go.Proofs.YtgohploghbimlaaDoor
open Go.RowKit
set_option maxHeartbeats 8000000
set_option maxRecDepth 4000
variable [A : Inhabited (Nat → Prop)]

theorem handle_newer (r : Rep) (lv vv mv : Value) (m : Let) (iv : Value) (w : World) (hlv : RdItems w Away lv r.log) (hvv : RdBools w Away vv r.votes) (hmv : RdInts w Away mv r.mat) (hiv : RdItems w Away iv m.items) (hil : m.items.length ≤ 1000000) (hf : fineF r m = true) (hgt : r.epoch < m.ep) (K : Nat) (hk : (m.kind = 1 ∧ K = 48) ∨ (m.kind = 2 ∧ K = 49) ∨ (m.kind = 3 ∧ K = 50) ∨ (m.kind = 4 ∧ K = 51)) (p : Rep × List Let) (hp : handleF r m = p)
    (HM : ∀ W O, Deed W (w.heap.size + 3) O ⟨r.id, r.count, m.ep, -1, 1, r.log, r.conf, [], []⟩ [] → RdItems W (ND (w.heap.size + 3) O) iv m.items → Method K (w.heap.size + 3) O ⟨r.id, r.count, m.ep, -1, 1, r.log, r.conf, [], []⟩ m iv [] W p) :
    Calls Tryd.prog 24 #[.agg #[.int .i64 r.id, .int .i64 r.count, .int .i64 r.epoch, .int .i64 r.voted, .int .i64 r.role, lv, .int .i64 r.conf, vv, mv], .agg #[.int .i64 m.kind, .int .i64 m.src, .int .i64 m.dst, .int .i64 m.ep, .int .i64 m.pos, .int .i64 m.aep, iv, .int .i64 m.conf, .bool m.yes]] w (Hands w (handleF r m).1 (handleF r m).2) := by
  rw [hp]
  clear hp
  unfold Method at HM
  obtain ⟨kind, src, dst, ep, pos, aep, items, conf2, yes⟩ := m
  simp only at hk hf hiv hil hgt HM
  obtain ⟨la, lcap, rfl, _, _⟩ := hlv.shape
  obtain ⟨va, vcap, rfl, _, _⟩ := hvv.shape
  obtain ⟨ma, mcap, rfl, _, _⟩ := hmv.shape
  obtain ⟨ia, icap, rfl, _, _⟩ := hiv.shape
  have K4 : ∀ a b c d, Kept NoM w ((((w.alloc a).alloc b).alloc c).alloc d) := fun a b c d => ((((Kept.refl NoM w).alloc a).alloc b).alloc c).alloc d
  rcases hk with ⟨rfl, rfl⟩ | ⟨rfl, rfl⟩ | ⟨rfl, rfl⟩ | ⟨rfl, rfl⟩
  all_goals
    go_enter Tryd.func24, Tryd.ntmps24
    go_wp2_with fail
    refine (fine_ok (w.heap.size + 3) r ⟨_, src, dst, ep, pos, aep, items, conf2, yes⟩ _ _ NoM (cell_blk (blk_new' _ _ _ (by simp)) 0 _ rfl) (cell_blk (blk_new' _ _ _ (by simp)) 1 _ rfl) (hiv.step (K4 _ _ _ _).of_no (fun _ _ x => x.elim)) hil).mono ?_
    rintro e w1 ⟨rfl, k1⟩
    rw [hf]
    have b1 := k1.blk (k := w.heap.size + 1) (blk_old (blk_old (blk_new' _ _ _ (by simp)) _) _) (fun x => x)
    have b2 := k1.blk (k := w.heap.size + 2) (blk_old (blk_new' _ _ _ (by simp)) _) (fun x => x)
    have b3 := k1.blk (k := w.heap.size + 3) (blk_new' _ _ _ (by simp)) (fun x => x)
    have KW := (K4 _ _ _ _).trans k1
    have c0M := cell_blk b1 0 _ rfl
    have c1M := cell_blk b1 1 _ rfl
    have c2M := cell_blk b1 2 _ rfl
    have c3M := cell_blk b1 3 _ rfl
    have c4M := cell_blk b1 4 _ rfl
    have c5M := cell_blk b1 5 _ rfl
    have c6M := cell_blk b1 6 _ rfl
    have c7M := cell_blk b1 7 _ rfl
    have c8M := cell_blk b1 8 _ rfl
    have c2D := cell_blk b3 2 _ rfl
    have DT := fun n => deed_at (r := r) hlv hvv hmv (KW.drewN n) (by omega) (blk_drewN b3 n)
    have hz3 : w.heap.size + 3 < w1.heap.size := lt_of_block b3
    have hz1 : w.heap.size + 1 < w1.heap.size := by omega
    have HIV := Lib.hid hiv
    have B1 := Lib.hid b1
    have B2 := Lib.hid b2
    have KW' := Lib.hid KW
    clear b1 b2 b3 k1 KW hlv hvv hmv hiv
    go_wp2_with fail
    go_quiet (fail)
    go_wp2_with fail
    refine (follow_ok _ none r [] _ (DT _)).mono ?_
    rintro e w3 ⟨rfl, O3, d3, k3, n3⟩
    have KW3 : Kept NoM w w3 := (KW'.out.drewN _).trans' k3 (fun i hi h => by
      rcases h with h | h
      · omega
      · cases h)
    have hnM : ∀ i, i < w.heap.size + 3 → ¬ MD (w.heap.size + 3) none i := by
      rintro i hi (h | h)
      · omega
      · cases h
    have b1 := k3.blk (blk_drewN B1.out _) (hnM _ (by omega))
    have b2 := k3.blk (blk_drewN B2.out _) (hnM _ (by omega))
    clear c0M c1M c2M c3M c4M c5M c6M c7M c8M c2D
    have d0M := cell_blk b1 0 _ rfl
    have d1M := cell_blk b1 1 _ rfl
    have d2M := cell_blk b1 2 _ rfl
    have d3M := cell_blk b1 3 _ rfl
    have d4M := cell_blk b1 4 _ rfl
    have d5M := cell_blk b1 5 _ rfl
    have d6M := cell_blk b1 6 _ rfl
    have d7M := cell_blk b1 7 _ rfl
    have d8M := cell_blk b1 8 _ rfl
    have hz9 := k3.size
    obtain ⟨lv4, vv4, mv4, tv4, hD4, q1, q2, q3, q4, q5⟩ := d3
    obtain ⟨la4, lcap4, rfl, _, _⟩ := q1.shape
    obtain ⟨va4, vcap4, rfl, _, _⟩ := q2.shape
    obtain ⟨ma4, mcap4, rfl, _, _⟩ := q3.shape
    obtain ⟨ta4, tcap4, rfl, _⟩ := q4.shape
    have IT4 : RdItems w3 (ND (w.heap.size + 3) O3) (.slice ia items.length icap) items := HIV.out.step KW3.of_no (by
      rintro i hi (h | h | h)
      · omega
      · rcases n3 with rfl | ⟨g', rfl, hg2⟩
        · cases h
        · cases h
          have hg2 : w1.heap.size ≤ i := hg2
          omega
      · rcases h.2 with h | h
        · omega
        · exact h)
    have hO3' : ∀ g, O3 = some g → w.heap.size + 3 < g := by
      intro g hg
      rcases n3 with rfl | ⟨g', rfl, hg2⟩
      · cases hg
      · cases hg
        have hg2 : w1.heap.size ≤ g := hg2
        omega
    obtain ⟨w4, e4, zD4, KW4, r1, r2, r3, r4, IT, c0M, c1M, c2M, c3M, c4M, c5M, c6M, c7M, c8M, bb2⟩ : ∃ w4, w3 = putB w4 (w.heap.size + 3) #[.int .i64 r.id, .int .i64 r.count, .int .i64 r.epoch, .int .i64 r.voted, .int .i64 1, .slice la4 r.log.length lcap4, .int .i64 r.conf, .slice va4 0 vcap4, .slice ma4 0 mcap4, .slice ta4 0 tcap4] 77 ∧ w.heap.size + 3 < w4.heap.size ∧ Kept NoM w w4 ∧ RdItems w4 (ND (w.heap.size + 3) O3) (.slice la4 r.log.length lcap4) r.log ∧ RdBools w4 (ND (w.heap.size + 3) O3) (.slice va4 0 vcap4) [] ∧ RdInts w4 (ND (w.heap.size + 3) O3) (.slice ma4 0 mcap4) [] ∧ OwnS w4 O3 57 9 (ELet w4 (ND (w.heap.size + 3) O3)) (.slice ta4 0 tcap4) [] ∧ RdItems w4 (ND (w.heap.size + 3) O3) (.slice ia items.length icap) items ∧ w4.cell? ⟨w.heap.size + 1, 0, none⟩ = some _ ∧ w4.cell? ⟨w.heap.size + 1, 1, none⟩ = some _ ∧ w4.cell? ⟨w.heap.size + 1, 2, none⟩ = some _ ∧ w4.cell? ⟨w.heap.size + 1, 3, none⟩ = some _ ∧ w4.cell? ⟨w.heap.size + 1, 4, none⟩ = some _ ∧ w4.cell? ⟨w.heap.size + 1, 5, none⟩ = some _ ∧ w4.cell? ⟨w.heap.size + 1, 6, none⟩ = some _ ∧ w4.cell? ⟨w.heap.size + 1, 7, none⟩ = some _ ∧ w4.cell? ⟨w.heap.size + 1, 8, none⟩ = some _ ∧ w4.heap[w.heap.size + 2]? = some (.cells #[.int .i64 0, .int .i64 0, .int .i64 0, .int .i64 0, .int .i64 0, .slice none 0 0, .int .i64 0, .slice none 0 0, .slice none 0 0] 32 (0, 0)) :=
      ⟨w3, putB_self hD4, lt_of_block hD4, KW3, q1, q2, q3, q4, IT4, d0M, d1M, d2M, d3M, d4M, d5M, d6M, d7M, d8M, b2⟩
    have KF : ∀ T n, Kept (fun k => k = w.heap.size + 3) w4 (((putB w4 (w.heap.size + 3) #[.int .i64 r.id, .int .i64 r.count, .int .i64 ep, .int .i64 (-1), .int .i64 1, .slice la4 r.log.length lcap4, .int .i64 r.conf, .slice va4 0 vcap4, .slice ma4 0 mcap4, .slice ta4 0 tcap4] 77).alloc T).drewN n) := fun T n => (((Kept.refl (fun k => k = w.heap.size + 3) w4).putM (b := w.heap.size + 3) rfl _ 77).alloc T).drewN n
    have HH := fun T n => HM _ O3 (Deed.mk0 q5 (KF T n) (blk_drewN (blk_old (putB_blk w4 (w.heap.size + 3) #[.int .i64 r.id, .int .i64 r.count, .int .i64 ep, .int .i64 (-1), .int .i64 1, .slice la4 r.log.length lcap4, .int .i64 r.conf, .slice va4 0 vcap4, .slice ma4 0 mcap4, .slice ta4 0 tcap4] 77 zD4) T) n) r1 r2 r3 r4) (IT.kept ((KF T n).mono (fun _ _ h => .inl h)))
    have hfin : ∀ T n w5, DStep (w.heap.size + 3) O3 (((putB w4 (w.heap.size + 3) #[.int .i64 r.id, .int .i64 r.count, .int .i64 ep, .int .i64 (-1), .int .i64 1, .slice la4 r.log.length lcap4, .int .i64 r.conf, .slice va4 0 vcap4, .slice ma4 0 mcap4, .slice ta4 0 tcap4] 77).alloc T).drewN n) p.1 p.2 w5 → (fun wx => ∃ O3, Deed wx (w.heap.size + 3) O3 p.1 p.2 ∧ Kept NoM w wx ∧ (∀ g, O3 = some g → w.heap.size + 3 < g) ∧ wx.heap[w.heap.size + 2]? = some (.cells #[.int .i64 0, .int .i64 0, .int .i64 0, .int .i64 0, .int .i64 0, .slice none 0 0, .int .i64 0, .slice none 0 0, .slice none 0 0] 32 (0, 0))) w5 := by
      rintro T n w5 ⟨O5, d5, k5, n5⟩
      have KX : Kept NoM w (((putB w4 (w.heap.size + 3) #[.int .i64 r.id, .int .i64 r.count, .int .i64 ep, .int .i64 (-1), .int .i64 1, .slice la4 r.log.length lcap4, .int .i64 r.conf, .slice va4 0 vcap4, .slice ma4 0 mcap4, .slice ta4 0 tcap4] 77).alloc T).drewN n) := KW4.trans' (KF T n) (fun i hi h => by
        have h : i = w.heap.size + 3 := h
        omega)
      refine ⟨O5, d5, KX.trans' k5 (fun i hi h => ?_), ?_, k5.blk ((KF T n).blk bb2 (fun h => by have h : w.heap.size + 2 = w.heap.size + 3 := h; omega)) ?_⟩
      · rcases h with h | h
        · omega
        · have := hO3' _ h.symm; omega
      · intro g hg
        rcases n5 with rfl | ⟨g', rfl, hg2⟩
        · exact hO3' _ hg
        · cases hg
          have hg2 : ((putB w4 (w.heap.size + 3) _ 77).alloc T).heap.size ≤ g := hg2
          simp only [World.size_alloc, putB_size] at hg2
          omega
      · rintro (h | h)
        · omega
        · have := hO3' _ h.symm; omega
    have HFI := Lib.hid hfin
    have hz41 : w.heap.size + 1 < w4.heap.size := by omega
    simp only [List.nil_append] at HH
    clear hfin b1 b2 k3 KW3 q1 q2 q3 q4 r1 r2 r3 r4 IT IT4 HM KF KW4 bb2 hD4
    subst e4
    go_wp2_with fail
    go_cut [] from 37 to 43 (fun wx => ∃ O3, Deed wx (w.heap.size + 3) O3 p.1 p.2 ∧ Kept NoM w wx ∧ (∀ g, O3 = some g → w.heap.size + 3 < g) ∧ wx.heap[w.heap.size + 2]? = some (.cells #[.int .i64 0, .int .i64 0, .int .i64 0, .int .i64 0, .int .i64 0, .slice none 0 0, .int .i64 0, .slice none 0 0, .slice none 0 0] 32 (0, 0)))
    case first =>
      go_region_with ((first | go_at_call 48 | go_at_call 49 | go_at_call 50 | go_at_call 51); refine (HH _ _).mono ?_; rintro e w5 ⟨rfl, h5⟩)
      all_goals go_wp2
      all_goals go_meet
      all_goals exact HFI.out _ _ _ h5
    case rest =>
      clear d0M d1M d2M d3M d4M d5M d6M d7M d8M c0M c1M c2M c3M c4M c5M c6M c7M c8M
      obtain ⟨O5, ⟨lv3, vv3, mv3, tv3, hb3', q1, q2, q3, q4, q5⟩, KW3, hO3, bZ3⟩ := hcut
      clear HFI HH
      obtain ⟨r3, ls3⟩ := p
      simp only at hb3' q1 q2 q3 q4 ⊢
      obtain ⟨w6, e6, y1, y2⟩ : ∃ w6, wc = putB (putB w6 (w.heap.size + 2) _ 32) (w.heap.size + 3) _ 77 ∧ w.heap.size + 2 < w6.heap.size ∧ w.heap.size + 3 < w6.heap.size := ⟨wc, expose2 bZ3 hb3', lt_of_block bZ3, lt_of_block hb3'⟩
      obtain ⟨la3, lcap3, rfl, _, _⟩ := q1.shape
      obtain ⟨va3, vcap3, rfl, _, _⟩ := q2.shape
      obtain ⟨ma3, mcap3, rfl, _, _⟩ := q3.shape
      obtain ⟨ta3, tcap3, rfl, _⟩ := q4.shape
      have Q1 := Lib.hid q1
      have Q2 := Lib.hid q2
      have Q3 := Lib.hid q3
      have Q4 := Lib.hid q4
      have KW3' := Lib.hid KW3
      clear q1 q2 q3 q4 KW3 hb3' bZ3 B1 B2 KW' hf
      subst e6
      go_wp2_with fail
      go_region
      all_goals go_wp2
      refine bodyPost_ret (v := .tuple #[.agg #[.int .i64 r3.id, .int .i64 r3.count, .int .i64 r3.epoch, .int .i64 r3.voted, .int .i64 r3.role, .slice la3 r3.log.length lcap3, .int .i64 r3.conf, .slice va3 r3.votes.length vcap3, .slice ma3 r3.mat.length mcap3], .slice ta3 ls3.length tcap3]) (by simp [results, Tryd.results24, go_sem, y1, y2]) rfl ?_
      exact hands_of (D := w.heap.size + 3) Q1.out Q2.out Q3.out Q4.out hO3 (by omega) (kept_two (by omega)) (KW3'.out.trans' (kept_two (D := w.heap.size + 3) (by omega)) (fun i hi h => by rcases h with h | h <;> omega)) rfl
end Go.Proofs.YtgohploghbimlaaDoor
