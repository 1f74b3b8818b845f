/- Walk: Propose, the way that proposes. -/
import Derived.Test.YtgohploghbimlaaDoorKWZ
import Derived.BigRegion
set_option linter.unusedVariables false
set_option linter.unusedSimpArgs false
set_option linter.unusedSectionVars false
namespace Go.Proofs.YtgohploghbimlaaDoor
open Go.RowKit
set_option maxHeartbeats 3000000
set_option maxRecDepth 4000
variable [A : Inhabited (Nat → Prop)]

theorem hands3_of {w W3 W5 : World} {D : Nat} {O3 : Option Nat} {r : Rep} {ls : List Let} {er : Int} {lv vv mv tv : Value} {e : Ending}
    (q1 : RdItems W3 (ND D O3) lv r.log) (q2 : RdBools W3 (ND D O3) vv r.votes) (q3 : RdInts W3 (ND D O3) mv r.mat) (q4 : OwnS W3 O3 57 9 (ELet W3 (ND D O3)) tv ls) (hO : ∀ g, O3 = some g → D < g) (hwD : w.heap.size < D)
    (K : Kept (fun k => k = D ∨ k + 1 = D) W3 W5) (KN : Kept NoM w W5)
    (he : e = .returned (.tuple #[.agg #[.int .i64 r.id, .int .i64 r.count, .int .i64 r.epoch, .int .i64 r.voted, .int .i64 r.role, lv, .int .i64 r.conf, vv, mv], tv, .int .i64 er])) : Hands3 w r ls er e W5 := by
  obtain ⟨lv', vv', mv', tv', h0, h1, h2, h3, h4, h5⟩ := hands_of q1 q2 q3 q4 hO hwD K KN (e := .returned (.tuple #[.agg #[.int .i64 r.id, .int .i64 r.count, .int .i64 r.epoch, .int .i64 r.voted, .int .i64 r.role, lv, .int .i64 r.conf, vv, mv], tv])) rfl
  simp only [Ending.returned.injEq, Value.tuple.injEq, Array.mk.injEq, List.cons.injEq, Value.agg.injEq, and_true, true_and] at h0
  obtain ⟨⟨rfl, rfl, rfl⟩, rfl⟩ := h0
  exact ⟨_, _, _, _, he, h1, h2, h3, h4, h5⟩

theorem propose_yes (r : Rep) (tx : ByteArray) (lv vv mv : Value) (w : World) (hlv : RdItems w Away lv r.log) (hvv : RdBools w Away vv r.votes) (hmv : RdInts w Away mv r.mat) (hr : Valid r) (h3 : r.role = 3) (hs1 : ¬ (tx.size : Int) > 8000) (hs2 : ¬ r.log.length ≥ 1000) :
    Calls Tryd.prog 26 #[.agg #[.int .i64 r.id, .int .i64 r.count, .int .i64 r.epoch, .int .i64 r.voted, .int .i64 r.role, lv, .int .i64 r.conf, vv, mv], .string tx] w (Hands3 w (proposeF r tx).1 (proposeF r tx).2.1 0) := by
  have hm := hr.mat
  rw [if_pos h3] at hm
  have hmat := hr.match_
  have c1 := hr.count1
  have c7 := hr.count7
  have hid0 := hr.id0
  have hid1 := hr.id1
  have t1 : (r.role != 3) = false := by rw [bne_eq_false_iff_eq]; exact h3
  have u1 : decide ((8000 : Int) < tx.size) = false := decide_eq_false hs1
  have u2 : decide ((1000 : Int) ≤ r.log.length) = false := decide_eq_false (by omega)
  obtain ⟨id, count, epoch, voted, role, log, conf, votes, mat⟩ := r
  simp only at *
  obtain ⟨j, rfl⟩ := Int.eq_ofNat_of_zero_le hid0
  obtain ⟨y, hy⟩ := get_at (xs := mat) (k := j) (by omega)
  obtain ⟨L, hL⟩ : ∃ L : List Item, L = log ++ [⟨epoch, tx⟩] := ⟨_, rfl⟩
  have hLl : L.length = log.length + 1 := by rw [hL]; simp
  obtain ⟨ms, hms⟩ : ∃ ms : List Int, ms = mat.set j ((log.length + 1 : Nat) : Int) := ⟨_, rfl⟩
  have hmsl : ms.length = mat.length := by rw [hms]; simp
  have hmsb : ∀ z ∈ ms, 0 ≤ z ∧ z ≤ L.length := by
    intro z hz
    rw [hms] at hz
    rcases List.mem_or_eq_of_mem_set hz with h | h
    · have := hmat z h; omega
    · rw [h]; omega
  obtain ⟨r1, hr1⟩ : ∃ r1 : Rep, r1 = ⟨j, count, epoch, voted, role, L, conf, votes, ms⟩ := ⟨_, rfl⟩
  obtain ⟨r2, hr2⟩ : ∃ r2 : Rep, r2 = if count = 1 then settleF r1 else r1 := ⟨_, rfl⟩
  have hF : proposeF ⟨j, count, epoch, voted, role, log, conf, votes, mat⟩ tx = (r2, (othersF count.toNat j).map (logLet r2), 0) := by
    unfold proposeF
    rw [if_neg (by simp [h3]), if_neg (by simp only; omega)]
    simp only [Int.toNat_natCast]
    rw [hr2, hr1, hms, hL, List.length_append, List.length_singleton]
  have sk : r2.mat = ms ∧ r2.log = L := by
    have k := settleF_keeps r1
    rw [hr2]
    split
    · rw [k.2.2.2.1, k.2.2.1, hr1]; exact ⟨rfl, rfl⟩
    · rw [hr1]; exact ⟨rfl, rfl⟩
  have HF := Lib.hid hF
  have HMS := Lib.hid hms
  have HR1 := Lib.hid hr1
  have HR2 := Lib.hid hr2
  have HML := Lib.hid hmsl
  have HMC := Lib.hid hm
  have HMB := Lib.hid hmsb
  have HL := Lib.hid hL
  have HLL := Lib.hid hLl
  have HY := Lib.hid hy
  have SK := Lib.hid sk
  clear hF hms hr1 hr2 h3 hmsl hm hmsb hmat hL hLl hr hy sk hs1
  obtain ⟨la, lcap, rfl, _, _⟩ := hlv.shape
  obtain ⟨va, vcap, rfl, _, _⟩ := hvv.shape
  obtain ⟨ma, mcap, rfl, _, _⟩ := hmv.shape
  go_enter Tryd.func26, Tryd.ntmps26
  go_wp2_with fail
  obtain ⟨w1, e1, K1, bR, bZ, zD⟩ : ∃ w1, (((w.alloc (.cells #[.int .i64 j, .int .i64 count, .int .i64 epoch, .int .i64 voted, .int .i64 role, .slice la log.length lcap, .int .i64 conf, .slice va votes.length vcap, .slice ma mat.length mcap] 32)).alloc (.cells #[.int .i64 0, .int .i64 0, .int .i64 0, .int .i64 0, .int .i64 0, .slice none 0 0, .int .i64 0, .slice none 0 0, .slice none 0 0] 32)).alloc (.cells #[.int .i64 j, .int .i64 count, .int .i64 epoch, .int .i64 voted, .int .i64 role, .slice la log.length lcap, .int .i64 conf, .slice va votes.length vcap, .slice ma mat.length mcap, .slice none 0 0] 77)) = putB w1 (w.heap.size + 2) #[.int .i64 j, .int .i64 count, .int .i64 epoch, .int .i64 voted, .int .i64 role, .slice la log.length lcap, .int .i64 conf, .slice va votes.length vcap, .slice ma mat.length mcap, .slice none 0 0] 77 ∧ Kept NoM w w1 ∧ w1.heap[w.heap.size]? = some (.cells #[.int .i64 j, .int .i64 count, .int .i64 epoch, .int .i64 voted, .int .i64 role, .slice la log.length lcap, .int .i64 conf, .slice va votes.length vcap, .slice ma mat.length mcap] 32 (0, 0)) ∧ w1.heap[w.heap.size + 1]? = some (.cells #[.int .i64 0, .int .i64 0, .int .i64 0, .int .i64 0, .int .i64 0, .slice none 0 0, .int .i64 0, .slice none 0 0, .slice none 0 0] 32 (0, 0)) ∧ w.heap.size + 2 < w1.heap.size := by
    refine ⟨_, putB_self (blk_new' _ _ _ (by simp)), (((Kept.refl NoM w).alloc _).alloc _).alloc _, blk_old (blk_old (blk_new' w _ w.heap.size rfl) _) _, blk_old (blk_new' _ _ _ (by simp)) _, by simp⟩
  rw [e1]
  clear e1
  have KS : ∀ W, Kept (fun k => k = w.heap.size + 2) w1 W → W.cell? ⟨w.heap.size, 2, none⟩ = some (.int .i64 epoch) ∧ W.cell? ⟨w.heap.size, 5, none⟩ = some (.slice la log.length lcap) := fun W k =>
    ⟨k.cell (cell_blk bR 2 _ rfl) (fun h => by have h : w.heap.size = w.heap.size + 2 := h; omega), k.cell (cell_blk bR 5 _ rfl) (fun h => by have h : w.heap.size = w.heap.size + 2 := h; omega)⟩
  have KP : ∀ c, Kept (fun k => k = w.heap.size + 2) w1 (putB w1 (w.heap.size + 2) c 77) := fun c => (Kept.refl (fun k => k = w.heap.size + 2) w1).putM (b := w.heap.size + 2) rfl c 77
  have hcl : ∀ W, Kept (fun k => k = w.heap.size + 2) w1 W → W.heap[w.heap.size + 2]? = some (.cells #[.int .i64 j, .int .i64 count, .int .i64 epoch, .int .i64 voted, .int .i64 role, .slice la log.length lcap, .int .i64 conf, .slice va votes.length vcap, .slice ma mat.length mcap, .slice none 0 0] 77 (0, 0)) → Calls Tryd.prog 58 #[.slice la log.length lcap] W fun e w' => ∃ w4 a cap Oc, e = .returned (.slice a log.length cap) ∧ w' = putB w4 (w.heap.size + 2) #[.int .i64 j, .int .i64 count, .int .i64 epoch, .int .i64 voted, .int .i64 role, .slice la log.length lcap, .int .i64 conf, .slice va votes.length vcap, .slice ma mat.length mcap, .slice none 0 0] 77 ∧ OwnS w' Oc 45 2 EItem (.slice a log.length cap) log ∧ NewO w1 none Oc ∧ Kept NoM W w' ∧ Kept (fun k => k = w.heap.size + 2) w1 w4 ∧ w.heap.size + 2 < w4.heap.size := by
    intro W k hb
    refine (clone58_ok _ log NoM W (hlv.step (K1.trans' k (fun i hi h => by have h : i = w.heap.size + 2 := h; omega)).of_no (fun _ _ x => x.elim)) (by omega)).mono ?_
    rintro e w4 ⟨a, cap, Oc, rfl, hoc, hnc, hkc⟩
    have bD := hkc.blk hb (fun x => x)
    exact ⟨w4, a, cap, Oc, rfl, putB_self bD, hoc, hnc.of_le k.size, hkc, k.transN hkc, lt_of_block bD⟩
  have hap : ∀ Wa w5 a1 cap1 O5 Oc, Kept (fun k => k = w.heap.size + 2) w1 Wa → Wa.heap[w.heap.size + 2]? = some (.cells #[.int .i64 j, .int .i64 count, .int .i64 epoch, .int .i64 voted, .int .i64 role, .slice la log.length lcap, .int .i64 conf, .slice va votes.length vcap, .slice ma mat.length mcap, .slice none 0 0] 77 (0, 0)) → NewO w1 none Oc → OwnS w5 O5 45 2 EItem (.slice a1 (log.length + 1) cap1) (log ++ [⟨epoch, tx⟩]) → Kept (fun k => some k = Oc) Wa w5 → NewO Wa Oc O5 → ∃ w6, w5 = putB w6 (w.heap.size + 2) #[.int .i64 j, .int .i64 count, .int .i64 epoch, .int .i64 voted, .int .i64 role, .slice la log.length lcap, .int .i64 conf, .slice va votes.length vcap, .slice ma mat.length mcap, .slice none 0 0] 77 ∧ Kept (fun k => k = w.heap.size + 2) w1 w6 ∧ RdItems w6 (ND (w.heap.size + 2) none) (.slice a1 (log.length + 1) cap1) L ∧ w.heap.size + 2 < w6.heap.size := by
    intro Wa w5 a1 cap1 O5 Oc k hb hn hown hk hn5
    have hg : ∀ i, some i = Oc → w1.heap.size ≤ i := by
      intro i h
      rcases hn with rfl | ⟨g, rfl, hg⟩
      · cases h
      · cases h; exact hg
    have bD := hk.blk hb (fun h => by have := hg _ h; omega)
    refine ⟨w5, putB_self bD, k.trans' hk (fun i hi h => by have := hg _ h; omega), ?_, lt_of_block bD⟩
    rw [HL.out]
    refine hown.rdNew (w := w1) ((NewO.of_le hn5 k.size).elim (fun h => by rw [h]; exact hn) .inr) ?_
    rintro g hg (h | h | h)
    · omega
    · cases h
    · omega
  have bP : ∀ o n, (((putB w1 (w.heap.size + 2) #[.int .i64 j, .int .i64 count, .int .i64 epoch, .int .i64 voted, .int .i64 role, .slice la log.length lcap, .int .i64 conf, .slice va votes.length vcap, .slice ma mat.length mcap, .slice none 0 0] 77).alloc o).drewN n).heap[w.heap.size + 2]? = some (.cells #[.int .i64 j, .int .i64 count, .int .i64 epoch, .int .i64 voted, .int .i64 role, .slice la log.length lcap, .int .i64 conf, .slice va votes.length vcap, .slice ma mat.length mcap, .slice none 0 0] 77 (0, 0)) := fun o n => blk_drewN (blk_old (putB_blk _ _ _ _ zD) o) n
  have bQ : ∀ w4 o, w.heap.size + 2 < w4.heap.size → ((putB w4 (w.heap.size + 2) #[.int .i64 j, .int .i64 count, .int .i64 epoch, .int .i64 voted, .int .i64 role, .slice la log.length lcap, .int .i64 conf, .slice va votes.length vcap, .slice ma mat.length mcap, .slice none 0 0] 77).alloc o).heap[w.heap.size + 2]? = some (.cells #[.int .i64 j, .int .i64 count, .int .i64 epoch, .int .i64 voted, .int .i64 role, .slice la log.length lcap, .int .i64 conf, .slice va votes.length vcap, .slice ma mat.length mcap, .slice none 0 0] 77 (0, 0)) := fun w4 o z => blk_old (putB_blk _ _ _ _ z) o
  have bN : ∀ w4 o, ((putB w4 (w.heap.size + 2) #[.int .i64 j, .int .i64 count, .int .i64 epoch, .int .i64 voted, .int .i64 role, .slice la log.length lcap, .int .i64 conf, .slice va votes.length vcap, .slice ma mat.length mcap, .slice none 0 0] 77).alloc o).heap[w4.heap.size]? = some o := fun w4 o => blk_new' _ _ _ (putB_size _ _ _ _).symm
  go_cut [] from 27 to 39 (fun wx => ∃ w6 a6 cap6, wx = putB w6 (w.heap.size + 2) #[.int .i64 j, .int .i64 count, .int .i64 epoch, .int .i64 voted, .int .i64 role, .slice a6 (log.length + 1) cap6, .int .i64 conf, .slice va votes.length vcap, .slice ma mat.length mcap, .slice none 0 0] 77 ∧ Kept (fun k => k = w.heap.size + 2) w1 w6 ∧ RdItems w6 (ND (w.heap.size + 2) none) (.slice a6 (log.length + 1) cap6) L ∧ w.heap.size + 2 < w6.heap.size)
  case first =>
    go_region_held3 (fun w' => w'.cell? ⟨w.heap.size, 2, none⟩ = some (.int .i64 epoch) ∧ w'.cell? ⟨w.heap.size, 5, none⟩ = some (.slice la log.length lcap)) (first | exact KS _ (KP _).drew | exact KS _ ((KP _).drew.alloc _) | exact KS _ (((KP _).alloc _).drew) | exact KS _ (k46.putM (b := w.heap.size + 2) rfl _ _) | exact KS _ ((k46.putM (b := w.heap.size + 2) rfl _ _).alloc _) | exact KS _ (k16.putM (b := w.heap.size + 2) rfl _ _) | (trace_state; fail))
      (first | (refine step_append_S (M := NoM) (E := EItem) rfl (.tmp 30) (.tmp 35) 28 rfl 24 tyItems _ rfl (hoc.kept ((Kept.refl NoM _).alloc _) (fun _ _ x => x) (fun _ _ h => h)) _ rfl (rd_one (x := Item.mk epoch tx) (bN _ _) (fun h => h) rfl rfl) eItem_one log.length 1 rfl rfl (by unfold maxLen; omega) (by omega) ?_; intro a1 cap1 w5 O5 hown5 hk5 hn5; obtain ⟨w6, rfl, k16, hlog, zD6⟩ := hap _ _ _ _ _ _ ((k46.putM (b := w.heap.size + 2) rfl _ _).alloc _) (bQ _ _ zD4) hnc hown5 hk5 hn5) | (refine step_append_S (M := NoM) (E := EItem) rfl (.tmp 30) (.tmp 35) 28 rfl 24 tyItems _ rfl hoc _ rfl (rd_one (x := Item.mk epoch tx) bI (fun h => h) rfl rfl) eItem_one log.length 1 rfl rfl (by unfold maxLen; omega) (by omega) ?_; intro a1 cap1 w5 O5 hown5 hk5 hn5; obtain ⟨w6, rfl, k16, hlog, zD6⟩ := hap _ _ _ _ _ _ (k46.putM (b := w.heap.size + 2) rfl _ _) (putB_blk _ _ _ _ zD4) hnc hown5 hk5 hn5) | (go_at_call 58; refine (hcl _ (KP _).drew (blk_drew (putB_blk _ _ _ _ zD))).mono ?_; rintro e w4' ⟨w4, a4, cap4, Oc, rfl, rfl, hoc, hnc, hkc, k46, zD4⟩) | (go_at_call 58; refine (hcl _ ((KP _).drew.alloc _) (blk_old (blk_drew (putB_blk _ _ _ _ zD)) _)).mono ?_; rintro e w4' ⟨w4, a4, cap4, Oc, rfl, rfl, hoc, hnc, hkc, k46, zD4⟩; have bI := hkc.blk (blk_new' _ _ _ (putB_size _ _ _ _).symm) (fun x => x)) | (go_at_call 58; refine (hcl _ (((KP _).alloc _).drew) (blk_drew (blk_old (putB_blk _ _ _ _ zD) _))).mono ?_; rintro e w4' ⟨w4, a4, cap4, Oc, rfl, rfl, hoc, hnc, hkc, k46, zD4⟩; have bI := hkc.blk (blk_drew (bN w1 _)) (fun x => x)))
    all_goals go_wp2
    all_goals go_meet
    all_goals exact ⟨_, _, _, rfl, k16, hlog, zD6⟩
  case rest =>
    obtain ⟨w6, a6, cap6, rfl, k16, hlog, zD6⟩ := hcut
    have nR : ∀ i, i < w.heap.size + 2 → ¬ i = w.heap.size + 2 := fun i h => by omega
    have c8R := k16.cell (cell_blk bR 8 _ rfl) (nR _ (by simp))
    have bZ6 := k16.blk bZ (nR _ (by simp))
    have KW6 : Kept NoM w w6 := K1.trans' k16 (fun i hi h => by have h : i = w.heap.size + 2 := h; omega)
    have KW6P : ∀ c, Kept NoM w (putB w6 (w.heap.size + 2) c 77) := fun c => KW6.putN (by omega) c 77
    have hA : ∀ i, i < w.heap.size → ND (w.heap.size + 2) none i → Away i := by
      rintro i hi (h | h | h)
      · omega
      · cases h
      · rcases h.2 with h | h
        · omega
        · exact h
    have hmv6 : RdInts (putB w6 (w.heap.size + 2) #[.int .i64 j, .int .i64 count, .int .i64 epoch, .int .i64 voted, .int .i64 role, .slice a6 (log.length + 1) cap6, .int .i64 conf, .slice va votes.length vcap, .slice ma mat.length mcap, .slice none 0 0] 77) NoM (.slice ma mat.length mcap) mat := hmv.step (KW6P _).of_no (fun _ _ x => x.elim)
    have qvv := hvv.step KW6.of_no hA
    have HLOG := Lib.hid hlog
    have hbm : mat.length ≤ 1000000000 := by have := HMC.out; omega
    clear hcl hap bP bQ bN KS KP K1 bR bZ zD hlv hvv hmv hlog
    go_wp2_with fail
    refine (clone59_ok _ mat NoM _ hmv6 hbm).mono ?_
    rintro e w7 ⟨ca, ccap, Oc, rfl, hoc, hnc, hkc⟩
    obtain ⟨g, gcap, cur, e1, rfl, hg, hgc, hgm, hgs, hgt⟩ := hoc.open1 (f := Value.int .i64) (fun c x h => h) (by have := HMC.out; omega)
    simp only [Value.slice.injEq] at e1
    obtain ⟨rfl, _, rfl⟩ := e1
    have hgD : w6.heap.size ≤ g := by
      rcases hnc with h | ⟨g', h, hg2⟩
      · cases h
      · cases h; simpa using hg2
    have hgl := lt_of_block hg
    have bD := hkc.blk (k := w.heap.size + 2) (putB_blk _ _ _ _ zD6) (fun x => x)
    have hgd : ¬ w.heap.size + 2 = g := by omega
    have hDg : w.heap.size + 2 < g := by omega
    have k67 : Kept (fun k => k = w.heap.size + 2) w6 w7 := ((Kept.refl (fun k => k = w.heap.size + 2) w6).putM (b := w.heap.size + 2) rfl _ 77).transN hkc
    have hlt6 := k67.size
    obtain ⟨w8, e8, z2, z3, k8⟩ : ∃ w8, w7 = putB (putB w8 (w.heap.size + 2) #[.int .i64 j, .int .i64 count, .int .i64 epoch, .int .i64 voted, .int .i64 role, .slice a6 (log.length + 1) cap6, .int .i64 conf, .slice va votes.length vcap, .slice ma mat.length mcap, .slice none 0 0] 77) g cur 3 ∧ w.heap.size + 2 < w8.heap.size ∧ g < w8.heap.size ∧ Kept (fun k => k = w.heap.size + 2) w6 w8 :=
      ⟨w7, by rw [← putB_self bD]; exact putB_self hg, by omega, by omega, k67⟩
    subst e8
    have hjl : j < mat.length := by have := HMC.out; omega
    have hcj : cur[j]? = some (Value.int .i64 y) := take_at hgt HY.out
    have hjv : (j : Int) < mat.length := by omega
    have hlj : (mat.length : Nat) ≤ cur.size := by omega
    obtain ⟨c2, hset⟩ : ∃ c2, cur.setIfInBounds j (Value.int .i64 ((log.length + 1 : Nat) : Int)) = c2 := ⟨_, rfl⟩
    have ht2 : c2.toList.take mat.length = ms.map (Value.int .i64) := by
      rw [← hset, HMS.out]; exact take_set hgt j _
    have hs2 : c2.size = cur.size := by rw [← hset]; simp
    have HT2 := Lib.hid ht2
    have HS2 := Lib.hid hs2
    have HSET := Lib.hid hset
    have KW6' := Lib.hid KW6
    have BZ6 := Lib.hid bZ6
    clear bD hg hgl hoc hnc hkc hgt ht2 hs2 hset c8R hmv6 KW6 KW6P bZ6 k16 k67 hlt6
    go_upto_region 8 with fail
    go_cut [] from 47 to 63 (fun wx => wx = (putB (putB w8 (w.heap.size + 2) #[.int .i64 j, .int .i64 count, .int .i64 epoch, .int .i64 voted, .int .i64 role, .slice a6 (log.length + 1) cap6, .int .i64 conf, .slice va votes.length vcap, .slice (some ⟨g, 0, none⟩) mat.length ccap, .slice none 0 0] 77) g c2 3).drew)
    case first =>
      go_region
      go_wp2
      all_goals
        go_meet
        refine congrArg World.drew (congrArg (fun c => putB _ g c 3) ?_)
        rw [← HSET.out]
        refine congrArg (fun v => cur.setIfInBounds j (Value.int .i64 v)) ?_
        omega
    case rest =>
      obtain rfl := hcut
      have bgW : (putB (putB w8 (w.heap.size + 2) #[.int .i64 j, .int .i64 count, .int .i64 epoch, .int .i64 voted, .int .i64 role, .slice a6 (log.length + 1) cap6, .int .i64 conf, .slice va votes.length vcap, .slice (some ⟨g, 0, none⟩) mat.length ccap, .slice none 0 0] 77) g c2 3).drew.heap[g]? = some (.cells c2 3 (0, 0)) := blk_drew (putB_blk _ _ _ _ (by simp [z3]))
      have bDW : (putB (putB w8 (w.heap.size + 2) #[.int .i64 j, .int .i64 count, .int .i64 epoch, .int .i64 voted, .int .i64 role, .slice a6 (log.length + 1) cap6, .int .i64 conf, .slice va votes.length vcap, .slice (some ⟨g, 0, none⟩) mat.length ccap, .slice none 0 0] 77) g c2 3).drew.heap[w.heap.size + 2]? = some (.cells #[.int .i64 j, .int .i64 count, .int .i64 epoch, .int .i64 voted, .int .i64 role, .slice a6 (log.length + 1) cap6, .int .i64 conf, .slice va votes.length vcap, .slice (some ⟨g, 0, none⟩) mat.length ccap, .slice none 0 0] 77 (0, 0)) := blk_drew ((putB_blk_ne _ _ _ _ _ hgd).trans (putB_blk _ _ _ _ (by simp [z2])))
      have kW : Kept (fun k => k = w.heap.size + 2) w6 (putB (putB w8 (w.heap.size + 2) #[.int .i64 j, .int .i64 count, .int .i64 epoch, .int .i64 voted, .int .i64 role, .slice a6 (log.length + 1) cap6, .int .i64 conf, .slice va votes.length vcap, .slice (some ⟨g, 0, none⟩) mat.length ccap, .slice none 0 0] 77) g c2 3).drew := ((k8.putM (b := w.heap.size + 2) rfl _ _).putN (b := g) hgD _ _).drew
      generalize (putB (putB w8 (w.heap.size + 2) #[.int .i64 j, .int .i64 count, .int .i64 epoch, .int .i64 voted, .int .i64 role, .slice a6 (log.length + 1) cap6, .int .i64 conf, .slice va votes.length vcap, .slice (some ⟨g, 0, none⟩) mat.length ccap, .slice none 0 0] 77) g c2 3).drew = W at *
      have bZW := kW.blk BZ6.out (fun h => by have h : w.heap.size + 1 = w.heap.size + 2 := h; omega)
      have KWW : Kept NoM w W := KW6'.out.trans' kW (fun i hi h => by have h : i = w.heap.size + 2 := h; omega)
      have K2 : Kept (ND (w.heap.size + 2) none) w6 W := kW.mono fun _ _ h => .inl h
      have rdW : RdInts W (ND (w.heap.size + 2) none) (.slice (some ⟨g, 0, none⟩) mat.length ccap) ms := by
        refine (OwnS.close1 (f := Value.int .i64) (fun x => rfl) bgW mat.length HML.out (by omega) (by omega) (by rw [HS2.out]; omega) HT2.out).rd ?_
        intro g' h
        cases h
        rintro (h | h | h)
        · omega
        · cases h
        · omega
      have dW : Deed W (w.heap.size + 2) none r1 [] := by
        rw [HR1.out]
        exact ⟨_, _, _, _, bDW, HLOG.out.kept K2, qvv.kept K2, rdW, OwnS.nil _ _ _ _, by simp⟩
      have dc1 := dW.c01.2
      have hW1 : r1.count = count ∧ r1.id = j ∧ r1.mat.length = mat.length ∧ r1.log.length ≤ 10000 := by
        rw [HR1.out]
        refine ⟨rfl, rfl, HML.out, ?_⟩
        have := HLL.out
        dsimp only
        omega
      have hset1 := settle_ok (w.heap.size + 2) none r1 [] W dW (by rw [hW1.2.2.1, hW1.1]; exact HMC.out) (by rw [hW1.1]; exact c1) (by rw [hW1.1]; omega) (by rw [HR1.out]; exact HMB.out) hW1.2.2.2
      have D2 : count = 1 → r2 = settleF r1 := fun h => by rw [HR2.out, if_pos h]
      have D3 : ¬ count = 1 → r2 = r1 := fun h => by rw [HR2.out, if_neg h]
      have cells1 : W.cell? ⟨w.heap.size + 2, 1, none⟩ = some (.int .i64 count) := by rw [← hW1.1]; exact dc1
      have HS1 := Lib.hid hset1
      have DW := Lib.hid dW
      have BZW := Lib.hid bZW
      have KWW' := Lib.hid KWW
      have r2c : r2.count = count ∧ r2.id = j := by
        have k := settleF_keeps r1
        by_cases h : count = 1
        · rw [D2 h, k.2.1, k.1]; exact ⟨hW1.1, hW1.2.1⟩
        · rw [D3 h]; exact ⟨hW1.1, hW1.2.1⟩
      have R2C := Lib.hid r2c
      clear bgW bDW kW bZW KWW K2 rdW dW dc1 hset1 hW1 z2 z3 k8 hcj hlj qvv r2c
      by_cases h1 : count = 1
      · have tb : (count == 1) = true := by rw [beq_iff_eq]; exact h1
        have D2' := Lib.hid (D2 h1)
        clear D2 D3 h1
        go_wp2_with fail
        refine HS1.out.mono ?_
        rintro e w9 ⟨rfl, O9, d9, k9, n9⟩
        rw [← D2'.out] at d9
        have DX := Lib.hid d9
        have KX := Lib.hid (KWW'.out.trans' k9 (fun i hi h => by
          rcases h with h | h
          · omega
          · cases h))
        have BZX := Lib.hid (k9.blk BZW.out (by
          rintro (h | h)
          · omega
          · cases h))
        have hOx : ∀ g, O9 = some g → w.heap.size + 2 < g := by
          intro g hg
          have := DW.out.lt.1
          rcases n9 with rfl | ⟨g', rfl, hg2⟩
          · cases hg
          · cases hg; omega
        clear d9 k9 n9
        go_wp2_with fail
        refine (others_ok _ r2.id r2.count (by rw [R2C.out.1]; omega) (by rw [R2C.out.1]; omega) _ DX.out.c01.1 DX.out.c01.2).mono ?_
        rintro e w2 ⟨v, Ov, rfl, own2, new2, k2⟩
        go_wp2_with fail
        refine (log_ok _ _ r2 [] _ (DX.out.kept0 k2) v (othersF r2.count.toNat r2.id) (own2.rdNew new2 DX.out.out) ?_ ?_ ?_ ?_ (by simp)).mono ?_
        · intro k hk
          have := othersF_mem hk
          have := HMC.out
          have := HML.out
          rw [SK.out.1]
          have := R2C.out.1
          omega
        · rw [SK.out.1, SK.out.2]; exact HMB.out
        · rw [SK.out.2]; have := HLL.out; omega
        · have := othersF_len r2.count.toNat r2.id; have := R2C.out.1; omega
        obtain ⟨ls3, hls3⟩ : ∃ ls3, ls3 = (othersF r2.count.toNat r2.id).map (logLet r2) := ⟨_, rfl⟩
        have hF3 := HF.out
        rw [show (othersF count.toNat (j : Int)).map (logLet r2) = ls3 by rw [hls3, R2C.out.1, R2C.out.2]] at hF3
        rw [List.nil_append, ← hls3]
        clear HF
        have HF := Lib.hid hF3
        clear hls3 hF3
        rintro e w3 ⟨rfl, O3, ⟨lv3, vv3, mv3, tv3, hb3', q1, q2, q3, q4, q5⟩, k3, n3⟩
        have hz3 := k3.size
        have hz2 := k2.size
        have hDx := DX.out.lt.1
        have KW3 : Kept NoM w w3 := (KX.out.trans k2).trans' k3 (fun i hi h => by
          rcases h with h | h
          · omega
          · have := hOx _ h.symm; omega)
        have bZ3 := (k2.blk BZX.out (fun x => x))
        have bZ3 := k3.blk bZ3 (by
          rintro (h | h)
          · omega
          · have := hOx _ h.symm; omega)
        have hO3 : ∀ g, O3 = some g → w.heap.size + 2 < g := by
          intro g hg
          rcases n3 with rfl | ⟨g', rfl, hg2⟩
          · exact hOx g hg
          · cases hg; omega
        obtain ⟨w4, e4, y1, y2⟩ : ∃ w4, w3 = putB (putB w4 (w.heap.size + 1) _ 32) (w.heap.size + 2) _ 77 ∧ w.heap.size + 1 < w4.heap.size ∧ w.heap.size + 2 < w4.heap.size := ⟨w3, expose2 bZ3 hb3', by omega, by omega⟩
        obtain ⟨la3, lcap3, rfl, _, _⟩ := q1.shape
        obtain ⟨va3, vcap3, rfl, _, _⟩ := q2.shape
        obtain ⟨ma3, mcap3, rfl, _, _⟩ := q3.shape
        obtain ⟨ta3, tcap3, rfl, _⟩ := q4.shape
        have Q1 := Lib.hid q1
        have Q2 := Lib.hid q2
        have Q3 := Lib.hid q3
        have Q4 := Lib.hid q4
        have KW3' := Lib.hid KW3
        clear q1 q2 q3 q4 q5 KW3 hb3' bZ3 hz3 hz2 n3 k3 k2 own2 new2
        subst e4
        go_wp2_with fail
        go_region
        all_goals go_wp2
        refine bodyPost_ret (v := .tuple #[.agg #[.int .i64 r2.id, .int .i64 r2.count, .int .i64 r2.epoch, .int .i64 r2.voted, .int .i64 r2.role, .slice la3 r2.log.length lcap3, .int .i64 r2.conf, .slice va3 r2.votes.length vcap3, .slice ma3 r2.mat.length mcap3], .slice ta3 ls3.length tcap3, .int .i64 0]) (by simp [results, Tryd.results26, go_sem, y1, y2]) rfl ?_
        rw [HF.out]
        exact hands3_of (D := w.heap.size + 2) Q1.out Q2.out Q3.out Q4.out hO3 (by omega) (kept_two (by omega)) (KW3'.out.trans' (kept_two (D := w.heap.size + 2) (by omega)) (fun i hi h => by rcases h with h | h <;> omega)) rfl
      · have tb : (count == 1) = false := by rw [beq_eq_false_iff_ne]; exact h1
        have dX := DW.out
        rw [← D3 h1] at dX
        have DX := Lib.hid dX
        have KX := KWW'
        have BZX := BZW
        have hOx : ∀ g, (none : Option Nat) = some g → w.heap.size + 2 < g := fun g hg => by cases hg
        clear D2 D3 h1 dX
        go_wp2_with fail
        refine (others_ok _ r2.id r2.count (by rw [R2C.out.1]; omega) (by rw [R2C.out.1]; omega) _ DX.out.c01.1 DX.out.c01.2).mono ?_
        rintro e w2 ⟨v, Ov, rfl, own2, new2, k2⟩
        go_wp2_with fail
        refine (log_ok _ _ r2 [] _ (DX.out.kept0 k2) v (othersF r2.count.toNat r2.id) (own2.rdNew new2 DX.out.out) ?_ ?_ ?_ ?_ (by simp)).mono ?_
        · intro k hk
          have := othersF_mem hk
          have := HMC.out
          have := HML.out
          rw [SK.out.1]
          have := R2C.out.1
          omega
        · rw [SK.out.1, SK.out.2]; exact HMB.out
        · rw [SK.out.2]; have := HLL.out; omega
        · have := othersF_len r2.count.toNat r2.id; have := R2C.out.1; omega
        obtain ⟨ls3, hls3⟩ : ∃ ls3, ls3 = (othersF r2.count.toNat r2.id).map (logLet r2) := ⟨_, rfl⟩
        have hF3 := HF.out
        rw [show (othersF count.toNat (j : Int)).map (logLet r2) = ls3 by rw [hls3, R2C.out.1, R2C.out.2]] at hF3
        rw [List.nil_append, ← hls3]
        clear HF
        have HF := Lib.hid hF3
        clear hls3 hF3
        rintro e w3 ⟨rfl, O3, ⟨lv3, vv3, mv3, tv3, hb3', q1, q2, q3, q4, q5⟩, k3, n3⟩
        have hz3 := k3.size
        have hz2 := k2.size
        have hDx := DX.out.lt.1
        have KW3 : Kept NoM w w3 := (KX.out.trans k2).trans' k3 (fun i hi h => by
          rcases h with h | h
          · omega
          · have := hOx _ h.symm; omega)
        have bZ3 := (k2.blk BZX.out (fun x => x))
        have bZ3 := k3.blk bZ3 (by
          rintro (h | h)
          · omega
          · have := hOx _ h.symm; omega)
        have hO3 : ∀ g, O3 = some g → w.heap.size + 2 < g := by
          intro g hg
          rcases n3 with rfl | ⟨g', rfl, hg2⟩
          · exact hOx g hg
          · cases hg; omega
        obtain ⟨w4, e4, y1, y2⟩ : ∃ w4, w3 = putB (putB w4 (w.heap.size + 1) _ 32) (w.heap.size + 2) _ 77 ∧ w.heap.size + 1 < w4.heap.size ∧ w.heap.size + 2 < w4.heap.size := ⟨w3, expose2 bZ3 hb3', by omega, by omega⟩
        obtain ⟨la3, lcap3, rfl, _, _⟩ := q1.shape
        obtain ⟨va3, vcap3, rfl, _, _⟩ := q2.shape
        obtain ⟨ma3, mcap3, rfl, _, _⟩ := q3.shape
        obtain ⟨ta3, tcap3, rfl, _⟩ := q4.shape
        have Q1 := Lib.hid q1
        have Q2 := Lib.hid q2
        have Q3 := Lib.hid q3
        have Q4 := Lib.hid q4
        have KW3' := Lib.hid KW3
        clear q1 q2 q3 q4 q5 KW3 hb3' bZ3 hz3 hz2 n3 k3 k2 own2 new2
        subst e4
        go_wp2_with fail
        go_region
        all_goals go_wp2
        refine bodyPost_ret (v := .tuple #[.agg #[.int .i64 r2.id, .int .i64 r2.count, .int .i64 r2.epoch, .int .i64 r2.voted, .int .i64 r2.role, .slice la3 r2.log.length lcap3, .int .i64 r2.conf, .slice va3 r2.votes.length vcap3, .slice ma3 r2.mat.length mcap3], .slice ta3 ls3.length tcap3, .int .i64 0]) (by simp [results, Tryd.results26, go_sem, y1, y2]) rfl ?_
        rw [HF.out]
        exact hands3_of (D := w.heap.size + 2) Q1.out Q2.out Q3.out Q4.out hO3 (by omega) (kept_two (by omega)) (KW3'.out.trans' (kept_two (D := w.heap.size + 2) (by omega)) (fun i hi h => by rcases h with h | h <;> omega)) rfl
end Go.Proofs.YtgohploghbimlaaDoor
