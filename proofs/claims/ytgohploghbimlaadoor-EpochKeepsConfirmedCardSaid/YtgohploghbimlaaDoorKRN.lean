/- Texts that belong together: RN, RM. -/
import Derived.Test.YtgohploghbimlaaDoorKRH
import Derived.Test.YtgohploghbimlaaDoorKPlain
import Derived.Test.YtgohploghbimlaaDoorKRE
import Derived.Test.YtgohploghbimlaaDoorKRF
import Derived.Test.YtgohploghbimlaaDoorKRK
set_option linter.unusedVariables false
set_option linter.unusedSimpArgs false
set_option linter.unusedSectionVars false
/- Walks of the specification: Propose. -/
namespace Go.Proofs.YtgohploghbimlaaDoor
open Go.RowKit
set_option maxHeartbeats 1000000
set_option maxRecDepth 4000

theorem rpropose_not (r : Rep) (tx : ByteArray) (lv vv mv : Value) (M : Nat → Prop) (w : World) (hlv : RdItems w M lv r.log) (hvv : RdBools w M vv r.votes) (hmv : RdInts w M mv r.mat) (h3 : r.role ≠ 3) :
    Calls Tryd.prog 27 #[.agg #[.int .i64 r.id, .int .i64 r.count, .int .i64 r.epoch, .int .i64 r.voted, .int .i64 r.role, lv, .int .i64 r.conf, vv, mv], .string tx] w (RSent M w (proposeF r tx).1 (proposeF r tx).2.1 22) := by
  obtain ⟨la, lcap, rfl, hlc, hlm⟩ := hlv.shape
  obtain ⟨va, vcap, rfl, _, _⟩ := hvv.shape
  obtain ⟨ma, mcap, rfl, _, _⟩ := hmv.shape
  have K2 : ∀ a b, Kept NoM w ((w.alloc a).alloc b) := fun a b => ((Kept.refl NoM w).alloc a).alloc b
  have HF := Lib.hid (show proposeF r tx = (r, [], 0) by unfold proposeF; rw [if_pos h3])
  have t1 : (r.role != 3) = true := by rw [bne_iff_ne]; exact h3
  clear h3
  go_enter Tryd.func27, Tryd.ntmps27
  go_wp2_with fail
  refine bodyPost_ret (v := .agg #[.int .i64 r.id, .int .i64 r.count, .int .i64 r.epoch, .int .i64 r.voted, .int .i64 r.role, .slice la r.log.length lcap, .int .i64 r.conf, .slice va r.votes.length vcap, .slice ma r.mat.length mcap, .slice none 0 0, .int .i64 22]) (by simp [results, Tryd.results27, go_sem]) rfl ?_
  rw [HF.out]
  exact ⟨_, _, _, _, rfl, hlv.step (K2 _ _).of_no (fun _ _ x => x.2), hvv.step (K2 _ _).of_no (fun _ _ x => x.2), hmv.step (K2 _ _).of_no (fun _ _ x => x.2), RdLets.nil _ _, K2 _ _⟩

theorem rpropose_full (r : Rep) (tx : ByteArray) (lv vv mv : Value) (M : Nat → Prop) (w : World) (hlv : RdItems w M lv r.log) (hvv : RdBools w M vv r.votes) (hmv : RdInts w M mv r.mat) (h3 : r.role = 3) (hs : (tx.size : Int) > 8000 ∨ r.log.length ≥ 1000) :
    Calls Tryd.prog 27 #[.agg #[.int .i64 r.id, .int .i64 r.count, .int .i64 r.epoch, .int .i64 r.voted, .int .i64 r.role, lv, .int .i64 r.conf, vv, mv], .string tx] w (RSent M w (proposeF r tx).1 (proposeF r tx).2.1 2) := by
  obtain ⟨la, lcap, rfl, hlc, hlm⟩ := hlv.shape
  obtain ⟨va, vcap, rfl, _, _⟩ := hvv.shape
  obtain ⟨ma, mcap, rfl, _, _⟩ := hmv.shape
  have K2 : ∀ a b, Kept NoM w ((w.alloc a).alloc b) := fun a b => ((Kept.refl NoM w).alloc a).alloc b
  have HF := Lib.hid (show proposeF r tx = (r, [], 0) by unfold proposeF; rw [if_neg (by omega), if_pos hs])
  have t1 : (r.role != 3) = false := by rw [bne_eq_false_iff_eq]; exact h3
  clear h3
  have fin : RSent M w (proposeF r tx).1 (proposeF r tx).2.1 2 (.returned (.agg #[.int .i64 r.id, .int .i64 r.count, .int .i64 r.epoch, .int .i64 r.voted, .int .i64 r.role, .slice la r.log.length lcap, .int .i64 r.conf, .slice va r.votes.length vcap, .slice ma r.mat.length mcap, .slice none 0 0, .int .i64 2])) ((w.alloc (.cells #[.int .i64 r.id, .int .i64 r.count, .int .i64 r.epoch, .int .i64 r.voted, .int .i64 r.role, .slice la r.log.length lcap, .int .i64 r.conf, .slice va r.votes.length vcap, .slice ma r.mat.length mcap] 32 (0, 0))).alloc (.cells #[.int .i64 r.id, .int .i64 r.count, .int .i64 r.epoch, .int .i64 r.voted, .int .i64 r.role, .slice la r.log.length lcap, .int .i64 r.conf, .slice va r.votes.length vcap, .slice ma r.mat.length mcap, .slice none 0 0, .int .i64 2] 62 (0, 0))) := by
    rw [HF.out]
    exact ⟨_, _, _, _, rfl, hlv.step (K2 _ _).of_no (fun _ _ x => x.2), hvv.step (K2 _ _).of_no (fun _ _ x => x.2), hmv.step (K2 _ _).of_no (fun _ _ x => x.2), RdLets.nil _ _, K2 _ _⟩
  have FIN := Lib.hid fin
  clear fin
  by_cases h8 : (tx.size : Int) > 8000
  · go_enter Tryd.func27, Tryd.ntmps27
    go_wp2_with fail
    refine bodyPost_ret (v := .agg #[.int .i64 r.id, .int .i64 r.count, .int .i64 r.epoch, .int .i64 r.voted, .int .i64 r.role, .slice la r.log.length lcap, .int .i64 r.conf, .slice va r.votes.length vcap, .slice ma r.mat.length mcap, .slice none 0 0, .int .i64 2]) (by simp [results, Tryd.results27, go_sem]) rfl ?_
    exact FIN.out
  · have u1 := decide_eq_false h8
    have u2 : decide (8000 < tx.size) = false := decide_eq_false (by omega)
    have u3 : (r.log.length : Int) ≥ 1000 := by omega
    have u4 : 1000 ≤ r.log.length := by omega
    go_enter Tryd.func27, Tryd.ntmps27
    go_wp2_with fail
    refine bodyPost_ret (v := .agg #[.int .i64 r.id, .int .i64 r.count, .int .i64 r.epoch, .int .i64 r.voted, .int .i64 r.role, .slice la r.log.length lcap, .int .i64 r.conf, .slice va r.votes.length vcap, .slice ma r.mat.length mcap, .slice none 0 0, .int .i64 2]) (by simp [results, Tryd.results27, go_sem]) rfl ?_
    exact FIN.out

theorem rpropose_yes (r : Rep) (tx : ByteArray) (lv vv mv : Value) (M : Nat → Prop) (w : World) (hlv : RdItems w M lv r.log) (hvv : RdBools w M vv r.votes) (hmv : RdInts w M mv r.mat) (hr : Valid r) (h3 : r.role = 3) (hs1 : ¬ (tx.size : Int) > 8000) (hs2 : ¬ r.log.length ≥ 1000) :
    Calls Tryd.prog 27 #[.agg #[.int .i64 r.id, .int .i64 r.count, .int .i64 r.epoch, .int .i64 r.voted, .int .i64 r.role, lv, .int .i64 r.conf, vv, mv], .string tx] w (RSent M w (proposeF r tx).1 (proposeF r tx).2.1 0) := by
  have hm := hr.mat
  rw [if_pos h3] at hm
  have hmat := hr.match_
  have hc1 := hr.count1
  have hc7 := hr.count7
  have hi0 := hr.id0
  have hi1 := hr.id1
  have hf0 := hr.cf0
  obtain ⟨id, count, epoch, voted, role, log, conf, votes, mat⟩ := r
  simp only at *
  obtain ⟨j, rfl⟩ := Int.eq_ofNat_of_zero_le hi0
  obtain ⟨lg, hlg⟩ : ∃ lg : List Item, lg = log ++ [⟨epoch, tx⟩] := ⟨_, rfl⟩
  have hlgl : lg.length = log.length + 1 := by rw [hlg]; simp
  obtain ⟨ms, hms⟩ : ∃ ms : List Int, ms = mat.set j ((log.length : Int) + 1) := ⟨_, rfl⟩
  have hmsl : ms.length = mat.length := by rw [hms]; simp
  have hmsb : ∀ x ∈ ms, 0 ≤ x ∧ x ≤ lg.length := by
    intro x hx
    rw [hms] at hx
    rcases List.mem_or_eq_of_mem_set hx with h | h
    · have := hmat x h; omega
    · omega
  obtain ⟨cf, hcf⟩ : ∃ cf : Int, cf = if count = 1 then (lg.length : Int) else conf := ⟨_, rfl⟩
  have hF : proposeF ⟨j, count, epoch, voted, role, log, conf, votes, mat⟩ tx = (⟨j, count, epoch, voted, role, lg, cf, votes, ms⟩, (othersF count.toNat j).map (logLet ⟨j, count, epoch, voted, role, lg, cf, votes, ms⟩), 0) := by
    unfold proposeF
    rw [if_neg (show ¬ role ≠ 3 from fun h => h h3), if_neg (show ¬ ((tx.size : Int) > 8000 ∨ log.length ≥ 1000) by omega)]
    simp only [Int.toNat_natCast]
    rw [← hlg, hlgl, show ((log.length + 1 : Nat) : Int) = (log.length : Int) + 1 by omega, ← hms, hcf]
    by_cases h1 : count = 1
    · simp only [h1, if_true]; unfold settleF; simp only [if_true]
    · simp only [h1, if_false]
  have HF := Lib.hid hF
  have HMS := Lib.hid hms
  have HML := Lib.hid hmsl
  have HMB := Lib.hid hmsb
  have HCF := Lib.hid hcf
  have HLG := Lib.hid hlg
  have HLL := Lib.hid hlgl
  have HM := Lib.hid hm
  have t1 : (role != 3) = false := by rw [bne_eq_false_iff_eq]; exact h3
  have u1 := decide_eq_false hs1
  have u2 : decide (8000 < tx.size) = false := decide_eq_false (by omega)
  have u3 : decide ((1000 : Int) ≤ (log.length : Int)) = false := decide_eq_false (by omega)
  have u4 : decide (1000 ≤ log.length) = false := decide_eq_false (by omega)
  clear hF hms hmsl hmsb hcf hlg hlgl hm hmat h3 hr
  obtain ⟨la, lcap, rfl, hlc, hlm⟩ := hlv.shape
  obtain ⟨va, vcap, rfl, _, _⟩ := hvv.shape
  obtain ⟨ma, mcap, rfl, _, _⟩ := hmv.shape
  have K2 : ∀ a b, Kept NoM w ((w.alloc a).alloc b) := fun a b => ((Kept.refl NoM w).alloc a).alloc b
  have hlw : ∀ a b, RdS ((w.alloc a).alloc b) NoM 2 EItem (.slice la log.length lcap) log := fun a b => hlv.any.kept (K2 a b)
  go_enter Tryd.func27, Tryd.ntmps27
  go_upto_region 7 with (at_builtin; go_loud (refine wpList_append_S (M := NoM) rfl (.tmp 23) (.tmp 25) 28 rfl 24 tyItems _ rfl (OwnS.nil _ _ _ _) _ rfl (hlw _ _) eItem_one 0 log.length rfl rfl (by unfold maxLen; omega) (by omega) ?_; rw [Nat.zero_add, List.nil_append]; intro a1 cap1 w1 O1 own1 k1 n1))
  have k1' : Kept NoM _ w1 := k1.mono (fun _ _ h => by cases h)
  have hO1 : ∀ g, O1 = some g → w.heap.size + 2 ≤ g := by
    intro g hg
    rcases n1 with h | ⟨g', h, hg2⟩
    · rw [h] at hg; cases hg
    · rw [h] at hg; cases hg; simpa using hg2
  have b0 := k1'.blk (k := w.heap.size) (blk_old (blk_new' w _ w.heap.size rfl) _) (fun x => x)
  have b1 := k1'.blk (k := w.heap.size + 1) (blk_new' _ _ _ (by simp)) (fun x => x)
  have K1 := (K2 _ _).trans k1'
  have c02 := cell_blk b0 2 _ rfl
  have hz1 := lt_of_block b1
  have B0 := Lib.hid b0
  have B1 := Lib.hid b1
  clear k1 k1' n1 b0 b1
  have hoo : ∀ o, OwnS (w1.alloc o) O1 45 2 EItem (.slice a1 log.length cap1) log := fun o => own1.kept ((Kept.refl NoM w1).alloc o) (fun _ _ h => h) (fun _ _ h => h)
  have hrd : RdS (w1.alloc (.cells #[.int .i64 epoch, .string tx] 45 (0, 0))) NoM 2 EItem (.slice (some ⟨w1.heap.size, 0, none⟩) 1 1) [(⟨epoch, tx⟩ : Item)] := rd_one (x := (⟨epoch, tx⟩ : Item)) (blk_new' _ _ _ rfl) (fun h => h) rfl rfl
  go_upto_region 8 with (at_builtin; go_loud (refine wpList_append_S (M := NoM) rfl (.tmp 27) (.tmp 32) 28 rfl 24 tyItems _ rfl (hoo _) _ rfl hrd eItem_one log.length 1 rfl rfl (by unfold maxLen; omega) (by omega) ?_; intro a2 cap2 w2 O2 own2 k2 n2))
  have k2' : Kept (fun k => some k = O1) w1 w2 := (((Kept.refl NoM w1).alloc _).of_no).trans k2
  have hO2 : ∀ g, O2 = some g → w.heap.size + 2 ≤ g := by
    intro g hg
    rcases n2 with rfl | ⟨g', rfl, hg2⟩
    · exact hO1 g hg
    · cases hg; simp at hg2; omega
  have b0 := k2'.blk B0.out (fun h => by have := hO1 _ h.symm; omega)
  have b1 := k2'.blk B1.out (fun h => by have := hO1 _ h.symm; omega)
  have K2w : Kept NoM w w2 := K1.trans' k2' (fun i hi h => by have := hO1 i h.symm; omega)
  have own2 : OwnS w2 O2 45 2 EItem (.slice a2 (log.length + 1) cap2) lg := by rw [HLG.out]; exact own2
  obtain ⟨w3, e3, z30, z31, y31, K3w, own3⟩ : ∃ w3, w2 = putB w3 w.heap.size _ 32 ∧ w.heap.size < w3.heap.size ∧ w.heap.size + 1 < w3.heap.size ∧ w3.heap[w.heap.size + 1]? = some _ ∧ Kept NoM w w3 ∧ OwnS w3 O2 45 2 EItem (.slice a2 (log.length + 1) cap2) lg := ⟨w2, putB_self b0, lt_of_block b0, lt_of_block b1, b1, K2w, own2⟩
  have hmw : ∀ c, RdS (putB w3 w.heap.size c 32) NoM 1 EInt (.slice ma mat.length mcap) mat := fun c => hmv.any.kept (K3w.putN (by omega) c 32)
  have Y31 := Lib.hid y31
  clear b0 b1 k2 k2' own2 own1 K2w hoo hrd c02 B0 B1 n2 y31
  subst e3
  have hml7 : mat.length ≤ 7 := by have := HM.out; omega
  go_upto_region 11 with (at_builtin; go_loud (refine wpList_append_S (M := NoM) rfl (.tmp 36) (.tmp 38) 30 rfl 8 tyInts _ rfl (OwnS.nil _ _ _ _) _ rfl (hmw _) eInt_one 0 mat.length rfl rfl (by unfold maxLen; omega) (by omega) ?_; rw [Nat.zero_add, List.nil_append]; intro a3 cap3 w4 O3 own4 k4 n4))
  have k4' : Kept NoM _ w4 := k4.mono (fun _ _ h => by cases h)
  obtain ⟨g, gcap, cur, e1, rfl, hg, hgc, hgm, hgs, hgt⟩ := own4.open1 (f := Value.int .i64) (fun c x h => h) (by have := HM.out; omega)
  simp only [Value.slice.injEq] at e1
  obtain ⟨rfl, _, rfl⟩ := e1
  have hgD : w3.heap.size ≤ g := by
    rcases n4 with h | ⟨g', h, hg2⟩
    · cases h
    · cases h; simpa using hg2
  have b0 := k4'.blk (putB_blk w3 w.heap.size #[.int .i64 j, .int .i64 count, .int .i64 epoch, .int .i64 voted, .int .i64 role, .slice a2 (log.length + 1) cap2, .int .i64 conf, .slice va votes.length vcap, .slice ma mat.length mcap] 32 z30) (fun x => x)
  have b1 := k4'.blk ((putB_blk_ne w3 w.heap.size (w.heap.size + 1) #[.int .i64 j, .int .i64 count, .int .i64 epoch, .int .i64 voted, .int .i64 role, .slice a2 (log.length + 1) cap2, .int .i64 conf, .slice va votes.length vcap, .slice ma mat.length mcap] 32 (by omega)).trans Y31.out) (fun x => x)
  have K4w : Kept NoM w w4 := (K3w.putN (by omega) _ _).trans k4'
  have own4b : OwnS w4 O2 45 2 EItem (.slice a2 (log.length + 1) cap2) lg := own3.kept (((Kept.refl (fun i => i = w.heap.size) w3).putM (b := w.heap.size) rfl _ 32).trans k4'.of_no) (fun g hg h => by have := hO2 g hg; omega) (fun _ _ h => h)
  have hO2g : ∀ g', O2 = some g' → g' < w3.heap.size := own3.lt
  obtain ⟨w5, e5, z50, z51, z5g, y51, K5w, own5⟩ : ∃ w5, w4 = putB (putB w5 w.heap.size _ 32) g cur 3 ∧ w.heap.size < w5.heap.size ∧ w.heap.size + 1 < w5.heap.size ∧ g < w5.heap.size ∧ w5.heap[w.heap.size + 1]? = some _ ∧ Kept NoM w w5 ∧ OwnS w5 O2 45 2 EItem (.slice a2 (log.length + 1) cap2) lg := ⟨w4, expose2a b0 hg, lt_of_block b0, lt_of_block b1, lt_of_block hg, b1, K4w, own4b⟩
  clear b0 b1 hg k4 k4' n4 own4 own3 K4w own4b
  subst e5
  have lg0 : w.heap.size < g := by omega
  have ng0 : ¬ w.heap.size = g := by omega
  have hjm : j < mat.length := by have := HM.out; omega
  have hjv : (j : Int) < mat.length := by omega
  have hlj : mat.length ≤ cur.size := by omega
  obtain ⟨y0, hy0⟩ := get_at hjm
  have hcj := take_at hgt hy0
  obtain ⟨c2, hset⟩ : ∃ c2, cur.setIfInBounds j (Value.int .i64 ((log.length : Int) + 1)) = c2 := ⟨_, rfl⟩
  have ht2 : c2.toList.take mat.length = ms.map (Value.int .i64) := by
    rw [← hset, HMS.out]; exact take_set hgt j _
  have hs2 : c2.size = cap3 := by rw [← hset]; simp [hgs]
  have HT2 := Lib.hid ht2
  have HS2 := Lib.hid hs2
  clear hgt hgs ht2 hs2 hy0 hmw
  go_upto_region 13 with fail
  have NM : ∀ i, i < w.heap.size → (i = w.heap.size + 1 ∨ (i < w.heap.size ∧ M i)) → M i := fun i hi h => by
    rcases h with h | h
    · omega
    · exact h.2
  have KE : ∀ a c, Kept NoM w (putB (putB w5 w.heap.size a 32) g c 3) := fun a c => (K5w.putN (b := w.heap.size) (by omega) a 32).putN (b := g) (by omega) c 3
  have BE : ∀ a c, (putB (putB w5 w.heap.size a 32) g c 3).heap[w.heap.size + 1]? = some (.cells #[.int .i64 0, .int .i64 0, .int .i64 0, .int .i64 0, .int .i64 0, .slice none 0 0, .int .i64 0, .slice none 0 0, .slice none 0 0, .slice none 0 0, .int .i64 0] 62 (0, 0)) := fun a c => (putB_blk_ne _ _ _ _ _ (by omega)).trans ((putB_blk_ne _ _ _ _ _ (by omega)).trans y51)
  have rdI : ∀ a, RdInts (putB (putB w5 w.heap.size a 32) g c2 3) (fun i => i = w.heap.size + 1 ∨ (i < w.heap.size ∧ M i)) (.slice (some ⟨g, 0, none⟩) mat.length cap3) ms := fun a => by
    refine (OwnS.close1 (f := Value.int .i64) (fun x => rfl) (putB_blk _ _ _ _ (by simp only [putB_size]; omega)) mat.length HML.out hgc hgm HS2.out HT2.out).rd ?_
    intro g' h
    cases h
    rintro (h | h) <;> omega
  have rdL : ∀ a, RdItems (putB (putB w5 w.heap.size a 32) g c2 3) (fun i => i = w.heap.size + 1 ∨ (i < w.heap.size ∧ M i)) (.slice a2 (log.length + 1) cap2) lg := fun a => by
    have h1 : RdItems w5 (fun i => i < w.heap.size + 2 ∨ i = g) (.slice a2 (log.length + 1) cap2) lg := own5.rd (M := fun i => i < w.heap.size + 2 ∨ i = g) (fun g' hg h => by
      have h2 := hO2 g' hg
      have h3 := hO2g g' hg
      rcases h with h | h <;> omega)
    refine (h1.kept (((Kept.refl (fun i => i < w.heap.size + 2 ∨ i = g) w5).putM (b := w.heap.size) (.inl (show w.heap.size < w.heap.size + 2 by omega)) a 32).putM (b := g) (.inr rfl) c2 3)).mono (fun i _ h => ?_)
    rcases h with h | h
    · exact .inl (show i < w.heap.size + 2 by omega)
    · exact .inl (show i < w.heap.size + 2 by omega)
  have hmm := HM.out
  by_cases hk1 : count = 1
  · have t5 : (count == 1) = true := by rw [beq_iff_eq]; exact hk1
    have hcf2 : cf = (log.length : Int) + 1 := by rw [HCF.out, if_pos hk1, HLL.out]; omega
    have hF2 : proposeF ⟨j, count, epoch, voted, role, log, conf, votes, mat⟩ tx = (⟨j, count, epoch, voted, role, lg, ((log.length : Int) + 1), votes, ms⟩, (othersF count.toNat j).map (logLet ⟨j, count, epoch, voted, role, lg, ((log.length : Int) + 1), votes, ms⟩), 0) := by rw [HF.out, hcf2]
    obtain ⟨ls, hls⟩ : ∃ ls, ls = (othersF count.toNat j).map (logLet ⟨j, count, epoch, voted, role, lg, ((log.length : Int) + 1), votes, ms⟩) := ⟨_, rfl⟩
    have ta := fun a => toAll_ok ⟨j, count, epoch, voted, role, lg, ((log.length : Int) + 1), votes, ms⟩ (.slice a2 (log.length + 1) cap2) (.slice va votes.length vcap) (.slice (some ⟨g, 0, none⟩) mat.length cap3) _ (putB (putB w5 w.heap.size a 32) g c2 3) (rdL a) (hvv.step (KE _ _).of_no NM) (rdI a) (by dsimp only; omega) (by dsimp only; omega) (by dsimp only; rw [HML.out]; exact hmm) HMB.out (by dsimp only; rw [HLL.out]; omega)
    rw [← hls] at ta hF2
    dsimp only at ta
    have TA := Lib.hid ta
    have HF2 := Lib.hid hF2
    clear ta hF2 hcf2 hls hmm rdL rdI own5
    clear hk1
    go_wp2_with fail
    refine (TA.out _).mono ?_
    intro e w6 hs
    obtain ⟨la6, lc6, va6, vc6, ma6, mc6, ta6, tc6, e6, hB6, k6, fin⟩ := hs.store (KE _ _) (by simp only [putB_size]; omega) (by omega)
    subst e6
    have b6 := k6.blk (k := w.heap.size + 1) (BE _ _) (fun x => x)
    obtain ⟨w7, e7, z7, fin7⟩ : ∃ w7, w6 = putB w7 (w.heap.size + 1) _ 62 ∧ w.heap.size + 1 < w7.heap.size ∧ ∀ c t, RSent _ w _ _ _ _ (putB w7 (w.heap.size + 1) c t) := ⟨w6, putB_self b6, hB6, fin⟩
    subst e7
    clear fin b6
    go_wp2_with fail
    refine bodyPost_ret (v := .agg #[.int .i64 j, .int .i64 count, .int .i64 epoch, .int .i64 voted, .int .i64 role, .slice la6 lg.length lc6, .int .i64 ((log.length : Int) + 1), .slice va6 votes.length vc6, .slice ma6 ms.length mc6, .slice ta6 ls.length tc6, .int .i64 0]) (by simp [results, Tryd.results27, go_sem, z7]) rfl ?_
    rw [HF2.out]
    exact (fin7 _ _).weak
  · have t5 : (count == 1) = false := by rw [beq_eq_false_iff_ne]; exact hk1
    have hcf2 : cf = conf := by rw [HCF.out, if_neg hk1]
    have hF2 : proposeF ⟨j, count, epoch, voted, role, log, conf, votes, mat⟩ tx = (⟨j, count, epoch, voted, role, lg, conf, votes, ms⟩, (othersF count.toNat j).map (logLet ⟨j, count, epoch, voted, role, lg, conf, votes, ms⟩), 0) := by rw [HF.out, hcf2]
    obtain ⟨ls, hls⟩ : ∃ ls, ls = (othersF count.toNat j).map (logLet ⟨j, count, epoch, voted, role, lg, conf, votes, ms⟩) := ⟨_, rfl⟩
    have ta := fun a => toAll_ok ⟨j, count, epoch, voted, role, lg, conf, votes, ms⟩ (.slice a2 (log.length + 1) cap2) (.slice va votes.length vcap) (.slice (some ⟨g, 0, none⟩) mat.length cap3) _ (putB (putB w5 w.heap.size a 32) g c2 3) (rdL a) (hvv.step (KE _ _).of_no NM) (rdI a) (by dsimp only; omega) (by dsimp only; omega) (by dsimp only; rw [HML.out]; exact hmm) HMB.out (by dsimp only; rw [HLL.out]; omega)
    rw [← hls] at ta hF2
    dsimp only at ta
    have TA := Lib.hid ta
    have HF2 := Lib.hid hF2
    clear ta hF2 hcf2 hls hmm rdL rdI own5
    clear hk1
    go_wp2_with fail
    refine (TA.out _).mono ?_
    intro e w6 hs
    obtain ⟨la6, lc6, va6, vc6, ma6, mc6, ta6, tc6, e6, hB6, k6, fin⟩ := hs.store (KE _ _) (by simp only [putB_size]; omega) (by omega)
    subst e6
    have b6 := k6.blk (k := w.heap.size + 1) (BE _ _) (fun x => x)
    obtain ⟨w7, e7, z7, fin7⟩ : ∃ w7, w6 = putB w7 (w.heap.size + 1) _ 62 ∧ w.heap.size + 1 < w7.heap.size ∧ ∀ c t, RSent _ w _ _ _ _ (putB w7 (w.heap.size + 1) c t) := ⟨w6, putB_self b6, hB6, fin⟩
    subst e7
    clear fin b6
    go_wp2_with fail
    refine bodyPost_ret (v := .agg #[.int .i64 j, .int .i64 count, .int .i64 epoch, .int .i64 voted, .int .i64 role, .slice la6 lg.length lc6, .int .i64 conf, .slice va6 votes.length vc6, .slice ma6 ms.length mc6, .slice ta6 ls.length tc6, .int .i64 0]) (by simp [results, Tryd.results27, go_sem, z7]) rfl ?_
    rw [HF2.out]
    exact (fin7 _ _).weak
end Go.Proofs.YtgohploghbimlaaDoor

/- Walks of the specification: Handle. -/
namespace Go.Proofs.YtgohploghbimlaaDoor
open Go.RowKit
set_option maxHeartbeats 1000000
set_option maxRecDepth 4000

theorem rvote_ok (r : Rep) (m : Let) (iv : Value) (lv vv mv : Value) (M : Nat → Prop) (w : World) (hlv : RdItems w M lv r.log) (hvv : RdBools w M vv r.votes) (hmv : RdInts w M mv r.mat) (hiv : RdItems w NoM iv m.items) (hr : Valid r) (hs0 : 0 ≤ m.src) (hs1 : m.src < r.count) :
    Calls Tryd.prog 55 #[.agg #[.int .i64 r.id, .int .i64 r.count, .int .i64 r.epoch, .int .i64 r.voted, .int .i64 r.role, lv, .int .i64 r.conf, vv, mv], .agg #[.int .i64 m.kind, .int .i64 m.src, .int .i64 m.dst, .int .i64 m.ep, .int .i64 m.pos, .int .i64 m.aep, iv, .int .i64 m.conf, .bool m.yes]] w (RSent M w (voteF r m).1 (voteF r m).2 0) := by
  by_cases hno : r.role ≠ 2 ∨ m.ep ≠ r.epoch ∨ m.yes = false
  · exact rvote_no r m iv lv vv mv M w hlv hvv hmv hiv hno
  · have hv := hr.votes
    have h2 : r.role = 2 := by
      rcases Decidable.em (r.role = 2) with h | h
      · exact h
      · exact absurd (.inl h) hno
    rw [if_pos h2] at hv
    have c1 := hr.count1
    have c7 := hr.count7
    refine rvote_yes r m iv lv vv mv M w hlv hvv hmv hiv h2 ?_ ?_ hs0 (by omega) (by omega) hr.count1 (by omega) hr.id0 hr.id1 hr.cf0 (by have := hr.len; omega)
    · rcases Decidable.em (m.ep = r.epoch) with h | h
      · exact h
      · exact absurd (.inr (.inl h)) hno
    · cases hy : m.yes
      · exact absurd (.inr (.inr hy)) hno
      · rfl
theorem rreply_ok (r : Rep) (m : Let) (iv : Value) (lv vv mv : Value) (M : Nat → Prop) (w : World) (hlv : RdItems w M lv r.log) (hvv : RdBools w M vv r.votes) (hmv : RdInts w M mv r.mat) (hiv : RdItems w NoM iv m.items) (hr : Valid r) (hs0 : 0 ≤ m.src) (hs1 : m.src < r.count) (hsi : m.src ≠ r.id) (hp0 : 0 ≤ m.pos) :
    Calls Tryd.prog 57 #[.agg #[.int .i64 r.id, .int .i64 r.count, .int .i64 r.epoch, .int .i64 r.voted, .int .i64 r.role, lv, .int .i64 r.conf, vv, mv], .agg #[.int .i64 m.kind, .int .i64 m.src, .int .i64 m.dst, .int .i64 m.ep, .int .i64 m.pos, .int .i64 m.aep, iv, .int .i64 m.conf, .bool m.yes]] w (RSent M w (replyF r m).1 (replyF r m).2 0) := by
  by_cases hno : r.role ≠ 3 ∨ m.ep ≠ r.epoch ∨ m.yes = false
  · exact rreply_no r m iv lv vv mv M w hlv hvv hmv hiv hno
  · refine rreply_yes r m iv lv vv mv M w hlv hvv hmv hiv hr ?_ ?_ ?_ hs0 hs1 hsi hp0
    · rcases Decidable.em (r.role = 3) with h | h
      · exact h
      · exact absurd (.inl h) hno
    · rcases Decidable.em (m.ep = r.epoch) with h | h
      · exact h
      · exact absurd (.inr (.inl h)) hno
    · cases hy : m.yes
      · exact absurd (.inr (.inr hy)) hno
      · rfl
theorem rappend_ok (r : Rep) (m : Let) (iv : Value) (lv vv mv : Value) (M : Nat → Prop) (w : World) (hlv : RdItems w M lv r.log) (hvv : RdBools w M vv r.votes) (hmv : RdInts w M mv r.mat) (hiv : RdItems w NoM iv m.items) (hr : Valid r) (hp0 : 0 ≤ m.pos) (hpa : m.pos > 0 ∨ m.aep = 0) (hil : m.items.length ≤ 1000) :
    Calls Tryd.prog 56 #[.agg #[.int .i64 r.id, .int .i64 r.count, .int .i64 r.epoch, .int .i64 r.voted, .int .i64 r.role, lv, .int .i64 r.conf, vv, mv], .agg #[.int .i64 m.kind, .int .i64 m.src, .int .i64 m.dst, .int .i64 m.ep, .int .i64 m.pos, .int .i64 m.aep, iv, .int .i64 m.conf, .bool m.yes]] w (RSent M w (appendF r m).1 (appendF r m).2 0) := by
  by_cases he : m.ep < r.epoch
  · exact rappend_old r m iv lv vv mv M w hlv hvv hmv hiv he
  by_cases h3 : r.role = 3
  · exact rappend_lead r m iv lv vv mv M w hlv hvv hmv hiv he h3
  by_cases hl : (r.log.length : Int) < m.pos
  · exact rappend_less r m iv lv vv mv M w hlv hvv hmv hiv he h3 hl
  obtain ⟨p, hp⟩ := Int.eq_ofNat_of_zero_le hp0
  have hF : lastF (r.log.take m.pos.toNat) = m.aep → appendF r m = ({ followF r with log := appLoop p m.items 0 r.log, conf := min (max r.conf (min m.conf (p + m.items.length))) (appLoop p m.items 0 r.log).length }, [{ kind := 4, src := r.id, dst := m.src, ep := r.epoch, pos := p + m.items.length, aep := 0, items := [], conf := 0, yes := true }]) := by
    intro h
    unfold appendF
    rw [if_neg he, if_neg h3]
    simp only
    rw [if_neg (by rintro (h1 | h1)
                   · exact hl h1
                   · exact h1 h)]
    rw [appendLog_loop r m hp0 (by omega), hp]
    simp only [Int.toNat_natCast]
  rcases Nat.eq_zero_or_pos p with h0 | h0
  · exact rappend_walk r m iv lv vv mv M w hlv hvv hmv hiv he h3 hr.len p hp (by omega) hil (.inl h0) (hF (by rw [hp, h0]; simp [lastF]; omega))
  · obtain ⟨q, rfl⟩ : ∃ q, p = q + 1 := ⟨p - 1, by omega⟩
    obtain ⟨x0, hx0⟩ := get_at (xs := r.log) (k := q) (by omega)
    by_cases hne : x0.ep = m.aep
    · exact rappend_walk r m iv lv vv mv M w hlv hvv hmv hiv he h3 hr.len (q + 1) hp (by omega) hil (.inr ⟨x0, q, rfl, hx0, hne⟩) (hF (by rw [hp, Int.toNat_natCast, lastF_take hx0]; exact hne))
    · exact rappend_diff r m iv lv vv mv M w hlv hvv hmv hiv he h3 hr.len q (by omega) x0 hx0 hne

theorem rhandle_no (r : Rep) (m : Let) (iv : Value) (lv vv mv : Value) (M : Nat → Prop) (w : World) (hlv : RdItems w M lv r.log) (hvv : RdBools w M vv r.votes) (hmv : RdInts w M mv r.mat) (hiv : RdItems w NoM iv m.items) (hil : m.items.length ≤ 1000000) (hf : fineF r m = false) :
    Calls Tryd.prog 25 #[.agg #[.int .i64 r.id, .int .i64 r.count, .int .i64 r.epoch, .int .i64 r.voted, .int .i64 r.role, lv, .int .i64 r.conf, vv, mv], .agg #[.int .i64 m.kind, .int .i64 m.src, .int .i64 m.dst, .int .i64 m.ep, .int .i64 m.pos, .int .i64 m.aep, iv, .int .i64 m.conf, .bool m.yes]] w (RSent M w (handleF r m).1 (handleF r m).2 0) := by
  obtain ⟨la, lcap, rfl, hlc, hlm⟩ := hlv.shape
  obtain ⟨va, vcap, rfl, _, _⟩ := hvv.shape
  obtain ⟨ma, mcap, rfl, _, _⟩ := hmv.shape
  obtain ⟨ia, icap, rfl, _, _⟩ := hiv.shape
  have K3 : ∀ a b c, Kept NoM w (((w.alloc a).alloc b).alloc c) := fun a b c => (((Kept.refl NoM w).alloc a).alloc b).alloc c
  have HF := Lib.hid (show handleF r m = (r, []) by unfold handleF; rw [if_pos hf])
  go_enter Tryd.func25, Tryd.ntmps25
  go_wp2_with fail
  refine (rfine_ok r m _ _ _ _ _ (hlv.any.kept (K3 _ _ _)) (hvv.any.kept (K3 _ _ _)) (hmv.any.kept (K3 _ _ _)) (hiv.kept (K3 _ _ _)) hil).mono ?_
  rintro e w1 ⟨rfl, k1⟩
  rw [hf]
  have b0 := k1.blk (k := w.heap.size) (blk_old (blk_old (blk_new' w _ w.heap.size rfl) _) _) (fun x => x)
  have b2 := k1.blk (k := w.heap.size + 2) (blk_new' _ _ _ (by simp)) (fun x => x)
  obtain ⟨w2, e2, z0, z2, K2⟩ : ∃ w2, w1 = putB (putB w2 w.heap.size _ 32) (w.heap.size + 2) _ 62 ∧ w.heap.size < w2.heap.size ∧ w.heap.size + 2 < w2.heap.size ∧ Kept NoM w w2 :=
    ⟨w1, expose2a b0 b2, lt_of_block b0, lt_of_block b2, (K3 _ _ _).trans k1⟩
  have KE : ∀ a c, Kept NoM w (putB (putB w2 w.heap.size a 32) (w.heap.size + 2) c 62) := fun a c => (K2.putN (b := w.heap.size) (by omega) a 32).putN (b := w.heap.size + 2) (by omega) c 62
  have lt02 : w.heap.size < w.heap.size + 2 := by omega
  clear b0 b2 k1 hf
  subst e2
  go_wp2_with fail
  refine bodyPost_ret (v := .agg #[.int .i64 r.id, .int .i64 r.count, .int .i64 r.epoch, .int .i64 r.voted, .int .i64 r.role, .slice la r.log.length lcap, .int .i64 r.conf, .slice va r.votes.length vcap, .slice ma r.mat.length mcap, .slice none 0 0, .int .i64 0]) (by simp [results, Tryd.results25, go_sem, z2]) rfl ?_
  rw [HF.out]
  exact ⟨_, _, _, _, rfl, hlv.step (KE _ _).of_no (fun _ _ x => x.2), hvv.step (KE _ _).of_no (fun _ _ x => x.2), hmv.step (KE _ _).of_no (fun _ _ x => x.2), RdLets.nil _ _, KE _ _⟩

theorem Valid.adopt {r : Rep} {e : Int} (h : Valid r) (h1 : r.epoch < e) (h2 : e ≤ 1073741824) : Valid ⟨r.id, r.count, e, -1, 1, r.log, r.conf, [], []⟩ := by
  have hv := h.follow
  have := h.count1
  have := h.ep0
  exact ⟨hv.count1, hv.count7, hv.id0, hv.id1, by dsimp only; omega, h2, by dsimp only; omega, by dsimp only [followF]; omega, hv.ro0, hv.ro1, hv.len, hv.cf0, hv.cf1, properF_hi hv.prop (by dsimp only [followF]; omega), hv.votes, hv.mat, hv.match_, .inl rfl⟩

theorem rhandle_01 (r : Rep) (src dst ep pos aep : Int) (items : List Item) (conf2 : Int) (yes : Bool) (iv : Value) (lv vv mv : Value) (M : Nat → Prop) (w : World) (hlv : RdItems w M lv r.log) (hvv : RdBools w M vv r.votes) (hmv : RdInts w M mv r.mat) (hiv : RdItems w NoM iv items) (hil : items.length ≤ 1000000) (hf : fineF r ⟨1, src, dst, ep, pos, aep, items, conf2, yes⟩ = true) (hr : Valid r) (hep : ¬ ep > r.epoch) :
    Calls Tryd.prog 25 #[.agg #[.int .i64 r.id, .int .i64 r.count, .int .i64 r.epoch, .int .i64 r.voted, .int .i64 r.role, lv, .int .i64 r.conf, vv, mv], .agg #[.int .i64 1, .int .i64 src, .int .i64 dst, .int .i64 ep, .int .i64 pos, .int .i64 aep, iv, .int .i64 conf2, .bool yes]] w (RSent M w (handleF r ⟨1, src, dst, ep, pos, aep, items, conf2, yes⟩).1 (handleF r ⟨1, src, dst, ep, pos, aep, items, conf2, yes⟩).2 0) := by
  obtain ⟨f1, f2, f3, f4, f5, f6, f7, f8, f9, f10⟩ := fineF_out hf
  simp only at f1 f2 f3 f4 f5 f6 f7 f8 f9 f10
  obtain ⟨p, hp⟩ : ∃ p, p = askF r ⟨1, src, dst, ep, pos, aep, items, conf2, yes⟩ := ⟨_, rfl⟩
  have hF : handleF r ⟨1, src, dst, ep, pos, aep, items, conf2, yes⟩ = p := by
    unfold handleF
    rw [if_neg (by rw [hf]; simp)]
    simp only
    rw [if_neg hep, hp]
    rfl
  have HF := Lib.hid hF
  have hr1 : Valid r := hr
  obtain ⟨la, lcap, rfl, hlc, hlm⟩ := hlv.shape
  obtain ⟨va, vcap, rfl, _, _⟩ := hvv.shape
  obtain ⟨ma, mcap, rfl, _, _⟩ := hmv.shape
  obtain ⟨ia, icap, rfl, _, _⟩ := hiv.shape
  have K3 : ∀ a b c, Kept NoM w (((w.alloc a).alloc b).alloc c) := fun a b c => (((Kept.refl NoM w).alloc a).alloc b).alloc c
  have NM : ∀ i, i < w.heap.size → (i = w.heap.size + 2 ∨ (i < w.heap.size ∧ M i)) → M i := fun i hi h => by
    rcases h with h | h
    · omega
    · exact h.2
  have hepf := decide_eq_false hep
  have ta := fun wx (h : Kept NoM w wx) => rask_ok r ⟨1, src, dst, ep, pos, aep, items, conf2, yes⟩ (.slice ia items.length icap) (.slice la r.log.length lcap) (.slice va r.votes.length vcap) (.slice ma r.mat.length mcap) (fun i => i = w.heap.size + 2 ∨ (i < w.heap.size ∧ M i)) wx (hlv.step h.of_no NM) (hvv.step h.of_no NM) (hmv.step h.of_no NM) (hiv.kept h) (by have := hr1.len; omega)
  rw [← hp] at ta
  obtain ⟨r3, ls3⟩ := p
  dsimp only at ta
  have TA := Lib.hid ta
  have hfine := fun wx (h : Kept NoM w wx) => rfine_ok r ⟨1, src, dst, ep, pos, aep, items, conf2, yes⟩ (.slice la r.log.length lcap) (.slice va r.votes.length vcap) (.slice ma r.mat.length mcap) (.slice ia items.length icap) wx (hlv.any.kept h) (hvv.any.kept h) (hmv.any.kept h) (hiv.kept h) hil
  rw [hf] at hfine
  dsimp only at hfine
  have HFN := Lib.hid hfine
  clear hfine ta hp hF hf hr hr1 f1 f2 f3 f4 f5 f6 f7 f8 f9 f10
  go_enter Tryd.func25, Tryd.ntmps25
  go_wp2_with fail
  refine (HFN.out _ (K3 _ _ _)).mono ?_
  rintro e w1 ⟨rfl, k1⟩
  have b0 := k1.blk (k := w.heap.size) (blk_old (blk_old (blk_new' w _ w.heap.size rfl) _) _) (fun x => x)
  have b1 := k1.blk (k := w.heap.size + 1) (blk_old (blk_new' _ _ _ (by simp)) _) (fun x => x)
  have b2 := k1.blk (k := w.heap.size + 2) (blk_new' _ _ _ (by simp)) (fun x => x)
  obtain ⟨w2, e2, z0, z1, z2, y2, K2⟩ : ∃ w2, w1 = putB (putB w2 (w.heap.size + 1) _ 57) w.heap.size _ 32 ∧ w.heap.size < w2.heap.size ∧ w.heap.size + 1 < w2.heap.size ∧ w.heap.size + 2 < w2.heap.size ∧ w2.heap[w.heap.size + 2]? = some _ ∧ Kept NoM w w2 :=
    ⟨w1, expose2a b1 b0, lt_of_block b0, lt_of_block b1, lt_of_block b2, b2, (K3 _ _ _).trans k1⟩
  have KE : ∀ a c, Kept NoM w (putB (putB w2 (w.heap.size + 1) a 57) w.heap.size c 32) := fun a c => (K2.putN (b := w.heap.size + 1) (by omega) a 57).putN (b := w.heap.size) (by omega) c 32
  have BE : ∀ a c, (putB (putB w2 (w.heap.size + 1) a 57) w.heap.size c 32).heap[w.heap.size + 2]? = some (.cells #[.int .i64 0, .int .i64 0, .int .i64 0, .int .i64 0, .int .i64 0, .slice none 0 0, .int .i64 0, .slice none 0 0, .slice none 0 0, .slice none 0 0, .int .i64 0] 62 (0, 0)) := fun a c => (putB_blk_ne _ _ _ _ _ (by omega)).trans ((putB_blk_ne _ _ _ _ _ (by omega)).trans y2)
  clear b0 b1 b2 k1
  subst e2
  go_wp2_with fail
  refine (TA.out _ (KE _ _)).mono ?_
  intro e w6 hs
  obtain ⟨la6, lc6, va6, vc6, ma6, mc6, ta6, tc6, e6, hB6, k6, fin⟩ := hs.store (KE _ _) (by simp only [putB_size]; omega) (by omega)
  subst e6
  have b6 := k6.blk (k := w.heap.size + 2) (BE _ _) (fun x => x)
  obtain ⟨w7, e7, z7, fin7⟩ : ∃ w7, w6 = putB w7 (w.heap.size + 2) _ 62 ∧ w.heap.size + 2 < w7.heap.size ∧ ∀ c t, RSent _ w _ _ _ _ (putB w7 (w.heap.size + 2) c t) := ⟨w6, putB_self b6, hB6, fin⟩
  subst e7
  clear fin b6
  go_wp2_with fail
  refine bodyPost_ret (v := .agg #[.int .i64 r3.id, .int .i64 r3.count, .int .i64 r3.epoch, .int .i64 r3.voted, .int .i64 r3.role, .slice la6 r3.log.length lc6, .int .i64 r3.conf, .slice va6 r3.votes.length vc6, .slice ma6 r3.mat.length mc6, .slice ta6 ls3.length tc6, .int .i64 0]) (by simp [results, Tryd.results25, go_sem, z7]) rfl ?_
  rw [HF.out]
  exact (fin7 _ _).weak

theorem rhandle_02 (r : Rep) (src dst ep pos aep : Int) (items : List Item) (conf2 : Int) (yes : Bool) (iv : Value) (lv vv mv : Value) (M : Nat → Prop) (w : World) (hlv : RdItems w M lv r.log) (hvv : RdBools w M vv r.votes) (hmv : RdInts w M mv r.mat) (hiv : RdItems w NoM iv items) (hil : items.length ≤ 1000000) (hf : fineF r ⟨2, src, dst, ep, pos, aep, items, conf2, yes⟩ = true) (hr : Valid r) (hep : ¬ ep > r.epoch) :
    Calls Tryd.prog 25 #[.agg #[.int .i64 r.id, .int .i64 r.count, .int .i64 r.epoch, .int .i64 r.voted, .int .i64 r.role, lv, .int .i64 r.conf, vv, mv], .agg #[.int .i64 2, .int .i64 src, .int .i64 dst, .int .i64 ep, .int .i64 pos, .int .i64 aep, iv, .int .i64 conf2, .bool yes]] w (RSent M w (handleF r ⟨2, src, dst, ep, pos, aep, items, conf2, yes⟩).1 (handleF r ⟨2, src, dst, ep, pos, aep, items, conf2, yes⟩).2 0) := by
  obtain ⟨f1, f2, f3, f4, f5, f6, f7, f8, f9, f10⟩ := fineF_out hf
  simp only at f1 f2 f3 f4 f5 f6 f7 f8 f9 f10
  obtain ⟨p, hp⟩ : ∃ p, p = voteF r ⟨2, src, dst, ep, pos, aep, items, conf2, yes⟩ := ⟨_, rfl⟩
  have hF : handleF r ⟨2, src, dst, ep, pos, aep, items, conf2, yes⟩ = p := by
    unfold handleF
    rw [if_neg (by rw [hf]; simp)]
    simp only
    rw [if_neg hep, hp]
    rfl
  have HF := Lib.hid hF
  have hr1 : Valid r := hr
  have hs0 := f4
  have hs1 := f5
  obtain ⟨la, lcap, rfl, hlc, hlm⟩ := hlv.shape
  obtain ⟨va, vcap, rfl, _, _⟩ := hvv.shape
  obtain ⟨ma, mcap, rfl, _, _⟩ := hmv.shape
  obtain ⟨ia, icap, rfl, _, _⟩ := hiv.shape
  have K3 : ∀ a b c, Kept NoM w (((w.alloc a).alloc b).alloc c) := fun a b c => (((Kept.refl NoM w).alloc a).alloc b).alloc c
  have NM : ∀ i, i < w.heap.size → (i = w.heap.size + 2 ∨ (i < w.heap.size ∧ M i)) → M i := fun i hi h => by
    rcases h with h | h
    · omega
    · exact h.2
  have hepf := decide_eq_false hep
  have ta := fun wx (h : Kept NoM w wx) => rvote_ok r ⟨2, src, dst, ep, pos, aep, items, conf2, yes⟩ (.slice ia items.length icap) (.slice la r.log.length lcap) (.slice va r.votes.length vcap) (.slice ma r.mat.length mcap) (fun i => i = w.heap.size + 2 ∨ (i < w.heap.size ∧ M i)) wx (hlv.step h.of_no NM) (hvv.step h.of_no NM) (hmv.step h.of_no NM) (hiv.kept h) hr1 hs0 hs1
  rw [← hp] at ta
  obtain ⟨r3, ls3⟩ := p
  dsimp only at ta
  have TA := Lib.hid ta
  have hfine := fun wx (h : Kept NoM w wx) => rfine_ok r ⟨2, src, dst, ep, pos, aep, items, conf2, yes⟩ (.slice la r.log.length lcap) (.slice va r.votes.length vcap) (.slice ma r.mat.length mcap) (.slice ia items.length icap) wx (hlv.any.kept h) (hvv.any.kept h) (hmv.any.kept h) (hiv.kept h) hil
  rw [hf] at hfine
  dsimp only at hfine
  have HFN := Lib.hid hfine
  clear hfine ta hp hF hf hr hr1 f1 f2 f3 f4 f5 f6 f7 f8 f9 f10
  go_enter Tryd.func25, Tryd.ntmps25
  go_wp2_with fail
  refine (HFN.out _ (K3 _ _ _)).mono ?_
  rintro e w1 ⟨rfl, k1⟩
  have b0 := k1.blk (k := w.heap.size) (blk_old (blk_old (blk_new' w _ w.heap.size rfl) _) _) (fun x => x)
  have b1 := k1.blk (k := w.heap.size + 1) (blk_old (blk_new' _ _ _ (by simp)) _) (fun x => x)
  have b2 := k1.blk (k := w.heap.size + 2) (blk_new' _ _ _ (by simp)) (fun x => x)
  obtain ⟨w2, e2, z0, z1, z2, y2, K2⟩ : ∃ w2, w1 = putB (putB w2 (w.heap.size + 1) _ 57) w.heap.size _ 32 ∧ w.heap.size < w2.heap.size ∧ w.heap.size + 1 < w2.heap.size ∧ w.heap.size + 2 < w2.heap.size ∧ w2.heap[w.heap.size + 2]? = some _ ∧ Kept NoM w w2 :=
    ⟨w1, expose2a b1 b0, lt_of_block b0, lt_of_block b1, lt_of_block b2, b2, (K3 _ _ _).trans k1⟩
  have KE : ∀ a c, Kept NoM w (putB (putB w2 (w.heap.size + 1) a 57) w.heap.size c 32) := fun a c => (K2.putN (b := w.heap.size + 1) (by omega) a 57).putN (b := w.heap.size) (by omega) c 32
  have BE : ∀ a c, (putB (putB w2 (w.heap.size + 1) a 57) w.heap.size c 32).heap[w.heap.size + 2]? = some (.cells #[.int .i64 0, .int .i64 0, .int .i64 0, .int .i64 0, .int .i64 0, .slice none 0 0, .int .i64 0, .slice none 0 0, .slice none 0 0, .slice none 0 0, .int .i64 0] 62 (0, 0)) := fun a c => (putB_blk_ne _ _ _ _ _ (by omega)).trans ((putB_blk_ne _ _ _ _ _ (by omega)).trans y2)
  clear b0 b1 b2 k1
  subst e2
  go_wp2_with fail
  refine (TA.out _ (KE _ _)).mono ?_
  intro e w6 hs
  obtain ⟨la6, lc6, va6, vc6, ma6, mc6, ta6, tc6, e6, hB6, k6, fin⟩ := hs.store (KE _ _) (by simp only [putB_size]; omega) (by omega)
  subst e6
  have b6 := k6.blk (k := w.heap.size + 2) (BE _ _) (fun x => x)
  obtain ⟨w7, e7, z7, fin7⟩ : ∃ w7, w6 = putB w7 (w.heap.size + 2) _ 62 ∧ w.heap.size + 2 < w7.heap.size ∧ ∀ c t, RSent _ w _ _ _ _ (putB w7 (w.heap.size + 2) c t) := ⟨w6, putB_self b6, hB6, fin⟩
  subst e7
  clear fin b6
  go_wp2_with fail
  refine bodyPost_ret (v := .agg #[.int .i64 r3.id, .int .i64 r3.count, .int .i64 r3.epoch, .int .i64 r3.voted, .int .i64 r3.role, .slice la6 r3.log.length lc6, .int .i64 r3.conf, .slice va6 r3.votes.length vc6, .slice ma6 r3.mat.length mc6, .slice ta6 ls3.length tc6, .int .i64 0]) (by simp [results, Tryd.results25, go_sem, z7]) rfl ?_
  rw [HF.out]
  exact (fin7 _ _).weak

theorem rhandle_03 (r : Rep) (src dst ep pos aep : Int) (items : List Item) (conf2 : Int) (yes : Bool) (iv : Value) (lv vv mv : Value) (M : Nat → Prop) (w : World) (hlv : RdItems w M lv r.log) (hvv : RdBools w M vv r.votes) (hmv : RdInts w M mv r.mat) (hiv : RdItems w NoM iv items) (hil : items.length ≤ 1000000) (hf : fineF r ⟨3, src, dst, ep, pos, aep, items, conf2, yes⟩ = true) (hr : Valid r) (hep : ¬ ep > r.epoch) :
    Calls Tryd.prog 25 #[.agg #[.int .i64 r.id, .int .i64 r.count, .int .i64 r.epoch, .int .i64 r.voted, .int .i64 r.role, lv, .int .i64 r.conf, vv, mv], .agg #[.int .i64 3, .int .i64 src, .int .i64 dst, .int .i64 ep, .int .i64 pos, .int .i64 aep, iv, .int .i64 conf2, .bool yes]] w (RSent M w (handleF r ⟨3, src, dst, ep, pos, aep, items, conf2, yes⟩).1 (handleF r ⟨3, src, dst, ep, pos, aep, items, conf2, yes⟩).2 0) := by
  obtain ⟨f1, f2, f3, f4, f5, f6, f7, f8, f9, f10⟩ := fineF_out hf
  simp only at f1 f2 f3 f4 f5 f6 f7 f8 f9 f10
  obtain ⟨p, hp⟩ : ∃ p, p = appendF r ⟨3, src, dst, ep, pos, aep, items, conf2, yes⟩ := ⟨_, rfl⟩
  have hF : handleF r ⟨3, src, dst, ep, pos, aep, items, conf2, yes⟩ = p := by
    unfold handleF
    rw [if_neg (by rw [hf]; simp)]
    simp only
    rw [if_neg hep, hp]
    rfl
  have HF := Lib.hid hF
  have hr1 : Valid r := hr
  have hp0 := (f9 (by omega)).1
  have hpa := (f10 (by trivial)).2.2.1
  have hil3 : items.length ≤ 1000 := by have := (f10 (by trivial)).2.2.2.1; have := (f9 (by omega)).1; omega
  obtain ⟨la, lcap, rfl, hlc, hlm⟩ := hlv.shape
  obtain ⟨va, vcap, rfl, _, _⟩ := hvv.shape
  obtain ⟨ma, mcap, rfl, _, _⟩ := hmv.shape
  obtain ⟨ia, icap, rfl, _, _⟩ := hiv.shape
  have K3 : ∀ a b c, Kept NoM w (((w.alloc a).alloc b).alloc c) := fun a b c => (((Kept.refl NoM w).alloc a).alloc b).alloc c
  have NM : ∀ i, i < w.heap.size → (i = w.heap.size + 2 ∨ (i < w.heap.size ∧ M i)) → M i := fun i hi h => by
    rcases h with h | h
    · omega
    · exact h.2
  have hepf := decide_eq_false hep
  have ta := fun wx (h : Kept NoM w wx) => rappend_ok r ⟨3, src, dst, ep, pos, aep, items, conf2, yes⟩ (.slice ia items.length icap) (.slice la r.log.length lcap) (.slice va r.votes.length vcap) (.slice ma r.mat.length mcap) (fun i => i = w.heap.size + 2 ∨ (i < w.heap.size ∧ M i)) wx (hlv.step h.of_no NM) (hvv.step h.of_no NM) (hmv.step h.of_no NM) (hiv.kept h) hr1 hp0 hpa hil3
  rw [← hp] at ta
  obtain ⟨r3, ls3⟩ := p
  dsimp only at ta
  have TA := Lib.hid ta
  have hfine := fun wx (h : Kept NoM w wx) => rfine_ok r ⟨3, src, dst, ep, pos, aep, items, conf2, yes⟩ (.slice la r.log.length lcap) (.slice va r.votes.length vcap) (.slice ma r.mat.length mcap) (.slice ia items.length icap) wx (hlv.any.kept h) (hvv.any.kept h) (hmv.any.kept h) (hiv.kept h) hil
  rw [hf] at hfine
  dsimp only at hfine
  have HFN := Lib.hid hfine
  clear hfine ta hp hF hf hr hr1 f1 f2 f3 f4 f5 f6 f7 f8 f9 f10
  go_enter Tryd.func25, Tryd.ntmps25
  go_wp2_with fail
  refine (HFN.out _ (K3 _ _ _)).mono ?_
  rintro e w1 ⟨rfl, k1⟩
  have b0 := k1.blk (k := w.heap.size) (blk_old (blk_old (blk_new' w _ w.heap.size rfl) _) _) (fun x => x)
  have b1 := k1.blk (k := w.heap.size + 1) (blk_old (blk_new' _ _ _ (by simp)) _) (fun x => x)
  have b2 := k1.blk (k := w.heap.size + 2) (blk_new' _ _ _ (by simp)) (fun x => x)
  obtain ⟨w2, e2, z0, z1, z2, y2, K2⟩ : ∃ w2, w1 = putB (putB w2 (w.heap.size + 1) _ 57) w.heap.size _ 32 ∧ w.heap.size < w2.heap.size ∧ w.heap.size + 1 < w2.heap.size ∧ w.heap.size + 2 < w2.heap.size ∧ w2.heap[w.heap.size + 2]? = some _ ∧ Kept NoM w w2 :=
    ⟨w1, expose2a b1 b0, lt_of_block b0, lt_of_block b1, lt_of_block b2, b2, (K3 _ _ _).trans k1⟩
  have KE : ∀ a c, Kept NoM w (putB (putB w2 (w.heap.size + 1) a 57) w.heap.size c 32) := fun a c => (K2.putN (b := w.heap.size + 1) (by omega) a 57).putN (b := w.heap.size) (by omega) c 32
  have BE : ∀ a c, (putB (putB w2 (w.heap.size + 1) a 57) w.heap.size c 32).heap[w.heap.size + 2]? = some (.cells #[.int .i64 0, .int .i64 0, .int .i64 0, .int .i64 0, .int .i64 0, .slice none 0 0, .int .i64 0, .slice none 0 0, .slice none 0 0, .slice none 0 0, .int .i64 0] 62 (0, 0)) := fun a c => (putB_blk_ne _ _ _ _ _ (by omega)).trans ((putB_blk_ne _ _ _ _ _ (by omega)).trans y2)
  clear b0 b1 b2 k1
  subst e2
  go_wp2_with fail
  refine (TA.out _ (KE _ _)).mono ?_
  intro e w6 hs
  obtain ⟨la6, lc6, va6, vc6, ma6, mc6, ta6, tc6, e6, hB6, k6, fin⟩ := hs.store (KE _ _) (by simp only [putB_size]; omega) (by omega)
  subst e6
  have b6 := k6.blk (k := w.heap.size + 2) (BE _ _) (fun x => x)
  obtain ⟨w7, e7, z7, fin7⟩ : ∃ w7, w6 = putB w7 (w.heap.size + 2) _ 62 ∧ w.heap.size + 2 < w7.heap.size ∧ ∀ c t, RSent _ w _ _ _ _ (putB w7 (w.heap.size + 2) c t) := ⟨w6, putB_self b6, hB6, fin⟩
  subst e7
  clear fin b6
  go_wp2_with fail
  refine bodyPost_ret (v := .agg #[.int .i64 r3.id, .int .i64 r3.count, .int .i64 r3.epoch, .int .i64 r3.voted, .int .i64 r3.role, .slice la6 r3.log.length lc6, .int .i64 r3.conf, .slice va6 r3.votes.length vc6, .slice ma6 r3.mat.length mc6, .slice ta6 ls3.length tc6, .int .i64 0]) (by simp [results, Tryd.results25, go_sem, z7]) rfl ?_
  rw [HF.out]
  exact (fin7 _ _).weak

theorem rhandle_04 (r : Rep) (src dst ep pos aep : Int) (items : List Item) (conf2 : Int) (yes : Bool) (iv : Value) (lv vv mv : Value) (M : Nat → Prop) (w : World) (hlv : RdItems w M lv r.log) (hvv : RdBools w M vv r.votes) (hmv : RdInts w M mv r.mat) (hiv : RdItems w NoM iv items) (hil : items.length ≤ 1000000) (hf : fineF r ⟨4, src, dst, ep, pos, aep, items, conf2, yes⟩ = true) (hr : Valid r) (hep : ¬ ep > r.epoch) :
    Calls Tryd.prog 25 #[.agg #[.int .i64 r.id, .int .i64 r.count, .int .i64 r.epoch, .int .i64 r.voted, .int .i64 r.role, lv, .int .i64 r.conf, vv, mv], .agg #[.int .i64 4, .int .i64 src, .int .i64 dst, .int .i64 ep, .int .i64 pos, .int .i64 aep, iv, .int .i64 conf2, .bool yes]] w (RSent M w (handleF r ⟨4, src, dst, ep, pos, aep, items, conf2, yes⟩).1 (handleF r ⟨4, src, dst, ep, pos, aep, items, conf2, yes⟩).2 0) := by
  obtain ⟨f1, f2, f3, f4, f5, f6, f7, f8, f9, f10⟩ := fineF_out hf
  simp only at f1 f2 f3 f4 f5 f6 f7 f8 f9 f10
  obtain ⟨p, hp⟩ : ∃ p, p = replyF r ⟨4, src, dst, ep, pos, aep, items, conf2, yes⟩ := ⟨_, rfl⟩
  have hF : handleF r ⟨4, src, dst, ep, pos, aep, items, conf2, yes⟩ = p := by
    unfold handleF
    rw [if_neg (by rw [hf]; simp)]
    simp only
    rw [if_neg hep, hp]
    rfl
  have HF := Lib.hid hF
  have hr1 : Valid r := hr
  have hs0 := f4
  have hs1 := f5
  have hsi := f6
  have hp0 := (f9 (by omega)).1
  obtain ⟨la, lcap, rfl, hlc, hlm⟩ := hlv.shape
  obtain ⟨va, vcap, rfl, _, _⟩ := hvv.shape
  obtain ⟨ma, mcap, rfl, _, _⟩ := hmv.shape
  obtain ⟨ia, icap, rfl, _, _⟩ := hiv.shape
  have K3 : ∀ a b c, Kept NoM w (((w.alloc a).alloc b).alloc c) := fun a b c => (((Kept.refl NoM w).alloc a).alloc b).alloc c
  have NM : ∀ i, i < w.heap.size → (i = w.heap.size + 2 ∨ (i < w.heap.size ∧ M i)) → M i := fun i hi h => by
    rcases h with h | h
    · omega
    · exact h.2
  have hepf := decide_eq_false hep
  have ta := fun wx (h : Kept NoM w wx) => rreply_ok r ⟨4, src, dst, ep, pos, aep, items, conf2, yes⟩ (.slice ia items.length icap) (.slice la r.log.length lcap) (.slice va r.votes.length vcap) (.slice ma r.mat.length mcap) (fun i => i = w.heap.size + 2 ∨ (i < w.heap.size ∧ M i)) wx (hlv.step h.of_no NM) (hvv.step h.of_no NM) (hmv.step h.of_no NM) (hiv.kept h) hr1 hs0 hs1 hsi hp0
  rw [← hp] at ta
  obtain ⟨r3, ls3⟩ := p
  dsimp only at ta
  have TA := Lib.hid ta
  have hfine := fun wx (h : Kept NoM w wx) => rfine_ok r ⟨4, src, dst, ep, pos, aep, items, conf2, yes⟩ (.slice la r.log.length lcap) (.slice va r.votes.length vcap) (.slice ma r.mat.length mcap) (.slice ia items.length icap) wx (hlv.any.kept h) (hvv.any.kept h) (hmv.any.kept h) (hiv.kept h) hil
  rw [hf] at hfine
  dsimp only at hfine
  have HFN := Lib.hid hfine
  clear hfine ta hp hF hf hr hr1 f1 f2 f3 f4 f5 f6 f7 f8 f9 f10
  go_enter Tryd.func25, Tryd.ntmps25
  go_wp2_with fail
  refine (HFN.out _ (K3 _ _ _)).mono ?_
  rintro e w1 ⟨rfl, k1⟩
  have b0 := k1.blk (k := w.heap.size) (blk_old (blk_old (blk_new' w _ w.heap.size rfl) _) _) (fun x => x)
  have b1 := k1.blk (k := w.heap.size + 1) (blk_old (blk_new' _ _ _ (by simp)) _) (fun x => x)
  have b2 := k1.blk (k := w.heap.size + 2) (blk_new' _ _ _ (by simp)) (fun x => x)
  obtain ⟨w2, e2, z0, z1, z2, y2, K2⟩ : ∃ w2, w1 = putB (putB w2 (w.heap.size + 1) _ 57) w.heap.size _ 32 ∧ w.heap.size < w2.heap.size ∧ w.heap.size + 1 < w2.heap.size ∧ w.heap.size + 2 < w2.heap.size ∧ w2.heap[w.heap.size + 2]? = some _ ∧ Kept NoM w w2 :=
    ⟨w1, expose2a b1 b0, lt_of_block b0, lt_of_block b1, lt_of_block b2, b2, (K3 _ _ _).trans k1⟩
  have KE : ∀ a c, Kept NoM w (putB (putB w2 (w.heap.size + 1) a 57) w.heap.size c 32) := fun a c => (K2.putN (b := w.heap.size + 1) (by omega) a 57).putN (b := w.heap.size) (by omega) c 32
  have BE : ∀ a c, (putB (putB w2 (w.heap.size + 1) a 57) w.heap.size c 32).heap[w.heap.size + 2]? = some (.cells #[.int .i64 0, .int .i64 0, .int .i64 0, .int .i64 0, .int .i64 0, .slice none 0 0, .int .i64 0, .slice none 0 0, .slice none 0 0, .slice none 0 0, .int .i64 0] 62 (0, 0)) := fun a c => (putB_blk_ne _ _ _ _ _ (by omega)).trans ((putB_blk_ne _ _ _ _ _ (by omega)).trans y2)
  clear b0 b1 b2 k1
  subst e2
  go_wp2_with fail
  refine (TA.out _ (KE _ _)).mono ?_
  intro e w6 hs
  obtain ⟨la6, lc6, va6, vc6, ma6, mc6, ta6, tc6, e6, hB6, k6, fin⟩ := hs.store (KE _ _) (by simp only [putB_size]; omega) (by omega)
  subst e6
  have b6 := k6.blk (k := w.heap.size + 2) (BE _ _) (fun x => x)
  obtain ⟨w7, e7, z7, fin7⟩ : ∃ w7, w6 = putB w7 (w.heap.size + 2) _ 62 ∧ w.heap.size + 2 < w7.heap.size ∧ ∀ c t, RSent _ w _ _ _ _ (putB w7 (w.heap.size + 2) c t) := ⟨w6, putB_self b6, hB6, fin⟩
  subst e7
  clear fin b6
  go_wp2_with fail
  refine bodyPost_ret (v := .agg #[.int .i64 r3.id, .int .i64 r3.count, .int .i64 r3.epoch, .int .i64 r3.voted, .int .i64 r3.role, .slice la6 r3.log.length lc6, .int .i64 r3.conf, .slice va6 r3.votes.length vc6, .slice ma6 r3.mat.length mc6, .slice ta6 ls3.length tc6, .int .i64 0]) (by simp [results, Tryd.results25, go_sem, z7]) rfl ?_
  rw [HF.out]
  exact (fin7 _ _).weak

theorem rhandle_11 (r : Rep) (src dst ep pos aep : Int) (items : List Item) (conf2 : Int) (yes : Bool) (iv : Value) (lv vv mv : Value) (M : Nat → Prop) (w : World) (hlv : RdItems w M lv r.log) (hvv : RdBools w M vv r.votes) (hmv : RdInts w M mv r.mat) (hiv : RdItems w NoM iv items) (hil : items.length ≤ 1000000) (hf : fineF r ⟨1, src, dst, ep, pos, aep, items, conf2, yes⟩ = true) (hr : Valid r) (hep : ep > r.epoch) :
    Calls Tryd.prog 25 #[.agg #[.int .i64 r.id, .int .i64 r.count, .int .i64 r.epoch, .int .i64 r.voted, .int .i64 r.role, lv, .int .i64 r.conf, vv, mv], .agg #[.int .i64 1, .int .i64 src, .int .i64 dst, .int .i64 ep, .int .i64 pos, .int .i64 aep, iv, .int .i64 conf2, .bool yes]] w (RSent M w (handleF r ⟨1, src, dst, ep, pos, aep, items, conf2, yes⟩).1 (handleF r ⟨1, src, dst, ep, pos, aep, items, conf2, yes⟩).2 0) := by
  obtain ⟨f1, f2, f3, f4, f5, f6, f7, f8, f9, f10⟩ := fineF_out hf
  simp only at f1 f2 f3 f4 f5 f6 f7 f8 f9 f10
  obtain ⟨p, hp⟩ : ∃ p, p = askF ⟨r.id, r.count, ep, -1, 1, r.log, r.conf, [], []⟩ ⟨1, src, dst, ep, pos, aep, items, conf2, yes⟩ := ⟨_, rfl⟩
  have hF : handleF r ⟨1, src, dst, ep, pos, aep, items, conf2, yes⟩ = p := by
    unfold handleF
    rw [if_neg (by rw [hf]; simp)]
    simp only
    rw [if_pos hep, hp]
    rfl
  have HF := Lib.hid hF
  have hr1 : Valid (⟨r.id, r.count, ep, -1, 1, r.log, r.conf, [], []⟩ : Rep) := hr.adopt hep f8
  obtain ⟨la, lcap, rfl, hlc, hlm⟩ := hlv.shape
  obtain ⟨va, vcap, rfl, _, _⟩ := hvv.shape
  obtain ⟨ma, mcap, rfl, _, _⟩ := hmv.shape
  obtain ⟨ia, icap, rfl, _, _⟩ := hiv.shape
  have K3 : ∀ a b c, Kept NoM w (((w.alloc a).alloc b).alloc c) := fun a b c => (((Kept.refl NoM w).alloc a).alloc b).alloc c
  have NM : ∀ i, i < w.heap.size → (i = w.heap.size + 2 ∨ (i < w.heap.size ∧ M i)) → M i := fun i hi h => by
    rcases h with h | h
    · omega
    · exact h.2
  have ta := fun wx (h : Kept NoM w wx) => rask_ok ⟨r.id, r.count, ep, -1, 1, r.log, r.conf, [], []⟩ ⟨1, src, dst, ep, pos, aep, items, conf2, yes⟩ (.slice ia items.length icap) (.slice la r.log.length lcap) (.slice none 0 0) (.slice none 0 0) (fun i => i = w.heap.size + 2 ∨ (i < w.heap.size ∧ M i)) wx (hlv.step h.of_no NM) (RdBools.nil _ _) (RdInts.nil _ _) (hiv.kept h) (by have := hr1.len; omega)
  rw [← hp] at ta
  obtain ⟨r3, ls3⟩ := p
  dsimp only at ta
  have TA := Lib.hid ta
  have hfine := fun wx (h : Kept NoM w wx) => rfine_ok r ⟨1, src, dst, ep, pos, aep, items, conf2, yes⟩ (.slice la r.log.length lcap) (.slice va r.votes.length vcap) (.slice ma r.mat.length mcap) (.slice ia items.length icap) wx (hlv.any.kept h) (hvv.any.kept h) (hmv.any.kept h) (hiv.kept h) hil
  rw [hf] at hfine
  dsimp only at hfine
  have HFN := Lib.hid hfine
  clear hfine ta hp hF hf hr hr1 f1 f2 f3 f4 f5 f6 f7 f8 f9 f10
  go_enter Tryd.func25, Tryd.ntmps25
  go_wp2_with fail
  refine (HFN.out _ (K3 _ _ _)).mono ?_
  rintro e w1 ⟨rfl, k1⟩
  have b0 := k1.blk (k := w.heap.size) (blk_old (blk_old (blk_new' w _ w.heap.size rfl) _) _) (fun x => x)
  have b1 := k1.blk (k := w.heap.size + 1) (blk_old (blk_new' _ _ _ (by simp)) _) (fun x => x)
  have b2 := k1.blk (k := w.heap.size + 2) (blk_new' _ _ _ (by simp)) (fun x => x)
  obtain ⟨w2, e2, z0, z1, z2, y2, K2⟩ : ∃ w2, w1 = putB (putB w2 (w.heap.size + 1) _ 57) w.heap.size _ 32 ∧ w.heap.size < w2.heap.size ∧ w.heap.size + 1 < w2.heap.size ∧ w.heap.size + 2 < w2.heap.size ∧ w2.heap[w.heap.size + 2]? = some _ ∧ Kept NoM w w2 :=
    ⟨w1, expose2a b1 b0, lt_of_block b0, lt_of_block b1, lt_of_block b2, b2, (K3 _ _ _).trans k1⟩
  have KE : ∀ a c, Kept NoM w (putB (putB w2 (w.heap.size + 1) a 57) w.heap.size c 32) := fun a c => (K2.putN (b := w.heap.size + 1) (by omega) a 57).putN (b := w.heap.size) (by omega) c 32
  have BE : ∀ a c, (putB (putB w2 (w.heap.size + 1) a 57) w.heap.size c 32).heap[w.heap.size + 2]? = some (.cells #[.int .i64 0, .int .i64 0, .int .i64 0, .int .i64 0, .int .i64 0, .slice none 0 0, .int .i64 0, .slice none 0 0, .slice none 0 0, .slice none 0 0, .int .i64 0] 62 (0, 0)) := fun a c => (putB_blk_ne _ _ _ _ _ (by omega)).trans ((putB_blk_ne _ _ _ _ _ (by omega)).trans y2)
  clear b0 b1 b2 k1
  subst e2
  go_wp2_with fail
  refine (rfollow_ok r la va ma r.log.length lcap r.votes.length vcap r.mat.length mcap _).mono ?_
  rintro e w1B ⟨rfl, k1B⟩
  have b0B := k1B.blk (k := w.heap.size) (putB_blk _ _ _ _ (by simp only [putB_size]; omega)) (fun x => x)
  have b1B := k1B.blk (k := w.heap.size + 1) ((putB_blk_ne _ _ _ _ _ (by omega)).trans (putB_blk _ _ _ _ (by omega))) (fun x => x)
  have b2B := k1B.blk (k := w.heap.size + 2) (BE _ _) (fun x => x)
  obtain ⟨w2B, e2B, z0B, z1B, z2B, y2B, K2B⟩ : ∃ w2, w1B = putB (putB w2 (w.heap.size + 1) _ 57) w.heap.size _ 32 ∧ w.heap.size < w2.heap.size ∧ w.heap.size + 1 < w2.heap.size ∧ w.heap.size + 2 < w2.heap.size ∧ w2.heap[w.heap.size + 2]? = some _ ∧ Kept NoM w w2 :=
    ⟨w1B, expose2a b1B b0B, lt_of_block b0B, lt_of_block b1B, lt_of_block b2B, b2B, (KE _ _).trans k1B⟩
  have KEB : ∀ a c, Kept NoM w (putB (putB w2B (w.heap.size + 1) a 57) w.heap.size c 32) := fun a c => (K2B.putN (b := w.heap.size + 1) (by omega) a 57).putN (b := w.heap.size) (by omega) c 32
  have BEB : ∀ a c, (putB (putB w2B (w.heap.size + 1) a 57) w.heap.size c 32).heap[w.heap.size + 2]? = some (.cells #[.int .i64 0, .int .i64 0, .int .i64 0, .int .i64 0, .int .i64 0, .slice none 0 0, .int .i64 0, .slice none 0 0, .slice none 0 0, .slice none 0 0, .int .i64 0] 62 (0, 0)) := fun a c => (putB_blk_ne _ _ _ _ _ (by omega)).trans ((putB_blk_ne _ _ _ _ _ (by omega)).trans y2B)
  clear b0B b1B b2B k1B
  subst e2B
  go_wp2_with fail
  refine (TA.out _ (KEB _ _)).mono ?_
  intro e w6 hs
  obtain ⟨la6, lc6, va6, vc6, ma6, mc6, ta6, tc6, e6, hB6, k6, fin⟩ := hs.store (KEB _ _) (by simp only [putB_size]; omega) (by omega)
  subst e6
  have b6 := k6.blk (k := w.heap.size + 2) (BEB _ _) (fun x => x)
  obtain ⟨w7, e7, z7, fin7⟩ : ∃ w7, w6 = putB w7 (w.heap.size + 2) _ 62 ∧ w.heap.size + 2 < w7.heap.size ∧ ∀ c t, RSent _ w _ _ _ _ (putB w7 (w.heap.size + 2) c t) := ⟨w6, putB_self b6, hB6, fin⟩
  subst e7
  clear fin b6
  go_wp2_with fail
  refine bodyPost_ret (v := .agg #[.int .i64 r3.id, .int .i64 r3.count, .int .i64 r3.epoch, .int .i64 r3.voted, .int .i64 r3.role, .slice la6 r3.log.length lc6, .int .i64 r3.conf, .slice va6 r3.votes.length vc6, .slice ma6 r3.mat.length mc6, .slice ta6 ls3.length tc6, .int .i64 0]) (by simp [results, Tryd.results25, go_sem, z7]) rfl ?_
  rw [HF.out]
  exact (fin7 _ _).weak

theorem rhandle_12 (r : Rep) (src dst ep pos aep : Int) (items : List Item) (conf2 : Int) (yes : Bool) (iv : Value) (lv vv mv : Value) (M : Nat → Prop) (w : World) (hlv : RdItems w M lv r.log) (hvv : RdBools w M vv r.votes) (hmv : RdInts w M mv r.mat) (hiv : RdItems w NoM iv items) (hil : items.length ≤ 1000000) (hf : fineF r ⟨2, src, dst, ep, pos, aep, items, conf2, yes⟩ = true) (hr : Valid r) (hep : ep > r.epoch) :
    Calls Tryd.prog 25 #[.agg #[.int .i64 r.id, .int .i64 r.count, .int .i64 r.epoch, .int .i64 r.voted, .int .i64 r.role, lv, .int .i64 r.conf, vv, mv], .agg #[.int .i64 2, .int .i64 src, .int .i64 dst, .int .i64 ep, .int .i64 pos, .int .i64 aep, iv, .int .i64 conf2, .bool yes]] w (RSent M w (handleF r ⟨2, src, dst, ep, pos, aep, items, conf2, yes⟩).1 (handleF r ⟨2, src, dst, ep, pos, aep, items, conf2, yes⟩).2 0) := by
  obtain ⟨f1, f2, f3, f4, f5, f6, f7, f8, f9, f10⟩ := fineF_out hf
  simp only at f1 f2 f3 f4 f5 f6 f7 f8 f9 f10
  obtain ⟨p, hp⟩ : ∃ p, p = voteF ⟨r.id, r.count, ep, -1, 1, r.log, r.conf, [], []⟩ ⟨2, src, dst, ep, pos, aep, items, conf2, yes⟩ := ⟨_, rfl⟩
  have hF : handleF r ⟨2, src, dst, ep, pos, aep, items, conf2, yes⟩ = p := by
    unfold handleF
    rw [if_neg (by rw [hf]; simp)]
    simp only
    rw [if_pos hep, hp]
    rfl
  have HF := Lib.hid hF
  have hr1 : Valid (⟨r.id, r.count, ep, -1, 1, r.log, r.conf, [], []⟩ : Rep) := hr.adopt hep f8
  have hs0 := f4
  have hs1 := f5
  obtain ⟨la, lcap, rfl, hlc, hlm⟩ := hlv.shape
  obtain ⟨va, vcap, rfl, _, _⟩ := hvv.shape
  obtain ⟨ma, mcap, rfl, _, _⟩ := hmv.shape
  obtain ⟨ia, icap, rfl, _, _⟩ := hiv.shape
  have K3 : ∀ a b c, Kept NoM w (((w.alloc a).alloc b).alloc c) := fun a b c => (((Kept.refl NoM w).alloc a).alloc b).alloc c
  have NM : ∀ i, i < w.heap.size → (i = w.heap.size + 2 ∨ (i < w.heap.size ∧ M i)) → M i := fun i hi h => by
    rcases h with h | h
    · omega
    · exact h.2
  have ta := fun wx (h : Kept NoM w wx) => rvote_ok ⟨r.id, r.count, ep, -1, 1, r.log, r.conf, [], []⟩ ⟨2, src, dst, ep, pos, aep, items, conf2, yes⟩ (.slice ia items.length icap) (.slice la r.log.length lcap) (.slice none 0 0) (.slice none 0 0) (fun i => i = w.heap.size + 2 ∨ (i < w.heap.size ∧ M i)) wx (hlv.step h.of_no NM) (RdBools.nil _ _) (RdInts.nil _ _) (hiv.kept h) hr1 hs0 hs1
  rw [← hp] at ta
  obtain ⟨r3, ls3⟩ := p
  dsimp only at ta
  have TA := Lib.hid ta
  have hfine := fun wx (h : Kept NoM w wx) => rfine_ok r ⟨2, src, dst, ep, pos, aep, items, conf2, yes⟩ (.slice la r.log.length lcap) (.slice va r.votes.length vcap) (.slice ma r.mat.length mcap) (.slice ia items.length icap) wx (hlv.any.kept h) (hvv.any.kept h) (hmv.any.kept h) (hiv.kept h) hil
  rw [hf] at hfine
  dsimp only at hfine
  have HFN := Lib.hid hfine
  clear hfine ta hp hF hf hr hr1 f1 f2 f3 f4 f5 f6 f7 f8 f9 f10
  go_enter Tryd.func25, Tryd.ntmps25
  go_wp2_with fail
  refine (HFN.out _ (K3 _ _ _)).mono ?_
  rintro e w1 ⟨rfl, k1⟩
  have b0 := k1.blk (k := w.heap.size) (blk_old (blk_old (blk_new' w _ w.heap.size rfl) _) _) (fun x => x)
  have b1 := k1.blk (k := w.heap.size + 1) (blk_old (blk_new' _ _ _ (by simp)) _) (fun x => x)
  have b2 := k1.blk (k := w.heap.size + 2) (blk_new' _ _ _ (by simp)) (fun x => x)
  obtain ⟨w2, e2, z0, z1, z2, y2, K2⟩ : ∃ w2, w1 = putB (putB w2 (w.heap.size + 1) _ 57) w.heap.size _ 32 ∧ w.heap.size < w2.heap.size ∧ w.heap.size + 1 < w2.heap.size ∧ w.heap.size + 2 < w2.heap.size ∧ w2.heap[w.heap.size + 2]? = some _ ∧ Kept NoM w w2 :=
    ⟨w1, expose2a b1 b0, lt_of_block b0, lt_of_block b1, lt_of_block b2, b2, (K3 _ _ _).trans k1⟩
  have KE : ∀ a c, Kept NoM w (putB (putB w2 (w.heap.size + 1) a 57) w.heap.size c 32) := fun a c => (K2.putN (b := w.heap.size + 1) (by omega) a 57).putN (b := w.heap.size) (by omega) c 32
  have BE : ∀ a c, (putB (putB w2 (w.heap.size + 1) a 57) w.heap.size c 32).heap[w.heap.size + 2]? = some (.cells #[.int .i64 0, .int .i64 0, .int .i64 0, .int .i64 0, .int .i64 0, .slice none 0 0, .int .i64 0, .slice none 0 0, .slice none 0 0, .slice none 0 0, .int .i64 0] 62 (0, 0)) := fun a c => (putB_blk_ne _ _ _ _ _ (by omega)).trans ((putB_blk_ne _ _ _ _ _ (by omega)).trans y2)
  clear b0 b1 b2 k1
  subst e2
  go_wp2_with fail
  refine (rfollow_ok r la va ma r.log.length lcap r.votes.length vcap r.mat.length mcap _).mono ?_
  rintro e w1B ⟨rfl, k1B⟩
  have b0B := k1B.blk (k := w.heap.size) (putB_blk _ _ _ _ (by simp only [putB_size]; omega)) (fun x => x)
  have b1B := k1B.blk (k := w.heap.size + 1) ((putB_blk_ne _ _ _ _ _ (by omega)).trans (putB_blk _ _ _ _ (by omega))) (fun x => x)
  have b2B := k1B.blk (k := w.heap.size + 2) (BE _ _) (fun x => x)
  obtain ⟨w2B, e2B, z0B, z1B, z2B, y2B, K2B⟩ : ∃ w2, w1B = putB (putB w2 (w.heap.size + 1) _ 57) w.heap.size _ 32 ∧ w.heap.size < w2.heap.size ∧ w.heap.size + 1 < w2.heap.size ∧ w.heap.size + 2 < w2.heap.size ∧ w2.heap[w.heap.size + 2]? = some _ ∧ Kept NoM w w2 :=
    ⟨w1B, expose2a b1B b0B, lt_of_block b0B, lt_of_block b1B, lt_of_block b2B, b2B, (KE _ _).trans k1B⟩
  have KEB : ∀ a c, Kept NoM w (putB (putB w2B (w.heap.size + 1) a 57) w.heap.size c 32) := fun a c => (K2B.putN (b := w.heap.size + 1) (by omega) a 57).putN (b := w.heap.size) (by omega) c 32
  have BEB : ∀ a c, (putB (putB w2B (w.heap.size + 1) a 57) w.heap.size c 32).heap[w.heap.size + 2]? = some (.cells #[.int .i64 0, .int .i64 0, .int .i64 0, .int .i64 0, .int .i64 0, .slice none 0 0, .int .i64 0, .slice none 0 0, .slice none 0 0, .slice none 0 0, .int .i64 0] 62 (0, 0)) := fun a c => (putB_blk_ne _ _ _ _ _ (by omega)).trans ((putB_blk_ne _ _ _ _ _ (by omega)).trans y2B)
  clear b0B b1B b2B k1B
  subst e2B
  go_wp2_with fail
  refine (TA.out _ (KEB _ _)).mono ?_
  intro e w6 hs
  obtain ⟨la6, lc6, va6, vc6, ma6, mc6, ta6, tc6, e6, hB6, k6, fin⟩ := hs.store (KEB _ _) (by simp only [putB_size]; omega) (by omega)
  subst e6
  have b6 := k6.blk (k := w.heap.size + 2) (BEB _ _) (fun x => x)
  obtain ⟨w7, e7, z7, fin7⟩ : ∃ w7, w6 = putB w7 (w.heap.size + 2) _ 62 ∧ w.heap.size + 2 < w7.heap.size ∧ ∀ c t, RSent _ w _ _ _ _ (putB w7 (w.heap.size + 2) c t) := ⟨w6, putB_self b6, hB6, fin⟩
  subst e7
  clear fin b6
  go_wp2_with fail
  refine bodyPost_ret (v := .agg #[.int .i64 r3.id, .int .i64 r3.count, .int .i64 r3.epoch, .int .i64 r3.voted, .int .i64 r3.role, .slice la6 r3.log.length lc6, .int .i64 r3.conf, .slice va6 r3.votes.length vc6, .slice ma6 r3.mat.length mc6, .slice ta6 ls3.length tc6, .int .i64 0]) (by simp [results, Tryd.results25, go_sem, z7]) rfl ?_
  rw [HF.out]
  exact (fin7 _ _).weak

theorem rhandle_13 (r : Rep) (src dst ep pos aep : Int) (items : List Item) (conf2 : Int) (yes : Bool) (iv : Value) (lv vv mv : Value) (M : Nat → Prop) (w : World) (hlv : RdItems w M lv r.log) (hvv : RdBools w M vv r.votes) (hmv : RdInts w M mv r.mat) (hiv : RdItems w NoM iv items) (hil : items.length ≤ 1000000) (hf : fineF r ⟨3, src, dst, ep, pos, aep, items, conf2, yes⟩ = true) (hr : Valid r) (hep : ep > r.epoch) :
    Calls Tryd.prog 25 #[.agg #[.int .i64 r.id, .int .i64 r.count, .int .i64 r.epoch, .int .i64 r.voted, .int .i64 r.role, lv, .int .i64 r.conf, vv, mv], .agg #[.int .i64 3, .int .i64 src, .int .i64 dst, .int .i64 ep, .int .i64 pos, .int .i64 aep, iv, .int .i64 conf2, .bool yes]] w (RSent M w (handleF r ⟨3, src, dst, ep, pos, aep, items, conf2, yes⟩).1 (handleF r ⟨3, src, dst, ep, pos, aep, items, conf2, yes⟩).2 0) := by
  obtain ⟨f1, f2, f3, f4, f5, f6, f7, f8, f9, f10⟩ := fineF_out hf
  simp only at f1 f2 f3 f4 f5 f6 f7 f8 f9 f10
  obtain ⟨p, hp⟩ : ∃ p, p = appendF ⟨r.id, r.count, ep, -1, 1, r.log, r.conf, [], []⟩ ⟨3, src, dst, ep, pos, aep, items, conf2, yes⟩ := ⟨_, rfl⟩
  have hF : handleF r ⟨3, src, dst, ep, pos, aep, items, conf2, yes⟩ = p := by
    unfold handleF
    rw [if_neg (by rw [hf]; simp)]
    simp only
    rw [if_pos hep, hp]
    rfl
  have HF := Lib.hid hF
  have hr1 : Valid (⟨r.id, r.count, ep, -1, 1, r.log, r.conf, [], []⟩ : Rep) := hr.adopt hep f8
  have hp0 := (f9 (by omega)).1
  have hpa := (f10 (by trivial)).2.2.1
  have hil3 : items.length ≤ 1000 := by have := (f10 (by trivial)).2.2.2.1; have := (f9 (by omega)).1; omega
  obtain ⟨la, lcap, rfl, hlc, hlm⟩ := hlv.shape
  obtain ⟨va, vcap, rfl, _, _⟩ := hvv.shape
  obtain ⟨ma, mcap, rfl, _, _⟩ := hmv.shape
  obtain ⟨ia, icap, rfl, _, _⟩ := hiv.shape
  have K3 : ∀ a b c, Kept NoM w (((w.alloc a).alloc b).alloc c) := fun a b c => (((Kept.refl NoM w).alloc a).alloc b).alloc c
  have NM : ∀ i, i < w.heap.size → (i = w.heap.size + 2 ∨ (i < w.heap.size ∧ M i)) → M i := fun i hi h => by
    rcases h with h | h
    · omega
    · exact h.2
  have ta := fun wx (h : Kept NoM w wx) => rappend_ok ⟨r.id, r.count, ep, -1, 1, r.log, r.conf, [], []⟩ ⟨3, src, dst, ep, pos, aep, items, conf2, yes⟩ (.slice ia items.length icap) (.slice la r.log.length lcap) (.slice none 0 0) (.slice none 0 0) (fun i => i = w.heap.size + 2 ∨ (i < w.heap.size ∧ M i)) wx (hlv.step h.of_no NM) (RdBools.nil _ _) (RdInts.nil _ _) (hiv.kept h) hr1 hp0 hpa hil3
  rw [← hp] at ta
  obtain ⟨r3, ls3⟩ := p
  dsimp only at ta
  have TA := Lib.hid ta
  have hfine := fun wx (h : Kept NoM w wx) => rfine_ok r ⟨3, src, dst, ep, pos, aep, items, conf2, yes⟩ (.slice la r.log.length lcap) (.slice va r.votes.length vcap) (.slice ma r.mat.length mcap) (.slice ia items.length icap) wx (hlv.any.kept h) (hvv.any.kept h) (hmv.any.kept h) (hiv.kept h) hil
  rw [hf] at hfine
  dsimp only at hfine
  have HFN := Lib.hid hfine
  clear hfine ta hp hF hf hr hr1 f1 f2 f3 f4 f5 f6 f7 f8 f9 f10
  go_enter Tryd.func25, Tryd.ntmps25
  go_wp2_with fail
  refine (HFN.out _ (K3 _ _ _)).mono ?_
  rintro e w1 ⟨rfl, k1⟩
  have b0 := k1.blk (k := w.heap.size) (blk_old (blk_old (blk_new' w _ w.heap.size rfl) _) _) (fun x => x)
  have b1 := k1.blk (k := w.heap.size + 1) (blk_old (blk_new' _ _ _ (by simp)) _) (fun x => x)
  have b2 := k1.blk (k := w.heap.size + 2) (blk_new' _ _ _ (by simp)) (fun x => x)
  obtain ⟨w2, e2, z0, z1, z2, y2, K2⟩ : ∃ w2, w1 = putB (putB w2 (w.heap.size + 1) _ 57) w.heap.size _ 32 ∧ w.heap.size < w2.heap.size ∧ w.heap.size + 1 < w2.heap.size ∧ w.heap.size + 2 < w2.heap.size ∧ w2.heap[w.heap.size + 2]? = some _ ∧ Kept NoM w w2 :=
    ⟨w1, expose2a b1 b0, lt_of_block b0, lt_of_block b1, lt_of_block b2, b2, (K3 _ _ _).trans k1⟩
  have KE : ∀ a c, Kept NoM w (putB (putB w2 (w.heap.size + 1) a 57) w.heap.size c 32) := fun a c => (K2.putN (b := w.heap.size + 1) (by omega) a 57).putN (b := w.heap.size) (by omega) c 32
  have BE : ∀ a c, (putB (putB w2 (w.heap.size + 1) a 57) w.heap.size c 32).heap[w.heap.size + 2]? = some (.cells #[.int .i64 0, .int .i64 0, .int .i64 0, .int .i64 0, .int .i64 0, .slice none 0 0, .int .i64 0, .slice none 0 0, .slice none 0 0, .slice none 0 0, .int .i64 0] 62 (0, 0)) := fun a c => (putB_blk_ne _ _ _ _ _ (by omega)).trans ((putB_blk_ne _ _ _ _ _ (by omega)).trans y2)
  clear b0 b1 b2 k1
  subst e2
  go_wp2_with fail
  refine (rfollow_ok r la va ma r.log.length lcap r.votes.length vcap r.mat.length mcap _).mono ?_
  rintro e w1B ⟨rfl, k1B⟩
  have b0B := k1B.blk (k := w.heap.size) (putB_blk _ _ _ _ (by simp only [putB_size]; omega)) (fun x => x)
  have b1B := k1B.blk (k := w.heap.size + 1) ((putB_blk_ne _ _ _ _ _ (by omega)).trans (putB_blk _ _ _ _ (by omega))) (fun x => x)
  have b2B := k1B.blk (k := w.heap.size + 2) (BE _ _) (fun x => x)
  obtain ⟨w2B, e2B, z0B, z1B, z2B, y2B, K2B⟩ : ∃ w2, w1B = putB (putB w2 (w.heap.size + 1) _ 57) w.heap.size _ 32 ∧ w.heap.size < w2.heap.size ∧ w.heap.size + 1 < w2.heap.size ∧ w.heap.size + 2 < w2.heap.size ∧ w2.heap[w.heap.size + 2]? = some _ ∧ Kept NoM w w2 :=
    ⟨w1B, expose2a b1B b0B, lt_of_block b0B, lt_of_block b1B, lt_of_block b2B, b2B, (KE _ _).trans k1B⟩
  have KEB : ∀ a c, Kept NoM w (putB (putB w2B (w.heap.size + 1) a 57) w.heap.size c 32) := fun a c => (K2B.putN (b := w.heap.size + 1) (by omega) a 57).putN (b := w.heap.size) (by omega) c 32
  have BEB : ∀ a c, (putB (putB w2B (w.heap.size + 1) a 57) w.heap.size c 32).heap[w.heap.size + 2]? = some (.cells #[.int .i64 0, .int .i64 0, .int .i64 0, .int .i64 0, .int .i64 0, .slice none 0 0, .int .i64 0, .slice none 0 0, .slice none 0 0, .slice none 0 0, .int .i64 0] 62 (0, 0)) := fun a c => (putB_blk_ne _ _ _ _ _ (by omega)).trans ((putB_blk_ne _ _ _ _ _ (by omega)).trans y2B)
  clear b0B b1B b2B k1B
  subst e2B
  go_wp2_with fail
  refine (TA.out _ (KEB _ _)).mono ?_
  intro e w6 hs
  obtain ⟨la6, lc6, va6, vc6, ma6, mc6, ta6, tc6, e6, hB6, k6, fin⟩ := hs.store (KEB _ _) (by simp only [putB_size]; omega) (by omega)
  subst e6
  have b6 := k6.blk (k := w.heap.size + 2) (BEB _ _) (fun x => x)
  obtain ⟨w7, e7, z7, fin7⟩ : ∃ w7, w6 = putB w7 (w.heap.size + 2) _ 62 ∧ w.heap.size + 2 < w7.heap.size ∧ ∀ c t, RSent _ w _ _ _ _ (putB w7 (w.heap.size + 2) c t) := ⟨w6, putB_self b6, hB6, fin⟩
  subst e7
  clear fin b6
  go_wp2_with fail
  refine bodyPost_ret (v := .agg #[.int .i64 r3.id, .int .i64 r3.count, .int .i64 r3.epoch, .int .i64 r3.voted, .int .i64 r3.role, .slice la6 r3.log.length lc6, .int .i64 r3.conf, .slice va6 r3.votes.length vc6, .slice ma6 r3.mat.length mc6, .slice ta6 ls3.length tc6, .int .i64 0]) (by simp [results, Tryd.results25, go_sem, z7]) rfl ?_
  rw [HF.out]
  exact (fin7 _ _).weak

theorem rhandle_14 (r : Rep) (src dst ep pos aep : Int) (items : List Item) (conf2 : Int) (yes : Bool) (iv : Value) (lv vv mv : Value) (M : Nat → Prop) (w : World) (hlv : RdItems w M lv r.log) (hvv : RdBools w M vv r.votes) (hmv : RdInts w M mv r.mat) (hiv : RdItems w NoM iv items) (hil : items.length ≤ 1000000) (hf : fineF r ⟨4, src, dst, ep, pos, aep, items, conf2, yes⟩ = true) (hr : Valid r) (hep : ep > r.epoch) :
    Calls Tryd.prog 25 #[.agg #[.int .i64 r.id, .int .i64 r.count, .int .i64 r.epoch, .int .i64 r.voted, .int .i64 r.role, lv, .int .i64 r.conf, vv, mv], .agg #[.int .i64 4, .int .i64 src, .int .i64 dst, .int .i64 ep, .int .i64 pos, .int .i64 aep, iv, .int .i64 conf2, .bool yes]] w (RSent M w (handleF r ⟨4, src, dst, ep, pos, aep, items, conf2, yes⟩).1 (handleF r ⟨4, src, dst, ep, pos, aep, items, conf2, yes⟩).2 0) := by
  obtain ⟨f1, f2, f3, f4, f5, f6, f7, f8, f9, f10⟩ := fineF_out hf
  simp only at f1 f2 f3 f4 f5 f6 f7 f8 f9 f10
  obtain ⟨p, hp⟩ : ∃ p, p = replyF ⟨r.id, r.count, ep, -1, 1, r.log, r.conf, [], []⟩ ⟨4, src, dst, ep, pos, aep, items, conf2, yes⟩ := ⟨_, rfl⟩
  have hF : handleF r ⟨4, src, dst, ep, pos, aep, items, conf2, yes⟩ = p := by
    unfold handleF
    rw [if_neg (by rw [hf]; simp)]
    simp only
    rw [if_pos hep, hp]
    rfl
  have HF := Lib.hid hF
  have hr1 : Valid (⟨r.id, r.count, ep, -1, 1, r.log, r.conf, [], []⟩ : Rep) := hr.adopt hep f8
  have hs0 := f4
  have hs1 := f5
  have hsi := f6
  have hp0 := (f9 (by omega)).1
  obtain ⟨la, lcap, rfl, hlc, hlm⟩ := hlv.shape
  obtain ⟨va, vcap, rfl, _, _⟩ := hvv.shape
  obtain ⟨ma, mcap, rfl, _, _⟩ := hmv.shape
  obtain ⟨ia, icap, rfl, _, _⟩ := hiv.shape
  have K3 : ∀ a b c, Kept NoM w (((w.alloc a).alloc b).alloc c) := fun a b c => (((Kept.refl NoM w).alloc a).alloc b).alloc c
  have NM : ∀ i, i < w.heap.size → (i = w.heap.size + 2 ∨ (i < w.heap.size ∧ M i)) → M i := fun i hi h => by
    rcases h with h | h
    · omega
    · exact h.2
  have ta := fun wx (h : Kept NoM w wx) => rreply_ok ⟨r.id, r.count, ep, -1, 1, r.log, r.conf, [], []⟩ ⟨4, src, dst, ep, pos, aep, items, conf2, yes⟩ (.slice ia items.length icap) (.slice la r.log.length lcap) (.slice none 0 0) (.slice none 0 0) (fun i => i = w.heap.size + 2 ∨ (i < w.heap.size ∧ M i)) wx (hlv.step h.of_no NM) (RdBools.nil _ _) (RdInts.nil _ _) (hiv.kept h) hr1 hs0 hs1 hsi hp0
  rw [← hp] at ta
  obtain ⟨r3, ls3⟩ := p
  dsimp only at ta
  have TA := Lib.hid ta
  have hfine := fun wx (h : Kept NoM w wx) => rfine_ok r ⟨4, src, dst, ep, pos, aep, items, conf2, yes⟩ (.slice la r.log.length lcap) (.slice va r.votes.length vcap) (.slice ma r.mat.length mcap) (.slice ia items.length icap) wx (hlv.any.kept h) (hvv.any.kept h) (hmv.any.kept h) (hiv.kept h) hil
  rw [hf] at hfine
  dsimp only at hfine
  have HFN := Lib.hid hfine
  clear hfine ta hp hF hf hr hr1 f1 f2 f3 f4 f5 f6 f7 f8 f9 f10
  go_enter Tryd.func25, Tryd.ntmps25
  go_wp2_with fail
  refine (HFN.out _ (K3 _ _ _)).mono ?_
  rintro e w1 ⟨rfl, k1⟩
  have b0 := k1.blk (k := w.heap.size) (blk_old (blk_old (blk_new' w _ w.heap.size rfl) _) _) (fun x => x)
  have b1 := k1.blk (k := w.heap.size + 1) (blk_old (blk_new' _ _ _ (by simp)) _) (fun x => x)
  have b2 := k1.blk (k := w.heap.size + 2) (blk_new' _ _ _ (by simp)) (fun x => x)
  obtain ⟨w2, e2, z0, z1, z2, y2, K2⟩ : ∃ w2, w1 = putB (putB w2 (w.heap.size + 1) _ 57) w.heap.size _ 32 ∧ w.heap.size < w2.heap.size ∧ w.heap.size + 1 < w2.heap.size ∧ w.heap.size + 2 < w2.heap.size ∧ w2.heap[w.heap.size + 2]? = some _ ∧ Kept NoM w w2 :=
    ⟨w1, expose2a b1 b0, lt_of_block b0, lt_of_block b1, lt_of_block b2, b2, (K3 _ _ _).trans k1⟩
  have KE : ∀ a c, Kept NoM w (putB (putB w2 (w.heap.size + 1) a 57) w.heap.size c 32) := fun a c => (K2.putN (b := w.heap.size + 1) (by omega) a 57).putN (b := w.heap.size) (by omega) c 32
  have BE : ∀ a c, (putB (putB w2 (w.heap.size + 1) a 57) w.heap.size c 32).heap[w.heap.size + 2]? = some (.cells #[.int .i64 0, .int .i64 0, .int .i64 0, .int .i64 0, .int .i64 0, .slice none 0 0, .int .i64 0, .slice none 0 0, .slice none 0 0, .slice none 0 0, .int .i64 0] 62 (0, 0)) := fun a c => (putB_blk_ne _ _ _ _ _ (by omega)).trans ((putB_blk_ne _ _ _ _ _ (by omega)).trans y2)
  clear b0 b1 b2 k1
  subst e2
  go_wp2_with fail
  refine (rfollow_ok r la va ma r.log.length lcap r.votes.length vcap r.mat.length mcap _).mono ?_
  rintro e w1B ⟨rfl, k1B⟩
  have b0B := k1B.blk (k := w.heap.size) (putB_blk _ _ _ _ (by simp only [putB_size]; omega)) (fun x => x)
  have b1B := k1B.blk (k := w.heap.size + 1) ((putB_blk_ne _ _ _ _ _ (by omega)).trans (putB_blk _ _ _ _ (by omega))) (fun x => x)
  have b2B := k1B.blk (k := w.heap.size + 2) (BE _ _) (fun x => x)
  obtain ⟨w2B, e2B, z0B, z1B, z2B, y2B, K2B⟩ : ∃ w2, w1B = putB (putB w2 (w.heap.size + 1) _ 57) w.heap.size _ 32 ∧ w.heap.size < w2.heap.size ∧ w.heap.size + 1 < w2.heap.size ∧ w.heap.size + 2 < w2.heap.size ∧ w2.heap[w.heap.size + 2]? = some _ ∧ Kept NoM w w2 :=
    ⟨w1B, expose2a b1B b0B, lt_of_block b0B, lt_of_block b1B, lt_of_block b2B, b2B, (KE _ _).trans k1B⟩
  have KEB : ∀ a c, Kept NoM w (putB (putB w2B (w.heap.size + 1) a 57) w.heap.size c 32) := fun a c => (K2B.putN (b := w.heap.size + 1) (by omega) a 57).putN (b := w.heap.size) (by omega) c 32
  have BEB : ∀ a c, (putB (putB w2B (w.heap.size + 1) a 57) w.heap.size c 32).heap[w.heap.size + 2]? = some (.cells #[.int .i64 0, .int .i64 0, .int .i64 0, .int .i64 0, .int .i64 0, .slice none 0 0, .int .i64 0, .slice none 0 0, .slice none 0 0, .slice none 0 0, .int .i64 0] 62 (0, 0)) := fun a c => (putB_blk_ne _ _ _ _ _ (by omega)).trans ((putB_blk_ne _ _ _ _ _ (by omega)).trans y2B)
  clear b0B b1B b2B k1B
  subst e2B
  go_wp2_with fail
  refine (TA.out _ (KEB _ _)).mono ?_
  intro e w6 hs
  obtain ⟨la6, lc6, va6, vc6, ma6, mc6, ta6, tc6, e6, hB6, k6, fin⟩ := hs.store (KEB _ _) (by simp only [putB_size]; omega) (by omega)
  subst e6
  have b6 := k6.blk (k := w.heap.size + 2) (BEB _ _) (fun x => x)
  obtain ⟨w7, e7, z7, fin7⟩ : ∃ w7, w6 = putB w7 (w.heap.size + 2) _ 62 ∧ w.heap.size + 2 < w7.heap.size ∧ ∀ c t, RSent _ w _ _ _ _ (putB w7 (w.heap.size + 2) c t) := ⟨w6, putB_self b6, hB6, fin⟩
  subst e7
  clear fin b6
  go_wp2_with fail
  refine bodyPost_ret (v := .agg #[.int .i64 r3.id, .int .i64 r3.count, .int .i64 r3.epoch, .int .i64 r3.voted, .int .i64 r3.role, .slice la6 r3.log.length lc6, .int .i64 r3.conf, .slice va6 r3.votes.length vc6, .slice ma6 r3.mat.length mc6, .slice ta6 ls3.length tc6, .int .i64 0]) (by simp [results, Tryd.results25, go_sem, z7]) rfl ?_
  rw [HF.out]
  exact (fin7 _ _).weak

theorem rhandle_ok (r : Rep) (m : Let) (iv : Value) (lv vv mv : Value) (M : Nat → Prop) (w : World) (hlv : RdItems w M lv r.log) (hvv : RdBools w M vv r.votes) (hmv : RdInts w M mv r.mat) (hiv : RdItems w NoM iv m.items) (hil : m.items.length ≤ 1000000) (hr : Valid r) :
    Calls Tryd.prog 25 #[.agg #[.int .i64 r.id, .int .i64 r.count, .int .i64 r.epoch, .int .i64 r.voted, .int .i64 r.role, lv, .int .i64 r.conf, vv, mv], .agg #[.int .i64 m.kind, .int .i64 m.src, .int .i64 m.dst, .int .i64 m.ep, .int .i64 m.pos, .int .i64 m.aep, iv, .int .i64 m.conf, .bool m.yes]] w (RSent M w (handleF r m).1 (handleF r m).2 0) := by
  cases hf : fineF r m
  · exact rhandle_no r m iv lv vv mv M w hlv hvv hmv hiv hil hf
  · obtain ⟨f1, f2, _⟩ := fineF_out hf
    obtain ⟨kind, src, dst, ep, pos, aep, items, conf2, yes⟩ := m
    simp only at f1 f2 hiv hil
    have hk : kind = 1 ∨ kind = 2 ∨ kind = 3 ∨ kind = 4 := by omega
    by_cases hep : ep > r.epoch
    · rcases hk with rfl | rfl | rfl | rfl
      · exact rhandle_11 r src dst ep pos aep items conf2 yes iv lv vv mv M w hlv hvv hmv hiv hil hf hr hep
      · exact rhandle_12 r src dst ep pos aep items conf2 yes iv lv vv mv M w hlv hvv hmv hiv hil hf hr hep
      · exact rhandle_13 r src dst ep pos aep items conf2 yes iv lv vv mv M w hlv hvv hmv hiv hil hf hr hep
      · exact rhandle_14 r src dst ep pos aep items conf2 yes iv lv vv mv M w hlv hvv hmv hiv hil hf hr hep
    · rcases hk with rfl | rfl | rfl | rfl
      · exact rhandle_01 r src dst ep pos aep items conf2 yes iv lv vv mv M w hlv hvv hmv hiv hil hf hr hep
      · exact rhandle_02 r src dst ep pos aep items conf2 yes iv lv vv mv M w hlv hvv hmv hiv hil hf hr hep
      · exact rhandle_03 r src dst ep pos aep items conf2 yes iv lv vv mv M w hlv hvv hmv hiv hil hf hr hep
      · exact rhandle_04 r src dst ep pos aep items conf2 yes iv lv vv mv M w hlv hvv hmv hiv hil hf hr hep
end Go.Proofs.YtgohploghbimlaaDoor
