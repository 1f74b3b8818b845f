/- Texts that belong together: RF, RG. -/
import Derived.Test.YtgohploghbimlaaDoorKWD
import Derived.Test.YtgohploghbimlaaDoorKWA
import Derived.BigQuiet
import Derived.Deep.RegionHeld3
import Derived.Test.YtgohploghbimlaaDoorKWE
import Derived.Test.YtgohploghbimlaaDoorKOwn
set_option linter.unusedVariables false
set_option linter.unusedSimpArgs false
set_option linter.unusedSectionVars false
/- Walks of the specification: Timeout. -/
namespace Go.Proofs.YtgohploghbimlaaDoor
open Go.RowKit
set_option maxHeartbeats 1000000
set_option maxRecDepth 4000

def votF (id : Int) (k : Nat) : List Bool := (List.range k).map fun (i : Nat) => (i : Int) == id
theorem votF_succ (id : Int) (k : Nat) : votF id (k + 1) = votF id k ++ [(k : Int) == id] := by
  unfold votF; rw [List.range_succ, List.map_append]; rfl
theorem votF_len (id : Int) (k : Nat) : (votF id k).length = k := by unfold votF; simp
theorem votF_set (j n : Nat) : votF j n = (List.replicate n false).set j true := by
  apply List.ext_getElem?
  intro i
  unfold votF
  rw [List.getElem?_map, List.getElem?_set, List.getElem?_replicate, List.length_replicate]
  by_cases h : i < n
  · rw [List.getElem?_range h]
    by_cases hj : j = i
    · subst hj; simp [h]
    · have : ¬ ((i : Int) = (j : Int)) := by omega
      simp [h, hj, this]
  · have : (List.range n)[i]? = none := by rw [List.getElem?_eq_none_iff]; simp; omega
    rw [this]
    by_cases hj : j = i
    · subst hj; simp [h]
    · simp [h, hj]

theorem rtimeout_lead (r : Rep) (lv vv mv : Value) (M : Nat → Prop) (w : World) (hlv : RdItems w M lv r.log) (hvv : RdBools w M vv r.votes) (hmv : RdInts w M mv r.mat) (hr : Valid r) (h3 : r.role = 3) :
    Calls Tryd.prog 22 #[.agg #[.int .i64 r.id, .int .i64 r.count, .int .i64 r.epoch, .int .i64 r.voted, .int .i64 r.role, lv, .int .i64 r.conf, vv, mv]] w (RSent M w (timeoutF r).1 (timeoutF r).2 0) := by
  obtain ⟨la, lcap, rfl, hlc, hlm⟩ := hlv.shape
  obtain ⟨va, vcap, rfl, _, _⟩ := hvv.shape
  obtain ⟨ma, mcap, rfl, _, _⟩ := hmv.shape
  have K2 : ∀ a b, Kept NoM w ((w.alloc a).alloc b) := fun a b => ((Kept.refl NoM w).alloc a).alloc b
  have hF : timeoutF r = (r, (othersF r.count.toNat r.id).map (logLet r)) := by unfold timeoutF; rw [if_pos h3]
  have HF := Lib.hid hF
  have hm := hr.mat
  rw [if_pos h3] at hm
  have HM := Lib.hid hm
  have HR := Lib.hid hr
  have t1 : (r.role == 3) = true := by rw [beq_iff_eq]; exact h3
  have NM : ∀ i, i < w.heap.size → (i = w.heap.size + 1 ∨ (i < w.heap.size ∧ M i)) → M i := fun i hi h => by
    rcases h with h | h
    · omega
    · exact h.2
  obtain ⟨ls, hls⟩ : ∃ ls, ls = (othersF r.count.toNat r.id).map (logLet r) := ⟨_, rfl⟩
  have ta := fun x y => toAll_ok r _ _ _ _ ((w.alloc x).alloc y) (hlv.step (K2 _ _).of_no NM) (hvv.step (K2 _ _).of_no NM) (hmv.step (K2 _ _).of_no NM) (by have := hr.count1; omega) (by have := hr.count7; omega) hm hr.match_ (by have := hr.len; omega)
  rw [← hls] at ta hF
  have TA := Lib.hid ta
  have HF := Lib.hid hF
  clear hm hr h3 hF ta hls
  go_enter Tryd.func22, Tryd.ntmps22
  go_wp2_with fail
  refine (TA.out _ _).mono ?_
  intro e w6 hs
  obtain ⟨la6, lc6, va6, vc6, ma6, mc6, ta6, tc6, e6, hB6, k6, fin⟩ := hs.store (K2 _ _) (by simp <;> omega) (by omega)
  subst e6
  have b6 := k6.blk (k := w.heap.size + 1) (blk_new' _ _ _ (by simp)) (fun x => x)
  obtain ⟨w7, e7, z7, fin7⟩ : ∃ w7, w6 = putB w7 (w.heap.size + 1) _ 62 ∧ w.heap.size + 1 < w7.heap.size ∧ ∀ c t, RSent _ w _ _ _ _ (putB w7 (w.heap.size + 1) c t) := ⟨w6, putB_self b6, hB6, fin⟩
  subst e7
  clear fin b6
  go_wp2_with fail
  refine bodyPost_ret (v := .agg #[.int .i64 r.id, .int .i64 r.count, .int .i64 r.epoch, .int .i64 r.voted, .int .i64 r.role, .slice la6 r.log.length lc6, .int .i64 r.conf, .slice va6 r.votes.length vc6, .slice ma6 r.mat.length mc6, .slice ta6 ls.length tc6, .int .i64 0]) (by simp [results, Tryd.results22, go_sem, z7]) rfl ?_
  rw [HF.out]
  exact (fin7 _ _).weak

theorem rtimeout_old (r : Rep) (lv vv mv : Value) (M : Nat → Prop) (w : World) (hlv : RdItems w M lv r.log) (hvv : RdBools w M vv r.votes) (hmv : RdInts w M mv r.mat) (h3 : r.role ≠ 3) (he : r.epoch ≥ 1073741824) :
    Calls Tryd.prog 22 #[.agg #[.int .i64 r.id, .int .i64 r.count, .int .i64 r.epoch, .int .i64 r.voted, .int .i64 r.role, lv, .int .i64 r.conf, vv, mv]] w (RSent M w (timeoutF r).1 (timeoutF r).2 0) := by
  obtain ⟨la, lcap, rfl, hlc, hlm⟩ := hlv.shape
  obtain ⟨va, vcap, rfl, _, _⟩ := hvv.shape
  obtain ⟨ma, mcap, rfl, _, _⟩ := hmv.shape
  have K2 : ∀ a b, Kept NoM w ((w.alloc a).alloc b) := fun a b => ((Kept.refl NoM w).alloc a).alloc b
  have hF : timeoutF r = (r, []) := by unfold timeoutF; rw [if_neg h3, if_pos he]
  have HF := Lib.hid hF
  have t1 : (r.role == 3) = false := by rw [beq_eq_false_iff_ne]; exact h3
  clear h3 hF
  go_enter Tryd.func22, Tryd.ntmps22
  go_wp2
  refine bodyPost_ret (v := .agg #[.int .i64 r.id, .int .i64 r.count, .int .i64 r.epoch, .int .i64 r.voted, .int .i64 r.role, .slice la r.log.length lcap, .int .i64 r.conf, .slice va r.votes.length vcap, .slice ma r.mat.length mcap, .slice none 0 0, .int .i64 0]) (by simp [results, Tryd.results22, go_sem]) rfl ?_
  rw [HF.out]
  exact ⟨_, _, _, _, rfl, hlv.step (K2 _ _).of_no (fun _ _ x => x.2), hvv.step (K2 _ _).of_no (fun _ _ x => x.2), hmv.step (K2 _ _).of_no (fun _ _ x => x.2), RdLets.nil _ _, K2 _ _⟩

theorem rtimeout_cand (r : Rep) (lv vv mv : Value) (M : Nat → Prop) (w : World) (hlv : RdItems w M lv r.log) (hvv : RdBools w M vv r.votes) (hmv : RdInts w M mv r.mat) (hr : Valid r) (h3 : r.role ≠ 3) (he : ¬ r.epoch ≥ 1073741824) :
    Calls Tryd.prog 22 #[.agg #[.int .i64 r.id, .int .i64 r.count, .int .i64 r.epoch, .int .i64 r.voted, .int .i64 r.role, lv, .int .i64 r.conf, vv, mv]] w (RSent M w (timeoutF r).1 (timeoutF r).2 0) := by
  obtain ⟨n, hn⟩ := Int.eq_ofNat_of_zero_le (show 0 ≤ r.count by have := hr.count1; omega)
  obtain ⟨j, hj⟩ := Int.eq_ofNat_of_zero_le hr.id0
  have c1 := hr.count1
  have c7 := hr.count7
  have i1 := hr.id1
  have he0 := hr.ep0
  have hll := hr.len
  have hf0 := hr.cf0
  obtain ⟨id, count, epoch, voted, role, log, conf, votes, mat⟩ := r
  simp only at *
  subst hn; subst hj
  have t1 : (role == 3) = false := by rw [beq_eq_false_iff_ne]; exact h3
  obtain ⟨vs, hvs⟩ : ∃ vs : List Bool, vs = votF j n := ⟨_, rfl⟩
  obtain ⟨r1, hr1⟩ : ∃ r1 : Rep, r1 = ⟨j, n, epoch + 1, j, 2, log, conf, vs, mat⟩ := ⟨_, rfl⟩
  have hF : timeoutF ⟨j, n, epoch, voted, role, log, conf, votes, mat⟩ = if 2 * 1 > (n : Int) then leadF r1 else (r1, (othersF n j).map fun k => { kind := 1, src := j, dst := k, ep := epoch + 1, pos := log.length, aep := lastF log, items := [], conf := 0, yes := false }) := by
    unfold timeoutF; rw [if_neg h3, if_neg he, hr1, hvs, votF_set]; rfl
  have HF := Lib.hid hF
  have HR1 := Lib.hid hr1
  have HVS := Lib.hid hvs
  clear hF h3 hr hr1 hvs
  obtain ⟨la, lcap, rfl, hlc, hlm⟩ := hlv.shape
  obtain ⟨va, vcap, rfl, _, _⟩ := hvv.shape
  obtain ⟨ma, mcap, rfl, _, _⟩ := hmv.shape
  have K2 : ∀ a b, Kept NoM w ((w.alloc a).alloc b) := fun a b => ((Kept.refl NoM w).alloc a).alloc b
  go_enter Tryd.func22, Tryd.ntmps22
  go_wp2_with fail
  go_loopw [3] (fun i wr => ∃ k : Nat, k ≤ n ∧ i = .int .i64 k ∧ ∃ a cap Ox,
    wr.heap[w.heap.size]? = some (.cells #[.int .i64 j, .int .i64 n, .int .i64 (epoch + 1), .int .i64 j, .int .i64 2, .slice la log.length lcap, .int .i64 conf, .slice a k cap, .slice ma mat.length mcap] 32 (0, 0)) ∧
    wr.heap[w.heap.size + 1]? = some (.cells #[.int .i64 0, .int .i64 0, .int .i64 0, .int .i64 0, .int .i64 0, .slice none 0 0, .int .i64 0, .slice none 0 0, .slice none 0 0, .slice none 0 0, .int .i64 0] 62 (0, 0)) ∧
    OwnS wr Ox 4 1 EBool (.slice a k cap) (votF j k) ∧ (∀ g, Ox = some g → w.heap.size + 2 ≤ g) ∧ Kept NoM w wr) (fun i _ => n - (intOf i).toNat)
  case atStart =>
    refine ⟨0, Nat.zero_le _, rfl, none, 0, none, ?_, ?_, OwnS.nil _ _ _ _, by simp, K2 _ _⟩
    · exact blk_old (blk_new' w _ w.heap.size rfl) _
    · exact blk_new' _ _ _ (by simp)
  case round =>
    obtain ⟨k, hk, rfl, a, cap, Ox, b0, b1, own, hO, hK⟩ := hrel
    have hsz := votF_succ j k
    have hlen := votF_len j k
    obtain ⟨L, hL⟩ : ∃ L, L = votF j k := ⟨_, rfl⟩
    rw [← hL] at hsz own hlen
    have HSZ := Lib.hid hsz
    have HL := Lib.hid hL
    clear hsz hL
    obtain ⟨w4, e4, z0, z1, K4, y1, own4⟩ : ∃ w4, wr = putB w4 w.heap.size _ 32 ∧ w.heap.size < w4.heap.size ∧ w.heap.size + 1 < w4.heap.size ∧ Kept NoM w w4 ∧ w4.heap[w.heap.size + 1]? = some _ ∧ OwnS w4 Ox 4 1 EBool _ L :=
      ⟨wr, putB_self b0, lt_of_block b0, lt_of_block b1, hK, b1, own⟩
    by_cases hlt : k < n
    · have hlti : (k : Int) < n := by omega
      have hOB : ∀ g, Ox = some g → ¬ g = w.heap.size := fun g hg => by have := hO g hg; omega
      have Y1 := Lib.hid y1
      have HLN := Lib.hid hlen
      clear b0 b1 own y1 hlt hlen
      subst e4
      have hoo : ∀ c o, OwnS ((putB w4 w.heap.size c 32).alloc o) Ox 4 1 EBool (.slice a k cap) L := fun c o => own4.kept (((Kept.refl (fun k => k = w.heap.size) w4).putM (b := w.heap.size) rfl c 32).alloc o) hOB (fun _ _ h => h)
      have hrd : ∀ c (y : Bool), RdS ((putB w4 w.heap.size c 32).alloc (.cells #[.bool y] 4 (0, 0))) NoM 1 EBool (.slice (some ⟨w4.heap.size, 0, none⟩) 1 1) [y] := fun c y => rd_one (x := y) (blk_new' _ _ _ (by simp)) (fun h => h) rfl rfl
      have fin : ∀ c y w2 O1 a1 cap1, OwnS w2 O1 4 1 EBool (.slice a1 (k + 1) cap1) (L ++ [y]) → Kept (fun k => some k = Ox) ((putB w4 w.heap.size c 32).alloc (.cells #[.bool y] 4 (0, 0))) w2 → NewO ((putB w4 w.heap.size c 32).alloc (.cells #[.bool y] 4 (0, 0))) Ox O1 → y = ((k : Int) == j) →
          ∀ d, (putB w2 w.heap.size d 32).heap[w.heap.size + 1]? = some (.cells #[.int .i64 0, .int .i64 0, .int .i64 0, .int .i64 0, .int .i64 0, .slice none 0 0, .int .i64 0, .slice none 0 0, .slice none 0 0, .slice none 0 0, .int .i64 0] 62 (0, 0)) ∧
            OwnS (putB w2 w.heap.size d 32) O1 4 1 EBool (.slice a1 (k + 1) cap1) (votF j (k + 1)) ∧ (∀ g, O1 = some g → w.heap.size + 2 ≤ g) ∧ Kept NoM w (putB w2 w.heap.size d 32) := by
        intro c y w2 O1 a1 cap1 ho hk hn hy d
        have hO1 : ∀ g, O1 = some g → w.heap.size + 2 ≤ g := by
          intro g hg
          rcases hn with rfl | ⟨g', rfl, hg2⟩
          · exact hO g hg
          · cases hg; simp at hg2; omega
        refine ⟨?_, ?_, hO1, ?_⟩
        · rw [putB_blk_ne _ _ _ _ _ (by omega)]
          exact hk.blk (blk_old ((putB_blk_ne _ _ _ _ _ (by omega)).trans Y1.out) _) (fun h => by have := hO _ h.symm; omega)
        · rw [HSZ.out, ← hy]
          exact ho.kept ((Kept.refl (fun k => k = w.heap.size) w2).putM (b := w.heap.size) rfl _ _) (fun g hg h => by have := hO1 g hg; omega) (fun _ _ h => h)
        · exact Kept.putN ((((K4.putN (b := w.heap.size) (by omega) c 32).alloc _)).trans' hk (fun i hi h => by have := hO i h.symm; omega)) (by omega) _ _
      go_wp2_with (at_builtin; go_loud (refine wpList_append_S (M := NoM) rfl (.tmp 32) (.tmp 37) 29 rfl 1 tyBools _ rfl (hoo _ _) _ rfl (hrd _ _) eBool_one k 1 HLN.out rfl (by unfold maxLen; omega) (by omega) ?_; intro a1 cap1 w1 O1 hown1 hk1 hn1; obtain ⟨w2, e2, own2, k2, hz2⟩ : ∃ w2, w1 = putB w2 w.heap.size _ 32 ∧ OwnS w2 O1 4 1 EBool _ _ ∧ Kept (fun k => some k = Ox) _ w2 ∧ w.heap.size < w2.heap.size := ⟨w1, putB_self (hk1.blk (blk_old (putB_blk _ _ _ _ z0) _) (fun h => hOB _ h.symm rfl)), hown1, hk1, by have := hk1.size; simp at this; omega⟩; subst e2))
      have FN := fin _ _ w2 O1 a1 cap1 own2 k2 hn1 rfl
      go_roundw
      case rel => exact ⟨k + 1, by omega, by go_num, a1, cap1, O1, putB_blk _ _ _ _ hz2, (FN _).1, (FN _).2.1, (FN #[]).2.2.1, (FN _).2.2.2⟩
      case measure => simp [intOf]; omega
    · obtain rfl : k = n := by omega
      have hltf : decide ((k : Int) < (k : Int)) = false := decide_eq_false (by omega)
      have hLm : L = vs := by rw [HL.out, HVS.out]
      rw [hLm] at own
      clear hLm hlen own4 y1 z0 z1 K4
      have hvl : vs.length = k := by rw [HVS.out, votF_len]
      obtain ⟨w5, e5, z0, z1, K5, own5⟩ : ∃ w5, wr = putB (putB w5 w.heap.size _ 32) (w.heap.size + 1) _ 62 ∧ w.heap.size < w5.heap.size ∧ w.heap.size + 1 < w5.heap.size ∧ Kept NoM w w5 ∧ OwnS w5 Ox 4 1 EBool _ vs := ⟨wr, expose2a b0 b1, lt_of_block b0, lt_of_block b1, hK, own⟩
      clear b0 b1 own hK e4
      subst e5
      have KE : ∀ a c, Kept NoM w (putB (putB w5 w.heap.size a 32) (w.heap.size + 1) c 62) := fun a c => (K5.putN (b := w.heap.size) (by omega) a 32).putN (b := w.heap.size + 1) (by omega) c 62
      have NM : ∀ i, i < w.heap.size → (i = w.heap.size + 1 ∨ (i < w.heap.size ∧ M i)) → M i := fun i hi h => by
        rcases h with h | h
        · omega
        · exact h.2
      have rdE : ∀ x y, RdBools (putB (putB w5 w.heap.size x 32) (w.heap.size + 1) y 62) (fun i => i = w.heap.size + 1 ∨ (i < w.heap.size ∧ M i) ∨ w5.heap.size ≤ i) (.slice a k cap) vs := fun x y => by
        have h1 : RdBools w5 (fun i => i < w.heap.size + 2 ∨ w5.heap.size ≤ i) (.slice a k cap) vs := own5.rd (M := fun i => i < w.heap.size + 2 ∨ w5.heap.size ≤ i) (fun g hg h => by have := hO g hg; have h5 := own5.lt g hg; have h : g < w.heap.size + 2 ∨ w5.heap.size ≤ g := h; omega)
        refine (h1.kept (((Kept.refl (fun i => i < w.heap.size + 2 ∨ w5.heap.size ≤ i) w5).putM (b := w.heap.size) (.inl (show w.heap.size < w.heap.size + 2 by omega)) x 32).putM (b := w.heap.size + 1) (.inl (show w.heap.size + 1 < w.heap.size + 2 by omega)) y 62)).mono (fun i _ h => ?_)
        show i < w.heap.size + 2 ∨ w5.heap.size ≤ i
        rcases h with h | h | h
        · left; omega
        · left; omega
        · right; exact h
      clear own5
      go_wp2_with fail
      refine (majority_ok 1 k (by omega) (by omega) _).mono ?_
      rintro e w6 ⟨rfl, rfl⟩
      by_cases h1 : k = 1
      · have h2 : ((k : Int) < 2) := by omega
        obtain ⟨p, hp⟩ : ∃ p, p = leadF ⟨j, k, epoch + 1, j, 2, log, conf, vs, mat⟩ := ⟨_, rfl⟩
        have hF2 : timeoutF ⟨j, k, epoch, voted, role, log, conf, votes, mat⟩ = p := by rw [HF.out, if_pos (by omega), hp, HR1.out]
        have hl := fun x y => rlead_ok ⟨j, k, epoch + 1, j, 2, log, conf, vs, mat⟩ (.slice la log.length lcap) (.slice a k cap) (.slice ma mat.length mcap) _ (putB (putB w5 w.heap.size x 32) (w.heap.size + 1) y 62) (hlv.step (KE _ _).of_no NM) ((rdE x y).mono (fun _ _ h => h.imp id .inl)) (hmv.step (KE _ _).of_no NM) (by dsimp only; omega) (by dsimp only; omega) (by dsimp only; omega) (by dsimp only; omega) hf0 (by dsimp only; omega)
        rw [← hp] at hl
        obtain ⟨r3, ls3⟩ := p
        dsimp only at hl
        have HF2 := Lib.hid hF2
        have TA := Lib.hid hl
        clear hp HF hF2 hl h1 rdE
        go_wp2_with fail
        refine (TA.out _ _).mono ?_
        intro e w6 hs
        obtain ⟨la6, lc6, va6, vc6, ma6, mc6, ta6, tc6, e6, hB6, k6, fin⟩ := hs.store (KE _ _) (by simp <;> omega) (by omega)
        subst e6
        have b6 := k6.blk (k := w.heap.size + 1) (putB_blk _ _ _ _ (by simp <;> omega)) (fun x => x)
        obtain ⟨w7, e7, z7, fin7⟩ : ∃ w7, w6 = putB w7 (w.heap.size + 1) _ 62 ∧ w.heap.size + 1 < w7.heap.size ∧ ∀ c t, RSent _ w _ _ _ _ (putB w7 (w.heap.size + 1) c t) := ⟨w6, putB_self b6, hB6, fin⟩
        subst e7
        clear fin b6
        go_wp2_with fail
        refine bodyPost_ret (v := .agg #[.int .i64 r3.id, .int .i64 r3.count, .int .i64 r3.epoch, .int .i64 r3.voted, .int .i64 r3.role, .slice la6 r3.log.length lc6, .int .i64 r3.conf, .slice va6 r3.votes.length vc6, .slice ma6 r3.mat.length mc6, .slice ta6 ls3.length tc6, .int .i64 0]) (by simp [results, Tryd.results22, go_sem, z7]) rfl ?_
        rw [HF2.out]
        exact (fin7 _ _).weak
      · have h2 : decide ((k : Int) < 2) = false := decide_eq_false (by omega)
        have hF2 : timeoutF ⟨j, k, epoch, voted, role, log, conf, votes, mat⟩ = (r1, (othersF k j).map fun k => { kind := 1, src := j, dst := k, ep := epoch + 1, pos := log.length, aep := lastF log, items := [], conf := 0, yes := false }) := by rw [HF.out, if_neg (by omega)]
        have HF2 := Lib.hid hF2
        obtain ⟨askL, hask⟩ : ∃ askL : Int → Let, askL = fun k => { kind := 1, src := j, dst := k, ep := epoch + 1, pos := log.length, aep := lastF log, items := [], conf := 0, yes := false } := ⟨_, rfl⟩
        clear HF hF2 h1
        have HASK := Lib.hid hask
        have hlast := fun x (h : Kept NoM w x) => rlast_ok (.slice la log.length lcap) log M x (hlv.kept h.of_no) (by omega)
        clear hask t1
        go_wp2_with fail
        have z5 := z1
        go_loopw [4, 5] (fun v i wr => ∃ q : Nat, q ≤ k ∧ i = .int .i64 q ∧
          wr.heap[w.heap.size]? = some (.cells #[.int .i64 j, .int .i64 k, .int .i64 (epoch + 1), .int .i64 j, .int .i64 2, .slice la log.length lcap, .int .i64 conf, .slice a k cap, .slice ma mat.length mcap] 32 (0, 0)) ∧
          wr.heap[w.heap.size + 1]? = some (.cells #[.int .i64 0, .int .i64 0, .int .i64 0, .int .i64 0, .int .i64 0, .slice none 0 0, .int .i64 0, .slice none 0 0, .slice none 0 0, .slice none 0 0, .int .i64 0] 62 (0, 0)) ∧ RdBools wr (fun i => i = w.heap.size + 1 ∨ (i < w.heap.size ∧ M i) ∨ w5.heap.size ≤ i) (.slice a k cap) vs ∧
          Sends w5.heap.size wr v ((othersF q j).map askL) ∧ w5.heap.size ≤ wr.heap.size ∧ Kept NoM w wr) (fun _ i _ => k - (intOf i).toNat)
        case atStart =>
          refine ⟨0, Nat.zero_le _, rfl, ?_, ?_, rdE _ _, Sends.nil _ _, by simp, KE _ _⟩
          · exact (putB_blk_ne _ _ _ _ _ (by omega)).trans (putB_blk _ _ _ _ (by omega))
          · exact putB_blk _ _ _ _ (by simp <;> omega)
        case round =>
          obtain ⟨q, hq, rfl, b0, b1, hrb, hs, hzz, hK⟩ := hrel
          have hz := lt_of_block b1
          have hlen := othersF_len q j
          have hsz := othersF_succ q j
          obtain ⟨L, hL⟩ : ∃ L, L = (othersF q j).map askL := ⟨_, rfl⟩
          have hLl : L.length ≤ 1000 := by rw [hL]; simp; omega
          rw [← hL] at hs
          have HLB := Lib.hid hL
          have HSZ := Lib.hid hsz
          clear hsz hL
          have c00 := cell_blk b0 0 _ rfl
          have c01 := cell_blk b0 1 _ rfl
          by_cases hlt : q < k
          · have hlti : (q : Int) < (k : Int) := by omega
            by_cases hid : (q : Int) = j
            · have t1 : ((q : Int) != j) = false := by rw [bne_eq_false_iff_eq]; exact hid
              have E1 := Lib.hid (show (othersF (q + 1) j).map askL = L by rw [HSZ.out, if_pos hid, HLB.out]; simp)
              clear hid
              go_wp2
              go_roundw
              case rel => exact ⟨q + 1, by omega, by go_num, b0, b1, hrb, by rw [E1.out]; exact hs, hzz, hK⟩
              case measure => simp [intOf]; omega
            · have t1 : ((q : Int) != j) = true := by rw [bne_iff_ne]; exact hid
              have e1 : (othersF (q + 1) j).map askL = L ++ [{ kind := 1, src := j, dst := q, ep := epoch + 1, pos := log.length, aep := lastF log, items := [], conf := 0, yes := false }] := by rw [HSZ.out, if_neg hid, HLB.out, List.map_append]; simp only [List.map_cons, List.map_nil]; rw [HASK.out]
              have E1 := Lib.hid e1
              have c02 := cell_blk b0 2 _ rfl
              have c05 := cell_blk b0 5 _ rfl
              have B0 := Lib.hid b0
              have B1 := Lib.hid b1
              have HRB := Lib.hid hrb
              have HKK := Lib.hid hK
              obtain ⟨Ox, own, hO⟩ := hs
              have hOw : ∀ g, Ox = some g → g < wr.heap.size := own.lt
              obtain ⟨va1, vc1, rfl, _, _, _, _⟩ := own.shape
              clear e1 hid b0 b1 hrb hK hlt
              have kk : ∀ o, Kept NoM wr ((wr.alloc o).drew) := fun o => ((Kept.refl NoM wr).alloc o).drew
              have hoo : ∀ o, OwnS ((wr.alloc o).drew) Ox 57 9 (ELet ((wr.alloc o).drew) (fun k => k < w5.heap.size ∨ some k = Ox)) _ _ := fun o => own.kept (kk o) (fun _ _ x => x) (fun _ _ x => x.kept (kk o).of_no)
              have hrd : ∀ o, o = .cells #[.int .i64 1, .int .i64 j, .int .i64 q, .int .i64 (epoch + 1), .int .i64 log.length, .int .i64 (lastF log), .slice none 0 0, .int .i64 0, .bool false] 57 (0, 0) → RdS ((wr.alloc o).drew) NoM 9 (ELet ((wr.alloc o).drew) (fun k => k < w5.heap.size ∨ some k = Ox)) (.slice (some ⟨wr.heap.size, 0, none⟩) 1 1) [{ kind := 1, src := j, dst := q, ep := epoch + 1, pos := log.length, aep := lastF log, items := [], conf := 0, yes := false }] := fun o ho => by
                rw [ho]; exact rd_one (blk_drew (blk_new _ _)) (fun h => h) ⟨_, rfl, RdItems.nil _ _⟩ rfl
              go_wp2_with fail
              have nO : ¬ (some w.heap.size = Ox) := fun h => by have := hO _ h.symm; omega
              have hb1 : L.length + 1 ≤ maxLen := by unfold maxLen; omega
              have hb2 : (L.length + 1) * 88 ≤ 140737488355328 := by omega
              have HD := HKK.out.drew
              have c05d : ∀ o, ((wr.alloc o).drew).cell? ⟨w.heap.size, 5, none⟩ = some (.slice la log.length lcap) := fun o => (kk o).cell c05 (fun x => x)
              have c00d : ∀ o, ((wr.alloc o).drew).cell? ⟨w.heap.size, 0, none⟩ = some (.int .i64 j) := fun o => (kk o).cell c00 (fun x => x)
              have c02d : ∀ o, ((wr.alloc o).drew).cell? ⟨w.heap.size, 2, none⟩ = some (.int .i64 (epoch + 1)) := fun o => (kk o).cell c02 (fun x => x)
              go_region_held3 (fun w' => w'.cell? ⟨w.heap.size, 0, none⟩ = some (.int .i64 j) ∧ w'.cell? ⟨w.heap.size, 2, none⟩ = some (.int .i64 (epoch + 1)) ∧ w'.cell? ⟨w.heap.size, 5, none⟩ = some (.slice la log.length lcap)) (first | go_keep | exact ⟨q0, q2, q5⟩ | exact ⟨c00, c02, c05⟩ | (simp [go_sem]; done)) (first | (go_at_call 45; refine (hlast _ HD).mono ?_; rintro e w' ⟨rfl, rfl⟩) | (refine step_append_S (M := NoM) rfl (.tmp 55) (.tmp 68) 25 rfl 88 tyLets _ rfl (hoo _) _ rfl (hrd _ rfl) eLet_one L.length 1 rfl rfl hb1 hb2 ?_; intro a1 cap1 w2 O1 hown1 hk2 hn1; have q0 := hk2.cell (c00d _) nO; have q2 := hk2.cell (c02d _) nO; have q5 := hk2.cell (c05d _) nO))
              go_wp2
              have S1 := Sends.step hO (by simp <;> omega) hown1 hk2 hn1
              have k2 : Kept (fun k => some k = Ox) wr w2 := ((kk _).of_no).trans hk2
              have nO1 : ¬ (some (w.heap.size + 1) = Ox) := fun h => by have := hO _ h.symm; omega
              go_roundw
              case rel => exact ⟨q + 1, by omega, by go_num, k2.blk B0.out nO, k2.blk B1.out nO1, HRB.out.step (k2.mono (fun i hi h => by have := hO i h.symm; exact .inr (.inr this))) (fun _ _ x => x), by rw [E1.out]; exact S1, Nat.le_trans hzz k2.size, HKK.out.trans' k2 (fun i hi h => by have := hO i h.symm; omega)⟩
              case measure => simp [intOf]; omega
          · obtain rfl : q = k := by omega
            have hltf2 : decide ((q : Int) < (q : Int)) = false := decide_eq_false (by omega)
            have hLm : (othersF q j).map askL = L := HLB.out.symm
            obtain ⟨va1, vc1, rfl⟩ := hs.shape
            have c02 := cell_blk b0 2 _ rfl
            have c03 := cell_blk b0 3 _ rfl
            have c04 := cell_blk b0 4 _ rfl
            have c05 := cell_blk b0 5 _ rfl
            have c06 := cell_blk b0 6 _ rfl
            have c07 := cell_blk b0 7 _ rfl
            have c08 := cell_blk b0 8 _ rfl
            obtain ⟨w9, e9, z9, d00, d01, d02, d03, d04, d05, d06, d07, d08, K9, S9, R9⟩ : ∃ w9, wr = putB w9 (w.heap.size + 1) _ 62 ∧ w.heap.size + 1 < w9.heap.size ∧ w9.cell? _ = some _ ∧ w9.cell? _ = some _ ∧ w9.cell? _ = some _ ∧ w9.cell? _ = some _ ∧ w9.cell? _ = some _ ∧ w9.cell? _ = some _ ∧ w9.cell? _ = some _ ∧ w9.cell? _ = some _ ∧ w9.cell? _ = some _ ∧ Kept NoM w w9 ∧ Sends w5.heap.size w9 _ L ∧ RdBools w9 _ (.slice a q cap) vs := ⟨wr, putB_self b1, by omega, c00, c01, c02, c03, c04, c05, c06, c07, c08, hK, hs, hrb⟩
            clear b0 b1 c00 c01 c02 c03 c04 c05 c06 c07 c08 hK hs hrb hlt
            subst e9
            have KE9 : ∀ c, Kept NoM w (putB w9 (w.heap.size + 1) c 62) := fun c => K9.putN (b := w.heap.size + 1) (by omega) c 62
            have KF9 : ∀ c, Kept (fun k => k < w5.heap.size) w9 (putB w9 (w.heap.size + 1) c 62) := fun c => (Kept.refl (fun k => k < w5.heap.size) w9).putM (b := w.heap.size + 1) z1 c 62
            have KG9 : ∀ c, Kept (fun i => i = w.heap.size + 1 ∨ (i < w.heap.size ∧ M i) ∨ w5.heap.size ≤ i) w9 (putB w9 (w.heap.size + 1) c 62) := fun c => (Kept.refl (fun i => i = w.heap.size + 1 ∨ (i < w.heap.size ∧ M i) ∨ w5.heap.size ≤ i) w9).putM (b := w.heap.size + 1) (.inl rfl) c 62
            go_wp2_with fail
            refine bodyPost_ret (v := .agg #[.int .i64 j, .int .i64 q, .int .i64 (epoch + 1), .int .i64 j, .int .i64 2, .slice la log.length lcap, .int .i64 conf, .slice a q cap, .slice ma mat.length mcap, .slice va1 L.length vc1, .int .i64 0]) (by simp [results, Tryd.results22, go_sem, z9]) rfl ?_
            have hR : ∀ c, RdBools (putB w9 (w.heap.size + 1) c 62) (fun k => k < w.heap.size ∧ M k) (.slice a q cap) vs := fun c => (R9.kept (KG9 c)).mono (fun _ _ x => .inr (.inl x))
            have hS : ∀ c, RdLets (putB w9 (w.heap.size + 1) c 62) (fun k => k < w.heap.size ∧ M k) (.slice va1 L.length vc1) L := fun c => S9.rd (KF9 c) (fun i x => by have := x.1; omega)
            have hF3 : timeoutF ⟨j, q, epoch, voted, role, log, conf, votes, mat⟩ = (⟨j, q, epoch + 1, j, 2, log, conf, vs, mat⟩, L) := by rw [HF2.out, HR1.out, ← hLm, HASK.out]
            rw [hF3]
            exact ⟨_, _, _, _, rfl, hlv.step (KE9 _).of_no (fun _ _ x => x.2), hR _, hmv.step (KE9 _).of_no (fun _ _ x => x.2), hS _, KE9 _⟩

theorem rtimeout_ok (r : Rep) (lv vv mv : Value) (M : Nat → Prop) (w : World) (hlv : RdItems w M lv r.log) (hvv : RdBools w M vv r.votes) (hmv : RdInts w M mv r.mat) (hr : Valid r) :
    Calls Tryd.prog 22 #[.agg #[.int .i64 r.id, .int .i64 r.count, .int .i64 r.epoch, .int .i64 r.voted, .int .i64 r.role, lv, .int .i64 r.conf, vv, mv]] w (RSent M w (timeoutF r).1 (timeoutF r).2 0) := by
  by_cases h3 : r.role = 3
  · exact rtimeout_lead r lv vv mv M w hlv hvv hmv hr h3
  · by_cases he : r.epoch ≥ 1073741824
    · exact rtimeout_old r lv vv mv M w hlv hvv hmv h3 he
    · exact rtimeout_cand r lv vv mv M w hlv hvv hmv hr h3 he
end Go.Proofs.YtgohploghbimlaaDoor

/- Walks of the specification: vote. -/
namespace Go.Proofs.YtgohploghbimlaaDoor
open Go.RowKit
set_option maxHeartbeats 1000000
set_option maxRecDepth 4000

theorem rvote_no (r : Rep) (m : Let) (iv : Value) (lv vv mv : Value) (M : Nat → Prop) (w : World) (hlv : RdItems w M lv r.log) (hvv : RdBools w M vv r.votes) (hmv : RdInts w M mv r.mat) (hiv : RdItems w NoM iv m.items) (hno : r.role ≠ 2 ∨ m.ep ≠ r.epoch ∨ m.yes = false) :
    Calls Tryd.prog 55 #[.agg #[.int .i64 r.id, .int .i64 r.count, .int .i64 r.epoch, .int .i64 r.voted, .int .i64 r.role, lv, .int .i64 r.conf, vv, mv], .agg #[.int .i64 m.kind, .int .i64 m.src, .int .i64 m.dst, .int .i64 m.ep, .int .i64 m.pos, .int .i64 m.aep, iv, .int .i64 m.conf, .bool m.yes]] w (RSent M w (voteF r m).1 (voteF r m).2 0) := by
  obtain ⟨la, lcap, rfl, hlc, hlm⟩ := hlv.shape
  obtain ⟨va, vcap, rfl, _, _⟩ := hvv.shape
  obtain ⟨ma, mcap, rfl, _, _⟩ := hmv.shape
  obtain ⟨ia, icap, rfl, _, _⟩ := hiv.shape
  have K3 : ∀ a b c, Kept NoM w (((w.alloc a).alloc b).alloc c) := fun a b c => (((Kept.refl NoM w).alloc a).alloc b).alloc c
  have hF : voteF r m = (r, []) := by unfold voteF; rw [if_pos hno]
  have HF := Lib.hid hF
  have fin : ∀ a b c, RSent M w (voteF r m).1 (voteF r m).2 0 (.returned (.agg #[.int .i64 r.id, .int .i64 r.count, .int .i64 r.epoch, .int .i64 r.voted, .int .i64 r.role, .slice la r.log.length lcap, .int .i64 r.conf, .slice va r.votes.length vcap, .slice ma r.mat.length mcap, .slice none 0 0, .int .i64 0])) (((w.alloc a).alloc b).alloc c) := fun a b c => by
    rw [HF.out]
    exact ⟨_, _, _, _, rfl, hlv.step (K3 _ _ _).of_no (fun _ _ x => x.2), hvv.step (K3 _ _ _).of_no (fun _ _ x => x.2), hmv.step (K3 _ _ _).of_no (fun _ _ x => x.2), RdLets.nil _ _, K3 _ _ _⟩
  have FIN := Lib.hid fin
  clear fin hF
  by_cases h1 : r.role = 2
  · have t1 : (r.role != 2) = false := by rw [bne_eq_false_iff_eq]; exact h1
    by_cases h2 : m.ep = r.epoch
    · have t2 : (m.ep != r.epoch) = false := by rw [bne_eq_false_iff_eq]; exact h2
      have h3 : m.yes = false := by
        rcases hno with h | h | h
        · exact absurd h1 h
        · exact absurd h2 h
        · exact h
      clear hno h1 h2
      go_enter Tryd.func55, Tryd.ntmps55
      go_wp2_with fail
      refine bodyPost_ret (v := .agg #[.int .i64 r.id, .int .i64 r.count, .int .i64 r.epoch, .int .i64 r.voted, .int .i64 r.role, .slice la r.log.length lcap, .int .i64 r.conf, .slice va r.votes.length vcap, .slice ma r.mat.length mcap, .slice none 0 0, .int .i64 0]) (by simp [results, Tryd.results55, go_sem]) rfl ?_
      exact FIN.out _ _ _
    · have t2 : (m.ep != r.epoch) = true := by rw [bne_iff_ne]; exact h2
      clear hno h1 h2
      go_enter Tryd.func55, Tryd.ntmps55
      go_wp2_with fail
      refine bodyPost_ret (v := .agg #[.int .i64 r.id, .int .i64 r.count, .int .i64 r.epoch, .int .i64 r.voted, .int .i64 r.role, .slice la r.log.length lcap, .int .i64 r.conf, .slice va r.votes.length vcap, .slice ma r.mat.length mcap, .slice none 0 0, .int .i64 0]) (by simp [results, Tryd.results55, go_sem]) rfl ?_
      exact FIN.out _ _ _
  · have t1 : (r.role != 2) = true := by rw [bne_iff_ne]; exact h1
    clear hno h1
    go_enter Tryd.func55, Tryd.ntmps55
    go_wp2_with fail
    refine bodyPost_ret (v := .agg #[.int .i64 r.id, .int .i64 r.count, .int .i64 r.epoch, .int .i64 r.voted, .int .i64 r.role, .slice la r.log.length lcap, .int .i64 r.conf, .slice va r.votes.length vcap, .slice ma r.mat.length mcap, .slice none 0 0, .int .i64 0]) (by simp [results, Tryd.results55, go_sem]) rfl ?_
    exact FIN.out _ _ _

theorem rvote_open {w w1 : World} {R Mx Z : Array Value} {votes : List Bool} {a1 : Option Addr} {n cap1 : Nat} {O1 : Option Nat} (own : OwnS w1 O1 4 1 EBool (.slice a1 n cap1) votes)
    (k1 : Kept (fun k => some k = none) (((w.alloc (.cells R 32 (0, 0))).alloc (.cells Mx 57 (0, 0))).alloc (.cells Z 62 (0, 0))) w1) (n1 : NewO (((w.alloc (.cells R 32 (0, 0))).alloc (.cells Mx 57 (0, 0))).alloc (.cells Z 62 (0, 0))) none O1) (hn : 0 < votes.length) :
    ∃ g cur w2, a1 = some ⟨g, 0, none⟩ ∧ w1 = putB (putB (putB (putB w2 (w.heap.size + 2) Z 62) (w.heap.size + 1) Mx 57) w.heap.size R 32) g cur 4 ∧ w.heap.size < w2.heap.size ∧ w.heap.size + 1 < w2.heap.size ∧ w.heap.size + 2 < w2.heap.size ∧ g < w2.heap.size ∧ w.heap.size + 3 ≤ g ∧
      Kept NoM w w2 ∧ n ≤ cap1 ∧ cap1 ≤ maxLen ∧ cur.size = cap1 ∧ cur.toList.take n = votes.map Value.bool ∧ n = votes.length := by
  obtain ⟨g, gcap, cur, e1, rfl, hg, hgc, hgm, hgs, hgt⟩ := own.open1 (f := Value.bool) (fun c x h => h) hn
  simp only [Value.slice.injEq] at e1
  obtain ⟨rfl, rfl, rfl⟩ := e1
  have hgD : w.heap.size + 3 ≤ g := by
    rcases n1 with h | ⟨g', h, hg2⟩
    · cases h
    · cases h; simpa using hg2
  have b0 := k1.blk (k := w.heap.size) (blk_old (blk_old (blk_new _ _) _) _) (fun h => by cases h)
  have b1 := k1.blk (k := w.heap.size + 1) (blk_old (blk_new' _ _ _ (by simp)) _) (fun h => by cases h)
  have b2 := k1.blk (k := w.heap.size + 2) (blk_new' _ _ _ (by simp)) (fun h => by cases h)
  have hgl := lt_of_block hg
  refine ⟨g, cur, w1, rfl, ?_, by omega, by omega, by omega, hgl, hgD, ?_, hgc, hgm, hgs, hgt, rfl⟩
  · rw [← putB_self b2, ← putB_self b1, ← putB_self b0]; exact putB_self hg
  · exact ((((Kept.refl NoM w).alloc _).alloc _).alloc _).trans' k1 (fun i hi h => by cases h)

theorem rvote_yes (r : Rep) (m : Let) (iv : Value) (lv vv mv : Value) (M : Nat → Prop) (w : World) (hlv : RdItems w M lv r.log) (hvv : RdBools w M vv r.votes) (hmv : RdInts w M mv r.mat) (hiv : RdItems w NoM iv m.items) (h1 : r.role = 2) (h2 : m.ep = r.epoch) (h3 : m.yes = true)
    (hs0 : 0 ≤ m.src) (hs1 : m.src < r.votes.length) (hvl : r.votes.length ≤ 1000) (hc1 : 1 ≤ r.count) (hc2 : r.count ≤ 1000) (hi0 : 0 ≤ r.id) (hi1 : r.id < r.count) (hf0 : 0 ≤ r.conf) (hll : r.log.length ≤ 10000) :
    Calls Tryd.prog 55 #[.agg #[.int .i64 r.id, .int .i64 r.count, .int .i64 r.epoch, .int .i64 r.voted, .int .i64 r.role, lv, .int .i64 r.conf, vv, mv], .agg #[.int .i64 m.kind, .int .i64 m.src, .int .i64 m.dst, .int .i64 m.ep, .int .i64 m.pos, .int .i64 m.aep, iv, .int .i64 m.conf, .bool m.yes]] w (RSent M w (voteF r m).1 (voteF r m).2 0) := by
  have t1 : (r.role != 2) = false := by rw [bne_eq_false_iff_eq]; exact h1
  have t2 : (m.ep != r.epoch) = false := by rw [bne_eq_false_iff_eq]; exact h2
  obtain ⟨id, count, epoch, voted, role, log, conf, votes, mat⟩ := r
  obtain ⟨kind, src, dst, ep, pos, aep, items, conf2, yes⟩ := m
  simp only at *
  obtain ⟨j, rfl⟩ := Int.eq_ofNat_of_zero_le hs0
  obtain ⟨vs, hvs⟩ : ∃ vs : List Bool, vs = votes.set j true := ⟨_, rfl⟩
  have hF : voteF ⟨id, count, epoch, voted, role, log, conf, votes, mat⟩ ⟨kind, j, dst, ep, pos, aep, items, conf2, yes⟩ = if 2 * countT vs > count then leadF ⟨id, count, epoch, voted, role, log, conf, vs, mat⟩ else (⟨id, count, epoch, voted, role, log, conf, vs, mat⟩, []) := by
    unfold voteF; rw [if_neg (by simp [h1, h2, h3]), hvs]; rfl
  have hvsl : vs.length = votes.length := by rw [hvs]; simp
  have HF := Lib.hid hF
  have HVS := Lib.hid hvs
  have HVL := Lib.hid hvsl
  clear hF hvs h1 h2 hvsl
  subst h3
  obtain ⟨la, lcap, rfl, hlc, hlm⟩ := hlv.shape
  obtain ⟨va, vcap, rfl, _, _⟩ := hvv.shape
  obtain ⟨ma, mcap, rfl, _, _⟩ := hmv.shape
  obtain ⟨ia, icap, rfl, _, _⟩ := hiv.shape
  have K3 : ∀ a b c, Kept NoM w (((w.alloc a).alloc b).alloc c) := fun a b c => (((Kept.refl NoM w).alloc a).alloc b).alloc c
  have hvv3 : ∀ a b c, RdS (((w.alloc a).alloc b).alloc c) NoM 1 EBool (.slice va votes.length vcap) votes := fun a b c => hvv.any.kept (K3 a b c)
  have hjv : (j : Int) < votes.length := hs1
  have hpos : 0 < votes.length := by omega
  have HY : ∃ y, votes[j]? = some y := ⟨_, List.getElem?_eq_getElem (by omega)⟩
  obtain ⟨y0, hy0⟩ := HY
  have HY := Lib.hid hy0
  have HVL2 := Lib.hid hvl
  clear hy0 hs0 hs1
  go_enter Tryd.func55, Tryd.ntmps55
  go_wp2_with (at_builtin; go_loud (refine wpList_append_S (M := NoM) rfl (.tmp 23) (.tmp 25) 29 rfl 1 tyBools _ rfl (OwnS.nil _ _ _ _) _ rfl (hvv3 _ _ _) eBool_one 0 votes.length rfl rfl (by unfold maxLen; omega) (by omega) ?_; rw [Nat.zero_add, List.nil_append]; intro a1 cap1 w1 O1 own1 k1 n1; obtain ⟨g, cur, w2, e1, e2, z0, z1, z2, z3, hg3, K2, hcap, hcm, hcs, hct, _⟩ := rvote_open own1 k1 n1 hpos; clear own1 k1 n1; subst e1; subst e2; have hcj := take_at hct HY.out; have hcz : j < cur.size := (by omega); have HCT := Lib.hid hct; have HCS := Lib.hid hcs; have ng0 : ¬ w.heap.size = g := (by omega); have ng1 : ¬ w.heap.size + 1 = g := (by omega); have ng2 : ¬ w.heap.size + 2 = g := (by omega); have lg0 : w.heap.size < g := (by omega); have lg1 : w.heap.size + 1 < g := (by omega); clear hct hcs))
  obtain ⟨c2, hset⟩ : ∃ c2, cur.setIfInBounds j (Value.bool true) = c2 := ⟨_, rfl⟩
  have ht2 : c2.toList.take votes.length = vs.map Value.bool := by
    rw [← hset, HVS.out]; exact take_set HCT.out j true
  have hs2 : c2.size = cap1 := by rw [← hset]; simp [HCS.out]
  simp only [hset]
  have KW : Kept NoM w (putB (putB (putB (putB w2 (w.heap.size + 2) #[.int .i64 0, .int .i64 0, .int .i64 0, .int .i64 0, .int .i64 0, .slice none 0 0, .int .i64 0, .slice none 0 0, .slice none 0 0, .slice none 0 0, .int .i64 0] 62) (w.heap.size + 1) #[.int .i64 kind, .int .i64 j, .int .i64 dst, .int .i64 ep, .int .i64 pos, .int .i64 aep, .slice ia items.length icap, .int .i64 conf2, .bool true] 57) w.heap.size #[.int .i64 id, .int .i64 count, .int .i64 epoch, .int .i64 voted, .int .i64 role, .slice la log.length lcap, .int .i64 conf, .slice (some ⟨g, 0, none⟩) votes.length cap1, .slice ma mat.length mcap] 32) g c2 4) := (((K2.putN (b := w.heap.size + 2) (by omega) _ _).putN (b := w.heap.size + 1) (by omega) _ _).putN (b := w.heap.size) (by omega) _ _).putN (b := g) (by omega) _ _
  have bgW : (putB (putB (putB (putB w2 (w.heap.size + 2) #[.int .i64 0, .int .i64 0, .int .i64 0, .int .i64 0, .int .i64 0, .slice none 0 0, .int .i64 0, .slice none 0 0, .slice none 0 0, .slice none 0 0, .int .i64 0] 62) (w.heap.size + 1) #[.int .i64 kind, .int .i64 j, .int .i64 dst, .int .i64 ep, .int .i64 pos, .int .i64 aep, .slice ia items.length icap, .int .i64 conf2, .bool true] 57) w.heap.size #[.int .i64 id, .int .i64 count, .int .i64 epoch, .int .i64 voted, .int .i64 role, .slice la log.length lcap, .int .i64 conf, .slice (some ⟨g, 0, none⟩) votes.length cap1, .slice ma mat.length mcap] 32) g c2 4).heap[g]? = some (.cells c2 4 (0, 0)) := putB_blk _ _ _ _ (by first | omega | (simp only [putB_size]; omega))
  have b2W : (putB (putB (putB (putB w2 (w.heap.size + 2) #[.int .i64 0, .int .i64 0, .int .i64 0, .int .i64 0, .int .i64 0, .slice none 0 0, .int .i64 0, .slice none 0 0, .slice none 0 0, .slice none 0 0, .int .i64 0] 62) (w.heap.size + 1) #[.int .i64 kind, .int .i64 j, .int .i64 dst, .int .i64 ep, .int .i64 pos, .int .i64 aep, .slice ia items.length icap, .int .i64 conf2, .bool true] 57) w.heap.size #[.int .i64 id, .int .i64 count, .int .i64 epoch, .int .i64 voted, .int .i64 role, .slice la log.length lcap, .int .i64 conf, .slice (some ⟨g, 0, none⟩) votes.length cap1, .slice ma mat.length mcap] 32) g c2 4).heap[w.heap.size + 2]? = some (.cells #[.int .i64 0, .int .i64 0, .int .i64 0, .int .i64 0, .int .i64 0, .slice none 0 0, .int .i64 0, .slice none 0 0, .slice none 0 0, .slice none 0 0, .int .i64 0] 62 (0, 0)) := (putB_blk_ne _ _ _ _ _ (by omega)).trans ((putB_blk_ne _ _ _ _ _ (by omega)).trans ((putB_blk_ne _ _ _ _ _ (by omega)).trans (putB_blk _ _ _ _ (by first | omega | (simp only [putB_size]; omega)))))
  have b0W : (putB (putB (putB (putB w2 (w.heap.size + 2) #[.int .i64 0, .int .i64 0, .int .i64 0, .int .i64 0, .int .i64 0, .slice none 0 0, .int .i64 0, .slice none 0 0, .slice none 0 0, .slice none 0 0, .int .i64 0] 62) (w.heap.size + 1) #[.int .i64 kind, .int .i64 j, .int .i64 dst, .int .i64 ep, .int .i64 pos, .int .i64 aep, .slice ia items.length icap, .int .i64 conf2, .bool true] 57) w.heap.size #[.int .i64 id, .int .i64 count, .int .i64 epoch, .int .i64 voted, .int .i64 role, .slice la log.length lcap, .int .i64 conf, .slice (some ⟨g, 0, none⟩) votes.length cap1, .slice ma mat.length mcap] 32) g c2 4).heap[w.heap.size]? = some (.cells #[.int .i64 id, .int .i64 count, .int .i64 epoch, .int .i64 voted, .int .i64 role, .slice la log.length lcap, .int .i64 conf, .slice (some ⟨g, 0, none⟩) votes.length cap1, .slice ma mat.length mcap] 32 (0, 0)) := (putB_blk_ne _ _ _ _ _ (by omega)).trans (putB_blk _ _ _ _ (by first | omega | (simp only [putB_size]; omega)))
  clear hset hcj hcz
  generalize (putB (putB (putB (putB w2 (w.heap.size + 2) #[.int .i64 0, .int .i64 0, .int .i64 0, .int .i64 0, .int .i64 0, .slice none 0 0, .int .i64 0, .slice none 0 0, .slice none 0 0, .slice none 0 0, .int .i64 0] 62) (w.heap.size + 1) #[.int .i64 kind, .int .i64 j, .int .i64 dst, .int .i64 ep, .int .i64 pos, .int .i64 aep, .slice ia items.length icap, .int .i64 conf2, .bool true] 57) w.heap.size #[.int .i64 id, .int .i64 count, .int .i64 epoch, .int .i64 voted, .int .i64 role, .slice la log.length lcap, .int .i64 conf, .slice (some ⟨g, 0, none⟩) votes.length cap1, .slice ma mat.length mcap] 32) g c2 4) = W at *
  have rdW : RdBools W (fun i => i = w.heap.size + 2 ∨ (i < w.heap.size ∧ M i)) (.slice (some ⟨g, 0, none⟩) votes.length cap1) vs := by
    refine (OwnS.close1 (f := Value.bool) (fun x => rfl) bgW votes.length HVL.out hcap hcm hs2 ht2).rd ?_
    intro g' h
    cases h
    rintro (h | h) <;> omega
  have rdn : RdBools W NoM (.slice (some ⟨g, 0, none⟩) votes.length cap1) vs := rdW.any
  have rdd : ∀ n, RdBools (W.drewN n) NoM (.slice (some ⟨g, 0, none⟩) votes.length cap1) vs := fun n => rdn.kept ((Kept.refl _ _).drewN n)
  have hz2 := lt_of_block b2W
  have c00 := cell_blk b0W 0 _ rfl
  have c01 := cell_blk b0W 1 _ rfl
  have c02 := cell_blk b0W 2 _ rfl
  have c03 := cell_blk b0W 3 _ rfl
  have c04 := cell_blk b0W 4 _ rfl
  have c05 := cell_blk b0W 5 _ rfl
  have c06 := cell_blk b0W 6 _ rfl
  have c07 := cell_blk b0W 7 _ rfl
  have c08 := cell_blk b0W 8 _ rfl
  have hct : 0 ≤ countT vs ∧ countT vs ≤ 1000 := by
    unfold countT
    have := List.countP_le_length (p := fun x => x == true) (l := vs)
    have := HVL.out
    omega
  have NM : ∀ i, i < w.heap.size → (i = w.heap.size + 2 ∨ (i < w.heap.size ∧ M i)) → M i := fun i hi h => by
    rcases h with h | h
    · omega
    · exact h.2
  have hct0 := hct.1
  have hct1 : countT vs ≤ 1000000 := by omega
  have hvl9 : vs.length ≤ 1000000000 := by have := HVL.out; omega
  clear ht2 hs2 bgW b0W ng0 ng1 ng2 z0 z1 z2 z3 K2 hct
  have rd1 : RdBools W.drew NoM (.slice (some ⟨g, 0, none⟩) votes.length cap1) vs := rdn.kept ((Kept.refl _ _).drew)
  have c01d : W.drew.cell? ⟨w.heap.size, 1, none⟩ = some (.int .i64 count) := c01
  obtain ⟨ct, hctv⟩ : ∃ ct, ct = countT vs := ⟨_, rfl⟩
  have hvo := votes_ok _ vs NoM _ rd1 hvl9
  rw [← hctv] at hvo hct0 hct1
  have HVO := Lib.hid hvo
  have HM43 := Lib.hid (majority_ok ct count hct0 hct1 W.drew)
  have HCTV := Lib.hid hctv
  clear hvo hctv
  go_region_held3 (fun w' => w'.cell? ⟨w.heap.size, 1, none⟩ = some (.int .i64 count)) (first | go_keep | exact c01d | exact c01) (first | (go_at_call 68; refine HVO.out.mono ?_; rintro e w' ⟨rfl, rfl⟩) | (go_at_call 43; refine HM43.out.mono ?_; rintro e w' ⟨rfl, rfl⟩))
  by_cases hw : 2 * ct > count
  · have hF2 : voteF ⟨id, count, epoch, voted, role, log, conf, votes, mat⟩ ⟨kind, j, dst, ep, pos, aep, items, conf2, true⟩ = leadF ⟨id, count, epoch, voted, role, log, conf, vs, mat⟩ := by rw [HF.out, ← HCTV.out, if_pos hw]
    obtain ⟨p, hp⟩ : ∃ p, p = leadF ⟨id, count, epoch, voted, role, log, conf, vs, mat⟩ := ⟨_, rfl⟩
    have hl := rlead_ok ⟨id, count, epoch, voted, role, log, conf, vs, mat⟩ (.slice la log.length lcap) (.slice (some ⟨g, 0, none⟩) votes.length cap1) (.slice ma mat.length mcap) _ W.drew (hlv.step KW.drew.of_no NM) (rdW.kept ((Kept.refl _ _).drew)) (hmv.step KW.drew.of_no NM) hc1 hc2 hi0 hi1 hf0 hll
    rw [← hp] at hl hF2
    obtain ⟨r3, ls3⟩ := p
    dsimp only at hl
    have HF2 := Lib.hid hF2
    have TA := Lib.hid hl
    clear hp HF hF2 hl rdW rdn rd1 rdd
    go_wp2_with fail
    refine (TA.out).mono ?_
    intro e w6 hs
    obtain ⟨la6, lc6, va6, vc6, ma6, mc6, ta6, tc6, e6, hB6, k6, fin⟩ := hs.store KW.drew hz2 (by omega)
    subst e6
    have b6 := k6.blk (k := w.heap.size + 2) (blk_drew b2W) (fun x => x)
    obtain ⟨w7, e7, z7, fin7⟩ : ∃ w7, w6 = putB w7 (w.heap.size + 2) _ 62 ∧ w.heap.size + 2 < w7.heap.size ∧ ∀ c t, RSent _ w _ _ _ _ (putB w7 (w.heap.size + 2) c t) := ⟨w6, putB_self b6, hB6, fin⟩
    subst e7
    clear fin b6
    go_wp2_with fail
    refine bodyPost_ret (v := .agg #[.int .i64 r3.id, .int .i64 r3.count, .int .i64 r3.epoch, .int .i64 r3.voted, .int .i64 r3.role, .slice la6 r3.log.length lc6, .int .i64 r3.conf, .slice va6 r3.votes.length vc6, .slice ma6 r3.mat.length mc6, .slice ta6 ls3.length tc6, .int .i64 0]) (by simp [results, Tryd.results55, go_sem, z7]) rfl ?_
    rw [HF2.out]
    exact (fin7 _ _).weak
  · have hwf := decide_eq_false hw
    have hF2 : voteF ⟨id, count, epoch, voted, role, log, conf, votes, mat⟩ ⟨kind, j, dst, ep, pos, aep, items, conf2, true⟩ = (⟨id, count, epoch, voted, role, log, conf, vs, mat⟩, []) := by rw [HF.out, ← HCTV.out, if_neg hw]
    have HF2 := Lib.hid hF2
    obtain ⟨w9, e9, z9, d00, d01, d02, d03, d04, d05, d06, d07, d08, K9, R9⟩ : ∃ w9, W = putB w9 (w.heap.size + 2) _ 62 ∧ w.heap.size + 2 < w9.heap.size ∧ w9.cell? _ = some _ ∧ w9.cell? _ = some _ ∧ w9.cell? _ = some _ ∧ w9.cell? _ = some _ ∧ w9.cell? _ = some _ ∧ w9.cell? _ = some _ ∧ w9.cell? _ = some _ ∧ w9.cell? _ = some _ ∧ w9.cell? _ = some _ ∧ Kept NoM w w9 ∧ RdBools w9 _ (.slice (some ⟨g, 0, none⟩) votes.length cap1) vs := ⟨W, putB_self b2W, by omega, c00, c01, c02, c03, c04, c05, c06, c07, c08, KW, rdW⟩
    clear hF2 c00 c01 c02 c03 c04 c05 c06 c07 c08 KW rdW c01d rdn rd1 rdd b2W HVO HM43
    subst e9
    go_wp2_with fail
    refine bodyPost_ret (v := .agg #[.int .i64 id, .int .i64 count, .int .i64 epoch, .int .i64 voted, .int .i64 role, .slice la log.length lcap, .int .i64 conf, .slice (some ⟨g, 0, none⟩) votes.length cap1, .slice ma mat.length mcap, .slice none 0 0, .int .i64 0]) (by simp [results, Tryd.results55, go_sem, z9]) rfl ?_
    have KE9 : ∀ c, Kept NoM w (putB w9 (w.heap.size + 2) c 62).drew := fun c => (K9.putN (b := w.heap.size + 2) (by omega) c 62).drew
    have KG9 : ∀ c, Kept (fun i => i = w.heap.size + 2 ∨ (i < w.heap.size ∧ M i)) w9 (putB w9 (w.heap.size + 2) c 62).drew := fun c => ((Kept.refl (fun i => i = w.heap.size + 2 ∨ (i < w.heap.size ∧ M i)) w9).putM (b := w.heap.size + 2) (.inl rfl) c 62).drew
    have hR : ∀ c, RdBools (putB w9 (w.heap.size + 2) c 62).drew (fun k => k < w.heap.size ∧ M k) (.slice (some ⟨g, 0, none⟩) votes.length cap1) vs := fun c => (R9.kept (KG9 c)).mono (fun _ _ x => .inr x)
    rw [HF2.out]
    exact ⟨_, _, _, _, rfl, hlv.step (KE9 _).of_no (fun _ _ x => x.2), hR _, hmv.step (KE9 _).of_no (fun _ _ x => x.2), RdLets.nil _ _, KE9 _⟩
end Go.Proofs.YtgohploghbimlaaDoor
