/- Walks of the specification: replied. -/
import Derived.Test.YtgohploghbimlaaDoorKWD
import Derived.Test.YtgohploghbimlaaDoorKOwn
import Derived.Test.YtgohploghbimlaaDoorKPlain
import Derived.BigRegion
import Derived.Deep.RegionHeld3
import Derived.Deep.QuietTactic
import Derived.Deep.CutRange
import Derived.Deep.DeepCutAuto
set_option linter.unusedVariables false
set_option linter.unusedSimpArgs false
set_option linter.unusedSectionVars false
namespace Go.Proofs.YtgohploghbimlaaDoor
open Go.RowKit
set_option maxHeartbeats 1500000
set_option maxRecDepth 4000

theorem rreply_no (r : Rep) (m : Let) (iv : Value) (lv vv mv : Value) (M : Nat → Prop) (w : World) (hlv : RdItems w M lv r.log) (hvv : RdBools w M vv r.votes) (hmv : RdInts w M mv r.mat) (hiv : RdItems w NoM iv m.items) (hno : r.role ≠ 3 ∨ m.ep ≠ r.epoch ∨ m.yes = false) :
    Calls Tryd.prog 57 #[.agg #[.int .i64 r.id, .int .i64 r.count, .int .i64 r.epoch, .int .i64 r.voted, .int .i64 r.role, lv, .int .i64 r.conf, vv, mv], .agg #[.int .i64 m.kind, .int .i64 m.src, .int .i64 m.dst, .int .i64 m.ep, .int .i64 m.pos, .int .i64 m.aep, iv, .int .i64 m.conf, .bool m.yes]] w (RSent M w (replyF r m).1 (replyF r m).2 0) := by
  obtain ⟨la, lcap, rfl, hlc, hlm⟩ := hlv.shape
  obtain ⟨va, vcap, rfl, _, _⟩ := hvv.shape
  obtain ⟨ma, mcap, rfl, _, _⟩ := hmv.shape
  obtain ⟨ia, icap, rfl, _, _⟩ := hiv.shape
  have K3 : ∀ a b c, Kept NoM w (((w.alloc a).alloc b).alloc c) := fun a b c => (((Kept.refl NoM w).alloc a).alloc b).alloc c
  have hF : replyF r m = (r, []) := by unfold replyF; rw [if_pos hno]
  have HF := Lib.hid hF
  have fin : ∀ a b c, RSent M w (replyF r m).1 (replyF r m).2 0 (.returned (.agg #[.int .i64 r.id, .int .i64 r.count, .int .i64 r.epoch, .int .i64 r.voted, .int .i64 r.role, .slice la r.log.length lcap, .int .i64 r.conf, .slice va r.votes.length vcap, .slice ma r.mat.length mcap, .slice none 0 0, .int .i64 0])) (((w.alloc a).alloc b).alloc c) := fun a b c => by
    rw [HF.out]
    exact ⟨_, _, _, _, rfl, hlv.step (K3 _ _ _).of_no (fun _ _ x => x.2), hvv.step (K3 _ _ _).of_no (fun _ _ x => x.2), hmv.step (K3 _ _ _).of_no (fun _ _ x => x.2), RdLets.nil _ _, K3 _ _ _⟩
  have FIN := Lib.hid fin
  clear fin hF
  by_cases h1 : r.role = 3
  · have t1 : (r.role != 3) = false := by rw [bne_eq_false_iff_eq]; exact h1
    by_cases h2 : m.ep = r.epoch
    · have t2 : (m.ep != r.epoch) = false := by rw [bne_eq_false_iff_eq]; exact h2
      have h3 : m.yes = false := by
        rcases hno with h | h | h
        · exact absurd h1 h
        · exact absurd h2 h
        · exact h
      clear hno h1 h2
      go_enter Tryd.func57, Tryd.ntmps57
      go_wp2_with fail
      refine bodyPost_ret (v := .agg #[.int .i64 r.id, .int .i64 r.count, .int .i64 r.epoch, .int .i64 r.voted, .int .i64 r.role, .slice la r.log.length lcap, .int .i64 r.conf, .slice va r.votes.length vcap, .slice ma r.mat.length mcap, .slice none 0 0, .int .i64 0]) (by simp [results, Tryd.results57, go_sem]) rfl ?_
      exact FIN.out _ _ _
    · have t2 : (m.ep != r.epoch) = true := by rw [bne_iff_ne]; exact h2
      clear hno h1 h2
      go_enter Tryd.func57, Tryd.ntmps57
      go_wp2_with fail
      refine bodyPost_ret (v := .agg #[.int .i64 r.id, .int .i64 r.count, .int .i64 r.epoch, .int .i64 r.voted, .int .i64 r.role, .slice la r.log.length lcap, .int .i64 r.conf, .slice va r.votes.length vcap, .slice ma r.mat.length mcap, .slice none 0 0, .int .i64 0]) (by simp [results, Tryd.results57, go_sem]) rfl ?_
      exact FIN.out _ _ _
  · have t1 : (r.role != 3) = true := by rw [bne_iff_ne]; exact h1
    clear hno h1
    go_enter Tryd.func57, Tryd.ntmps57
    go_wp2_with fail
    refine bodyPost_ret (v := .agg #[.int .i64 r.id, .int .i64 r.count, .int .i64 r.epoch, .int .i64 r.voted, .int .i64 r.role, .slice la r.log.length lcap, .int .i64 r.conf, .slice va r.votes.length vcap, .slice ma r.mat.length mcap, .slice none 0 0, .int .i64 0]) (by simp [results, Tryd.results57, go_sem]) rfl ?_
    exact FIN.out _ _ _

theorem rint_open {w w1 : World} {R Mx Z : Array Value} {xs : List Int} {a1 : Option Addr} {n cap1 : Nat} {O1 : Option Nat} (own : OwnS w1 O1 3 1 EInt (.slice a1 n cap1) xs)
    (k1 : Kept (fun k => some k = none) (((w.alloc (.cells R 32 (0, 0))).alloc (.cells Mx 57 (0, 0))).alloc (.cells Z 62 (0, 0))) w1) (n1 : NewO (((w.alloc (.cells R 32 (0, 0))).alloc (.cells Mx 57 (0, 0))).alloc (.cells Z 62 (0, 0))) none O1) (hn : 0 < xs.length) :
    ∃ g cur w2, a1 = some ⟨g, 0, none⟩ ∧ w1 = putB (putB (putB (putB w2 (w.heap.size + 2) Z 62) (w.heap.size + 1) Mx 57) w.heap.size R 32) g cur 3 ∧ w.heap.size < w2.heap.size ∧ w.heap.size + 1 < w2.heap.size ∧ w.heap.size + 2 < w2.heap.size ∧ g < w2.heap.size ∧ w.heap.size + 3 ≤ g ∧
      Kept NoM w w2 ∧ n ≤ cap1 ∧ cap1 ≤ maxLen ∧ cur.size = cap1 ∧ cur.toList.take n = xs.map (Value.int .i64) ∧ n = xs.length := by
  obtain ⟨g, gcap, cur, e1, rfl, hg, hgc, hgm, hgs, hgt⟩ := own.open1 (f := Value.int .i64) (fun c x h => h) hn
  simp only [Value.slice.injEq] at e1
  obtain ⟨rfl, rfl, rfl⟩ := e1
  have hgD : w.heap.size + 3 ≤ g := by
    rcases n1 with h | ⟨g', h, hg2⟩
    · cases h
    · cases h; simpa using hg2
  have b0 := k1.blk (k := w.heap.size) (blk_old (blk_old (blk_new _ _) _) _) (fun h => by cases h)
  have b1 := k1.blk (k := w.heap.size + 1) (blk_old (blk_new' _ _ _ (by simp)) _) (fun h => by cases h)
  have b2 := k1.blk (k := w.heap.size + 2) (blk_new' _ _ _ (by simp)) (fun h => by cases h)
  have hgl := lt_of_block hg
  refine ⟨g, cur, w1, rfl, ?_, by omega, by omega, by omega, hgl, hgD, ?_, hgc, hgm, hgs, hgt, rfl⟩
  · rw [← putB_self b2, ← putB_self b1, ← putB_self b0]; exact putB_self hg
  · exact ((((Kept.refl NoM w).alloc _).alloc _).alloc _).trans' k1 (fun i hi h => by cases h)

theorem countGe_succ (ms : List Int) (n : Int) (q : Nat) (x : Int) (h : ms[q]? = some x) : countGe (ms.take (q + 1)) n = countGe (ms.take q) n + if n ≤ x then 1 else 0 := by
  unfold countGe
  rw [List.take_add_one, h]
  simp only [Option.toList, List.countP_append, List.countP_cons, List.countP_nil]
  by_cases hx : n ≤ x <;> simp [hx]
theorem countGe_le (ms : List Int) (n : Int) (q : Nat) : 0 ≤ countGe (ms.take q) n ∧ countGe (ms.take q) n ≤ q := by
  unfold countGe
  have := List.countP_le_length (p := fun x => decide (n ≤ x)) (l := ms.take q)
  simp at this
  omega


theorem rreply_yes (r : Rep) (m : Let) (iv : Value) (lv vv mv : Value) (M : Nat → Prop) (w : World) (hlv : RdItems w M lv r.log) (hvv : RdBools w M vv r.votes) (hmv : RdInts w M mv r.mat) (hiv : RdItems w NoM iv m.items) (hr : Valid r) (h1 : r.role = 3) (h2 : m.ep = r.epoch) (h3 : m.yes = true)
    (hs0 : 0 ≤ m.src) (hs1 : m.src < r.count) (hsi : m.src ≠ r.id) (hp0 : 0 ≤ m.pos) :
    Calls Tryd.prog 57 #[.agg #[.int .i64 r.id, .int .i64 r.count, .int .i64 r.epoch, .int .i64 r.voted, .int .i64 r.role, lv, .int .i64 r.conf, vv, mv], .agg #[.int .i64 m.kind, .int .i64 m.src, .int .i64 m.dst, .int .i64 m.ep, .int .i64 m.pos, .int .i64 m.aep, iv, .int .i64 m.conf, .bool m.yes]] w (RSent M w (replyF r m).1 (replyF r m).2 0) := by
  have t1 : (r.role != 3) = false := by rw [bne_eq_false_iff_eq]; exact h1
  have t2 : (m.ep != r.epoch) = false := by rw [bne_eq_false_iff_eq]; exact h2
  have hm := hr.mat
  rw [if_pos h1] at hm
  have hmat := hr.match_
  have hc7 := hr.count7
  have hi0 := hr.id0
  have hi1 := hr.id1
  have hf0 := hr.cf0
  have hf1 := hr.cf1
  have hll := hr.len
  have hpr := hr.prop
  obtain ⟨id, count, epoch, voted, role, log, conf, votes, mat⟩ := r
  obtain ⟨kind, src, dst, ep, pos, aep, items, conf2, yes⟩ := m
  simp only at *
  obtain ⟨j, rfl⟩ := Int.eq_ofNat_of_zero_le hs0
  have hcc : 2 ≤ count := by omega
  obtain ⟨y, hy⟩ := get_at (xs := mat) (k := j) (by omega)
  have hyb := hmat y (List.mem_of_getElem? hy)
  obtain ⟨x, hx⟩ : ∃ x : Int, x = max y (min pos log.length) := ⟨_, rfl⟩
  have hxb : 0 ≤ x ∧ x ≤ log.length := by omega
  obtain ⟨ms, hms⟩ : ∃ ms : List Int, ms = mat.set j x := ⟨_, rfl⟩
  have hmsl : ms.length = mat.length := by rw [hms]; simp
  have hmsb : ∀ z ∈ ms, 0 ≤ z ∧ z ≤ log.length := by
    intro z hz
    rw [hms] at hz
    rcases List.mem_or_eq_of_mem_set hz with h | h
    · exact hmat z h
    · rw [h]; exact hxb
  have hmj : ms[j]? = some x := by rw [hms, List.getElem?_set_self (by omega)]
  obtain ⟨cf, hcf⟩ : ∃ cf : Int, cf = confLoop log ms count epoch (log.length - conf.toNat) (conf + 1) conf := ⟨_, rfl⟩
  have hset := settleF_loop ⟨id, count, epoch, voted, role, log, conf, votes, ms⟩ (by dsimp only; omega) hcc hpr hmsb hf0 hf1
  have hF : replyF ⟨id, count, epoch, voted, role, log, conf, votes, mat⟩ ⟨kind, j, dst, ep, pos, aep, items, conf2, yes⟩ = (⟨id, count, epoch, voted, role, log, cf, votes, ms⟩, if x < log.length then [logLet ⟨id, count, epoch, voted, role, log, cf, votes, ms⟩ j] else []) := by
    unfold replyF
    rw [if_neg (by simp [h1, h2, h3])]
    have e0 : max (mat.getD j 0) (min pos (log.length : Int)) = x := by rw [hx]; simp [List.getD, hy]
    simp only [Int.toNat_natCast, e0, ← hms]
    rw [hset, ← hcf]
  have HF := Lib.hid hF
  have HMS := Lib.hid hms
  have HML := Lib.hid hmsl
  have HMB := Lib.hid hmsb
  have HMJ := Lib.hid hmj
  have HX := Lib.hid hx
  have HY := Lib.hid hy
  have HM := Lib.hid hm
  have HCF := Lib.hid hcf
  clear hF hms hmsl hmsb hmj hy hm hcf hset hr hmat h1 h2 hpr hsi
  subst h3
  obtain ⟨la, lcap, rfl, hlc, hlm⟩ := hlv.shape
  obtain ⟨va, vcap, rfl, _, _⟩ := hvv.shape
  obtain ⟨ma, mcap, rfl, _, _⟩ := hmv.shape
  obtain ⟨ia, icap, rfl, _, _⟩ := hiv.shape
  have K3 : ∀ a b c, Kept NoM w (((w.alloc a).alloc b).alloc c) := fun a b c => (((Kept.refl NoM w).alloc a).alloc b).alloc c
  have hmv3 : ∀ a b c, RdS (((w.alloc a).alloc b).alloc c) NoM 1 EInt (.slice ma mat.length mcap) mat := fun a b c => hmv.any.kept (K3 a b c)
  have hml7 : mat.length ≤ 7 := by have := HM.out; omega
  have hjl : j < mat.length := by have := HM.out; omega
  have hjv : (j : Int) < mat.length := by omega
  have hpos : 0 < mat.length := by omega
  go_enter Tryd.func57, Tryd.ntmps57
  go_upto_region 5 with (at_builtin; go_loud (refine wpList_append_S (M := NoM) rfl (.tmp 26) (.tmp 28) 30 rfl 8 tyInts _ rfl (OwnS.nil _ _ _ _) _ rfl (hmv3 _ _ _) eInt_one 0 mat.length rfl rfl (by unfold maxLen; omega) (by omega) ?_; rw [Nat.zero_add, List.nil_append]; intro a1 cap1 w1 O1 own1 k1 n1; obtain ⟨g, cur, w2, e1, e2, z0, z1, z2, z3, hg3, K2, hcap, hcm, hcs, hct, _⟩ := rint_open own1 k1 n1 hpos; clear own1 k1 n1; subst e1; subst e2; have hcj := take_at hct HY.out; have hlj : mat.length ≤ cur.size := (by omega); have HCT := Lib.hid hct; have HCS := Lib.hid hcs; have ng0 : ¬ w.heap.size = g := (by omega); have ng1 : ¬ w.heap.size + 1 = g := (by omega); have ng2 : ¬ w.heap.size + 2 = g := (by omega); have lg0 : w.heap.size < g := (by omega); have lg1 : w.heap.size + 1 < g := (by omega); clear hct hcs))
  obtain ⟨c2, hset⟩ : ∃ c2, cur.setIfInBounds j (Value.int .i64 x) = c2 := ⟨_, rfl⟩
  have ht2 : c2.toList.take mat.length = ms.map (Value.int .i64) := by
    rw [← hset, HMS.out]; exact take_set HCT.out j x
  have hs2 : c2.size = cap1 := by rw [← hset]; simp [HCS.out]
  have HT2 := Lib.hid ht2
  have HS2 := Lib.hid hs2
  have HSET := Lib.hid hset
  clear ht2 hs2 hset
  go_cut [] from 30 to 45 (fun wx => wx = (putB (putB (putB (putB w2 (w.heap.size + 2) #[.int .i64 0, .int .i64 0, .int .i64 0, .int .i64 0, .int .i64 0, .slice none 0 0, .int .i64 0, .slice none 0 0, .slice none 0 0, .slice none 0 0, .int .i64 0] 62) (w.heap.size + 1) #[.int .i64 kind, .int .i64 j, .int .i64 dst, .int .i64 ep, .int .i64 pos, .int .i64 aep, .slice ia items.length icap, .int .i64 conf2, .bool true] 57) w.heap.size #[.int .i64 id, .int .i64 count, .int .i64 epoch, .int .i64 voted, .int .i64 role, .slice la log.length lcap, .int .i64 conf, .slice va votes.length vcap, .slice ma mat.length mcap] 32) g c2 3).drew)
  case first =>
    go_region
    go_wp2
    all_goals
      go_meet
      refine congrArg World.drew (congrArg (fun c => putB _ g c 3) ?_)
      rw [← HSET.out]
      refine congrArg (fun v => cur.setIfInBounds j (Value.int .i64 v)) ?_
      have := HX.out
      omega
  case rest =>
    obtain rfl := hcut
    have hgw : g < w2.heap.size := z3
    clear hcj hlj HCT HCS
    go_wp2_with fail
    go_loopw [6] (fun i wr => ∃ q : Nat, conf ≤ q ∧ q ≤ log.length ∧ i = .int .i64 ((q : Int) + 1) ∧ ∃ c : Int, confLoop log ms count epoch (log.length - q) ((q : Int) + 1) c = cf ∧
      wr.heap[w.heap.size]? = some (.cells #[.int .i64 id, .int .i64 count, .int .i64 epoch, .int .i64 voted, .int .i64 role, .slice la log.length lcap, .int .i64 c, .slice va votes.length vcap, .slice (some ⟨g, 0, none⟩) mat.length cap1] 32 (0, 0)) ∧ wr.heap[w.heap.size + 1]? = some (.cells #[.int .i64 kind, .int .i64 j, .int .i64 dst, .int .i64 ep, .int .i64 pos, .int .i64 aep, .slice ia items.length icap, .int .i64 conf2, .bool true] 57 (0, 0)) ∧ wr.heap[w.heap.size + 2]? = some (.cells #[.int .i64 0, .int .i64 0, .int .i64 0, .int .i64 0, .int .i64 0, .slice none 0 0, .int .i64 0, .slice none 0 0, .slice none 0 0, .slice none 0 0, .int .i64 0] 62 (0, 0)) ∧
      RdInts wr (fun i => i = w.heap.size ∨ i = w.heap.size + 2 ∨ (i < w.heap.size ∧ M i)) (.slice (some ⟨g, 0, none⟩) mat.length cap1) ms ∧ Kept NoM w wr) (fun i _ => log.length + 1 - (intOf i).toNat)
    case atStart =>
      obtain ⟨f, hf⟩ := Int.eq_ofNat_of_zero_le hf0
      refine ⟨f, by omega, by omega, by simp [hf], conf, ?_, ?_, ?_, ?_, ?_, ?_⟩
      · rw [HCF.out, hf]; rfl
      · exact blk_drew ((putB_blk_ne _ _ _ _ _ (by omega)).trans (putB_blk _ _ _ _ (by first | omega | (simp only [putB_size]; omega))))
      · exact blk_drew ((putB_blk_ne _ _ _ _ _ (by omega)).trans ((putB_blk_ne _ _ _ _ _ (by omega)).trans (putB_blk _ _ _ _ (by first | omega | (simp only [putB_size]; omega)))))
      · exact blk_drew ((putB_blk_ne _ _ _ _ _ (by omega)).trans ((putB_blk_ne _ _ _ _ _ (by omega)).trans ((putB_blk_ne _ _ _ _ _ (by omega)).trans (putB_blk _ _ _ _ (by first | omega | (simp only [putB_size]; omega))))))
      · refine (OwnS.close1 (f := Value.int .i64) (fun x => rfl) (blk_drew (putB_blk _ _ _ _ (by first | omega | (simp only [putB_size]; omega)))) mat.length HML.out hcap hcm HS2.out HT2.out).rd ?_
        intro g' h
        cases h
        rintro (h | h | h) <;> omega
      · exact ((((K2.putN (b := w.heap.size + 2) (by omega) _ _).putN (b := w.heap.size + 1) (by omega) _ _).putN (b := w.heap.size) (by omega) _ _).putN (b := g) (by omega) _ _).drew
    case round =>
      obtain ⟨q, hq0, hq, rfl, c, hcl, b0, b1, b2, rdI, hK⟩ := hrel
      have hz2 := lt_of_block b2
      by_cases hlt : q < log.length
      · have hlti : (q : Int) + 1 ≤ log.length := by omega
        have hltj : (q : Int) < log.length := by omega
        have hqz : (q : Int) + 1 - 1 = q := by omega
        have hqw : IntKind.wrap .i64 (q : Int) = q := IntWalk.i64_in _ (by omega)
        obtain ⟨k0, hk0⟩ : ∃ k0, log.length - q = k0 + 1 := ⟨log.length - q - 1, by omega⟩
        have hk1 : log.length - (q + 1) = k0 := by omega
        obtain ⟨xi, hxi⟩ := get_at hlt
        have hcl2 : confLoop log ms count epoch k0 ((q : Int) + 1 + 1) (if 2 * countGe ms ((q : Int) + 1) > count ∧ xi.ep = epoch then (q : Int) + 1 else c) = cf := by
          rw [← hcl, hk0]
          simp only [confLoop]
          rw [show ((q : Int) + 1 - 1).toNat = q by omega, hxi]
          simp only [Option.map_some, Option.some.injEq]
        obtain ⟨lb, loff, e1, _, hbl, x0, _⟩ := hlv.any.at hxi
        have x0 := hK.cell x0 (fun h => h)
        have hlne : ¬ lb = w.heap.size := by omega
        have HCL := Lib.hid hcl2
        have HK1 := Lib.hid hk1
        subst e1
        obtain ⟨w5, e5, y1, y2, rd5, K5, x05, z5⟩ : ∃ w5, wr = putB w5 w.heap.size _ 32 ∧ w5.heap[w.heap.size + 1]? = some _ ∧ w5.heap[w.heap.size + 2]? = some _ ∧ RdInts w5 _ (.slice (some ⟨g, 0, none⟩) mat.length cap1) ms ∧ Kept NoM w w5 ∧ w5.cell? _ = some _ ∧ w.heap.size + 2 < w5.heap.size := ⟨wr, putB_self b0, b1, b2, rdI, hK, x0, hz2⟩
        have Y1 := Lib.hid y1
        have Y2 := Lib.hid y2
        clear hcl hcl2 hk0 hk1 hxi hlt b0 b1 b2 rdI hK x0 y1 y2 hz2
        subst e5
        have z50 : w.heap.size < w5.heap.size := by omega
        have RD5 := Lib.hid rd5
        have rdw : ∀ d, RdInts (putB w5 w.heap.size d 32) NoM (.slice (some ⟨g, 0, none⟩) mat.length cap1) ms := fun d => (rd5.kept ((Kept.refl _ w5).putM (b := w.heap.size) (.inl rfl) d 32)).any
        clear rd5
        have fin : ∀ (c' : Int) n, confLoop log ms count epoch k0 ((q : Int) + 1 + 1) c' = cf → ∃ q' : Nat, conf ≤ q' ∧ q' ≤ log.length ∧ Value.int .i64 ((q : Int) + 1 + 1) = .int .i64 ((q' : Int) + 1) ∧ ∃ c : Int, confLoop log ms count epoch (log.length - q') ((q' : Int) + 1) c = cf ∧
            ((putB w5 w.heap.size #[.int .i64 id, .int .i64 count, .int .i64 epoch, .int .i64 voted, .int .i64 role, .slice (some ⟨lb, loff, none⟩) log.length lcap, .int .i64 c', .slice va votes.length vcap, .slice (some ⟨g, 0, none⟩) mat.length cap1] 32).drewN n).heap[w.heap.size]? = some (.cells #[.int .i64 id, .int .i64 count, .int .i64 epoch, .int .i64 voted, .int .i64 role, .slice (some ⟨lb, loff, none⟩) log.length lcap, .int .i64 c, .slice va votes.length vcap, .slice (some ⟨g, 0, none⟩) mat.length cap1] 32 (0, 0)) ∧ ((putB w5 w.heap.size #[.int .i64 id, .int .i64 count, .int .i64 epoch, .int .i64 voted, .int .i64 role, .slice (some ⟨lb, loff, none⟩) log.length lcap, .int .i64 c', .slice va votes.length vcap, .slice (some ⟨g, 0, none⟩) mat.length cap1] 32).drewN n).heap[w.heap.size + 1]? = some (.cells #[.int .i64 kind, .int .i64 j, .int .i64 dst, .int .i64 ep, .int .i64 pos, .int .i64 aep, .slice ia items.length icap, .int .i64 conf2, .bool true] 57 (0, 0)) ∧ ((putB w5 w.heap.size #[.int .i64 id, .int .i64 count, .int .i64 epoch, .int .i64 voted, .int .i64 role, .slice (some ⟨lb, loff, none⟩) log.length lcap, .int .i64 c', .slice va votes.length vcap, .slice (some ⟨g, 0, none⟩) mat.length cap1] 32).drewN n).heap[w.heap.size + 2]? = some (.cells #[.int .i64 0, .int .i64 0, .int .i64 0, .int .i64 0, .int .i64 0, .slice none 0 0, .int .i64 0, .slice none 0 0, .slice none 0 0, .slice none 0 0, .int .i64 0] 62 (0, 0)) ∧
            RdInts ((putB w5 w.heap.size #[.int .i64 id, .int .i64 count, .int .i64 epoch, .int .i64 voted, .int .i64 role, .slice (some ⟨lb, loff, none⟩) log.length lcap, .int .i64 c', .slice va votes.length vcap, .slice (some ⟨g, 0, none⟩) mat.length cap1] 32).drewN n) (fun i => i = w.heap.size ∨ i = w.heap.size + 2 ∨ (i < w.heap.size ∧ M i)) (.slice (some ⟨g, 0, none⟩) mat.length cap1) ms ∧ Kept NoM w ((putB w5 w.heap.size #[.int .i64 id, .int .i64 count, .int .i64 epoch, .int .i64 voted, .int .i64 role, .slice (some ⟨lb, loff, none⟩) log.length lcap, .int .i64 c', .slice va votes.length vcap, .slice (some ⟨g, 0, none⟩) mat.length cap1] 32).drewN n) := fun c' n h =>
          ⟨q + 1, by omega, by omega, by simp, c', by rw [HK1.out]; simpa using h, blk_drewN (putB_blk _ _ _ _ z50) _, blk_drewN ((putB_blk_ne _ _ _ _ _ (by omega)).trans Y1.out) _, blk_drewN ((putB_blk_ne _ _ _ _ _ (by omega)).trans Y2.out) _, RD5.out.kept (((Kept.refl _ w5).putM (b := w.heap.size) (.inl rfl) _ 32).drewN n), (K5.putN (by omega) _ _).drewN n⟩
        have FIN := Lib.hid fin
        clear fin
        have hmc : count = mat.length := HM.out.symm
        have HMC := Lib.hid hmc
        clear hmc
        go_wp2_with fail
        go_loop [7, 8] (fun c k => ∃ q2 : Nat, q2 ≤ mat.length ∧ k = .int .i64 q2 ∧ c = .int .i64 (countGe (ms.take q2) ((q : Int) + 1))) (fun _ k => mat.length - (intOf k).toNat)
        case atStart => exact ⟨0, Nat.zero_le _, rfl, by simp [countGe]⟩
        case round =>
          obtain ⟨q2, hq2, rfl, rfl⟩ := hrel
          by_cases hlt2 : q2 < mat.length
          · obtain ⟨u, hu⟩ := get_at (xs := ms) (k := q2) (by rw [HML.out]; exact hlt2)
            obtain ⟨gb, goff, e0, _, glt, hgc⟩ := (rdw #[.int .i64 id, .int .i64 count, .int .i64 epoch, .int .i64 voted, .int .i64 role, .slice (some ⟨lb, loff, none⟩) log.length lcap, .int .i64 c, .slice va votes.length vcap, .slice (some ⟨g, 0, none⟩) mat.length cap1]).at hu
            simp only [Option.some.injEq, Addr.mk.injEq] at e0
            obtain ⟨rfl, rfl, _⟩ := e0
            rw [Nat.zero_add] at hgc
            have hst := countGe_succ ms ((q : Int) + 1) q2 u hu
            have HS := Lib.hid hst
            have hb0 := countGe_le ms ((q : Int) + 1) q2
            clear hst hu
            generalize countGe (ms.take q2) ((q : Int) + 1) = ct at *
            have hk2 : (q2 : Int) < count := by have := HMC.out; omega
            have hct7 : ct ≤ 7 := by omega
            by_cases hge : (q : Int) + 1 ≤ u
            · go_wp2
              go_round
              case rel => exact ⟨q2 + 1, by omega, by go_num, by rw [HS.out, if_pos hge]⟩
              case measure => simp [intOf]; omega
            · have hgf : decide ((q : Int) + 1 ≤ u) = false := decide_eq_false hge
              go_wp2
              go_round
              case rel => exact ⟨q2 + 1, by omega, by go_num, by rw [HS.out, if_neg hge]; simp⟩
              case measure => simp [intOf]; omega
          · obtain rfl : q2 = mat.length := by omega
            have htk : ms.take mat.length = ms := by rw [← HML.out, List.take_length]
            rw [htk]
            have hb0 : 0 ≤ countGe ms ((q : Int) + 1) ∧ countGe ms ((q : Int) + 1) ≤ mat.length := by
              have := countGe_le ms ((q : Int) + 1) mat.length
              rwa [htk] at this
            obtain ⟨ct, hct⟩ : ∃ ct, ct = countGe ms ((q : Int) + 1) := ⟨_, rfl⟩
            rw [← hct] at hb0 ⊢
            have HCT := Lib.hid hct
            have hk2 : decide (((mat.length : Nat) : Int) < count) = false := decide_eq_false (by have := HMC.out; omega)
            have hct0 := hb0.1
            have hct1 : ct ≤ 1000000 := by have := hb0.2; omega
            clear htk hct hb0 hlt2 hq2
            by_cases hmj : 2 * ct > count
            · by_cases hep : xi.ep = epoch
              · have tep : (xi.ep == epoch) = true := by rw [beq_iff_eq]; exact hep
                have hnew := FIN.out ((q : Int) + 1)
                have HNEW := Lib.hid hnew
                have HCL2 := Lib.hid (show confLoop log ms count epoch k0 ((q : Int) + 1 + 1) ((q : Int) + 1) = cf by rw [← HCL.out, ← HCT.out, if_pos ⟨hmj, hep⟩])
                clear hep hnew
                go_wp2_with fail
                go_quiet ((go_at_call 43; exact quiet_eq (majority_ok _ _ hct0 hct1 _)))
                go_wp2
                go_roundw
                case rel => exact HNEW.out _ HCL2.out
                case measure => simp [intOf]; omega
              · have tep : (xi.ep == epoch) = false := by rw [beq_eq_false_iff_ne]; exact hep
                have HCL2 := Lib.hid (show confLoop log ms count epoch k0 ((q : Int) + 1 + 1) c = cf by rw [← HCL.out, ← HCT.out, if_neg (fun h => hep h.2)])
                clear hep
                go_wp2_with fail
                go_quiet ((go_at_call 43; exact quiet_eq (majority_ok _ _ hct0 hct1 _)))
                go_wp2
                go_roundw
                case rel => exact FIN.out c _ HCL2.out
                case measure => simp [intOf]; omega
            · have hm43 := fun x => (majority_ok ct count hct0 hct1 x)
              rw [decide_eq_false hmj] at hm43
              have HM43 := Lib.hid hm43
              have HCL2 := Lib.hid (show confLoop log ms count epoch k0 ((q : Int) + 1 + 1) c = cf by rw [← HCL.out, ← HCT.out, if_neg (fun h => hmj h.1)])
              clear hmj hm43
              go_wp2_with fail
              go_quiet ((go_at_call 43; exact quiet_eq (HM43.out _)))
              go_wp2
              go_roundw
              case rel => exact FIN.out c _ HCL2.out
              case measure => simp [intOf]; omega
      · obtain rfl : q = log.length := by omega
        have hgt : decide ((log.length : Int) + 1 ≤ log.length) = false := decide_eq_false (by omega)
        have hce : c = cf := by
          rw [Nat.sub_self] at hcl
          exact hcl
        subst hce
        obtain ⟨gb, goff, e0, _, glt, hgc⟩ := rdI.any.at HMJ.out
        simp only [Option.some.injEq, Addr.mk.injEq] at e0
        obtain ⟨rfl, rfl, _⟩ := e0
        rw [Nat.zero_add] at hgc
        have c00 := cell_blk b0 0 _ rfl
        have c01 := cell_blk b0 1 _ rfl
        have c02 := cell_blk b0 2 _ rfl
        have c03 := cell_blk b0 3 _ rfl
        have c04 := cell_blk b0 4 _ rfl
        have c05 := cell_blk b0 5 _ rfl
        have c06 := cell_blk b0 6 _ rfl
        have c07 := cell_blk b0 7 _ rfl
        have c08 := cell_blk b0 8 _ rfl
        have d01 := cell_blk b1 1 _ rfl
        have HF' := HF.out
        by_cases hlx : x < log.length
        · have HF2 := Lib.hid (show replyF ⟨id, count, epoch, voted, role, log, conf, votes, mat⟩ ⟨kind, j, dst, ep, pos, aep, items, conf2, true⟩ = (⟨id, count, epoch, voted, role, log, c, votes, ms⟩, [logLet ⟨id, count, epoch, voted, role, log, c, votes, ms⟩ j]) by rw [HF', if_pos hlx])
          have tap := fun x (h : Kept NoM wr x) => appending_ok ⟨id, count, epoch, voted, role, log, c, votes, ms⟩ j (.slice la log.length lcap) (.slice va votes.length vcap) (.slice (some ⟨g, 0, none⟩) mat.length cap1) x (hlv.any.kept (hK.trans h)) (hvv.any.kept (hK.trans h)) (rdI.any.kept h) (by dsimp only; rw [HML.out]; exact hjl) HMB.out (by dsimp only; omega)
          have TAP := Lib.hid tap
          have RDI := Lib.hid rdI
          have HKK := Lib.hid hK
          have B2 := Lib.hid b2
          have S0 : ∀ x, Kept (fun k => k = w.heap.size + 2) wr x → x.cell? ⟨w.heap.size, 0, none⟩ = some (.int .i64 id) ∧ x.cell? ⟨w.heap.size, 1, none⟩ = some (.int .i64 count) ∧ x.cell? ⟨w.heap.size, 2, none⟩ = some (.int .i64 epoch) ∧ x.cell? ⟨w.heap.size, 3, none⟩ = some (.int .i64 voted) ∧ x.cell? ⟨w.heap.size, 4, none⟩ = some (.int .i64 role) ∧ x.cell? ⟨w.heap.size, 5, none⟩ = some (.slice la log.length lcap) ∧ x.cell? ⟨w.heap.size, 6, none⟩ = some (.int .i64 c) ∧ x.cell? ⟨w.heap.size, 7, none⟩ = some (.slice va votes.length vcap) ∧ x.cell? ⟨w.heap.size, 8, none⟩ = some (.slice (some ⟨g, 0, none⟩) mat.length cap1) ∧ x.cell? ⟨w.heap.size + 1, 1, none⟩ = some (.int .i64 j) := fun x k =>
            ⟨k.cell (p := ⟨w.heap.size, 0, none⟩) c00 (fun h => by have h : w.heap.size = w.heap.size + 2 := h; omega), k.cell (p := ⟨w.heap.size, 1, none⟩) c01 (fun h => by have h : w.heap.size = w.heap.size + 2 := h; omega), k.cell (p := ⟨w.heap.size, 2, none⟩) c02 (fun h => by have h : w.heap.size = w.heap.size + 2 := h; omega), k.cell (p := ⟨w.heap.size, 3, none⟩) c03 (fun h => by have h : w.heap.size = w.heap.size + 2 := h; omega), k.cell (p := ⟨w.heap.size, 4, none⟩) c04 (fun h => by have h : w.heap.size = w.heap.size + 2 := h; omega), k.cell (p := ⟨w.heap.size, 5, none⟩) c05 (fun h => by have h : w.heap.size = w.heap.size + 2 := h; omega), k.cell (p := ⟨w.heap.size, 6, none⟩) c06 (fun h => by have h : w.heap.size = w.heap.size + 2 := h; omega), k.cell (p := ⟨w.heap.size, 7, none⟩) c07 (fun h => by have h : w.heap.size = w.heap.size + 2 := h; omega), k.cell (p := ⟨w.heap.size, 8, none⟩) c08 (fun h => by have h : w.heap.size = w.heap.size + 2 := h; omega), k.cell (p := ⟨w.heap.size + 1, 1, none⟩) d01 (fun h => by have h : w.heap.size + 1 = w.heap.size + 2 := h; omega)⟩
          have S00 := Lib.hid S0
          clear HF' hcl tap S0 rdI hK b0 b1 b2
          go_wp2_with fail
          go_quiet (fail)
          go_wp2_with fail
          have KD := Lib.hid ((Kept.refl NoM wr).drewN (nq + 1))
          go_region_held3 (fun w' => w'.cell? ⟨w.heap.size, 0, none⟩ = some (.int .i64 id) ∧ w'.cell? ⟨w.heap.size, 1, none⟩ = some (.int .i64 count) ∧ w'.cell? ⟨w.heap.size, 2, none⟩ = some (.int .i64 epoch) ∧ w'.cell? ⟨w.heap.size, 3, none⟩ = some (.int .i64 voted) ∧ w'.cell? ⟨w.heap.size, 4, none⟩ = some (.int .i64 role) ∧ w'.cell? ⟨w.heap.size, 5, none⟩ = some (.slice la log.length lcap) ∧ w'.cell? ⟨w.heap.size, 6, none⟩ = some (.int .i64 c) ∧ w'.cell? ⟨w.heap.size, 7, none⟩ = some (.slice va votes.length vcap) ∧ w'.cell? ⟨w.heap.size, 8, none⟩ = some (.slice (some ⟨g, 0, none⟩) mat.length cap1) ∧ w'.cell? ⟨w.heap.size + 1, 1, none⟩ = some (.int .i64 j))
            (first | exact S00.out _ KD.out.of_no | exact S00.out _ KS.out.of_no | exact S00.out _ KS.out.of_no.drew | exact SF _ _ | go_keep | (simp [go_sem]; done))
            ((go_at_call 63; refine (TAP.out _ KD.out).mono ?_; rintro e w1 ⟨iv, rfl, hiv, hk1⟩; obtain ⟨ia2, ic2, rfl, _, _⟩ := hiv.shape; have ks := KD.out.trans hk1; have KS := Lib.hid ks; obtain ⟨w2', e2, zz2, ks2, hiv2⟩ : ∃ w2', w1 = putB w2' (w.heap.size + 2) _ 62 ∧ w.heap.size + 2 < w2'.heap.size ∧ Kept NoM wr w2' ∧ RdItems w2' _ (.slice ia2 _ ic2) _ := ⟨w1, putB_self (ks.blk B2.out (fun h => h)), Nat.lt_of_lt_of_le hz2 ks.size, ks, hiv⟩; clear ks hk1 hiv; have SF := fun c o => S00.out ((putB w2' (w.heap.size + 2) c 62).alloc o) ((Kept.putM (M := fun k => k = w.heap.size + 2) ks2.of_no (b := w.heap.size + 2) rfl c 62).alloc o); subst e2))
          go_wp2_with fail
          refine bodyPost_ret (v := .agg #[.int .i64 id, .int .i64 count, .int .i64 epoch, .int .i64 voted, .int .i64 role, .slice la log.length lcap, .int .i64 c, .slice va votes.length vcap, .slice (some ⟨g, 0, none⟩) mat.length cap1, .slice (some ⟨w2'.heap.size, 0, none⟩) 1 1, .int .i64 0]) (by simp [results, Tryd.results57, go_sem, zz2]) rfl ?_
          have hzw := (HKK.out.trans ks2).size
          have hzr := HKK.out.size
          have K9 : ∀ c o, Kept NoM w ((putB w2' (w.heap.size + 2) c 62).alloc o) := fun c o => ((HKK.out.trans ks2).putN (b := w.heap.size + 2) (by omega) c 62).alloc o
          have KG : ∀ c o, Kept (fun i => i = w.heap.size ∨ i = w.heap.size + 2 ∨ (i < w.heap.size ∧ M i)) wr ((putB w2' (w.heap.size + 2) c 62).alloc o) := fun c o => (Kept.putM (M := fun i => i = w.heap.size ∨ i = w.heap.size + 2 ∨ (i < w.heap.size ∧ M i)) ks2.of_no (b := w.heap.size + 2) (.inr (.inl rfl)) c 62).alloc o
          have KI : ∀ c o, Kept (fun k => k < wr.heap.size) w2' ((putB w2' (w.heap.size + 2) c 62).alloc o) := fun c o => (Kept.putM (M := fun k => k < wr.heap.size) (Kept.refl _ w2') (b := w.heap.size + 2) hz2 c 62).alloc o
          have hR : ∀ c o, RdInts ((putB w2' (w.heap.size + 2) c 62).alloc o) (fun k => k < w.heap.size ∧ M k) (.slice (some ⟨g, 0, none⟩) mat.length cap1) ms := fun c o => (RDI.out.kept (KG c o)).mono (fun _ _ x => .inr (.inr x))
          have hI : ∀ c' o, RdItems ((putB w2' (w.heap.size + 2) c' 62).alloc o) (fun k => k < w.heap.size ∧ M k) (.slice ia2 (logLet ⟨id, count, epoch, voted, role, log, c, votes, ms⟩ j).items.length ic2) (logLet ⟨id, count, epoch, voted, role, log, c, votes, ms⟩ j).items := fun c' o => (RdItems.kept hiv2 (KI c' o)).mono (fun i _ x => by have := x.1; show i < wr.heap.size; omega)
          rw [HF2.out]
          exact ⟨_, _, _, _, rfl, hlv.step (K9 _ _).of_no (fun _ _ x => x.2), hvv.step (K9 _ _).of_no (fun _ _ x => x.2), hR _ _, rd_one (x := logLet ⟨id, count, epoch, voted, role, log, c, votes, ms⟩ j) (blk_new' _ _ _ (by simp)) (fun x => by have := x.1; omega) ⟨_, rfl, hI _ _⟩ rfl, K9 _ _⟩
        · have hlf := decide_eq_false hlx
          have HF2 := Lib.hid (show replyF ⟨id, count, epoch, voted, role, log, conf, votes, mat⟩ ⟨kind, j, dst, ep, pos, aep, items, conf2, true⟩ = (⟨id, count, epoch, voted, role, log, c, votes, ms⟩, []) by rw [HF', if_neg hlx])
          obtain ⟨w9, e9, z9, d00, d01, d02, d03, d04, d05, d06, d07, d08, f01, hgc9, K9, R9⟩ : ∃ w9, wr = putB w9 (w.heap.size + 2) _ 62 ∧ w.heap.size + 2 < w9.heap.size ∧ w9.cell? _ = some _ ∧ w9.cell? _ = some _ ∧ w9.cell? _ = some _ ∧ w9.cell? _ = some _ ∧ w9.cell? _ = some _ ∧ w9.cell? _ = some _ ∧ w9.cell? _ = some _ ∧ w9.cell? _ = some _ ∧ w9.cell? _ = some _ ∧ w9.cell? _ = some _ ∧ w9.cell? _ = some _ ∧ Kept NoM w w9 ∧ RdInts w9 _ (.slice (some ⟨g, 0, none⟩) mat.length cap1) ms := ⟨wr, putB_self b2, hz2, c00, c01, c02, c03, c04, c05, c06, c07, c08, d01, hgc, hK, rdI⟩
          have hgt2 : ¬ g = w.heap.size + 2 := by omega
          clear HF' hcl c00 c01 c02 c03 c04 c05 c06 c07 c08 b0 b1 b2 hK rdI hgc
          subst e9
          go_wp2_with fail
          go_quiet (fail)
          go_wp2_with fail
          refine bodyPost_ret (v := .agg #[.int .i64 id, .int .i64 count, .int .i64 epoch, .int .i64 voted, .int .i64 role, .slice la log.length lcap, .int .i64 c, .slice va votes.length vcap, .slice (some ⟨g, 0, none⟩) mat.length cap1, .slice none 0 0, .int .i64 0]) (by simp [results, Tryd.results57, go_sem, z9]) rfl ?_
          have KE9 : ∀ c n, Kept NoM w ((putB w9 (w.heap.size + 2) c 62).drewN n) := fun c n => (K9.putN (b := w.heap.size + 2) (by omega) c 62).drewN n
          have KG9 : ∀ c n, Kept (fun i => i = w.heap.size ∨ i = w.heap.size + 2 ∨ (i < w.heap.size ∧ M i)) w9 ((putB w9 (w.heap.size + 2) c 62).drewN n) := fun c n => ((Kept.refl (fun i => i = w.heap.size ∨ i = w.heap.size + 2 ∨ (i < w.heap.size ∧ M i)) w9).putM (b := w.heap.size + 2) (.inr (.inl rfl)) c 62).drewN n
          have hR : ∀ c n, RdInts ((putB w9 (w.heap.size + 2) c 62).drewN n) (fun k => k < w.heap.size ∧ M k) (.slice (some ⟨g, 0, none⟩) mat.length cap1) ms := fun c n => (R9.kept (KG9 c n)).mono (fun _ _ x => .inr (.inr x))
          rw [HF2.out]
          exact ⟨_, _, _, _, rfl, hlv.step (KE9 _ _).of_no (fun _ _ x => x.2), hvv.step (KE9 _ _).of_no (fun _ _ x => x.2), hR _ _, RdLets.nil _ _, KE9 _ _⟩
end Go.Proofs.YtgohploghbimlaaDoor
