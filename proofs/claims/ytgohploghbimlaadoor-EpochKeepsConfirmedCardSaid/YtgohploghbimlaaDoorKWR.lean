/- Walks: Restart, Confirmed. -/
import Derived.Test.YtgohploghbimlaaDoorKWM
import Derived.Test.YtgohploghbimlaaDoorKRB
set_option linter.unusedVariables false
set_option linter.unusedSimpArgs false
set_option linter.unusedSectionVars false
namespace Go.Proofs.YtgohploghbimlaaDoor
open Go.RowKit
set_option maxHeartbeats 1000000
set_option maxRecDepth 4000

def EStr (cs : List Value) (x : ByteArray) : Prop := cs = [.string x]
theorem eStr_one : ∀ c x, EStr c x → ∀ u ∈ c, u.oneCell' = true := by rintro c x rfl u hu; simp at hu; subst hu; rfl

theorem confirmed_ok (r : Rep) (lv vv mv : Value) (w : World) (hlv : RdItems w NoM lv r.log) (hvv : RdBools w NoM vv r.votes) (hmv : RdInts w NoM mv r.mat) (h0 : 0 ≤ r.conf) (h1 : r.conf ≤ r.log.length) (hll : r.log.length ≤ 10000) :
    Calls Tryd.prog 15 #[.agg #[.int .i64 r.id, .int .i64 r.count, .int .i64 r.epoch, .int .i64 r.voted, .int .i64 r.role, lv, .int .i64 r.conf, vv, mv]] w fun e w' => ∃ v O, e = .returned v ∧ OwnS w' O 9 1 EStr v (confirmedF r) ∧ NewO w none O ∧ Kept NoM w w' := by
  obtain ⟨n, hn⟩ := Int.eq_ofNat_of_zero_le h0
  obtain ⟨id, count, epoch, voted, role, log, conf, votes, mat⟩ := r
  simp only at *
  subst hn
  obtain ⟨la, lcap, rfl, hlc, hlm⟩ := hlv.shape
  obtain ⟨va, vcap, rfl, _, _⟩ := hvv.shape
  obtain ⟨ma, mcap, rfl, _, _⟩ := hmv.shape
  have K1 : ∀ a, Kept NoM w (w.alloc a) := fun a => (Kept.refl NoM w).alloc a
  have hnl : n ≤ log.length := by omega
  have hni : (n : Int) ≤ lcap := by omega
  have hFn : confirmedF ⟨id, count, epoch, voted, role, log, n, votes, mat⟩ = (log.take n).map Item.tx := by unfold confirmedF; simp
  have HF := Lib.hid hFn
  clear hFn h0 h1
  go_enter Tryd.func15, Tryd.ntmps15
  go_wp2_with fail
  go_loopw [3, 12] (fun l i wr => ∃ k : Nat, k ≤ n ∧ i = .int .i64 k ∧ ∃ a cap O, l = .slice a k cap ∧ OwnS wr O 9 1 EStr (.slice a k cap) ((log.take k).map Item.tx) ∧ NewO w none O ∧ Kept NoM w wr) (fun _ i _ => n - (intOf i).toNat)
  case atStart => exact ⟨0, Nat.zero_le _, rfl, none, 0, none, rfl, OwnS.nil _ _ _ _, NewO.refl _ _, K1 _⟩
  case round =>
    obtain ⟨k, hk, rfl, a, cap, O, rfl, own, hnew, hK⟩ := hrel
    by_cases hlt : k < n
    · have hlti : (k : Int) < n := by omega
      obtain ⟨x, hx⟩ := get_at (xs := log) (k := k) (by omega)
      obtain ⟨lb, loff, e1, _, hlb, x0, x1⟩ := hlv.at hx
      subst e1
      have x0 := hK.cell x0 (fun h => h)
      have x1 := hK.cell x1 (fun h => h)
      have hls : ((log.take k).map Item.tx).length = k := by simp; omega
      have hmore : (log.take (k + 1)).map Item.tx = (log.take k).map Item.tx ++ [x.tx] := by rw [List.take_add_one, hx]; simp
      have HM := Lib.hid hmore
      have HLS := Lib.hid hls
      have hoo : ∀ o1 o2, OwnS ((wr.alloc o1).alloc o2) O 9 1 EStr (.slice a k cap) ((log.take k).map Item.tx) := fun o1 o2 => own.kept (((Kept.refl NoM wr).alloc o1).alloc o2) (fun _ _ h => h) (fun _ _ h => h)
      have hrd : ∀ o1, RdS ((wr.alloc o1).alloc (.cells #[.string x.tx] 9 (0, 0))) NoM 1 EStr (.slice (some ⟨wr.heap.size + 1, 0, none⟩) 1 1) [x.tx] := fun o1 => rd_one (x := x.tx) (blk_new' _ _ _ (by simp)) (fun h => h) rfl rfl
      have kk : ∀ o1 o2, Kept NoM w ((wr.alloc o1).alloc o2) := fun o1 o2 => (hK.alloc o1).alloc o2
      have hz := hK.size
      have hb1 : k + 1 ≤ maxLen := by unfold maxLen; omega
      have hb2 : (k + 1) * 16 ≤ 140737488355328 := by omega
      clear hmore hls hx hlt own
      go_wp2_with (at_builtin; go_loud (refine wpList_append_S (M := NoM) rfl (.tmp 16) (.tmp 19) 48 rfl 16 tyStrs _ rfl (hoo _ _) _ rfl (hrd _) eStr_one k 1 HLS.out rfl hb1 hb2 ?_; intro a1 cap1 w1 O1 own1 k1 n1))
      have N1 : NewO w none O1 := hnew.trans (n1.of_le (by simp <;> omega)) (Nat.le_refl _)
      have KN : Kept NoM w w1 := (kk _ _).trans' k1 (fun i hi h => by rcases hnew with rfl | ⟨g, rfl, hg⟩ <;> simp at h; omega)
      go_roundw
      case rel => exact ⟨k + 1, by omega, by go_num, a1, cap1, O1, rfl, by rw [HM.out]; exact own1, N1, KN⟩
      case measure => simp [intOf]; omega
    · obtain rfl : k = n := by omega
      have hf := decide_eq_false (show ¬ (k : Int) < (k : Int) by omega)
      go_wp2
      go_ret
      exact ⟨_, O, rfl, by rw [HF.out]; exact own, hnew, hK⟩
variable [A : Inhabited (Nat → Prop)]
theorem restart_ok (r : Rep) (lv vv mv : Value) (w : World) (hlv : RdItems w Away lv r.log) (hvv : RdBools w Away vv r.votes) (hmv : RdInts w Away mv r.mat) :
    Calls Tryd.prog 28 #[.agg #[.int .i64 r.id, .int .i64 r.count, .int .i64 r.epoch, .int .i64 r.voted, .int .i64 r.role, lv, .int .i64 r.conf, vv, mv]] w fun e w' => ∃ lv' vv' mv', e = .returned (.agg #[.int .i64 r.id, .int .i64 r.count, .int .i64 r.epoch, .int .i64 r.voted, .int .i64 1, lv', .int .i64 0, vv', mv']) ∧
      RdItems w' (fun k => k < w.heap.size ∧ Away k) lv' r.log ∧ RdBools w' (fun k => k < w.heap.size ∧ Away k) vv' [] ∧ RdInts w' (fun k => k < w.heap.size ∧ Away k) mv' [] ∧ Kept NoM w w' := by
  have d0 := deed_new (R := .cells #[.int .i64 r.id, .int .i64 r.count, .int .i64 r.epoch, .int .i64 r.voted, .int .i64 r.role, lv, .int .i64 r.conf, vv, mv] 32) (Z := .cells #[.int .i64 0, .int .i64 0, .int .i64 0, .int .i64 0, .int .i64 0, .slice none 0 0, .int .i64 0, .slice none 0 0, .slice none 0 0] 32) hlv hvv hmv
  obtain ⟨la, lcap, rfl, _, _⟩ := hlv.shape
  obtain ⟨va, vcap, rfl, _, _⟩ := hvv.shape
  obtain ⟨ma, mcap, rfl, _, _⟩ := hmv.shape
  have K2 : ∀ a b c, Kept NoM w (((w.alloc a).alloc b).alloc c) := fun a b c => (((Kept.refl NoM w).alloc a).alloc b).alloc c
  have D0 := Lib.hid d0
  clear d0
  go_enter Tryd.func28, Tryd.ntmps28
  go_wp2_with fail
  refine (follow_ok _ _ r [] _ D0.out).mono ?_
  rintro e w3 ⟨rfl, O3, ⟨lv3, vv3, mv3, tv3, hb3, q1, q2, q3, q4, q5⟩, k3, n3⟩
  have bZ3 := k3.blk (k := w.heap.size + 1) (blk_old (blk_new' _ _ _ (by simp)) _) (by
    rintro (h | h)
    · omega
    · cases h)
  have hz3 := k3.size
  simp at hz3
  have KW3 : Kept NoM w w3 := (K2 _ _ _).trans' k3 (fun i hi h => by
    rcases h with h | h
    · omega
    · cases h)
  obtain ⟨w4, e4, y1, y2, KW4, p1, p2, p3⟩ : ∃ w4, w3 = putB (putB w4 (w.heap.size + 1) _ 32) (w.heap.size + 2) _ 77 ∧ w.heap.size + 1 < w4.heap.size ∧ w.heap.size + 2 < w4.heap.size ∧ Kept NoM w w4 ∧ RdItems w4 (ND (w.heap.size + 2) O3) lv3 r.log ∧ RdBools w4 (ND (w.heap.size + 2) O3) vv3 [] ∧ RdInts w4 (ND (w.heap.size + 2) O3) mv3 [] := ⟨w3, expose2 bZ3 hb3, by omega, by omega, KW3, q1, q2, q3⟩
  obtain ⟨la3, lcap3, rfl, _, _⟩ := p1.shape
  obtain ⟨va3, vcap3, rfl, _, _⟩ := p2.shape
  obtain ⟨ma3, mcap3, rfl, _, _⟩ := p3.shape
  obtain ⟨ta3, tcap3, rfl, _⟩ := q4.shape
  have K9 : ∀ c d, Kept (ND (w.heap.size + 2) O3) w4 (putB (putB w4 (w.heap.size + 1) c 32) (w.heap.size + 2) d 77) := fun c d => ((Kept.refl (ND (w.heap.size + 2) O3) w4).putM (b := w.heap.size + 1) (.inr (.inr ⟨by omega, .inl (by omega)⟩)) c 32).putM (b := w.heap.size + 2) (.inl rfl) d 77
  have KN : ∀ c d, Kept NoM w (putB (putB w4 (w.heap.size + 1) c 32) (w.heap.size + 2) d 77) := fun c d => (KW4.putN (b := w.heap.size + 1) (by omega) c 32).putN (b := w.heap.size + 2) (by omega) d 77
  have hA : ∀ i, (i < w.heap.size ∧ Away i) → ND (w.heap.size + 2) O3 i := fun i h => .inr (.inr ⟨by omega, .inr h.2⟩)
  clear bZ3 hb3 q4 k3
  subst e4
  go_wp2
  refine bodyPost_ret (v := .agg #[.int .i64 r.id, .int .i64 r.count, .int .i64 r.epoch, .int .i64 r.voted, .int .i64 1, .slice la3 r.log.length lcap3, .int .i64 0, .slice va3 0 vcap3, .slice ma3 0 mcap3]) (by simp [results, Tryd.results28, go_sem, y1, y2, followF]) rfl ?_
  exact ⟨_, _, _, rfl, (p1.kept (K9 _ _)).mono (fun i _ h => hA i h), (p2.kept (K9 _ _)).mono (fun i _ h => hA i h), (p3.kept (K9 _ _)).mono (fun i _ h => hA i h), KN _ _⟩
end Go.Proofs.YtgohploghbimlaaDoor
