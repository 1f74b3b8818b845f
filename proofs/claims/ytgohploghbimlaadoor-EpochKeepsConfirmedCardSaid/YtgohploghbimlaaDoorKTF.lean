/- Walk: the law's three new replicas. -/
import Derived.Test.YtgohploghbimlaaDoorKWA
import Derived.Test.YtgohploghbimlaaDoorKDeed
import Derived.Test.YtgohploghbimlaaDoorKPlain
set_option linter.unusedVariables false
set_option linter.unusedSimpArgs false
set_option linter.unusedSectionVars false
namespace Go.Proofs.YtgohploghbimlaaDoor
open Go.RowKit
set_option maxHeartbeats 1000000
set_option maxRecDepth 4000

/-- a new replica's cells -/
def ENil (c : List Value) (r : Rep) : Prop := c = [.int .i64 r.id, .int .i64 r.count, .int .i64 r.epoch, .int .i64 r.voted, .int .i64 r.role, .slice none 0 0, .int .i64 r.conf, .slice none 0 0, .slice none 0 0] ∧ r.log = [] ∧ r.votes = [] ∧ r.mat = []
theorem ENil.rep {c : List Value} {r : Rep} (h : ENil c r) (w : World) (M : Nat → Prop) : ERep w M c r := by
  obtain ⟨h0, h1, h2, h3⟩ := h
  exact ⟨_, _, _, h0, by rw [h1]; exact RdItems.nil _ _, by rw [h2]; exact RdBools.nil _ _, by rw [h3]; exact RdInts.nil _ _⟩
theorem eNil_one : ∀ c x, ENil c x → ∀ u ∈ c, u.oneCell' = true := by
  rintro c x ⟨rfl, _⟩ u hu
  simp at hu
  rcases hu with rfl | rfl | rfl | rfl | rfl | rfl | rfl | rfl | rfl <;> rfl
/-- new replicas -/
def newsF (count : Int) (k : Nat) : List Rep := (List.range k).map fun i => ⟨(i : Nat), count, 0, -1, 1, [], 0, [], []⟩
theorem newsF_succ (count : Int) (k : Nat) : newsF count (k + 1) = newsF count k ++ [⟨k, count, 0, -1, 1, [], 0, [], []⟩] := by
  unfold newsF; rw [List.range_succ, List.map_append]; rfl
theorem newsF_len (count : Int) (k : Nat) : (newsF count k).length = k := by unfold newsF; simp

theorem three_ok (w : World) : Calls Tryd.prog 18 #[] w fun e w' => ∃ a cap O, e = .returned (.agg #[.slice a 3 cap, .slice none 0 0]) ∧ OwnS w' O 32 9 ENil (.slice a 3 cap) (newsF 3 3) ∧ NewO w none O ∧ Kept NoM w w' := by
  have K2 : ∀ a b, Kept NoM w ((w.alloc a).alloc b) := fun a b => (((Kept.refl NoM w).alloc a).alloc b)
  go_enter Tryd.func18, Tryd.ntmps18
  go_wp2_with fail
  go_loopw [2] (fun i wr => ∃ k : Nat, k ≤ 3 ∧ i = .int .i64 k ∧ ∃ a cap O, wr.heap[w.heap.size + 1]? = some (.cells #[.slice a k cap, .slice none 0 0] 27 (0, 0)) ∧ wr.heap[w.heap.size]? = some (.cells #[.slice none 0 0, .slice none 0 0] 27 (0, 0)) ∧ OwnS wr O 32 9 ENil (.slice a k cap) (newsF 3 k) ∧ (∀ g, O = some g → w.heap.size + 1 < g) ∧ Kept NoM w wr) (fun i _ => 3 - (intOf i).toNat)
  case atStart =>
    refine ⟨0, Nat.zero_le _, rfl, none, 0, none, blk_new' _ _ _ (by simp), blk_old (blk_new' _ _ _ rfl) _, (OwnS.nil _ _ _ _ : OwnS _ none 32 9 ENil (.slice none 0 0) []), (by simp), K2 _ _⟩
  case round =>
    obtain ⟨k, hk, rfl, a, cap, O, hb, hb0, own, hO, hK⟩ := hrel
    by_cases hlt : k < 3
    · have hki : (k : Int) < 3 := by omega
      have zb := lt_of_block hb
      have HB := Lib.hid hb
      have HB0 := Lib.hid hb0
      have OWN := Lib.hid own
      have HO := Lib.hid hO
      have HK := Lib.hid hK
      have hls : (newsF 3 k).length = k := newsF_len 3 k
      have HLS := Lib.hid hls
      clear hb hb0 own hO hK hls hlt
      go_wp2_with fail
      refine (new_ok k 3 (by omega) (by omega) (by omega) (by omega) _).mono ?_
      rintro e w1 ⟨rfl, k1⟩
      have b1 := k1.blk HB.out (fun x => x)
      have c0 := cell_blk b1 0 _ rfl
      have c1 := cell_blk b1 1 _ rfl
      have z1 := lt_of_block b1
      have B1 := Lib.hid b1
      have OWN1 := Lib.hid (OWN.out.kept k1 (fun _ _ x => x) (fun _ _ h => h))
      have hrd : RdS ((w1.alloc (.cells #[.int .i64 k, .int .i64 3, .int .i64 0, .int .i64 (-1), .int .i64 1, .slice none 0 0, .int .i64 0, .slice none 0 0, .slice none 0 0] 32)).alloc (.cells #[.int .i64 k, .int .i64 3, .int .i64 0, .int .i64 (-1), .int .i64 1, .slice none 0 0, .int .i64 0, .slice none 0 0, .slice none 0 0] 32 (0, 0))) NoM 9 ENil (.slice (some ⟨w1.heap.size + 1, 0, none⟩) 1 1) [(⟨k, 3, 0, -1, 1, [], 0, [], []⟩ : Rep)] := rd_one (x := (⟨k, 3, 0, -1, 1, [], 0, [], []⟩ : Rep)) (blk_new' _ _ _ (by simp)) (fun h => h) ⟨rfl, rfl, rfl, rfl⟩ rfl
      have hoo : ∀ o1 o2, OwnS ((w1.alloc o1).alloc o2) O 32 9 ENil (.slice a k cap) (newsF 3 k) := fun o1 o2 => OWN1.out.kept (((Kept.refl NoM w1).alloc o1).alloc o2) (fun _ _ x => x) (fun _ _ h => h)
      have HRD := Lib.hid hrd
      have HOO := Lib.hid hoo
      have hm1 : k + 1 ≤ maxLen := by unfold maxLen; omega
      have hm2 : (k + 1) * 120 ≤ 140737488355328 := by omega
      clear b1 hrd hoo
      go_wp2_with (at_builtin; go_loud (refine wpList_append_S (M := NoM) rfl (.tmp 15) (.tmp 17) 24 rfl 120 tyReps _ rfl (HOO.out _ _) _ rfl HRD.out eNil_one k 1 HLS.out rfl hm1 hm2 ?_; intro a1 cap1 w2 O1 own1 k2 n1; obtain ⟨w3, e3, z3⟩ : ∃ w3, w2 = putB w3 (w.heap.size + 1) #[.slice a k cap, .slice none 0 0] 27 ∧ w.heap.size + 1 < w3.heap.size := ⟨w2, putB_self (k2.blk (blk_old (blk_old B1.out _) _) (fun h => by have := HO.out _ h.symm; omega)), by have := k2.size; simp at this; omega⟩; rw [e3]; have E3 := Lib.hid e3; clear e3; have KK2 := Lib.hid k2; have OO1 := Lib.hid own1; have NN1 := Lib.hid n1; clear k2 own1 n1))
      have e3 := E3.out
      have k2 := KK2.out
      have own1 := OO1.out
      rw [e3] at k2 own1
      have kfin : Kept (fun k => k = w.heap.size + 1) (putB w3 (w.heap.size + 1) #[.slice a k cap, .slice none 0 0] 27) (putB w3 (w.heap.size + 1) #[.slice a1 (k + 1) cap1, .slice none 0 0] 27) := ((Kept.refl (fun k => k = w.heap.size + 1) w3).putM (b := w.heap.size + 1) rfl _ 27).offB rfl
      have hO1 : ∀ g, O1 = some g → w.heap.size + 1 < g := by
        intro g hg
        rcases NN1.out with h | ⟨g', h, hg2⟩
        · exact HO.out g (by rw [← h, hg])
        · rw [hg] at h; cases h; simp at hg2; omega
      have kO : ∀ i, i < w.heap.size + 1 → ¬ some i = O := fun i hi h => by have := HO.out i h.symm; omega
      have b0 := kfin.blk (k2.blk (blk_old (blk_old (k1.blk HB0.out (fun x => x)) _) _) (kO _ (by omega))) (fun h => by have h : w.heap.size = w.heap.size + 1 := h; omega)
      have KF : Kept NoM w (putB w3 (w.heap.size + 1) #[.slice a1 (k + 1) cap1, .slice none 0 0] 27) := ((((HK.out.trans k1).alloc _).alloc _).trans' k2 (fun i hi h => kO i (by omega) h)).trans' kfin (fun i hi h => by have h : i = w.heap.size + 1 := h; omega)
      have ownF := own1.kept kfin (fun g hg h => by have := hO1 g hg; have h : g = w.heap.size + 1 := h; omega) (fun _ _ h => h)
      go_roundw
      case rel => exact ⟨k + 1, by omega, by go_num, a1, cap1, O1, putB_blk _ _ _ _ z3, b0, by rw [newsF_succ]; exact ownF, hO1, KF⟩
      case measure => simp [intOf]; omega
    · obtain rfl : k = 3 := by omega
      obtain ⟨w3, e3, z3, z4⟩ : ∃ w3, wr = putB (putB w3 (w.heap.size + 1) #[.slice a 3 cap, .slice none 0 0] 27) w.heap.size #[.slice none 0 0, .slice none 0 0] 27 ∧ w.heap.size + 1 < w3.heap.size ∧ w.heap.size < w3.heap.size := ⟨wr, expose2' hb hb0, lt_of_block hb, lt_of_block hb0⟩
      have hf := decide_eq_false (show ¬ ((3 : Nat) : Int) < 3 by omega)
      have OWN := Lib.hid own
      have HO := Lib.hid hO
      have HK := Lib.hid hK
      clear own hO hK hb hb0 hlt
      subst e3
      go_wp2
      refine bodyPost_ret (v := .agg #[.slice a 3 cap, .slice none 0 0]) (by simp [results, Tryd.results18, go_sem, z3, z4]) rfl ?_
      have kfin : Kept (fun k => k = w.heap.size + 1 ∨ k = w.heap.size) (putB (putB w3 (w.heap.size + 1) #[.slice a 3 cap, .slice none 0 0] 27) w.heap.size #[.slice none 0 0, .slice none 0 0] 27) (putB (putB w3 (w.heap.size + 1) #[.slice a 3 cap, .slice none 0 0] 27) w.heap.size #[.slice a 3 cap, .slice none 0 0] 27) :=
        ((Kept.refl (fun k => k = w.heap.size + 1 ∨ k = w.heap.size) (putB w3 (w.heap.size + 1) #[.slice a 3 cap, .slice none 0 0] 27)).putM (b := w.heap.size) (.inr rfl) _ 27).offB (.inr rfl)
      refine ⟨a, cap, O, rfl, OWN.out.kept kfin (fun g hg h => ?_) (fun _ _ h => h), ?_, HK.out.trans' kfin (fun i hi h => by rcases h with h | h <;> omega)⟩
      · have := HO.out g hg
        rcases h with h | h <;> omega
      · cases O with
        | none => exact .inl rfl
        | some g => exact .inr ⟨g, rfl, by have := HO.out g rfl; omega⟩
end Go.Proofs.YtgohploghbimlaaDoor
