/- Texts that belong together: WF, WG. -/
import Derived.Test.YtgohploghbimlaaDoorKWE
import Derived.WalkSpells
import Derived.Test.YtgohploghbimlaaDoorKOwn
set_option linter.unusedVariables false
set_option linter.unusedSimpArgs false
set_option linter.unusedSectionVars false
/- Walks: slices.Clone, slices.Concat. -/
namespace Go.Proofs.YtgohploghbimlaaDoor
open Go.RowKit
set_option maxHeartbeats 400000
theorem OwnS.empty {α : Type} {w : World} {g : Nat} {e : TypeId} {sz : Nat} {E : List Value → α → Prop} (h : w.heap[g]? = some (.cells #[] e (0, 0))) : OwnS w (some g) e sz E (.slice (some ⟨g, 0, none⟩) 0 0) [] :=
  ⟨rfl, [], ⟨by simp, .inr ⟨g, 0, #[], rfl, Nat.zero_le _, h, Nat.le_refl _, Nat.zero_le _, by simp, by simp⟩⟩, rfl, fun i c x hc => by simp at hc⟩

theorem clone58_ok (v : Value) (xs : List Item) (M : Nat → Prop) (w : World) (hl : RdItems w M v xs) (hn : xs.length ≤ 1000000000) :
    Calls Tryd.prog 58 #[v] w fun e w' => ∃ a cap Ox, e = .returned (.slice a xs.length cap) ∧ OwnS w' Ox 45 2 EItem (.slice a xs.length cap) xs ∧ NewO w none Ox ∧ Kept NoM w w' := by
  obtain ⟨a, cap, rfl, hcap, hmx⟩ := hl.shape
  cases a with
  | none =>
    have hxs : xs = [] := by
      cases xs with
      | nil => rfl
      | cons x xs => obtain ⟨b, off, h, _⟩ := hl.at (i := 0) (x := x) rfl; cases h
    subst hxs
    have hcap0 : cap = 0 := by
      obtain ⟨a', c', h1, _, _, h4⟩ := hl
      rcases h4 with ⟨_, _, h⟩ | ⟨b, off, h5, _⟩
      · simp only [Value.slice.injEq] at h1; omega
      · simp only [Value.slice.injEq] at h1; rw [h5] at h1; exact absurd h1.1 (by simp)
    subst hcap0
    have hnil := fun wx => Lib.run_eql_slice_nil (P := Tryd.prog) wx 28 45 none 0 0 0 0 Tryd.underlying28
    go_enter Tryd.func58, Tryd.ntmps58
    go_wp2
    go_ret
    exact ⟨none, 0, none, rfl, OwnS.nil _ _ _ _, NewO.refl _ _, Kept.refl _ _⟩
  | some b =>
    have hnil := fun wx => Lib.run_eql_slice_nil (P := Tryd.prog) wx 28 45 (some b) xs.length cap 0 0 Tryd.underlying28
    have hk : ∀ o, Kept M w (w.alloc o) := fun o => (Kept.refl M w).alloc o
    have hs : ∀ o, RdS (w.alloc o) M 2 EItem (.slice (some b) xs.length cap) xs := fun o => hl.kept (hk o)
    have ho : OwnS (w.alloc (.cells #[] 45)) (some w.heap.size) 45 2 EItem (.slice (some ⟨w.heap.size, 0, none⟩) 0 0) [] := OwnS.empty (blk_new w _)
    go_enter Tryd.func58, Tryd.ntmps58
    go_wp2_with (at_builtin; refine wpList_append_S (M := M) rfl (.tmp 5) (.tmp 6) 28 rfl 24 tyItems _ rfl ho _ rfl (hs _) eItem_one 0 xs.length rfl rfl (by unfold maxLen; omega) (by omega) ?_; rw [Nat.zero_add]; intro a1 cap1 w1 O1 hown1 hk1 hn1)
    go_ret
    refine ⟨a1, cap1, O1, rfl, hown1, ?_, ?_⟩
    · rcases hn1 with rfl | ⟨g, rfl, hg⟩
      · exact .inr ⟨_, rfl, Nat.le_refl _⟩
      · exact .inr ⟨_, rfl, by simp at hg; omega⟩
    · exact ((Kept.refl NoM w).alloc _).trans' hk1 (fun i hi h => by simp at h; omega)

theorem clone59_ok (v : Value) (xs : List Int) (M : Nat → Prop) (w : World) (hl : RdInts w M v xs) (hn : xs.length ≤ 1000000000) :
    Calls Tryd.prog 59 #[v] w fun e w' => ∃ a cap Ox, e = .returned (.slice a xs.length cap) ∧ OwnS w' Ox 3 1 EInt (.slice a xs.length cap) xs ∧ NewO w none Ox ∧ Kept NoM w w' := by
  obtain ⟨a, cap, rfl, hcap, hmx⟩ := hl.shape
  cases a with
  | none =>
    have hxs : xs = [] := by
      cases xs with
      | nil => rfl
      | cons x xs => obtain ⟨b, off, h, _⟩ := hl.at (i := 0) (x := x) rfl; cases h
    subst hxs
    have hcap0 : cap = 0 := by
      obtain ⟨a', c', h1, _, _, h4⟩ := hl
      rcases h4 with ⟨_, _, h⟩ | ⟨b, off, h5, _⟩
      · simp only [Value.slice.injEq] at h1; omega
      · simp only [Value.slice.injEq] at h1; rw [h5] at h1; exact absurd h1.1 (by simp)
    subst hcap0
    have hnil := fun wx => Lib.run_eql_slice_nil (P := Tryd.prog) wx 30 3 none 0 0 0 0 Tryd.underlying30
    go_enter Tryd.func59, Tryd.ntmps59
    go_wp2
    go_ret
    exact ⟨none, 0, none, rfl, OwnS.nil _ _ _ _, NewO.refl _ _, Kept.refl _ _⟩
  | some b =>
    have hnil := fun wx => Lib.run_eql_slice_nil (P := Tryd.prog) wx 30 3 (some b) xs.length cap 0 0 Tryd.underlying30
    have hk : ∀ o, Kept M w (w.alloc o) := fun o => (Kept.refl M w).alloc o
    have hs : ∀ o, RdS (w.alloc o) M 1 EInt (.slice (some b) xs.length cap) xs := fun o => hl.kept (hk o)
    have ho : OwnS (w.alloc (.cells #[] 3)) (some w.heap.size) 3 1 EInt (.slice (some ⟨w.heap.size, 0, none⟩) 0 0) [] := OwnS.empty (blk_new w _)
    go_enter Tryd.func59, Tryd.ntmps59
    go_wp2_with (at_builtin; refine wpList_append_S (M := M) rfl (.tmp 5) (.tmp 6) 30 rfl 8 tyInts _ rfl ho _ rfl (hs _) eInt_one 0 xs.length rfl rfl (by unfold maxLen; omega) (by omega) ?_; rw [Nat.zero_add]; intro a1 cap1 w1 O1 hown1 hk1 hn1)
    go_ret
    refine ⟨a1, cap1, O1, rfl, hown1, ?_, ?_⟩
    · rcases hn1 with rfl | ⟨g, rfl, hg⟩
      · exact .inr ⟨_, rfl, Nat.le_refl _⟩
      · exact .inr ⟨_, rfl, by simp at hg; omega⟩
    · exact ((Kept.refl NoM w).alloc _).trans' hk1 (fun i hi h => by simp at h; omega)

theorem clone64_ok (v : Value) (xs : List Bool) (M : Nat → Prop) (w : World) (hl : RdBools w M v xs) (hn : xs.length ≤ 1000000000) :
    Calls Tryd.prog 64 #[v] w fun e w' => ∃ a cap Ox, e = .returned (.slice a xs.length cap) ∧ OwnS w' Ox 4 1 EBool (.slice a xs.length cap) xs ∧ NewO w none Ox ∧ Kept NoM w w' := by
  obtain ⟨a, cap, rfl, hcap, hmx⟩ := hl.shape
  cases a with
  | none =>
    have hxs : xs = [] := by
      cases xs with
      | nil => rfl
      | cons x xs => obtain ⟨b, off, h, _⟩ := hl.at (i := 0) (x := x) rfl; cases h
    subst hxs
    have hcap0 : cap = 0 := by
      obtain ⟨a', c', h1, _, _, h4⟩ := hl
      rcases h4 with ⟨_, _, h⟩ | ⟨b, off, h5, _⟩
      · simp only [Value.slice.injEq] at h1; omega
      · simp only [Value.slice.injEq] at h1; rw [h5] at h1; exact absurd h1.1 (by simp)
    subst hcap0
    have hnil := fun wx => Lib.run_eql_slice_nil (P := Tryd.prog) wx 29 4 none 0 0 0 0 Tryd.underlying29
    go_enter Tryd.func64, Tryd.ntmps64
    go_wp2
    go_ret
    exact ⟨none, 0, none, rfl, OwnS.nil _ _ _ _, NewO.refl _ _, Kept.refl _ _⟩
  | some b =>
    have hnil := fun wx => Lib.run_eql_slice_nil (P := Tryd.prog) wx 29 4 (some b) xs.length cap 0 0 Tryd.underlying29
    have hk : ∀ o, Kept M w (w.alloc o) := fun o => (Kept.refl M w).alloc o
    have hs : ∀ o, RdS (w.alloc o) M 1 EBool (.slice (some b) xs.length cap) xs := fun o => hl.kept (hk o)
    have ho : OwnS (w.alloc (.cells #[] 4)) (some w.heap.size) 4 1 EBool (.slice (some ⟨w.heap.size, 0, none⟩) 0 0) [] := OwnS.empty (blk_new w _)
    go_enter Tryd.func64, Tryd.ntmps64
    go_wp2_with (at_builtin; refine wpList_append_S (M := M) rfl (.tmp 5) (.tmp 6) 29 rfl 1 tyBools _ rfl ho _ rfl (hs _) eBool_one 0 xs.length rfl rfl (by unfold maxLen; omega) (by omega) ?_; rw [Nat.zero_add]; intro a1 cap1 w1 O1 hown1 hk1 hn1)
    go_ret
    refine ⟨a1, cap1, O1, rfl, hown1, ?_, ?_⟩
    · rcases hn1 with rfl | ⟨g, rfl, hg⟩
      · exact .inr ⟨_, rfl, Nat.le_refl _⟩
      · exact .inr ⟨_, rfl, by simp at hg; omega⟩
    · exact ((Kept.refl NoM w).alloc _).trans' hk1 (fun i hi h => by simp at h; omega)
end Go.Proofs.YtgohploghbimlaaDoor

/- Walks: slices.Grow(nil, n), slices.Concat of two. -/
namespace Go.Proofs.YtgohploghbimlaaDoor
open Go.RowKit
set_option maxHeartbeats 400000
theorem grow_ok (z : Int) (hz0 : 0 ≤ z) (hzn : z ≤ 100000) (w : World) :
    Calls Tryd.prog 74 #[.slice none 0 0, .int .i64 z] w fun e w' => ∃ a cap Ox, e = .returned (.slice a 0 cap) ∧ OwnS w' Ox 45 2 EItem (.slice a 0 cap) [] ∧ NewO w none Ox ∧ Kept NoM w w' := by
  obtain ⟨n, rfl⟩ := Int.eq_ofNat_of_zero_le hz0
  by_cases h0 : n = 0
  · subst h0
    go_enter Tryd.func74, Tryd.ntmps74
    go_wp2
    go_ret
    exact ⟨none, 0, none, rfl, OwnS.nil _ _ _ _, NewO.refl _ _, Kept.refl _ _⟩
  · have hp : 0 < n := by omega
    have hpi : (0 : Int) < (n : Int) := by omega
    go_enter Tryd.func74, Tryd.ntmps74
    go_wp2_with (at_builtin; refine wpList_append_zeros _ rfl (.tmp 20) (.tmp 21) 28 3 rfl 45 2 24 tyItems (by kernel_rfl) rfl n rfl hp (by omega) (by omega) ?_; intro cap cur hc1 hc2 hc3)
    go_ret
    refine ⟨_, cap, _, rfl, OwnS.cut0 (by exact blk_new w.drew _) hc3 hc2, .inr ⟨_, rfl, Nat.le_refl _⟩, ((Kept.refl NoM w).drew).alloc _⟩

theorem concat_ok (c : Nat) (va vb : Value) (xs ys : List Item) (M : Nat → Prop) (w : World) (hc : w.heap[c]? = some (.cells #[va, vb] 28 (0, 0))) (hx : RdItems w M va xs) (hy : RdItems w M vb ys)
    (hxl : xs.length ≤ 10000) (hyl : ys.length ≤ 10000) :
    Calls Tryd.prog 66 #[.slice (some ⟨c, 0, none⟩) 2 2] w fun e w' => ∃ a cap Ox, e = .returned (.slice a (xs.length + ys.length) cap) ∧ OwnS w' Ox 45 2 EItem (.slice a (xs.length + ys.length) cap) (xs ++ ys) ∧ NewO w none Ox ∧ Kept NoM w w' := by
  obtain ⟨aa, acap, rfl, _, _⟩ := hx.shape
  obtain ⟨ba, bcap, rfl, _, _⟩ := hy.shape
  have hcs := lt_of_block hc
  have c0 : w.cell? ⟨c, 0, none⟩ = some (.slice aa xs.length acap) := cell_blk hc 0 _ rfl
  have c1 : w.cell? ⟨c, 1, none⟩ = some (.slice ba ys.length bcap) := cell_blk hc 1 _ rfl
  have Hc := Lib.hid hc; clear hc
  have hsum : ((xs.length : Int) + ys.length).toNat = xs.length + ys.length := by omega
  go_enter Tryd.func66, Tryd.ntmps66
  go_wp2
  refine wp_loop_rounds 3 ?_
  repeat any_goals (rw [rounds_succ]; go_wp2_with fail)
  refine (grow_ok _ (by omega) (by omega) _).mono ?_
  rintro e w1 ⟨a1, cap1, O1, rfl, own1, n1, k1⟩
  have d0 := k1.cell c0 (fun x => x)
  have d1 := k1.cell c1 (fun x => x)
  have s1 := lt_of_block (k1.blk Hc.out (fun x => x))
  have xx : RdItems w1 M _ xs := hx.kept k1.of_no
  have yy : RdItems w1 M _ ys := hy.kept k1.of_no
  clear c0 c1
  go_wp2_with fail
  refine wp_loop_rounds 3 ?_
  rw [rounds_succ]
  go_wp2_with (at_builtin; refine wpList_append_S (M := M) rfl (.tmp 31) (.tmp 32) 28 rfl 24 tyItems _ rfl own1 _ rfl xx eItem_one 0 xs.length rfl rfl (by unfold maxLen; omega) (by omega) ?_; rw [Nat.zero_add]; intro a2 cap2 w2 O2 own2 k2 n2)
  have nn2 : NewO w none O2 := n1.trans n2 k1.size
  have kk2 : Kept NoM w w2 := k1.trans' k2 (fun i hi h => by rcases n1 with rfl | ⟨g, rfl, hg⟩ <;> simp at h; omega)
  have e0 := kk2.cell (cell_blk Hc.out 0 _ rfl) (fun x => x)
  have e1 := kk2.cell (cell_blk Hc.out 1 _ rfl) (fun x => x)
  have s2 := lt_of_block (kk2.blk Hc.out (fun x => x))
  have yy2 : RdItems w2 M _ ys := hy.kept kk2.of_no
  clear d0 d1
  have hkm : ∀ i, i < w.heap.size → some i = O2 → False := fun i hi h => by
    rcases nn2 with rfl | ⟨g, rfl, hg⟩
    · cases h
    · simp only [Option.some.injEq] at h; omega
  rw [rounds_succ]
  go_wp2_with (at_builtin; refine wpList_append_S (M := M) rfl (.tmp 31) (.tmp 32) 28 rfl 24 tyItems _ rfl own2 _ rfl yy2 eItem_one xs.length ys.length (by simp) rfl (by unfold maxLen; omega) (by omega) ?_; rw [List.nil_append]; intro a3 cap3 w3 O3 own3 k3 n3)
  have nn3 : NewO w none O3 := nn2.trans n3 kk2.size
  have kk3 : Kept NoM w w3 := kk2.trans' k3 (fun i hi h => hkm i hi h)
  rw [rounds_succ]
  go_wp2
  go_ret
  exact ⟨a3, cap3, O3, rfl, own3, nn3, kk3⟩
end Go.Proofs.YtgohploghbimlaaDoor
