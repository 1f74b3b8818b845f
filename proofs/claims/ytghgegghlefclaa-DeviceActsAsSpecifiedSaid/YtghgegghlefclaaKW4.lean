/- Walks: the library's Clone, Delete and Insert, at rules, writes and numbers. -/
import Derived.Test.YtghgegghlefclaaKW3
import Derived.Test.YtghgegghlefclaaKVS
import Derived.StillTailTactics
set_option linter.unusedVariables false
set_option linter.unusedSimpArgs false
set_option linter.unusedSectionVars false
namespace Go.Proofs.Ytghgegghlefclaa
open Go.RowKit
set_option maxHeartbeats 2000000
set_option maxRecDepth 8000
def intL (x : Int) : List Value := [.int .i64 x]
theorem OwnS.empty {α : Type} {w : World} {g : Nat} {e : TypeId} {sz : Nat} {E : List Value → α → Prop} (h : w.heap[g]? = some (.cells #[] e (0, 0))) : OwnS w (some g) e sz E (.slice (some ⟨g, 0, none⟩) 0 0) [] :=
  ⟨rfl, [], ⟨by simp, .inr ⟨g, 0, #[], rfl, Nat.zero_le _, h, Nat.le_refl _, Nat.zero_le _, by simp, by simp⟩⟩, rfl, fun i c x hc => by simp at hc⟩
theorem info_of {P : Program} {e : TypeId} {n : Nat} (h : (P.info? e).map (·.size) = some n) : ∃ i, P.info? e = some i ∧ i.size = n := by
  cases hi : P.info? e with
  | none => rw [hi] at h; cases h
  | some i => rw [hi] at h; exact ⟨i, rfl, by simpa using h⟩
theorem clonet_ok (v : Value) (xs : List Ru) (M : Nat → Prop) (w : World) (hr : RdS w M 23 ERu v xs) (hl : xs.length ≤ 1000000) : Calls Try.prog 44 #[v] w fun e w' => ∃ a cap O, e = .returned (.slice a xs.length cap) ∧ OwnS w' O 39 23 ERu (.slice a xs.length cap) xs ∧ NewO w none O ∧ Kept NoM w w' := by
  obtain ⟨a, cap, rfl, hc, hm⟩ := hr.shape
  have hr' : RdS w NoM 23 ERu (.slice a xs.length cap) xs := hr.mono (fun _ _ x => x.elim) (by omega) (fun _ _ x => x)
  cases a with
  | none =>
    obtain ⟨_, hcc, ha⟩ := hr'.addr
    rcases ha with ⟨hx, h0⟩ | ⟨b, off, e⟩
    · subst hx; subst h0
      have hnil := fun wx => Lib.run_eql_slice_nil (P := Try.prog) wx 23 39 none 0 0 0 0 Try.underlying23
      simp only [List.length_nil]
      clear hr hr' hc hm hcc
      go_enter Try.func44, Try.ntmps44
      go_wp2_with fail
      go_ret
      first | exact ⟨none, 0, rfl, none, OwnS.nil _ _ _ _, NewO.refl _ _, Kept.refl _ _⟩ | exact ⟨none, 0, none, rfl, OwnS.nil _ _ _ _, NewO.refl _ _, Kept.refl _ _⟩
    · cases e
  | some A =>
    have hnil := fun wx => Lib.run_eql_slice_nil (P := Try.prog) wx 23 39 (some A) xs.length cap 0 0 Try.underlying23
    have hk : ∀ o, Kept NoM w (w.alloc o) := fun o => (Kept.refl NoM w).alloc o
    have hs : ∀ o, RdS (w.alloc o) NoM 23 ERu (.slice (some A) xs.length cap) xs := fun o => hr'.kept (hk o) (fun _ _ x => x)
    have ho : OwnS (w.alloc (.cells #[] 39)) (some w.heap.size) 39 23 ERu (.slice (some ⟨w.heap.size, 0, none⟩) 0 0) [] := OwnS.empty (blk_new w _)
    have hb1 : 0 + xs.length ≤ maxLen := by unfold maxLen; omega
    clear hr hr'
    go_enter Try.func44, Try.ntmps44
    go_wp2_with (at_builtin; refine wpList_append_S (M := NoM) rfl (.tmp 5) (.tmp 6) 23 rfl 200 tyTable _ rfl ho _ rfl (hs _) eRu_one 0 xs.length rfl rfl hb1 (by omega) ?_; rw [Nat.zero_add]; intro a1 cap1 w1 O1 hown1 hk1 hn1)
    go_ret
    have hz : w.heap.size ≤ (w.alloc (.cells #[] 39)).heap.size := by simp
    refine (fun p => (by first | exact ⟨a1, cap1, rfl, O1, p⟩ | exact ⟨a1, cap1, O1, rfl, p⟩)) (⟨by simpa using hown1, ?_, ((Kept.refl NoM w).alloc _).trans' hk1 (fun i hi h => by simp at h; omega)⟩ : OwnS _ O1 _ _ _ (.slice a1 xs.length cap1) xs ∧ _ ∧ _)
    rcases hn1 with h9 | ⟨g2, h9, h10⟩
    · exact .inr ⟨w.heap.size, h9, Nat.le_refl _⟩
    · exact .inr ⟨g2, h9, Nat.le_trans hz h10⟩
theorem clonew_ok (v : Value) (xs : List Wr) (M : Nat → Prop) (w : World) (hr : RdS w M 26 EWr v xs) (hl : xs.length ≤ 1000000) : Calls Try.prog 49 #[v] w fun e w' => ∃ a cap O, e = .returned (.slice a xs.length cap) ∧ OwnS w' O 41 26 EWr (.slice a xs.length cap) xs ∧ NewO w none O ∧ Kept NoM w w' := by
  obtain ⟨a, cap, rfl, hc, hm⟩ := hr.shape
  have hr' : RdS w NoM 26 EWr (.slice a xs.length cap) xs := hr.mono (fun _ _ x => x.elim) (by omega) (fun _ _ x => x)
  cases a with
  | none =>
    obtain ⟨_, hcc, ha⟩ := hr'.addr
    rcases ha with ⟨hx, h0⟩ | ⟨b, off, e⟩
    · subst hx; subst h0
      have hnil := fun wx => Lib.run_eql_slice_nil (P := Try.prog) wx 24 41 none 0 0 0 0 Try.underlying24
      simp only [List.length_nil]
      clear hr hr' hc hm hcc
      go_enter Try.func49, Try.ntmps49
      go_wp2_with fail
      go_ret
      first | exact ⟨none, 0, rfl, none, OwnS.nil _ _ _ _, NewO.refl _ _, Kept.refl _ _⟩ | exact ⟨none, 0, none, rfl, OwnS.nil _ _ _ _, NewO.refl _ _, Kept.refl _ _⟩
    · cases e
  | some A =>
    have hnil := fun wx => Lib.run_eql_slice_nil (P := Try.prog) wx 24 41 (some A) xs.length cap 0 0 Try.underlying24
    have hk : ∀ o, Kept NoM w (w.alloc o) := fun o => (Kept.refl NoM w).alloc o
    have hs : ∀ o, RdS (w.alloc o) NoM 26 EWr (.slice (some A) xs.length cap) xs := fun o => hr'.kept (hk o) (fun _ _ x => x)
    have ho : OwnS (w.alloc (.cells #[] 41)) (some w.heap.size) 41 26 EWr (.slice (some ⟨w.heap.size, 0, none⟩) 0 0) [] := OwnS.empty (blk_new w _)
    have hb1 : 0 + xs.length ≤ maxLen := by unfold maxLen; omega
    clear hr hr'
    go_enter Try.func49, Try.ntmps49
    go_wp2_with (at_builtin; refine wpList_append_S (M := NoM) rfl (.tmp 5) (.tmp 6) 24 rfl 224 tyWrites _ rfl ho _ rfl (hs _) eWr_one 0 xs.length rfl rfl hb1 (by omega) ?_; rw [Nat.zero_add]; intro a1 cap1 w1 O1 hown1 hk1 hn1)
    go_ret
    have hz : w.heap.size ≤ (w.alloc (.cells #[] 41)).heap.size := by simp
    refine (fun p => (by first | exact ⟨a1, cap1, rfl, O1, p⟩ | exact ⟨a1, cap1, O1, rfl, p⟩)) (⟨by simpa using hown1, ?_, ((Kept.refl NoM w).alloc _).trans' hk1 (fun i hi h => by simp at h; omega)⟩ : OwnS _ O1 _ _ _ (.slice a1 xs.length cap1) xs ∧ _ ∧ _)
    rcases hn1 with h9 | ⟨g2, h9, h10⟩
    · exact .inr ⟨w.heap.size, h9, Nat.le_refl _⟩
    · exact .inr ⟨g2, h9, Nat.le_trans hz h10⟩
theorem clonei_ok (v : Value) (xs : List Int) (M : Nat → Prop) (w : World) (hr : RdS w M 1 EInt v xs) (hl : xs.length ≤ 1000000) : Calls Try.prog 52 #[v] w fun e w' => ∃ a cap O, e = .returned (.slice a xs.length cap) ∧ OwnS w' O 3 1 EInt (.slice a xs.length cap) xs ∧ NewO w none O ∧ Kept NoM w w' := by
  obtain ⟨a, cap, rfl, hc, hm⟩ := hr.shape
  have hr' : RdS w NoM 1 EInt (.slice a xs.length cap) xs := hr.mono (fun _ _ x => x.elim) (by omega) (fun _ _ x => x)
  cases a with
  | none =>
    obtain ⟨_, hcc, ha⟩ := hr'.addr
    rcases ha with ⟨hx, h0⟩ | ⟨b, off, e⟩
    · subst hx; subst h0
      have hnil := fun wx => Lib.run_eql_slice_nil (P := Try.prog) wx 25 3 none 0 0 0 0 Try.underlying25
      simp only [List.length_nil]
      clear hr hr' hc hm hcc
      go_enter Try.func52, Try.ntmps52
      go_wp2_with fail
      go_ret
      first | exact ⟨none, 0, rfl, none, OwnS.nil _ _ _ _, NewO.refl _ _, Kept.refl _ _⟩ | exact ⟨none, 0, none, rfl, OwnS.nil _ _ _ _, NewO.refl _ _, Kept.refl _ _⟩
    · cases e
  | some A =>
    have hnil := fun wx => Lib.run_eql_slice_nil (P := Try.prog) wx 25 3 (some A) xs.length cap 0 0 Try.underlying25
    have hk : ∀ o, Kept NoM w (w.alloc o) := fun o => (Kept.refl NoM w).alloc o
    have hs : ∀ o, RdS (w.alloc o) NoM 1 EInt (.slice (some A) xs.length cap) xs := fun o => hr'.kept (hk o) (fun _ _ x => x)
    have ho : OwnS (w.alloc (.cells #[] 3)) (some w.heap.size) 3 1 EInt (.slice (some ⟨w.heap.size, 0, none⟩) 0 0) [] := OwnS.empty (blk_new w _)
    have hb1 : 0 + xs.length ≤ maxLen := by unfold maxLen; omega
    clear hr hr'
    go_enter Try.func52, Try.ntmps52
    go_wp2_with (at_builtin; refine wpList_append_S (M := NoM) rfl (.tmp 5) (.tmp 6) 25 rfl 8 tyInts _ rfl ho _ rfl (hs _) eInt_one 0 xs.length rfl rfl hb1 (by omega) ?_; rw [Nat.zero_add]; intro a1 cap1 w1 O1 hown1 hk1 hn1)
    go_ret
    have hz : w.heap.size ≤ (w.alloc (.cells #[] 3)).heap.size := by simp
    refine (fun p => (by first | exact ⟨a1, cap1, rfl, O1, p⟩ | exact ⟨a1, cap1, O1, rfl, p⟩)) (⟨by simpa using hown1, ?_, ((Kept.refl NoM w).alloc _).trans' hk1 (fun i hi h => by simp at h; omega)⟩ : OwnS _ O1 _ _ _ (.slice a1 xs.length cap1) xs ∧ _ ∧ _)
    rcases hn1 with h9 | ⟨g2, h9, h10⟩
    · exact .inr ⟨w.heap.size, h9, Nat.le_refl _⟩
    · exact .inr ⟨g2, h9, Nat.le_trans hz h10⟩
theorem ruZ (w : World) : (zeroValue 39).run Try.prog w = .ok (.agg (ruC ⟨0, fun _ => 0, fun _ => 0, 0, none, 0, 0⟩)) w := by kernel_rfl
theorem wrZ (w : World) : (zeroValue 41).run Try.prog w = .ok (.agg (wrC ⟨0, 0, 0, ⟨0, fun _ => 0, fun _ => 0, 0, none, 0, 0⟩⟩)) w := by kernel_rfl
theorem delt_ok {O : Option Nat} (v : Value) (xs : List Ru) (i : Nat) (w : World) (h : OwnS w O 39 23 ERu v xs) (hi : i < xs.length) (hl : xs.length ≤ 1000000) :
    Calls Try.prog 45 #[v, .int .i64 i, .int .i64 ((i : Int) + 1)] w fun e w' => ∃ a cap, e = .returned (.slice a (xs.length - 1) cap) ∧ OwnS w' O 39 23 ERu (.slice a (xs.length - 1) cap) (xs.eraseIdx i) ∧ Kept (fun k => some k = O) w w' := by
  obtain ⟨g, cap, cur, rfl, rfl, hg, hc, hm, hs, ht⟩ := h.openF (f := ruL) (fun _ _ x => x) ruL_len (by omega)
  clear h
  obtain ⟨n, hn⟩ : ∃ n, xs.length = n := ⟨_, rfl⟩
  obtain ⟨n1, hn1⟩ : ∃ n1, n - 1 = n1 := ⟨_, rfl⟩
  obtain ⟨m, hm2⟩ : ∃ m, n - (i + 1) = m := ⟨_, rfl⟩
  have hlA : (flat ruL (xs.take i)).length = i * 23 := by rw [flat_len ruL_len, List.length_take]; congr 1; omega
  have hlB : (flat ruL (xs.drop (i + 1))).length = m * 23 := by rw [flat_len ruL_len, List.length_drop]; congr 1; omega
  have hAB : flat ruL xs = flat ruL (xs.take (i + 1)) ++ flat ruL (xs.drop (i + 1)) := by rw [← flat_append, List.take_append_drop]
  have hlA1 : (flat ruL (xs.take (i + 1))).length = (i + 1) * 23 := by rw [flat_len ruL_len, List.length_take]; congr 1; omega
  have hA : cur.toList.take (i * 23) = flat ruL (xs.take i) := by
    have e1 : (cur.toList.take (xs.length * 23)).take (i * 23) = cur.toList.take (i * 23) := by rw [List.take_take]; congr 1; rw [Nat.min_eq_left (Nat.mul_le_mul_right _ (by omega))]
    have e2 : flat ruL xs = flat ruL (xs.take i) ++ flat ruL (xs.drop i) := by rw [← flat_append, List.take_append_drop]
    rw [← e1, ht, e2, ← hlA, List.take_append_of_le_length (Nat.le_refl _), List.take_of_length_le (Nat.le_refl _)]
  have hxe : flat ruL (xs.eraseIdx i) = flat ruL (xs.take i) ++ flat ruL (xs.drop (i + 1)) := by rw [← flat_append, List.eraseIdx_eq_take_drop_succ]
  have hle : (xs.eraseIdx i).length = n1 := by rw [List.length_eraseIdx, if_pos hi]; omega
  have hB : ∀ j u, (flat ruL (xs.drop (i + 1)))[j]? = some u → cur[(i + 1) * 23 + j]? = some u := fun j u hu => by
    have hj := (List.getElem?_eq_some_iff.1 hu).1
    have e1 : (flat ruL xs)[(i + 1) * 23 + j]? = some u := by rw [hAB, List.getElem?_append_right (by omega), hlA1, Nat.add_sub_cancel_left]; exact hu
    rw [← ht, List.getElem?_take] at e1
    split at e1
    · simpa using e1
    · cases e1
  rw [hn] at hc hi hl ⊢
  rw [hn1]
  clear ht hAB hlA1
  obtain ⟨ti, hti, htz⟩ := info_of (P := Try.prog) (e := 39) (n := 23) (by kernel_rfl)
  have hu := Try.underlying23
  have hm' : cap ≤ 9223372036854775807 := hm
  obtain ⟨o1, s1, _⟩ := slice_at (P := Try.prog) hu hti htz g 0 n cap i (i + 1) n 1 (n - i) (some (.int .i64 i)) (some (.int .i64 ((i : Int) + 1))) (some (.int .i64 n)) (.inl rfl) (.inl ⟨by simp, rfl⟩) (by omega) (by omega) (by omega) (by omega) rfl
  obtain ⟨o2, s2, p2⟩ := slice_at (P := Try.prog) hu hti htz g 0 n cap 0 i cap i cap none (some (.int .i64 i)) none (.inr ⟨rfl, rfl⟩) (.inr (.inl ⟨rfl, rfl, rfl⟩)) (by omega) (by omega) (by omega) (by omega) (by omega)
  obtain ⟨o3, s3, p3⟩ := slice_at (P := Try.prog) hu hti htz g 0 n cap (i + 1) n cap m (cap - (i + 1)) (some (.int .i64 ((i : Int) + 1))) none none (.inl (by simp)) (.inr (.inr ⟨rfl, rfl, rfl, rfl⟩)) (by omega) (by omega) (by omega) (by omega) rfl
  obtain ⟨o4, s4, p4⟩ := slice_at (P := Try.prog) hu hti htz g 0 n1 cap n1 n cap 1 (cap - n1) (some (.int .i64 n1)) (some (.int .i64 n)) none (.inl rfl) (.inr (.inl ⟨rfl, rfl, rfl⟩)) (by omega) (by omega) (by omega) (by omega) rfl
  have e2 := p2 (by omega)
  have e4 := p4 (by omega)
  rw [Nat.zero_add, Nat.zero_mul] at e2
  subst e2
  rw [Nat.zero_add] at e4
  subst e4
  have hcs : (i + 1) * 23 ≤ cap * 23 := Nat.mul_le_mul_right _ (by omega)
  have hns : n * 23 ≤ cap * 23 := Nat.mul_le_mul_right _ (by omega)
  have hnn : n * 23 = n1 * 23 + 23 := by rw [show n = n1 + 1 by omega, Nat.succ_mul]
  have him : n1 * 23 = i * 23 + m * 23 := by rw [← Nat.add_mul]; congr 1; omega
  have R1 : Hid (∀ ty, (Builtin.append_ #[23, 23] ty #[.slice (some ⟨g, 0, none⟩) i cap, .slice (some ⟨g, o3, none⟩) m (cap - (i + 1))]).run Try.prog w.drew = .ok (.slice (some ⟨g, 0, none⟩) n1 cap) (putB w.drew g (splice cur.toList (i * 23) (flat ruL (xs.drop (i + 1)))).toArray 39)) := Lib.hid (fun ty => by
    have q := run_append_fits (P := Try.prog) (w := w.drew) (ty := ty) hu hti (n := i) (cap := cap) hg (ad := ⟨g, o3, none⟩) (m := m) (c := cap - (i + 1)) (cs := flat ruL (xs.drop (i + 1))) (by rw [htz]; exact hlB) (fun j u hu' => by
      have hj := (List.getElem?_eq_some_iff.1 hu').1
      have e3 := p3 (by
        rcases Nat.lt_or_ge (i + 1) cap with h | h
        · exact h
        · exfalso
          have : m = 0 := by omega
          rw [this] at hlB; omega)
      rw [e3, Nat.zero_add, Addr.add_lit]
      have hb := hB j u hu'
      show (w.drew).cell? ⟨g, (i + 1) * 23 + j, none⟩ = some u
      exact cell_blk (w := w.drew) hg _ _ hb) (flat_one_cell ru1 _) (by omega) (by rw [htz, hlB]; simp only [Array.length_toList] at *; omega)
    rw [htz] at q
    rw [q]
    have : i + m = n1 := by omega
    rw [this])
  have hl1 : (splice cur.toList (i * 23) (flat ruL (xs.drop (i + 1)))).length = cap * 23 := by rw [length_splice _ _ _ (by rw [hlB]; simp; omega)]; simpa using hs
  have hgl := lt_of_block hg
  obtain ⟨zs, zl, R2⟩ : ∃ zs : List Value, zs.length = 1 * 23 ∧ Hid (∀ ty, (Builtin.clear_ #[23] ty #[.slice (some ⟨g, n1 * 23, none⟩) 1 (cap - n1)]).run Try.prog (putB w.drew g (splice cur.toList (i * 23) (flat ruL (xs.drop (i + 1)))).toArray 39) = .ok (.tuple #[]) (putB (putB w.drew g (splice cur.toList (i * 23) (flat ruL (xs.drop (i + 1)))).toArray 39) g (splice (splice cur.toList (i * 23) (flat ruL (xs.drop (i + 1)))) (n1 * 23) zs).toArray 39)) := by
    obtain ⟨zs, q1, q2⟩ := run_clear_big (P := Try.prog) (w := putB w.drew g (splice cur.toList (i * 23) (flat ruL (xs.drop (i + 1)))).toArray 39) (ty := 0) (c := cap - n1) (n := 1) (o := n1 * 23) hu (z := .agg (ruC ⟨0, fun _ => 0, fun _ => 0, 0, none, 0, 0⟩)) (sz := 23) ruZ rfl (ru1 _) (by omega) (putB_blk _ _ _ _ hgl) (by simp only [List.size_toArray]; omega) (by omega)
    refine ⟨zs, q1, Lib.hid (fun ty => ?_)⟩
    exact q2
  have HG := Lib.hid hg
  have HE : Hid (∀ W : World, W = putB (putB w.drew g (splice cur.toList (i * 23) (flat ruL (xs.drop (i + 1)))).toArray 39) g (splice (splice cur.toList (i * 23) (flat ruL (xs.drop (i + 1)))) (n1 * 23) zs).toArray 39 → OwnS W (some g) 39 23 ERu (.slice (some ⟨g, 0, none⟩) n1 cap) (xs.eraseIdx i) ∧ Kept (fun k => some k = some g) w W) := Lib.hid (fun W hW => by
    subst hW
    refine ⟨OwnS.closeF (f := ruL) (fun _ => rfl) ruL_len hle (putB_blk _ _ _ _ (by simpa using hgl)) (by omega) hm ?_ ?_, ?_⟩
    · simp only [List.size_toArray]
      rw [length_splice _ _ _ (by rw [hl1]; omega), hl1]
    · show (splice _ _ _).take _ = _
      have hcut := cut_take (B := flat ruL (xs.drop (i + 1))) hlA hA
      rw [hlB, ← him] at hcut
      rw [hxe, ← hcut]
      generalize splice cur.toList (i * 23) (flat ruL (xs.drop (i + 1))) = L at *
      unfold splice
      rw [List.take_append_of_le_length (by rw [List.length_take]; omega), List.take_take, Nat.min_self]
    · exact Kept.putM (M := fun k => some k = some g) (Kept.putM (M := fun k => some k = some g) ((Kept.refl _ w).drew) rfl _ _) rfl _ _)
  clear hlA hlB hA hxe hle hB hg hs hcs hns hnn him hl1 zl p2 p3 p4 hm hti htz hu hn hn1 hm2
  go_enter Try.func45, Try.ntmps45
  have f1 : ((i : Int) == (i : Int) + 1) = false := by simp; omega
  have f2 : ¬ (i : Int) = (i : Int) + 1 := by omega
  go_wp2_with fail
  go_still_tail 6, (by kernel_rfl)
  change wpList _ _ _ _ _ w.drew
  refine wpList_append_r rfl _ _ 23 23 rfl _ _ rfl rfl (R1.out _) ?_
  go_wp2_with (refine wpList_clear_r rfl _ 23 rfl _ rfl (R2.out _) ?_)
  go_ret
  exact ⟨_, cap, rfl, HE.out _ rfl⟩
theorem delw_ok {O : Option Nat} (v : Value) (xs : List Wr) (i : Nat) (w : World) (h : OwnS w O 41 26 EWr v xs) (hi : i < xs.length) (hl : xs.length ≤ 1000000) :
    Calls Try.prog 48 #[v, .int .i64 i, .int .i64 ((i : Int) + 1)] w fun e w' => ∃ a cap, e = .returned (.slice a (xs.length - 1) cap) ∧ OwnS w' O 41 26 EWr (.slice a (xs.length - 1) cap) (xs.eraseIdx i) ∧ Kept (fun k => some k = O) w w' := by
  obtain ⟨g, cap, cur, rfl, rfl, hg, hc, hm, hs, ht⟩ := h.openF (f := wrL) (fun _ _ x => x) wrL_len (by omega)
  clear h
  obtain ⟨n, hn⟩ : ∃ n, xs.length = n := ⟨_, rfl⟩
  obtain ⟨n1, hn1⟩ : ∃ n1, n - 1 = n1 := ⟨_, rfl⟩
  obtain ⟨m, hm2⟩ : ∃ m, n - (i + 1) = m := ⟨_, rfl⟩
  have hlA : (flat wrL (xs.take i)).length = i * 26 := by rw [flat_len wrL_len, List.length_take]; congr 1; omega
  have hlB : (flat wrL (xs.drop (i + 1))).length = m * 26 := by rw [flat_len wrL_len, List.length_drop]; congr 1; omega
  have hAB : flat wrL xs = flat wrL (xs.take (i + 1)) ++ flat wrL (xs.drop (i + 1)) := by rw [← flat_append, List.take_append_drop]
  have hlA1 : (flat wrL (xs.take (i + 1))).length = (i + 1) * 26 := by rw [flat_len wrL_len, List.length_take]; congr 1; omega
  have hA : cur.toList.take (i * 26) = flat wrL (xs.take i) := by
    have e1 : (cur.toList.take (xs.length * 26)).take (i * 26) = cur.toList.take (i * 26) := by rw [List.take_take]; congr 1; rw [Nat.min_eq_left (Nat.mul_le_mul_right _ (by omega))]
    have e2 : flat wrL xs = flat wrL (xs.take i) ++ flat wrL (xs.drop i) := by rw [← flat_append, List.take_append_drop]
    rw [← e1, ht, e2, ← hlA, List.take_append_of_le_length (Nat.le_refl _), List.take_of_length_le (Nat.le_refl _)]
  have hxe : flat wrL (xs.eraseIdx i) = flat wrL (xs.take i) ++ flat wrL (xs.drop (i + 1)) := by rw [← flat_append, List.eraseIdx_eq_take_drop_succ]
  have hle : (xs.eraseIdx i).length = n1 := by rw [List.length_eraseIdx, if_pos hi]; omega
  have hB : ∀ j u, (flat wrL (xs.drop (i + 1)))[j]? = some u → cur[(i + 1) * 26 + j]? = some u := fun j u hu => by
    have hj := (List.getElem?_eq_some_iff.1 hu).1
    have e1 : (flat wrL xs)[(i + 1) * 26 + j]? = some u := by rw [hAB, List.getElem?_append_right (by omega), hlA1, Nat.add_sub_cancel_left]; exact hu
    rw [← ht, List.getElem?_take] at e1
    split at e1
    · simpa using e1
    · cases e1
  rw [hn] at hc hi hl ⊢
  rw [hn1]
  clear ht hAB hlA1
  obtain ⟨ti, hti, htz⟩ := info_of (P := Try.prog) (e := 41) (n := 26) (by kernel_rfl)
  have hu := Try.underlying24
  have hm' : cap ≤ 9223372036854775807 := hm
  obtain ⟨o1, s1, _⟩ := slice_at (P := Try.prog) hu hti htz g 0 n cap i (i + 1) n 1 (n - i) (some (.int .i64 i)) (some (.int .i64 ((i : Int) + 1))) (some (.int .i64 n)) (.inl rfl) (.inl ⟨by simp, rfl⟩) (by omega) (by omega) (by omega) (by omega) rfl
  obtain ⟨o2, s2, p2⟩ := slice_at (P := Try.prog) hu hti htz g 0 n cap 0 i cap i cap none (some (.int .i64 i)) none (.inr ⟨rfl, rfl⟩) (.inr (.inl ⟨rfl, rfl, rfl⟩)) (by omega) (by omega) (by omega) (by omega) (by omega)
  obtain ⟨o3, s3, p3⟩ := slice_at (P := Try.prog) hu hti htz g 0 n cap (i + 1) n cap m (cap - (i + 1)) (some (.int .i64 ((i : Int) + 1))) none none (.inl (by simp)) (.inr (.inr ⟨rfl, rfl, rfl, rfl⟩)) (by omega) (by omega) (by omega) (by omega) rfl
  obtain ⟨o4, s4, p4⟩ := slice_at (P := Try.prog) hu hti htz g 0 n1 cap n1 n cap 1 (cap - n1) (some (.int .i64 n1)) (some (.int .i64 n)) none (.inl rfl) (.inr (.inl ⟨rfl, rfl, rfl⟩)) (by omega) (by omega) (by omega) (by omega) rfl
  have e2 := p2 (by omega)
  have e4 := p4 (by omega)
  rw [Nat.zero_add, Nat.zero_mul] at e2
  subst e2
  rw [Nat.zero_add] at e4
  subst e4
  have hcs : (i + 1) * 26 ≤ cap * 26 := Nat.mul_le_mul_right _ (by omega)
  have hns : n * 26 ≤ cap * 26 := Nat.mul_le_mul_right _ (by omega)
  have hnn : n * 26 = n1 * 26 + 26 := by rw [show n = n1 + 1 by omega, Nat.succ_mul]
  have him : n1 * 26 = i * 26 + m * 26 := by rw [← Nat.add_mul]; congr 1; omega
  have R1 : Hid (∀ ty, (Builtin.append_ #[24, 24] ty #[.slice (some ⟨g, 0, none⟩) i cap, .slice (some ⟨g, o3, none⟩) m (cap - (i + 1))]).run Try.prog w.drew = .ok (.slice (some ⟨g, 0, none⟩) n1 cap) (putB w.drew g (splice cur.toList (i * 26) (flat wrL (xs.drop (i + 1)))).toArray 41)) := Lib.hid (fun ty => by
    have q := run_append_fits (P := Try.prog) (w := w.drew) (ty := ty) hu hti (n := i) (cap := cap) hg (ad := ⟨g, o3, none⟩) (m := m) (c := cap - (i + 1)) (cs := flat wrL (xs.drop (i + 1))) (by rw [htz]; exact hlB) (fun j u hu' => by
      have hj := (List.getElem?_eq_some_iff.1 hu').1
      have e3 := p3 (by
        rcases Nat.lt_or_ge (i + 1) cap with h | h
        · exact h
        · exfalso
          have : m = 0 := by omega
          rw [this] at hlB; omega)
      rw [e3, Nat.zero_add, Addr.add_lit]
      have hb := hB j u hu'
      show (w.drew).cell? ⟨g, (i + 1) * 26 + j, none⟩ = some u
      exact cell_blk (w := w.drew) hg _ _ hb) (flat_one_cell wr1 _) (by omega) (by rw [htz, hlB]; simp only [Array.length_toList] at *; omega)
    rw [htz] at q
    rw [q]
    have : i + m = n1 := by omega
    rw [this])
  have hl1 : (splice cur.toList (i * 26) (flat wrL (xs.drop (i + 1)))).length = cap * 26 := by rw [length_splice _ _ _ (by rw [hlB]; simp; omega)]; simpa using hs
  have hgl := lt_of_block hg
  obtain ⟨zs, zl, R2⟩ : ∃ zs : List Value, zs.length = 1 * 26 ∧ Hid (∀ ty, (Builtin.clear_ #[24] ty #[.slice (some ⟨g, n1 * 26, none⟩) 1 (cap - n1)]).run Try.prog (putB w.drew g (splice cur.toList (i * 26) (flat wrL (xs.drop (i + 1)))).toArray 41) = .ok (.tuple #[]) (putB (putB w.drew g (splice cur.toList (i * 26) (flat wrL (xs.drop (i + 1)))).toArray 41) g (splice (splice cur.toList (i * 26) (flat wrL (xs.drop (i + 1)))) (n1 * 26) zs).toArray 41)) := by
    obtain ⟨zs, q1, q2⟩ := run_clear_big (P := Try.prog) (w := putB w.drew g (splice cur.toList (i * 26) (flat wrL (xs.drop (i + 1)))).toArray 41) (ty := 0) (c := cap - n1) (n := 1) (o := n1 * 26) hu (z := .agg (wrC ⟨0, 0, 0, ⟨0, fun _ => 0, fun _ => 0, 0, none, 0, 0⟩⟩)) (sz := 26) wrZ rfl (wr1 _) (by omega) (putB_blk _ _ _ _ hgl) (by simp only [List.size_toArray]; omega) (by omega)
    refine ⟨zs, q1, Lib.hid (fun ty => ?_)⟩
    exact q2
  have HG := Lib.hid hg
  have HE : Hid (∀ W : World, W = putB (putB w.drew g (splice cur.toList (i * 26) (flat wrL (xs.drop (i + 1)))).toArray 41) g (splice (splice cur.toList (i * 26) (flat wrL (xs.drop (i + 1)))) (n1 * 26) zs).toArray 41 → OwnS W (some g) 41 26 EWr (.slice (some ⟨g, 0, none⟩) n1 cap) (xs.eraseIdx i) ∧ Kept (fun k => some k = some g) w W) := Lib.hid (fun W hW => by
    subst hW
    refine ⟨OwnS.closeF (f := wrL) (fun _ => rfl) wrL_len hle (putB_blk _ _ _ _ (by simpa using hgl)) (by omega) hm ?_ ?_, ?_⟩
    · simp only [List.size_toArray]
      rw [length_splice _ _ _ (by rw [hl1]; omega), hl1]
    · show (splice _ _ _).take _ = _
      have hcut := cut_take (B := flat wrL (xs.drop (i + 1))) hlA hA
      rw [hlB, ← him] at hcut
      rw [hxe, ← hcut]
      generalize splice cur.toList (i * 26) (flat wrL (xs.drop (i + 1))) = L at *
      unfold splice
      rw [List.take_append_of_le_length (by rw [List.length_take]; omega), List.take_take, Nat.min_self]
    · exact Kept.putM (M := fun k => some k = some g) (Kept.putM (M := fun k => some k = some g) ((Kept.refl _ w).drew) rfl _ _) rfl _ _)
  clear hlA hlB hA hxe hle hB hg hs hcs hns hnn him hl1 zl p2 p3 p4 hm hti htz hu hn hn1 hm2
  go_enter Try.func48, Try.ntmps48
  have f1 : ((i : Int) == (i : Int) + 1) = false := by simp; omega
  have f2 : ¬ (i : Int) = (i : Int) + 1 := by omega
  go_wp2_with fail
  go_still_tail 6, (by kernel_rfl)
  change wpList _ _ _ _ _ w.drew
  refine wpList_append_r rfl _ _ 24 24 rfl _ _ rfl rfl (R1.out _) ?_
  go_wp2_with (refine wpList_clear_r rfl _ 24 rfl _ rfl (R2.out _) ?_)
  go_ret
  exact ⟨_, cap, rfl, HE.out _ rfl⟩
end Go.Proofs.Ytghgegghlefclaa
