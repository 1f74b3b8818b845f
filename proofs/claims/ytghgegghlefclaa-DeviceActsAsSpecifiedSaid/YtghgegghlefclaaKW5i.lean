/- Walks: the library's Insert, at rules and numbers. -/
import Derived.Test.YtghgegghlefclaaKW5
import Derived.Lib.AppendZerosOnto
import Derived.Laws.NewBlocks
import Derived.IntWalk
set_option linter.unusedVariables false
set_option linter.unusedSimpArgs false
set_option linter.unusedSectionVars false
namespace Go.Proofs.Ytghgegghlefclaa
open Go.RowKit
set_option maxHeartbeats 4000000
set_option maxRecDepth 8000
theorem insi_ok {O : Option Nat} {M : Nat → Prop} (v : Value) (xs : List Int) (i : Nat) (x : Int) (vb : Nat) (w : World) (h : OwnS w O 3 1 EInt v xs) (hi : i ≤ xs.length) (hl : xs.length ≤ 1000000)
    (hvb : w.heap[vb]? = some (.cells (intL x).toArray 3 (0, 0))) (hne : i < xs.length → O ≠ some vb) :
    Calls Try.prog 51 #[v, .int .i64 i, .slice (some ⟨vb, 0, none⟩) 1 1] w fun e w' => ∃ a cap O', e = .returned (.slice a (xs.length + 1) cap) ∧ OwnS w' O' 3 1 EInt (.slice a (xs.length + 1) cap) (xs.take i ++ x :: xs.drop i) ∧ NewO w O O' ∧ Kept (fun k => some k = O) w w' := by
  obtain ⟨ti, hti, htz⟩ := info_of (P := Try.prog) (e := 3) (n := 1) (by kernel_rfl)
  have hu := Try.underlying25
  have hu2 := Try.underlying25
  by_cases hin : i = xs.length
  · -- at the end
    obtain ⟨a0, c0, rfl, hc0, hm0, hnil, hsome⟩ := h.shape
    have hm' : c0 ≤ 9223372036854775807 := hm0
    have hrd : RdS w NoM 1 EInt (.slice (some ⟨vb, 0, none⟩) 1 1) [x] := rd_one hvb (fun x => x) rfl (by simp [intL_len])
    obtain ⟨a', cap', w1, O', R1, own1, k1, n1⟩ := run_append_S (P := Try.prog) 25 25 8 tyInts h _ hrd (fun c x hc => by subst hc; exact intL1 x) (by unfold maxLen; simp; omega) (by simp; omega)
    have RR : Hid (∀ ty, (Builtin.append_ #[25, 25] ty #[.slice a0 xs.length c0, .slice (some ⟨vb, 0, none⟩) 1 1]).run Try.prog w = .ok (.slice a' (xs.length + 1) cap') w1) := Lib.hid (fun ty => by rw [run_append_types hu hu2]; exact R1)
    subst hin
    obtain ⟨o9, s9⟩ : ∃ o9, ∀ wx, (Instr.slice 25 (.slice a0 xs.length c0) (some (.int .i64 xs.length)) none none).run Try.prog wx = .ok o9 wx := by
      cases a0 with
      | none =>
        obtain ⟨h0, _⟩ := hnil rfl
        refine ⟨.slice none 0 (c0 - xs.length), fun wx => ?_⟩
        have b1 : (xs.length : Int) ≤ c0 := by omega
        simp [Instr.slice, Instr.sliceBounds, Instr.sliceBound, asIntOf, run_underlying hu, sizeOf, typeInfo, hti]
      | some A =>
        obtain ⟨g, rfl, _⟩ := hsome A rfl
        obtain ⟨o', s', _⟩ := slice_at (P := Try.prog) hu hti htz g 0 xs.length c0 xs.length xs.length c0 0 (c0 - xs.length) (some (.int .i64 xs.length)) none none (.inl rfl) (.inr (.inr ⟨rfl, rfl, rfl, rfl⟩)) (by omega) (by omega) (by omega) (by omega) rfl
        exact ⟨_, s'⟩
    have OW := Lib.hid own1
    have hxx : xs.take xs.length ++ x :: xs.drop xs.length = xs ++ [x] := by simp
    rw [hxx]
    clear h hrd R1 own1 hnil hsome hvb hxx hti htz hu hu2
    go_enter Try.func51, Try.ntmps51
    go_wp2_with (at_builtin; refine wpList_append_r rfl _ _ 25 25 rfl _ _ rfl rfl (RR.out _) ?_)
    go_ret
    first | exact ⟨a', cap', rfl, O', OW.out, n1, k1⟩ | exact ⟨a', cap', O', rfl, OW.out, n1, k1⟩
  · obtain ⟨g, cap, cur, rfl, rfl, hg, hc, hm, hs, ht⟩ := h.openF (f := intL) (fun _ _ x => x) intL_len (by omega)
    have hvg : vb ≠ g := fun e => hne (by omega) (by rw [e])
    clear h hne
    obtain ⟨n, hn⟩ : ∃ n, xs.length = n := ⟨_, rfl⟩
    obtain ⟨n1, hn1⟩ : ∃ n1, n + 1 = n1 := ⟨_, rfl⟩
    obtain ⟨m, hm2⟩ : ∃ m, n - i = m := ⟨_, rfl⟩
    have hlA : (flat intL (xs.take i)).length = i * 1 := by rw [flat_len intL_len, List.length_take]; congr 1; omega
    have hlB : (flat intL (xs.drop i)).length = m * 1 := by rw [flat_len intL_len, List.length_drop]; congr 1; omega
    have hAB : flat intL xs = flat intL (xs.take i) ++ flat intL (xs.drop i) := by rw [← flat_append, List.take_append_drop]
    have hxe : flat intL (xs.take i ++ x :: xs.drop i) = flat intL (xs.take i) ++ intL x ++ flat intL (xs.drop i) := by rw [flat_append, flat_cons, List.append_assoc]
    have hle : (xs.take i ++ x :: xs.drop i).length = n1 := by simp; omega
    have hfx : (intL x).length = 1 := intL_len x
    rw [hn] at hc hi hl hin ht ⊢
    rw [hAB] at ht
    have hm' : cap ≤ 9223372036854775807 := hm
    have hns : n * 1 ≤ cap * 1 := Nat.mul_le_mul_right _ (by omega)
    have hnm : i * 1 + m * 1 = n * 1 := by rw [← Nat.add_mul]; congr 1; omega
    have hn1s : n1 * 1 = n * 1 + 1 := by rw [show n1 = n + 1 by omega, Nat.succ_mul]
    have hi1 : (i + 1) * 1 = i * 1 + 1 := Nat.succ_mul _ _
    have hA : cur.toList.take (i * 1) = flat intL (xs.take i) := by
      have e1 : (cur.toList.take (n * 1)).take (i * 1) = cur.toList.take (i * 1) := by rw [List.take_take]; congr 1; rw [Nat.min_eq_left (by omega)]
      rw [← e1, ht, ← hlA, List.take_append_of_le_length (Nat.le_refl _), List.take_of_length_le (Nat.le_refl _)]
    have hB : ∀ j u, (flat intL (xs.drop i))[j]? = some u → cur[i * 1 + j]? = some u := fun j u hu => by
      have hj := (List.getElem?_eq_some_iff.1 hu).1
      have e1 : (flat intL (xs.take i) ++ flat intL (xs.drop i))[i * 1 + j]? = some u := by rw [List.getElem?_append_right (by omega), hlA, Nat.add_sub_cancel_left]; exact hu
      rw [← ht, List.getElem?_take] at e1
      split at e1
      · simpa using e1
      · cases e1
    have hvx : ∀ (W : World), W.heap[vb]? = w.heap[vb]? → ∀ j u, (intL x)[j]? = some u → W.cell? ((⟨vb, 0, none⟩ : Addr).add j) = some u := fun W hW j u hu => by
      rw [Addr.add_lit, Nat.zero_add]
      exact cell_blk (by rw [hW]; exact hvb) _ _ (by simpa using hu)
    have hi63 : i ≤ cap := by omega
    obtain ⟨o0, s0, p0⟩ := slice_at (P := Try.prog) hu hti htz g 0 n cap i n cap m (cap - i) (some (.int .i64 i)) none none (.inl rfl) (.inr (.inr ⟨rfl, rfl, rfl, rfl⟩)) (by omega) (by omega) (by omega) (by omega) rfl
    obtain rfl : o0 = i * 1 := by rw [p0 (by omega)]; simp
    clear p0
    have f1 : ((i : Int) == (n : Int)) = false := by simp; omega
    have f2 : ¬ (i : Int) = (n : Int) := by omega
    have hgl := lt_of_block hg
    have hvl := lt_of_block hvb
    by_cases hroom : n1 ≤ cap
    · -- in place
      have hcs : n1 * 1 ≤ cap * 1 := Nat.mul_le_mul_right _ hroom
      obtain ⟨o1, s1, p1⟩ := slice_at (P := Try.prog) hu hti htz g 0 n cap 0 n1 cap n1 cap none (some (.int .i64 ((n : Int) + 1))) none (.inr ⟨rfl, rfl⟩) (.inr (.inl ⟨by rw [← hn1]; simp, rfl, rfl⟩)) (by omega) (by omega) (by omega) (by omega) (by omega)
      obtain rfl : o1 = 0 := by have := p1 (by omega); omega
      obtain ⟨o2, s2, p2⟩ := slice_at (P := Try.prog) hu hti htz g 0 n1 cap (i + 1) n1 cap m (cap - (i + 1)) (some (.int .i64 ((i : Int) + 1))) none none (.inl (by simp)) (.inr (.inr ⟨rfl, rfl, rfl, rfl⟩)) (by omega) (by omega) (by omega) (by omega) rfl
      obtain rfl : o2 = (i + 1) * 1 := by rw [p2 (by omega)]; simp
      obtain ⟨o3, s3, p3⟩ := slice_at (P := Try.prog) hu hti htz g 0 n1 cap i n1 cap (m + 1) (cap - i) (some (.int .i64 i)) none none (.inl rfl) (.inr (.inr ⟨rfl, rfl, rfl, rfl⟩)) (by omega) (by omega) (by omega) (by omega) rfl
      obtain rfl : o3 = i * 1 := by rw [p3 (by omega)]; simp
      have OV : Hid (∀ wx, Kept NoM w wx → (callFunc 86 #[.slice (some ⟨vb, 0, none⟩) 1 1, .slice (some ⟨g, (i + 1) * 1, none⟩) m (cap - (i + 1))]).run Try.prog wx = .ok (.value (.bool false)) wx) := Lib.hid (fun wx k => by
        have hb1 := k.blk hvb (fun x => x)
        have hb2 := k.blk hg (fun x => x)
        rw [run_callFunc_extern Try.func86 (by kernel_rfl) (by kernel_rfl) (by kernel_rfl) (e := Extern.SlicesOverlaps.overlaps #[25, 25] #[4]) (by kernel_rfl),
          Lib.run_overlaps_apart wx 25 4 3 hu2 1 (fun w => by simp [sizeOf, typeInfo, hti, htz]) ⟨vb, 0, none⟩ ⟨g, (i + 1) * 1, none⟩ 1 1 m (cap - (i + 1)) hvg 3 3 (intL x).length cur.size (by simp [World.shape?, hb1]) (by simp [World.shape?, hb2]) (by omega) (by simp [World.frozen?, hb1]) (by simp [World.frozen?, hb1])]
        rfl)
      have C1 : Hid (∀ ty, (Builtin.copy_ #[25, 25] ty #[.slice (some ⟨g, (i + 1) * 1, none⟩) m (cap - (i + 1)), .slice (some ⟨g, i * 1, none⟩) (m + 1) (cap - i)]).run Try.prog w.drew = .ok (goInt m) (putB w.drew g (splice cur.toList ((i + 1) * 1) (flat intL (xs.drop i))).toArray 3)) := Lib.hid (fun ty => by
        have q := run_copy_big (P := Try.prog) (w := w.drew) (dT := 25) (sT := 25) (ty := ty) (dLen := m) (dCap := cap - (i + 1)) (sLen := m + 1) (sCap := cap - i) (ad := ⟨g, i * 1, none⟩) (g := g) (o := (i + 1) * 1) (cs := flat intL (xs.drop i)) hu (sz := 1) (by rw [hti]; simp [htz]) hg (by rw [hlB]; congr 1; exact (Nat.min_eq_right (by omega)).symm) (fun j u hu' => by rw [Addr.add_lit]; exact cell_blk (w := w.drew) hg _ _ (hB j u hu')) (flat_one_cell intL1 _) (by rw [hlB]; omega)
        rw [show Nat.min (m + 1) m = m from Nat.min_eq_right (by omega)] at q
        exact q)
      have hl1 : (splice cur.toList ((i + 1) * 1) (flat intL (xs.drop i))).length = cap * 1 := by rw [length_splice _ _ _ (by rw [hlB]; simp; omega)]; simpa using hs
      have C2 : Hid (∀ ty, (Builtin.copy_ #[25, 25] ty #[.slice (some ⟨g, i * 1, none⟩) (m + 1) (cap - i), .slice (some ⟨vb, 0, none⟩) 1 1]).run Try.prog (putB w.drew g (splice cur.toList ((i + 1) * 1) (flat intL (xs.drop i))).toArray 3) = .ok (goInt 1) (putB (putB w.drew g (splice cur.toList ((i + 1) * 1) (flat intL (xs.drop i))).toArray 3) g (splice (splice cur.toList ((i + 1) * 1) (flat intL (xs.drop i))) (i * 1) (intL x)).toArray 3)) := Lib.hid (fun ty => by
        have q := run_copy_big (P := Try.prog) (w := putB w.drew g (splice cur.toList ((i + 1) * 1) (flat intL (xs.drop i))).toArray 3) (dT := 25) (sT := 25) (ty := ty) (dLen := m + 1) (dCap := cap - i) (sLen := 1) (sCap := 1) (ad := ⟨vb, 0, none⟩) (g := g) (o := i * 1) (cs := intL x) hu (sz := 1) (by rw [hti]; simp [htz]) (putB_blk _ _ _ _ hgl) (by rw [hfx, show Nat.min 1 (m + 1) = 1 from Nat.min_eq_left (by omega)]; first | done | omega) (hvx _ (by rw [putB_blk_ne _ _ _ _ _ hvg]; rfl)) (intL1 x) (by simp only [List.size_toArray]; omega)
        rw [show Nat.min 1 (m + 1) = 1 from Nat.min_eq_left (by omega)] at q
        exact q)
      have HE : Hid (∀ W : World, W = putB (putB w.drew g (splice cur.toList ((i + 1) * 1) (flat intL (xs.drop i))).toArray 3) g (splice (splice cur.toList ((i + 1) * 1) (flat intL (xs.drop i))) (i * 1) (intL x)).toArray 3 → OwnS W (some g) 3 1 EInt (.slice (some ⟨g, 0, none⟩) n1 cap) (xs.take i ++ x :: xs.drop i) ∧ Kept (fun k => some k = some g) w W) := Lib.hid (fun W hW => by
        subst hW
        refine ⟨OwnS.closeF (f := intL) (fun _ => rfl) intL_len hle (putB_blk _ _ _ _ (by simpa using hgl)) (by omega) hm ?_ ?_, ?_⟩
        · simp only [List.size_toArray]
          rw [length_splice _ _ _ (by rw [hl1]; omega), hl1]
        · show (splice _ _ _).take _ = _
          have hcut := shift_take (L := cur.toList) (q := 1) (n := n * 1) hlA hfx (by rw [hlB]; exact hnm) (by rw [← hn1s]; simp only [Array.length_toList]; omega) ht
          rw [← hn1s, ← hi1] at hcut
          rw [hxe, ← hcut]
        · exact Kept.putM (M := fun k => some k = some g) (Kept.putM (M := fun k => some k = some g) ((Kept.refl _ w).drew) rfl _ _) rfl _ _)
      have f3 : ¬ (cap : Int) < (n : Int) + 1 := by omega
      have f4 : ¬ ((n : Int) + 1 > (cap : Int)) := by omega
      have KK := Lib.hid (Kept.refl NoM w)
      simp only [Nat.mul_one] at *
      clear hlA hlB hAB hxe hle hfx ht hns hnm hn1s hi1 hA hB hvx hcs hl1 p1 p2 p3 hti htz hu hu2 hs hg hvb hn hm hvl
      have q1 : IntKind.i64.wrap ((i : Int) + 1) = (i : Int) + 1 := IntWalk.i64_in _ (by omega)
      subst hn1
      go_enter Try.func51, Try.ntmps51
      go_wp2_with (have hov := OV.out _ KK.out; simp only [hov])
      go_still_tail 8, (by kernel_rfl)
      change wpList _ _ _ _ _ w.drew
      refine wpList_copy_r rfl _ _ 25 25 rfl _ _ rfl rfl (C1.out _) ?_
      go_wp2_with (refine wpList_copy_r rfl _ _ 25 25 rfl _ _ rfl rfl (C2.out _) ?_)
      go_ret
      first | exact ⟨_, cap, rfl, some g, (HE.out _ rfl).1, NewO.refl _ _, (HE.out _ rfl).2⟩ | exact ⟨_, cap, some g, rfl, (HE.out _ rfl).1, NewO.refl _ _, (HE.out _ rfl).2⟩
    · -- a new row
      have hcn : cap = n := by omega
      have hcn1 : ¬ n1 ≤ cap := hroom
      obtain ⟨k, hk⟩ : ∃ k, n1 - i = k := ⟨_, rfl⟩
      have hkm : k = m + 1 := by omega
      obtain ⟨tb, z2, u1, u2, u3, u4, u5, u6, u7⟩ := tyInts
      obtain rfl : tb = ti := by rw [hti] at u2; exact (Option.some.inj u2).symm
      have hold : (Builtin.firstCells tb.size i (.slice (some ⟨g, 0, none⟩) i cap)).run Try.prog w.drew = .ok (flat intL (xs.take i)).toArray w.drew := by
        rw [htz]
        refine run_firstCells_some w.drew 1 i ⟨g, 0, none⟩ i cap _ hlA (fun j u hu' => ?_)
        rw [Addr.add_lit, Nat.zero_add]
        rw [← hA, List.getElem?_take] at hu'
        split at hu'
        · exact cell_blk (w := w.drew) hg _ _ (by simpa using hu')
        · cases hu'
      obtain ⟨G, hG⟩ : ∃ G, G = grownCap w (i + k) cap 3 := ⟨_, rfl⟩
      have hGn : n1 ≤ G := by rw [hG]; exact Nat.le_trans (by omega) (grownCap_ge w (i + k) cap 3)
      have hGm : G ≤ maxLen := by rw [hG]; exact grownCap_le_maxLen w _ _ _ (by unfold maxLen; omega)
      have hGm' : G ≤ 9223372036854775807 := hGm
      have hik : i + k = n1 := by omega
      obtain ⟨ROW, hROW⟩ : ∃ ROW : Array Value, ROW = (flat intL (xs.take i)).toArray ++ Builtin.zeroCells z2.cells k ++ Builtin.zeroCells z2.cells (G - (i + k)) := ⟨_, rfl⟩
      have hRs : ROW.size = G * 1 := by
        rw [hROW]
        simp only [Array.size_append, List.size_toArray, Builtin.zeroCells, Array.size_map, Array.size_range, u6, hlA]
        rw [← Nat.add_mul, ← Nat.add_mul]; congr 1; omega
      have hRt : ROW.toList.take (i * 1) = flat intL (xs.take i) := by
        rw [hROW]
        simp only [Array.toList_append, List.append_assoc]
        rw [← hlA, List.take_append_of_le_length (by simp), List.take_of_length_le (by simp)]
      have R1 : Hid (∀ ty, (Builtin.append_ #[25, 3] ty #[.slice (some ⟨g, 0, none⟩) i cap, .int .i64 ((n : Int) + 1 - i)]).run Try.prog w = .ok (.slice (some ⟨w.heap.size, 0, none⟩) n1 G) (w.drew.alloc (.cells ROW 3))) := Lib.hid (fun ty => by
        have q := Lib.run_append_grow_zeros (P := Try.prog) w 25 3 ty 3 tb z2 .i64 .i64 hu Try.underlying3 hti u3 (some ⟨g, 0, none⟩) i cap (flat intL (xs.take i)).toArray.toList (by simpa using hold) k (by omega) (by omega) (by omega) (by omega) (by rw [u5]; omega) (by rw [u5]; exact growslice_fits (by omega) (by omega))
        rw [← hG] at q
        rw [show ((n : Int) + 1 - i) = (k : Int) by omega, q, hik, hROW, hik])
      have hn1G : n1 * 1 ≤ G * 1 := Nat.mul_le_mul_right _ hGn
      have hN : w.heap.size = (w.drew).heap.size := rfl
      have hb1 := blk_new w.drew (.cells ROW 3)
      obtain ⟨W1, hW1⟩ : ∃ W1, W1 = w.drew.alloc (.cells ROW 3) := ⟨_, rfl⟩
      rw [← hW1] at R1 hb1
      have hgW : W1.heap[g]? = w.heap[g]? := by rw [hW1]; exact Below.heap_alloc w.drew _ g hgl
      have hvW : W1.heap[vb]? = w.heap[vb]? := by rw [hW1]; exact Below.heap_alloc w.drew _ vb hvl
      have K1 : Kept NoM w W1 := by rw [hW1]; exact ((Kept.refl NoM w).drew).alloc _
      obtain ⟨N, hNN⟩ : ∃ N, N = w.heap.size := ⟨_, rfl⟩
      rw [← hNN] at R1
      have hb1' : W1.heap[N]? = some (.cells ROW 3 (0, 0)) := by rw [hNN]; exact hb1
      have hNg : g ≠ N := by omega
      have hNv : vb ≠ N := by omega
      have hNl := lt_of_block hb1'
      obtain ⟨o1, s1, p1⟩ := slice_at (P := Try.prog) hu hti htz g 0 n cap 0 i cap i cap none (some (.int .i64 i)) none (.inr ⟨rfl, rfl⟩) (.inr (.inl ⟨rfl, rfl, rfl⟩)) (by omega) (by omega) (by omega) (by omega) (by omega)
      obtain rfl : o1 = 0 := by have := p1 (by omega); omega
      obtain ⟨o2, s2, p2⟩ := slice_at (P := Try.prog) hu hti htz N 0 n1 G i n1 G k (G - i) (some (.int .i64 i)) none none (.inl rfl) (.inr (.inr ⟨rfl, rfl, rfl, rfl⟩)) (by omega) (by omega) (by omega) (by omega) rfl
      obtain rfl : o2 = i * 1 := by rw [p2 (by omega)]; simp
      obtain ⟨o3, s3, p3⟩ := slice_at (P := Try.prog) hu hti htz N 0 n1 G (i + 1) n1 G m (G - (i + 1)) (some (.int .i64 ((i : Int) + 1))) none none (.inl (by simp)) (.inr (.inr ⟨rfl, rfl, rfl, rfl⟩)) (by omega) (by omega) (by omega) (by omega) rfl
      obtain rfl : o3 = (i + 1) * 1 := by rw [p3 (by omega)]; simp
      have hl1 : (splice ROW.toList (i * 1) (intL x)).length = G * 1 := by rw [length_splice _ _ _ (by rw [hfx]; simp; omega)]; simpa using hRs
      obtain ⟨W2, hW2⟩ : ∃ W2, W2 = putB W1 N (splice ROW.toList (i * 1) (intL x)).toArray 3 := ⟨_, rfl⟩
      have C1 : Hid (∀ ty, (Builtin.copy_ #[25, 25] ty #[.slice (some ⟨N, i * 1, none⟩) k (G - i), .slice (some ⟨vb, 0, none⟩) 1 1]).run Try.prog W1 = .ok (goInt 1) W2) := Lib.hid (fun ty => by
        have q := run_copy_big (P := Try.prog) (w := W1) (dT := 25) (sT := 25) (ty := ty) (dLen := k) (dCap := G - i) (sLen := 1) (sCap := 1) (ad := ⟨vb, 0, none⟩) (g := N) (o := i * 1) (cs := intL x) hu (sz := 1) (by rw [hti]; simp [htz]) hb1' (by rw [hfx, show Nat.min 1 k = 1 from Nat.min_eq_left (by omega)]; first | done | omega) (hvx _ hvW) (intL1 x) (by omega)
        rw [show Nat.min 1 k = 1 from Nat.min_eq_left (by omega)] at q
        rw [q, hW2]; rfl)
      have hbW2 : W2.heap[N]? = some (.cells (splice ROW.toList (i * 1) (intL x)).toArray 3 (0, 0)) := by rw [hW2]; exact putB_blk _ _ _ _ hNl
      have hgW2 : W2.heap[g]? = some (.cells cur 3 (0, 0)) := by rw [hW2, putB_blk_ne _ _ _ _ _ hNg, hgW]; exact hg
      have K2 : Kept NoM w W2 := by rw [hW2]; exact K1.putN (by omega) _ _
      have C2 : Hid (∀ ty, (Builtin.copy_ #[25, 25] ty #[.slice (some ⟨N, (i + 1) * 1, none⟩) m (G - (i + 1)), .slice (some ⟨g, i * 1, none⟩) m (cap - i)]).run Try.prog W2.drew = .ok (goInt m) (putB W2.drew N (splice (splice ROW.toList (i * 1) (intL x)) ((i + 1) * 1) (flat intL (xs.drop i))).toArray 3)) := Lib.hid (fun ty => by
        have q := run_copy_big (P := Try.prog) (w := W2.drew) (dT := 25) (sT := 25) (ty := ty) (dLen := m) (dCap := G - (i + 1)) (sLen := m) (sCap := cap - i) (ad := ⟨g, i * 1, none⟩) (g := N) (o := (i + 1) * 1) (cs := flat intL (xs.drop i)) hu (sz := 1) (by rw [hti]; simp [htz]) hbW2 (by rw [hlB]; congr 1; exact (Nat.min_self _).symm) (fun j u hu' => by rw [Addr.add_lit]; exact cell_blk (w := W2.drew) hgW2 _ _ (hB j u hu')) (flat_one_cell intL1 _) (by simp only [List.size_toArray]; omega)
        rw [show Nat.min m m = m from Nat.min_self _] at q
        exact q)
      have HE : Hid (∀ W : World, W = putB W2.drew N (splice (splice ROW.toList (i * 1) (intL x)) ((i + 1) * 1) (flat intL (xs.drop i))).toArray 3 → OwnS W (some N) 3 1 EInt (.slice (some ⟨N, 0, none⟩) n1 G) (xs.take i ++ x :: xs.drop i) ∧ Kept (fun k => some k = some g) w W) := Lib.hid (fun W hW => by
        subst hW
        refine ⟨OwnS.closeF (f := intL) (fun _ => rfl) intL_len hle (putB_blk _ _ _ _ (lt_of_block hbW2)) hGn hGm ?_ ?_, ?_⟩
        · simp only [List.size_toArray]
          rw [length_splice _ _ _ (by rw [hl1]; omega), hl1]
        · show (splice _ _ _).take _ = _
          have hcut := grow_take (L := ROW.toList) (B := flat intL (xs.drop i)) (q := 1) (n := n * 1) hlA hfx (by rw [hlB]; exact hnm) (by rw [← hn1s]; simp only [Array.length_toList]; omega) hRt
          rw [← hn1s, ← hi1] at hcut
          rw [hxe, ← hcut]
        · exact (K2.drew.putN (by omega) _ _).of_no)
      have HN : Hid (NewO w (some g) (some N)) := Lib.hid (.inr ⟨N, rfl, by omega⟩)
      have f3 : (cap : Int) < (n : Int) + 1 := by omega
      have f4 : ((n : Int) + 1 > (cap : Int)) := by omega
      have q1 : IntKind.i64.wrap ((i : Int) + 1) = (i : Int) + 1 := IntWalk.i64_in _ (by omega)
      have HS := Lib.hid hNN
      simp only [Nat.mul_one] at *
      clear hlA hlB hAB hxe hle hfx ht hns hnm hn1s hi1 hA hB hvx hl1 p1 p2 p3 hti htz hu hu2 hs hg hvb hm hvl u1 u2 u3 u4 u5 u6 hold hG hROW hRs hRt hb1 hb1' hgW hvW K1 K2 hbW2 hgW2 hW1 hW2 hNN hN hn1G hNl hkm hik hk hcn
      clear hn
      subst hn1
      go_enter Try.func51, Try.ntmps51
      go_wp2_with (first | (at_builtin; refine wpList_append_r rfl _ _ 25 3 rfl _ _ rfl rfl (R1.out _) ?_) | (refine wpList_copy_r rfl _ _ 25 25 rfl _ _ rfl rfl (C1.out _) ?_))
      go_still_tail 8, (by kernel_rfl)
      change wpList _ _ _ _ _ W2.drew
      refine wpList_copy_r rfl _ _ 25 25 rfl _ _ rfl rfl (C2.out _) ?_
      go_wp2_with fail
      go_ret
      first | exact ⟨_, G, rfl, some N, (HE.out _ rfl).1, HN.out, (HE.out _ rfl).2⟩ | exact ⟨_, G, some N, rfl, (HE.out _ rfl).1, HN.out, (HE.out _ rfl).2⟩
end Go.Proofs.Ytghgegghlefclaa
