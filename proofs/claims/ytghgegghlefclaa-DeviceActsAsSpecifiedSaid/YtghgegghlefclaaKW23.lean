/- Texts that belong together: W23, W24. -/
import Derived.Test.YtghgegghlefclaaKW19
import Derived.Test.YtghgegghlefclaaKV3
import Derived.Test.YtghgegghlefclaaKOwn
set_option linter.unusedVariables false
set_option linter.unusedSimpArgs false
set_option linter.unusedSectionVars false
/- Walks: whether a write is ready: the specification. -/
namespace Go.Proofs.Ytghgegghlefclaa
open Go.RowKit
set_option maxHeartbeats 1000000
set_option maxRecDepth 8000
/-- the write j does not stand before the write x -/
def offB (d : Dev) (x : Wr) (j : Nat) : Prop := ∀ y, d.queue[j]? = some y → y.kind ≠ 3 ∧ y.rule.pri ≠ x.rule.pri
theorem rdyB_all {d : Dev} {x : Wr} {k : Nat} (hx : d.queue[k]? = some x) (h3 : x.kind ≠ 3) (h : ∀ j, j < k → offB d x j) : rdyB d.queue k = true := by
  unfold rdyB
  rw [hx]
  simp only [if_neg h3]
  rw [List.all_eq_true]
  intro y hy
  obtain ⟨j, hj⟩ := List.getElem?_of_mem hy
  have hlt := (List.getElem?_eq_some_iff.1 hj).1
  rw [List.length_take] at hlt
  have hjk : j < k := by omega
  obtain ⟨h1, h2⟩ := h j hjk y (by rw [List.getElem?_take] at hj; simpa [hjk] using hj)
  simp [h1, h2]
theorem rdyB_not {d : Dev} {x y : Wr} {j k : Nat} (hx : d.queue[k]? = some x) (h3 : x.kind ≠ 3) (hj : j < k) (hy : d.queue[j]? = some y) (h : y.kind = 3 ∨ y.rule.pri = x.rule.pri) : rdyB d.queue k = false := by
  unfold rdyB
  rw [hx]
  simp only [if_neg h3]
  rw [List.all_eq_false]
  refine ⟨y, List.mem_of_getElem? (i := j) (by rw [List.getElem?_take, if_pos hj]; exact hy), ?_⟩
  rcases h with h | h <;> simp [h]
theorem rdyB_bar {d : Dev} {x : Wr} {k : Nat} (hx : d.queue[k]? = some x) (h3 : x.kind = 3) : rdyB d.queue k = decide (k = 0) := by
  unfold rdyB
  rw [hx]
  simp only [if_pos h3]
theorem rready1_ok (d : Dev) (ta qa da la : Option Addr) (tc qc dc lc : Nat) (M : Nat → Prop) (w : World) (h : RdS w M 26 EWr (.slice qa d.queue.length qc) d.queue) (hq : d.queue.length ≤ 140737488355328) (k : Nat) (hk : k < d.queue.length) :
    Calls Try.prog 60 #[.agg (devC d ta tc qa qc da dc la lc), .int .i64 k] w fun e w' => e = .returned (.bool (rdyB d.queue k)) ∧ Kept NoM w w' := by
  obtain ⟨x, hx⟩ := getAt hk
  have K0 := Lib.hid ((Kept.refl NoM w).alloc (.cells (devC d ta tc qa qc da dc la lc) 27))
  have HB := Lib.hid (blk_new w (.cells (devC d ta tc qa qc da dc la lc) 27))
  obtain ⟨b, off, rfl, _, hc⟩ := wr_at h hx
  have HH := Lib.hid h
  have HX := Lib.hid hx
  have hcv := K0.out.cell (range_cell hc 2 _ (wrC_2 x)) (fun x => x)
  have hkq : (k : Int) < d.queue.length := by omega
  have hbw := World.block_lt_of_cell? w _ (range_cell hc 2 _ (wrC_2 x))
  have HC := Lib.hid hc
  clear h hx
  by_cases h3 : x.kind = 3
  · have HR := Lib.hid (rdyB_bar HX.out h3)
    have x3 := cell_blk HB.out 3 _ dv3
    rw [h3] at hcv
    clear hc h3
    by_cases h0 : k = 0
    · subst h0
      simp only [Nat.zero_mul, Nat.add_zero] at hcv
      go_enter Try.func60, Try.ntmps60
      go_wp2_with fail
      go_ret
      exact ⟨by rw [HR.out]; rfl, K0.out⟩
    · have f0 : ((k : Int) == 0) = false := by simpa using h0
      have HN := Lib.hid h0
      clear h0
      go_enter Try.func60, Try.ntmps60
      go_wp2_with fail
      go_ret
      exact ⟨by rw [HR.out, decide_eq_false HN.out]; rfl, K0.out⟩
  · have f3 : (x.kind == 3) = false := by simpa using h3
    have H3 := Lib.hid h3
    have x3 := cell_blk HB.out 3 _ dv3
    clear hc h3
    go_enter Try.func60, Try.ntmps60
    go_wp2_with fail
    clear x3 hcv f3
    go_loopw [5] (fun i wr => ∃ m : Nat, m ≤ k ∧ i = .int .i64 m ∧ Hid (∀ j, j < m → offB d x j) ∧ Hid (Kept NoM (w.alloc (.cells (devC d ta tc (some ⟨b, off, none⟩) qc da dc la lc) 27)) wr)) (fun i _ => k - (intOf i).toNat)
    case atStart => exact ⟨0, Nat.zero_le _, rfl, Lib.hid (fun j hj => absurd hj (Nat.not_lt_zero _)), Lib.hid (Kept.refl _ _)⟩
    case round =>
      obtain ⟨m, hm, rfl, hA, hK⟩ := hrel
      have HBR := Lib.hid (hK.out.blk HB.out (fun x => x))
      have hlt0 := lt_of_block HBR.out
      have KR := Lib.hid (K0.out.trans hK.out)
      by_cases hlt : m < k
      · have hmi : (m : Int) < k := by omega
        have hmq : (m : Int) < d.queue.length := by omega
        obtain ⟨y, hy⟩ := getAt (xs := d.queue) (k := m) (by omega)
        obtain ⟨b', off', e2, _, hc'⟩ := wr_at (HH.out.kept KR.out.of_no (fun _ _ x => x)) hy
        simp only [Option.some.injEq, Addr.mk.injEq, and_true] at e2
        obtain ⟨rfl, rfl⟩ := e2
        have y2 := range_cell hc' 2 _ (wrC_2 y)
        have HY := Lib.hid hy
        have x3 := cell_blk HBR.out 3 _ dv3
        by_cases hk3 : y.kind = 3
        · have HR := Lib.hid (rdyB_not HX.out H3.out hlt HY.out (.inl hk3))
          rw [hk3] at y2
          clear hc' hy hk3
          go_wp2_with fail
          go_quiet (fail)
          go_wp2_with fail
          go_ret
          exact ⟨by rw [HR.out]; rfl, KR.out.drewN _⟩
        · have y3 := range_cell hc' 3 _ (wrC_3 y)
          have z3 := KR.out.cell (range_cell HC.out 3 _ (wrC_3 x)) (fun x => x)
          have f2 : (y.kind == 3) = false := by simpa using hk3
          by_cases hp : y.rule.pri = x.rule.pri
          · have HR := Lib.hid (rdyB_not HX.out H3.out hlt HY.out (.inr hp))
            have f4 : (y.rule.pri == x.rule.pri) = true := by simpa using hp
            clear hc' hy hk3 hp
            go_wp2_with fail
            go_quiet (fail)
            go_wp2_with fail
            go_ret
            exact ⟨by rw [HR.out]; rfl, KR.out.drewN _⟩
          · have HO := Lib.hid (show offB d x m from fun z hz => by have := HY.out.symm.trans hz; cases this; exact ⟨hk3, hp⟩)
            have f4 : (y.rule.pri == x.rule.pri) = false := by simpa using hp
            clear hc' hy hk3 hp
            go_wp2_with fail
            go_quiet (fail)
            go_wp2_with fail
            go_roundw
            case rel => exact ⟨m + 1, by omega, by go_num, Lib.hid (fun j hj => by
              by_cases h : j = m
              · subst h; exact HO.out
              · exact hA.out j (by omega)), Lib.hid (hK.out.drewN _)⟩
            case measure => simp [intOf]; omega
      · obtain rfl : m = k := by omega
        have f1 := decide_eq_false (show ¬ ((m : Nat) : Int) < m by omega)
        have f2 := decide_eq_false (show ¬ m < m by omega)
        have HR := Lib.hid (rdyB_all HX.out H3.out hA.out)
        go_wp2_with fail
        go_ret
        exact ⟨by rw [HR.out]; rfl, KR.out⟩
end Go.Proofs.Ytghgegghlefclaa

/- Walks: which writes are ready: the specification. -/
namespace Go.Proofs.Ytghgegghlefclaa
open Go.RowKit
set_option maxHeartbeats 1000000
set_option maxRecDepth 8000
def rdyTo (q : List Wr) (k : Nat) : List Int := ((List.range k).filter (rdyB q)).map Int.ofNat
theorem rdyTo_len (q : List Wr) (k : Nat) : (rdyTo q k).length ≤ k := by
  unfold rdyTo
  rw [List.length_map]
  exact Nat.le_trans (List.length_filter_le _ _) (by simp)
theorem rdyTo_yes {q : List Wr} {k : Nat} (h : rdyB q k = true) : rdyTo q (k + 1) = rdyTo q k ++ [(k : Int)] := by
  unfold rdyTo
  rw [List.range_succ, List.filter_append, List.map_append]
  simp [h]
theorem rdyTo_no {q : List Wr} {k : Nat} (h : rdyB q k = false) : rdyTo q (k + 1) = rdyTo q k := by
  unfold rdyTo
  rw [List.range_succ, List.filter_append, List.map_append]
  simp [h]
theorem rready_ok (d : Dev) (ta qa da la : Option Addr) (tc qc dc lc : Nat) (M : Nat → Prop) (w : World) (h : RdS w M 26 EWr (.slice qa d.queue.length qc) d.queue) (hq : d.queue.length ≤ 1000000) :
    Calls Try.prog 23 #[.agg (devC d ta tc qa qc da dc la lc)] w fun e w' => ∃ a n cap O, e = .returned (.slice a n cap) ∧ OwnS w' O 3 1 EInt (.slice a n cap) (rdyTo d.queue d.queue.length) ∧ NewO w none O ∧ Kept NoM w w' := by
  have K0 := Lib.hid ((Kept.refl NoM w).alloc (.cells (devC d ta tc qa qc da dc la lc) 27))
  have HB := Lib.hid (blk_new w (.cells (devC d ta tc qa qc da dc la lc) 27))
  have RR : Hid (∀ (k : Nat) wx, k < d.queue.length → Kept NoM w wx → Calls Try.prog 60 #[.agg (devC d ta tc qa qc da dc la lc), .int .i64 k] wx fun e w' => e = .returned (.bool (rdyB d.queue k)) ∧ Kept NoM wx w') := Lib.hid (fun k wx hk kk => rready1_ok d ta qa da la tc qc dc lc M wx (h.kept kk.of_no (fun _ _ x => x)) (by omega) k hk)
  clear h
  go_enter Try.func23, Try.ntmps23
  go_wp2_with fail
  go_loopw [3, 4] (fun v i wr => ∃ (k : Nat) (a : Option Addr) (n cap : Nat) (O : Option Nat), k ≤ d.queue.length ∧ i = .int .i64 k ∧ v = .slice a n cap ∧ (rdyTo d.queue k).length = n ∧ Hid (OwnS wr O 3 1 EInt (.slice a n cap) (rdyTo d.queue k)) ∧ Hid (NewO (w.alloc (.cells (devC d ta tc qa qc da dc la lc) 27)) none O) ∧ Hid (Kept NoM (w.alloc (.cells (devC d ta tc qa qc da dc la lc) 27)) wr)) (fun _ i _ => d.queue.length - (intOf i).toNat)
  case atStart => exact ⟨0, none, 0, 0, none, Nat.zero_le _, rfl, rfl, rfl, Lib.hid (OwnS.nil _ _ _ _), Lib.hid (NewO.refl _ _), Lib.hid (Kept.refl _ _)⟩
  case round =>
    obtain ⟨k, a, n, cap, O, hk, rfl, rfl, hn, hO, hN, hK⟩ := hrel
    have HBR := Lib.hid (hK.out.blk HB.out (fun x => x))
    have hlt0 := lt_of_block HBR.out
    have x3 := cell_blk HBR.out 3 _ dv3
    have KR := Lib.hid (K0.out.trans hK.out)
    have hln := rdyTo_len d.queue k
    by_cases hlt : k < d.queue.length
    · have hki : (k : Int) < d.queue.length := by omega
      have RC := Lib.hid (RR.out k wr hlt KR.out)
      cases hr : rdyB d.queue k with
      | false =>
        have HT := Lib.hid (rdyTo_no hr)
        rw [hr] at RC
        clear hr
        go_wp2_with (first
          | (refine wpList_load_big bigDev rfl _ rfl _ 0 (devC d ta tc qa qc da dc la lc) rfl (range_blk HBR.out) rfl ?_)
          | (go_at_call 60; refine RC.out.mono ?_; rintro e w1 ⟨rfl, k1⟩; have K1 := Lib.hid k1; clear k1))
        go_roundw
        case rel => exact ⟨k + 1, a, n, cap, O, by omega, by go_num, rfl, by rw [HT.out]; exact hn, Lib.hid (by rw [HT.out]; exact hO.out.kept K1.out (fun _ _ x => x) (fun _ _ x => x)), hN, Lib.hid (hK.out.trans K1.out)⟩
        case measure => simp [intOf]; omega
      | true =>
        have HT := Lib.hid (rdyTo_yes hr)
        rw [hr] at RC
        clear hr
        go_wp2_with (first
          | (refine wpList_load_big bigDev rfl _ rfl _ 0 (devC d ta tc qa qc da dc la lc) rfl (range_blk HBR.out) rfl ?_)
          | (go_at_call 60; refine RC.out.mono ?_; rintro e w1 ⟨rfl, k1⟩; have K1 := Lib.hid k1; have OW := Lib.hid ((hO.out.kept k1 (fun _ _ x => x) (fun _ _ x => x)).kept ((Kept.refl NoM w1).alloc (.cells #[.int .i64 k] 3)) (fun _ _ x => x) (fun _ _ x => x)); have HR := Lib.hid (rd_one (M := NoM) (sz := 1) (E := EInt) (x := (k : Int)) (blk_new w1 (.cells #[.int .i64 k] 3)) (fun x => x) rfl rfl); clear k1)
          | (at_builtin; refine wpList_append_S (M := NoM) rfl (.tmp 15) (.tmp 17) 25 rfl 8 tyInts _ rfl OW.out _ rfl HR.out eInt_one n 1 hn rfl (by unfold maxLen; omega) (by omega) ?_; intro a1 cap1 w2 O1 hown1 hk1 hn1; have OW1 := Lib.hid hown1; have K2 := Lib.hid hk1; have N1 := Lib.hid hn1; clear hown1 hk1 hn1))
        go_roundw
        case rel => exact ⟨k + 1, a1, n + 1, cap1, O1, by omega, by go_num, rfl, by rw [HT.out, List.length_append, hn]; rfl, Lib.hid (by rw [HT.out]; exact OW1.out), Lib.hid (hN.out.trans N1.out (Nat.le_trans hK.out.size (Nat.le_trans K1.out.size (by simp)))), Lib.hid ((hK.out.trans (K1.out.alloc _)).trans' K2.out (fun i hi e => by
          rcases hN.out with h | ⟨g, h, hg⟩
          · rw [h] at e; cases e
          · rw [h] at e; cases e; omega))⟩
        case measure => simp [intOf]; omega
    · obtain rfl : k = d.queue.length := by omega
      have f1 := decide_eq_false (show ¬ ((d.queue.length : Nat) : Int) < d.queue.length by omega)
      have f2 := decide_eq_false (show ¬ d.queue.length < d.queue.length by omega)
      go_wp2_with fail
      go_ret
      exact ⟨a, n, cap, O, rfl, hO.out, hN.out.imp (fun h => h) (fun ⟨g, h, hg⟩ => ⟨g, h, by have : w.heap.size ≤ (w.alloc (.cells (devC d ta tc qa qc da dc la lc) 27)).heap.size := K0.out.size; omega⟩), KR.out⟩
end Go.Proofs.Ytghgegghlefclaa
