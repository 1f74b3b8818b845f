/- Texts that belong together: W20, W21. -/
import Derived.Test.YtghgegghlefclaaKW19
import Derived.Test.YtghgegghlefclaaKW9
import Derived.Test.YtghgegghlefclaaKW4
set_option linter.unusedVariables false
set_option linter.unusedSimpArgs false
set_option linter.unusedSectionVars false
/- Walks: whether a device is right: the specification. -/
namespace Go.Proofs.Ytghgegghlefclaa
open Go.RowKit
set_option maxHeartbeats 4000000
set_option maxRecDepth 8000
/-- an error code that says whether -/
def ChkP (P : Prop) (w : World) (e : Ending) (w' : World) : Prop := ∃ c : Int, e = .returned (.int .i64 c) ∧ (c = 0 ↔ P) ∧ Kept NoM w w'
/-- the j-th write of a queue is right -/
def okQ (d : Dev) (j : Nat) : Prop := ∀ x, d.queue[j]? = some x → formedB x = true ∧ x.ep = d.ep ∧ x.seq ∉ d.done ∧ ∀ (i : Nat) y, i < j → d.queue[i]? = some y → y.seq ≠ x.seq
theorem okQ_all {d : Dev} (h : ∀ j, j < d.queue.length → okQ d j) : (∀ w ∈ d.queue, formedB w = true ∧ w.ep = d.ep ∧ w.seq ∉ d.done) ∧ d.queue.Pairwise fun a b => a.seq ≠ b.seq := by
  constructor
  · intro x hx
    obtain ⟨i, hi⟩ := List.getElem?_of_mem hx
    obtain ⟨h1, h2, h3, _⟩ := h i (List.getElem?_eq_some_iff.1 hi).1 x hi
    exact ⟨h1, h2, h3⟩
  · rw [List.pairwise_iff_getElem]
    intro i j hi hj hij
    exact (h j hj d.queue[j] (by simp)).2.2.2 i d.queue[i] hij (by simp)
theorem okQ_of {d : Dev} (h : RD d) (j : Nat) : okQ d j := by
  intro x hx
  obtain ⟨h1, h2, h3⟩ := h.q x (List.mem_of_getElem? hx)
  refine ⟨h1, h2, h3, fun i y hi hy => ?_⟩
  have := h.ne
  rw [List.pairwise_iff_getElem] at this
  obtain ⟨hj, e⟩ := List.getElem?_eq_some_iff.1 hx
  obtain ⟨hi2, e2⟩ := List.getElem?_eq_some_iff.1 hy
  have := this i j hi2 hj hi
  rw [e, e2] at this
  exact this
theorem rcheck_bad (d : Dev) (ta qa da la : Option Addr) (tc qc dc lc : Nat) (M : Nat → Prop) (w : World) (h : DevR w M d ta tc qa qc da dc la lc) (hb : DevB w d) (hbad : d.room < 0 ∨ d.room > 4000 ∨ d.ep < 0 ∨ d.ep > 1073741824) : Calls Try.prog 33 #[.agg (devC d ta tc qa qc da dc la lc)] w (ChkP (RD d) w) := by
  have K0 := Lib.hid ((Kept.refl NoM w).alloc (.cells (devC d ta tc qa qc da dc la lc) 27))
  have HB := Lib.hid (blk_new w (.cells (devC d ta tc qa qc da dc la lc) 27))
  have hql := hb.ql
  have htl := hb.tl
  have hdl := hb.dl
  have hll := hb.ll
  have HQ := Lib.hid h.rq
  have HDN := Lib.hid h.rd
  have RI1 := Lib.hid (rrising_ok _ d.done M _ (h.rd.kept K0.out.of_no (fun _ _ x => x)) (by omega))
  have RI2 : Hid (∀ wx, Kept NoM w wx → Calls Try.prog 64 #[.slice la d.lost.length lc] wx (IffP (IncI d.lost ∧ ∀ n ∈ d.lost, okN n = true) wx)) := Lib.hid (fun wx k => rrising_ok _ d.lost M wx (h.rl.kept k.of_no (fun _ _ x => x)) (by omega))
  have RT1 : Hid (∀ wx, Kept NoM w wx → Calls Try.prog 27 #[.slice ta d.table.length tc, .int .i64 d.room] wx (IffP (RT d.table d.room) wx)) := Lib.hid (fun wx k => rightt_ok _ d.table M d.room wx (h.rt.kept k.of_no (fun _ _ x => x)) (by omega))
  have x4 := cell_blk HB.out 4 _ dv4
  clear h hb
  have HN := Lib.hid (show ¬ RD d from fun h => by have h1 := h.room; have h2 := h.ep; omega)
  have f1 : (d.room < 0) ∨ (¬ d.room < 0 ∧ 4000 < d.room) ∨ (¬ d.room < 0 ∧ ¬ 4000 < d.room ∧ d.ep < 0) ∨ (¬ d.room < 0 ∧ ¬ 4000 < d.room ∧ ¬ d.ep < 0 ∧ 1073741824 < d.ep) := by omega
  clear hbad RT1
  rcases f1 with f1 | ⟨f1, f2⟩ | ⟨f1, f2, f3⟩ | ⟨f1, f2, f3, f4⟩
  all_goals
    go_enter Try.func33, Try.ntmps33
    go_wp2_with (first
    | (go_at_call 64; (with_reducible refine RI1.out.mono ?_); rintro e w1 ⟨b1, rfl, hb, k1⟩; have B1 := Lib.hid hb; have K1 := Lib.hid (K0.out.trans k1); have HB1 := Lib.hid (k1.blk HB.out (fun x => x)); have y5 := cell_blk HB1.out 5 _ dv5; clear hb k1)
    | (go_at_call 64; (with_reducible refine (RI2.out _ K1.out).mono ?_); rintro e w2 ⟨b2, rfl, hb, k2⟩; have B2 := Lib.hid hb; have K2 := Lib.hid (K1.out.trans k2); have HB2 := Lib.hid (k2.blk HB1.out (fun x => x)); have z0 := cell_blk HB2.out 0 _ dv0; have z1 := cell_blk HB2.out 1 _ dv1; have z2 := cell_blk HB2.out 2 _ dv2; have z3 := cell_blk HB2.out 3 _ dv3; clear hb k2))
    go_ret
    exact ⟨1, rfl, ⟨fun h => by simp at h, fun h => absurd h HN.out⟩, K2.out⟩
theorem rcheck_good (d : Dev) (ta qa da la : Option Addr) (tc qc dc lc : Nat) (M : Nat → Prop) (w : World) (h : DevR w M d ta tc qa qc da dc la lc) (hb : DevB w d) (g1 : ¬ d.room < 0) (g2 : ¬ 4000 < d.room) (g3 : ¬ d.ep < 0) (g4 : ¬ 1073741824 < d.ep) : Calls Try.prog 33 #[.agg (devC d ta tc qa qc da dc la lc)] w (ChkP (RD d) w) := by
  have K0 := Lib.hid ((Kept.refl NoM w).alloc (.cells (devC d ta tc qa qc da dc la lc) 27))
  have HB := Lib.hid (blk_new w (.cells (devC d ta tc qa qc da dc la lc) 27))
  have hql := hb.ql
  have htl := hb.tl
  have hdl := hb.dl
  have hll := hb.ll
  have HQ := Lib.hid h.rq
  have HDN := Lib.hid h.rd
  have RI1 := Lib.hid (rrising_ok _ d.done M _ (h.rd.kept K0.out.of_no (fun _ _ x => x)) (by omega))
  have RI2 : Hid (∀ wx, Kept NoM w wx → Calls Try.prog 64 #[.slice la d.lost.length lc] wx (IffP (IncI d.lost ∧ ∀ n ∈ d.lost, okN n = true) wx)) := Lib.hid (fun wx k => rrising_ok _ d.lost M wx (h.rl.kept k.of_no (fun _ _ x => x)) (by omega))
  have RT1 : Hid (∀ wx, Kept NoM w wx → Calls Try.prog 27 #[.slice ta d.table.length tc, .int .i64 d.room] wx (IffP (RT d.table d.room) wx)) := Lib.hid (fun wx k => rightt_ok _ d.table M d.room wx (h.rt.kept k.of_no (fun _ _ x => x)) (by omega))
  have x4 := cell_blk HB.out 4 _ dv4
  clear h hb
  have PRE : Hid (∀ b1 b2 b3 : Bool, (b1 = true ↔ IncI d.done ∧ ∀ n ∈ d.done, okN n = true) → (b2 = true ↔ IncI d.lost ∧ ∀ n ∈ d.lost, okN n = true) → (b3 = true ↔ RT d.table d.room) → ((RD d → b1 = true ∧ b2 = true ∧ b3 = true) ∧ (d.queue.length ≤ 64 → b1 = true → b2 = true → b3 = true → (∀ j, j < d.queue.length → okQ d j) → RD d))) := Lib.hid (fun b1 b2 b3 h1 h2 h3 => by
    refine ⟨fun h => ⟨h1.2 h.done, h2.2 h.lost, h3.2 h.tab⟩, fun g5 g6 g7 g8 hq => ?_⟩
    obtain ⟨q1, q2⟩ := okQ_all hq
    exact ⟨⟨by omega, by omega⟩, ⟨by omega, by omega⟩, h3.1 g8, g5, h1.1 g6, h2.1 g7, q1, q2⟩)
  by_cases hq64 : 64 < d.queue.length
  · have HN := Lib.hid (show ¬ RD d from fun h => by have h1 := h.ql; omega)
    have f5 : (64 : Int) < d.queue.length := by omega
    go_enter Try.func33, Try.ntmps33
    go_wp2_with (first
    | (go_at_call 64; (with_reducible refine RI1.out.mono ?_); rintro e w1 ⟨b1, rfl, hb, k1⟩; have B1 := Lib.hid hb; have K1 := Lib.hid (K0.out.trans k1); have HB1 := Lib.hid (k1.blk HB.out (fun x => x)); have y5 := cell_blk HB1.out 5 _ dv5; clear hb k1)
    | (go_at_call 64; (with_reducible refine (RI2.out _ K1.out).mono ?_); rintro e w2 ⟨b2, rfl, hb, k2⟩; have B2 := Lib.hid hb; have K2 := Lib.hid (K1.out.trans k2); have HB2 := Lib.hid (k2.blk HB1.out (fun x => x)); have z0 := cell_blk HB2.out 0 _ dv0; have z1 := cell_blk HB2.out 1 _ dv1; have z2 := cell_blk HB2.out 2 _ dv2; have z3 := cell_blk HB2.out 3 _ dv3; clear hb k2)
    | (go_at_call 27; refine (RT1.out _ K2.out).mono ?_; rintro e w3 ⟨b3, rfl, hb, k3⟩; have B3 := Lib.hid hb; have K3 := Lib.hid (K2.out.trans k3); have HB3 := Lib.hid (k3.blk HB2.out (fun x => x)); have u3 := cell_blk HB3.out 3 _ dv3; clear hb k3; cases b3))
    all_goals
      go_ret
      exact ⟨1, rfl, ⟨fun h => by simp at h, fun h => absurd h HN.out⟩, K3.out⟩
  · have f5 : ¬ (64 : Int) < d.queue.length := by omega
    go_enter Try.func33, Try.ntmps33
    go_wp2_with (first
    | (go_at_call 64; (with_reducible refine RI1.out.mono ?_); rintro e w1 ⟨b1, rfl, hb, k1⟩; have B1 := Lib.hid hb; have K1 := Lib.hid (K0.out.trans k1); have HB1 := Lib.hid (k1.blk HB.out (fun x => x)); have y5 := cell_blk HB1.out 5 _ dv5; clear hb k1)
    | (go_at_call 64; (with_reducible refine (RI2.out _ K1.out).mono ?_); rintro e w2 ⟨b2, rfl, hb, k2⟩; have B2 := Lib.hid hb; have K2 := Lib.hid (K1.out.trans k2); have HB2 := Lib.hid (k2.blk HB1.out (fun x => x)); have z0 := cell_blk HB2.out 0 _ dv0; have z1 := cell_blk HB2.out 1 _ dv1; have z2 := cell_blk HB2.out 2 _ dv2; have z3 := cell_blk HB2.out 3 _ dv3; clear hb k2)
    | (go_at_call 27; refine (RT1.out _ K2.out).mono ?_; rintro e w3 ⟨b3, rfl, hb, k3⟩; have B3 := Lib.hid hb; have K3 := Lib.hid (K2.out.trans k3); have HB3 := Lib.hid (k3.blk HB2.out (fun x => x)); have u3 := cell_blk HB3.out 3 _ dv3; have HP := Lib.hid (PRE.out b1 b2 b3 B1.out B2.out B3.out); clear hb k3 PRE B1 B2 B3; cases b1 <;> cases b2 <;> cases b3))
    iterate 7 (first | (go_ret; exact ⟨1, rfl, ⟨fun h => by simp at h, fun h => absurd (HP.out.1 h) (by simp)⟩, K3.out⟩) | (rotate_left; go_ret; exact ⟨1, rfl, ⟨fun h => by simp at h, fun h => absurd (HP.out.1 h) (by simp)⟩, K3.out⟩))
    go_loopw [5] (fun i wr => ∃ k : Nat, k ≤ d.queue.length ∧ i = .int .i64 k ∧ Hid (∀ j, j < k → okQ d j) ∧ Hid (Kept NoM w3 wr)) (fun i _ => d.queue.length - (intOf i).toNat)
    case atStart => exact ⟨0, Nat.zero_le _, rfl, Lib.hid (fun j hj => absurd hj (Nat.not_lt_zero _)), Lib.hid (Kept.refl _ _)⟩
    case round =>
      obtain ⟨k, hk, rfl, hA, hK⟩ := hrel
      clear u3 x4 y5 z0 z1 z2 z3 g1 g2 g3 g4 htl hll RI1 RI2 RT1 HB1 HB2 K0 K1 K2
      have HBR := Lib.hid (hK.out.blk HB3.out (fun x => x))
      have x3 := cell_blk HBR.out 3 _ dv3
      by_cases hlt : k < d.queue.length
      · have hki : (k : Int) < d.queue.length := by omega
        obtain ⟨x, hx⟩ := getAt hlt
        obtain ⟨b, off, e1, _, hc⟩ := wr_at (HQ.out.kept (K3.out.trans hK.out).of_no (fun _ _ x => x)) hx
        rw [e1] at x3
        have HE1 := Lib.hid e1
        have hlt0 := lt_of_block HBR.out
        have HC := Lib.hid hc
        have HX := Lib.hid hx
        have KA := Lib.hid ((Kept.refl NoM wr).alloc (.cells (wrC x) 41))
        have HX6 := Lib.hid (blk_new wr (.cells (wrC x) 41))
        have HB6 := Lib.hid (KA.out.blk HBR.out (fun x => x))
        have FC := Lib.hid (rformed_ok x (wr.alloc (.cells (wrC x) 41)))
        have OK0 := Lib.hid (fun h : RD d => okQ_of h k x hx)
        clear hc hx e1
        cases hf : formedB x with
        | false =>
          have HF := Lib.hid hf
          rw [hf] at FC
          clear hf
          go_wp2_with (first
            | (refine wpList_alloc_Z rfl 41 rfl _ (wrZ _) ?_)
            | (refine wpList_store_bign bigWr rfl _ _ rfl _ rfl rfl rfl rfl rfl (wr1 x) ?_)
            | (refine wpList_load_big bigWr rfl _ rfl b (off + k * 26) (wrC x) rfl HC.out rfl ?_)
            | (refine wpList_load_big bigWr rfl _ rfl wr.heap.size 0 (wrC x) rfl (range_blk HX6.out) rfl ?_))
          refine FC.out.mono ?_
          rintro e w4 ⟨rfl, k4⟩
          have K4 := Lib.hid (hK.out.trans (KA.out.trans k4))
          clear k4 x3
          go_wp2_with fail
          go_ret
          exact ⟨1, rfl, ⟨fun h => by simp at h, fun h => by have := (OK0.out h).1; rw [HF.out] at this; cases this⟩, K3.out.trans K4.out⟩
        | true =>
          have HF := Lib.hid hf
          rw [hf] at FC
          clear hf
          by_cases hep : x.ep = d.ep
          · have f1 : (x.ep != d.ep) = false := by simpa using hep
            have HEP := Lib.hid hep
            clear hep
            cases hh : hasI d.done x.seq with
            | true =>
              have HH := Lib.hid hh
              clear hh
              go_wp2_with (first
                | (refine wpList_alloc_Z rfl 41 rfl _ (wrZ _) ?_)
                | (refine wpList_store_bign bigWr rfl _ _ rfl _ rfl rfl rfl rfl rfl (wr1 x) ?_)
                | (refine wpList_load_big bigWr rfl _ rfl b (off + k * 26) (wrC x) rfl HC.out rfl ?_)
                | (refine wpList_load_big bigWr rfl _ rfl wr.heap.size 0 (wrC x) rfl (range_blk HX6.out) rfl ?_))
              refine FC.out.mono ?_
              rintro e w4 ⟨rfl, k4⟩
              have K4 := Lib.hid (hK.out.trans (KA.out.trans k4))
              have v0 := cell_blk (k4.blk HX6.out (fun x => x)) 0 _ (wrC_0 x)
              have v1 := cell_blk (k4.blk HX6.out (fun x => x)) 1 _ (wrC_1 x)
              have v2 := cell_blk (k4.blk HB6.out (fun x => x)) 1 _ dv1
              have v4 := cell_blk (k4.blk HB6.out (fun x => x)) 4 _ dv4
              clear k4 x3
              go_wp2_with (go_at_call 58; refine (rhas_ok _ d.done M x.seq _ (HDN.out.kept (K3.out.trans K4.out).of_no (fun _ _ x => x)) (by omega)).mono ?_; rw [HH.out]; rintro e w5 ⟨rfl, rfl⟩)
              go_ret
              exact ⟨1, rfl, ⟨fun h => by simp at h, fun h => absurd (hasI_iff.1 HH.out) (OK0.out h).2.2.1⟩, K3.out.trans K4.out⟩
            | false =>
              have HH := Lib.hid hh
              clear hh
              go_wp2_with (first
                | (refine wpList_alloc_Z rfl 41 rfl _ (wrZ _) ?_)
                | (refine wpList_store_bign bigWr rfl _ _ rfl _ rfl rfl rfl rfl rfl (wr1 x) ?_)
                | (refine wpList_load_big bigWr rfl _ rfl b (off + k * 26) (wrC x) rfl HC.out rfl ?_)
                | (refine wpList_load_big bigWr rfl _ rfl wr.heap.size 0 (wrC x) rfl (range_blk HX6.out) rfl ?_))
              refine FC.out.mono ?_
              rintro e w4 ⟨rfl, k4⟩
              have K4 := Lib.hid (hK.out.trans (KA.out.trans k4))
              have v0 := cell_blk (k4.blk HX6.out (fun x => x)) 0 _ (wrC_0 x)
              have v1 := cell_blk (k4.blk HX6.out (fun x => x)) 1 _ (wrC_1 x)
              have v2 := cell_blk (k4.blk HB6.out (fun x => x)) 1 _ dv1
              have v3 := cell_blk (k4.blk HB6.out (fun x => x)) 3 _ dv3
              have v4 := cell_blk (k4.blk HB6.out (fun x => x)) 4 _ dv4
              rw [HE1.out] at v3
              have FCK := Lib.hid k4
              clear k4 x3
              go_wp2_with (go_at_call 58; refine (rhas_ok _ d.done M x.seq _ (HDN.out.kept (K3.out.trans K4.out).of_no (fun _ _ x => x)) (by omega)).mono ?_; rw [HH.out]; rintro e w5 ⟨rfl, rfl⟩)
              have K34 := Lib.hid (K3.out.trans K4.out)
              have HX46 := Lib.hid (FCK.out.blk HX6.out (fun x => x))
              have HB46 := Lib.hid (FCK.out.blk HB6.out (fun x => x))
              clear v0 v1 v2 v3 v4
              go_loopw [7] (fun i wy => ∃ m : Nat, m ≤ k ∧ i = .int .i64 m ∧ Hid (∀ (j : Nat) y, j < m → d.queue[j]? = some y → y.seq ≠ x.seq) ∧ Hid (Kept NoM w4 wy)) (fun i _ => k - (intOf i).toNat)
              case atStart => exact ⟨0, Nat.zero_le _, rfl, Lib.hid (fun j y hj => absurd hj (Nat.not_lt_zero _)), Lib.hid (Kept.refl _ _)⟩
              case round =>
                obtain ⟨m, hm, rfl, hB, hY⟩ := hrel
                have KY := Lib.hid (K34.out.trans hY.out)
                have v1 := cell_blk (hY.out.blk HX46.out (fun x => x)) 1 _ (wrC_1 x)
                have v3 := cell_blk (hY.out.blk HB46.out (fun x => x)) 3 _ dv3
                rw [HE1.out] at v3
                by_cases hlt2 : m < k
                · have hmi : (m : Int) < k := by omega
                  have hmq : (m : Int) < d.queue.length := by omega
                  obtain ⟨y, hy⟩ := getAt (xs := d.queue) (k := m) (by omega)
                  obtain ⟨b', off', e2, _, hc⟩ := wr_at (HQ.out.kept KY.out.of_no (fun _ _ x => x)) hy
                  rw [HE1.out] at e2
                  simp only [Option.some.injEq, Addr.mk.injEq, and_true] at e2
                  obtain ⟨rfl, rfl⟩ := e2
                  have t1 := range_cell hc 1 _ (wrC_1 y)
                  have HY := Lib.hid hy
                  clear hc hy
                  by_cases hs : y.seq = x.seq
                  · have f2 : (y.seq == x.seq) = true := by simpa using hs
                    have HS := Lib.hid hs
                    clear hs
                    go_wp2_with fail
                    go_quiet (fail)
                    go_wp2_with fail
                    go_ret
                    exact ⟨1, rfl, ⟨fun h => by simp at h, fun h => absurd HS.out ((OK0.out h).2.2.2 m y hlt2 HY.out)⟩, KY.out.drewN _⟩
                  · have f2 : (y.seq == x.seq) = false := by simpa using hs
                    have HS := Lib.hid hs
                    clear hs
                    go_wp2_with fail
                    go_quiet (fail)
                    go_wp2_with fail
                    go_roundw
                    case rel => exact ⟨m + 1, by omega, by go_num, Lib.hid (fun j z hj hz => by
                      by_cases h : j = m
                      · subst h; have := HY.out.symm.trans hz; cases this; exact HS.out
                      · exact hB.out j z (by omega) hz), Lib.hid (hY.out.drewN _)⟩
                    case measure => simp [intOf]; omega
                · obtain rfl : m = k := by omega
                  have f2 := decide_eq_false (show ¬ ((m : Nat) : Int) < m by omega)
                  have f3 := decide_eq_false (show ¬ m < m by omega)
                  go_wp2_with fail
                  go_roundw
                  case rel => exact ⟨m + 1, by omega, by go_num, Lib.hid (fun j hj => by
                    by_cases h : j = m
                    · subst h
                      intro z hz
                      have := HX.out.symm.trans hz; cases this
                      exact ⟨HF.out, HEP.out, fun hm => (by have := hasI_iff.2 hm; rw [HH.out] at this; cases this), hB.out⟩
                    · exact hA.out j (by omega)), Lib.hid (K4.out.trans hY.out)⟩
                  case measure => simp [intOf]; omega
          · have f1 : (x.ep != d.ep) = true := by simpa using hep
            have HEP := Lib.hid hep
            clear hep
            go_wp2_with (first
              | (refine wpList_alloc_Z rfl 41 rfl _ (wrZ _) ?_)
              | (refine wpList_store_bign bigWr rfl _ _ rfl _ rfl rfl rfl rfl rfl (wr1 x) ?_)
              | (refine wpList_load_big bigWr rfl _ rfl b (off + k * 26) (wrC x) rfl HC.out rfl ?_)
              | (refine wpList_load_big bigWr rfl _ rfl wr.heap.size 0 (wrC x) rfl (range_blk HX6.out) rfl ?_))
            refine FC.out.mono ?_
            rintro e w4 ⟨rfl, k4⟩
            have K4 := Lib.hid (hK.out.trans (KA.out.trans k4))
            have v0 := cell_blk (k4.blk HX6.out (fun x => x)) 0 _ (wrC_0 x)
            have v2 := cell_blk (k4.blk HB6.out (fun x => x)) 1 _ dv1
            clear k4 x3
            go_wp2_with fail
            go_ret
            exact ⟨1, rfl, ⟨fun h => by simp at h, fun h => absurd (OK0.out h).2.1 HEP.out⟩, K3.out.trans K4.out⟩
      · obtain rfl : k = d.queue.length := by omega
        have f1 := decide_eq_false (show ¬ ((d.queue.length : Nat) : Int) < d.queue.length by omega)
        have f2 := decide_eq_false (show ¬ d.queue.length < d.queue.length by omega)
        have HR := Lib.hid (HP.out.2 (by omega) (by first | trivial | rfl) (by first | trivial | rfl) (by first | trivial | rfl) hA.out)
        go_wp2_with fail
        go_ret
        exact ⟨0, rfl, ⟨fun _ => HR.out, fun _ => rfl⟩, K3.out.trans hK.out⟩
theorem rcheck_ok (d : Dev) (ta qa da la : Option Addr) (tc qc dc lc : Nat) (M : Nat → Prop) (w : World) (h : DevR w M d ta tc qa qc da dc la lc) (hb : DevB w d) : Calls Try.prog 33 #[.agg (devC d ta tc qa qc da dc la lc)] w (ChkP (RD d) w) := by
  by_cases hbad : d.room < 0 ∨ d.room > 4000 ∨ d.ep < 0 ∨ d.ep > 1073741824
  · exact rcheck_bad d ta qa da la tc qc dc lc M w h hb hbad
  · exact rcheck_good d ta qa da la tc qc dc lc M w h hb (by omega) (by omega) (by omega) (by omega)
end Go.Proofs.Ytghgegghlefclaa

/- Walks: the small functions of the laws; whether a device is right; New, Honest. -/
namespace Go.Proofs.Ytghgegghlefclaa
open Go.RowKit
set_option maxHeartbeats 1000000
set_option maxRecDepth 8000
theorem dev_load {w : World} {b : Nat} {d : Dev} {ta qa da la : Option Addr} {tc qc dc lc : Nat} (h : w.heap[b]? = some (.cells (devC d ta tc qa qc da dc la lc) 27 (0, 0))) : w.rangeAt b 0 (devC d ta tc qa qc da dc la lc).toList := range_blk h
/-- the device is right, and has few parts -/
def RightP (d : Dev) (w : World) (e : Ending) (w' : World) : Prop := ∃ b : Bool, e = .returned (.bool b) ∧ (b = true → ((d.table.length ≤ 40 ∧ d.queue.length ≤ 70 ∧ d.done.length ≤ 100 ∧ d.lost.length ≤ 100) ∧ DevB w' d) ∧ RD d) ∧ Kept NoM w w'
/-- the law's 'right' -/
theorem right_ok (d : Dev) (ta qa da la : Option Addr) (tc qc dc lc : Nat) (M : Nat → Prop) (w : World) (h : DevR w M d ta tc qa qc da dc la lc) (hot : ∀ r ∈ d.table, OutR w r) (hoq : ∀ x ∈ d.queue, OutR w x.rule) (ht : d.table.length ≤ 9223372036854775807) (hq : d.queue.length ≤ 9223372036854775807) :
    Calls Try.prog 10 #[.agg (devC d ta tc qa qc da dc la lc)] w (RightP d w) := by
  have K0 := Lib.hid ((Kept.refl NoM w).alloc (.cells (devC d ta tc qa qc da dc la lc) 27))
  have HB := Lib.hid (blk_new w (.cells (devC d ta tc qa qc da dc la lc) 27))
  have FW := Lib.hid (fewd_ok d ta qa da la tc qc dc lc M (w.alloc (.cells (devC d ta tc qa qc da dc la lc) 27)) (h.kept K0.out.of_no) (fun r hr => (hot r hr).kept K0.out) (fun x hx => (hoq x hx).kept K0.out) ht hq)
  have CK : Hid (∀ wx, Kept NoM (w.alloc (.cells (devC d ta tc qa qc da dc la lc) 27)) wx → DevB (w.alloc (.cells (devC d ta tc qa qc da dc la lc) 27)) d → Calls Try.prog 33 #[.agg (devC d ta tc qa qc da dc la lc)] wx (ChkP (RD d) wx)) := Lib.hid (fun wx k hb => rcheck_ok d ta qa da la tc qc dc lc M wx (h.kept (K0.out.trans k).of_no) (hb.kept k))
  clear h hot hoq ht hq
  go_enter Try.func10, Try.ntmps10
  go_wp2_with (first
    | (refine wpList_load_big bigDev rfl _ rfl _ 0 (devC d ta tc qa qc da dc la lc) rfl (dev_load HB.out) rfl ?_)
    | (go_at_call 42; refine FW.out.mono ?_; rintro e w1 ⟨b1, rfl, hb, k1⟩; have B1 := Lib.hid hb; have K1 := Lib.hid k1; have K2 := Lib.hid (K0.out.trans k1); have HB1 := Lib.hid (k1.blk HB.out (fun x => x)); clear hb k1; cases b1)
    | (refine wpList_load_bigG bigDev (by rfl) _ rfl _ 0 (devC d ta tc qa qc da dc la lc) rfl (dev_load HB1.out) rfl ?_)
    | (go_at_call 33; refine (CK.out _ K1.out (B1.out (by first | trivial | rfl)).2).mono ?_; rintro e w2 ⟨c, rfl, hc, k2⟩; have HC := Lib.hid hc; have K3 := Lib.hid (K2.out.trans k2); have K4 := Lib.hid (K1.out.trans k2); clear hc k2))
  all_goals go_ret
  all_goals first
    | exact ⟨false, rfl, fun h => by simp at h, K2.out⟩
    | (refine ⟨_, rfl, fun h => ⟨⟨(B1.out (by first | trivial | rfl)).1, (B1.out (by first | trivial | rfl)).2.kept K4.out⟩, HC.out.1 ?_⟩, K3.out⟩
       simpa using h)
end Go.Proofs.Ytghgegghlefclaa
