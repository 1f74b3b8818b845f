/- Walks: which writes are ready: the program. -/
import Derived.Test.YtghgegghlefclaaKW23
import Derived.Test.YtghgegghlefclaaKVM
import Derived.Test.YtghgegghlefclaaKW4
set_option linter.unusedVariables false
set_option linter.unusedSimpArgs false
set_option linter.unusedSectionVars false
namespace Go.Proofs.Ytghgegghlefclaa
open Go.RowKit
set_option maxHeartbeats 2000000
set_option maxRecDepth 8000
theorem rdyTo_stop {q : List Wr} {k : Nat} {x : Wr} (hx : q[k]? = some x) (h3 : x.kind = 3) : ∀ m, k + 1 ≤ m → rdyTo q m = rdyTo q (k + 1) := by
  intro m hm
  induction m with
  | zero => omega
  | succ m ih =>
    by_cases h : m = k
    · subst h; rfl
    · have hr : rdyB q m = false := by
        unfold rdyB
        cases hy : q[m]? with
        | none => rfl
        | some y =>
          simp only
          split
          · exact decide_eq_false (by omega)
          · rw [List.all_eq_false]
            refine ⟨x, List.mem_of_getElem? (i := k) (by rw [List.getElem?_take, if_pos (by omega)]; exact hx), ?_⟩
            simp [h3]
      rw [rdyTo_no hr, ih (by omega)]
/-- the priorities that were seen -/
def seenF (q : List Wr) (k : Nat) : Int → Option Int := fun p => if (q.take k).any (fun x => decide (x.rule.pri = p)) = true then some 1 else none
theorem seenF_succ {q : List Wr} {k : Nat} {x : Wr} (hx : q[k]? = some x) : (fun y => if y = x.rule.pri then some 1 else seenF q k y) = seenF q (k + 1) := by
  funext y
  unfold seenF
  have e : (q.take (k + 1)).any (fun x => decide (x.rule.pri = y)) = ((q.take k).any (fun x => decide (x.rule.pri = y)) || decide (x.rule.pri = y)) := by
    rw [List.take_add_one, hx, List.any_append]; simp
  rw [e]
  by_cases h : y = x.rule.pri
  · rw [if_pos h, if_pos (by simp [h])]
  · have hd : decide (x.rule.pri = y) = false := by simp; exact fun e => h e.symm
    rw [if_neg h, hd, Bool.or_false]
theorem rdyB_seen {q : List Wr} {k : Nat} {x : Wr} (hx : q[k]? = some x) (h3 : x.kind ≠ 3) (hn : ∀ (j : Nat) y, j < k → q[j]? = some y → y.kind ≠ 3) : decide (((seenF q k x.rule.pri).getD 0) = 1) = !rdyB q k := by
  have e : rdyB q k = !((q.take k).any (fun y => decide (y.rule.pri = x.rule.pri))) := by
    unfold rdyB
    rw [hx]
    simp only [if_neg h3]
    rw [Bool.eq_iff_iff, List.all_eq_true, Bool.not_eq_true', List.any_eq_false]
    constructor
    · intro h y hy hp
      have := h y hy
      rw [Bool.and_eq_true, decide_eq_true_eq, decide_eq_true_eq] at this
      exact this.2 (by simpa using hp)
    · intro h y hy
      obtain ⟨j, hj⟩ := List.getElem?_of_mem hy
      have hlt := (List.getElem?_eq_some_iff.1 hj).1
      rw [List.length_take] at hlt
      have hjk : j < k := by omega
      have h1 := hn j y hjk (by rw [List.getElem?_take] at hj; simpa [hjk] using hj)
      have h2 : ¬ y.rule.pri = x.rule.pri := by simpa using h y hy
      simp [h1, h2]
  rw [e]
  unfold seenF
  cases h : (q.take k).any (fun y => decide (y.rule.pri = x.rule.pri)) <;> simp
theorem ready_ok (d : Dev) (ta qa da la : Option Addr) (tc qc dc lc : Nat) (M : Nat → Prop) (w : World) (h : RdS w M 26 EWr (.slice qa d.queue.length qc) d.queue) (hq : d.queue.length ≤ 100000) (hp : ∀ x ∈ d.queue, -9223372036854775808 ≤ x.rule.pri ∧ x.rule.pri ≤ 9223372036854775807) :
    Calls Try.prog 13 #[.agg (devC d ta tc qa qc da dc la lc)] w fun e w' => ∃ a n cap O, e = .returned (.slice a n cap) ∧ OwnS w' O 3 1 EInt (.slice a n cap) (rdyTo d.queue d.queue.length) ∧ NewO w none O ∧ Kept NoM w w' := by
  have K0 := Lib.hid (((Kept.refl NoM w).alloc (.cells (devC d ta tc qa qc da dc la lc) 27)).alloc (.map #[] 0))
  have HB := Lib.hid (blk_old (blk_new w (.cells (devC d ta tc qa qc da dc la lc) 27)) (.map #[] 0))
  have HV := Lib.hid (VMap.made (w.alloc (.cells (devC d ta tc qa qc da dc la lc) 27)) Try.prog 3 decB)
  have hsz : (w.alloc (.cells (devC d ta tc qa qc da dc la lc) 27)).heap.size = w.heap.size + 1 := by simp
  have y3 := cell_blk (blk_new w (.cells (devC d ta tc qa qc da dc la lc) 27)) 3 _ dv3
  rw [hsz] at HV
  have HH := Lib.hid h
  have HP := Lib.hid hp
  clear h hp
  have hmm := @run_makeMap Try.prog
  go_enter Try.func13, Try.ntmps13
  go_wp2_with fail
  go_loopw [3, 11] (fun v i wr => ∃ (k : Nat) (a : Option Addr) (n cap : Nat) (O : Option Nat), k ≤ d.queue.length ∧ i = .int .i64 k ∧ v = .slice a n cap ∧ (rdyTo d.queue k).length = n ∧ Hid (OwnS wr O 3 1 EInt (.slice a n cap) (rdyTo d.queue k)) ∧ Hid (VMap Try.prog 3 decB wr (w.heap.size + 1) k (seenF d.queue k)) ∧ Hid (∀ (j : Nat) y, j < k → d.queue[j]? = some y → y.kind ≠ 3) ∧ Hid (NewO ((w.alloc (.cells (devC d ta tc qa qc da dc la lc) 27)).alloc (.map #[] 0)) none O) ∧ Hid (Kept (fun i => i = w.heap.size + 1) ((w.alloc (.cells (devC d ta tc qa qc da dc la lc) 27)).alloc (.map #[] 0)) wr)) (fun _ i _ => d.queue.length - (intOf i).toNat)
  case atStart => exact ⟨0, none, 0, 0, none, Nat.zero_le _, rfl, rfl, rfl, Lib.hid (OwnS.nil _ _ _ _), HV, Lib.hid (fun j y hj => absurd hj (Nat.not_lt_zero _)), Lib.hid (NewO.refl _ _), Lib.hid (Kept.refl _ _)⟩
  case round =>
    obtain ⟨k, a, n, cap, O, hk, rfl, rfl, hn, hO, hV, hA, hN, hK⟩ := hrel
    have hln := rdyTo_len d.queue k
    have KR : Hid (Kept (fun i => i = w.heap.size + 1) w wr) := Lib.hid (K0.out.of_no.trans hK.out)
    have KW : Hid (Kept NoM w wr) := Lib.hid (KR.out.mono (fun i hi e => by omega))
    have hwr : w.heap.size + 2 ≤ wr.heap.size := by have := hK.out.size; simpa using this
    by_cases hlt : k < d.queue.length
    · have hki : (k : Int) < d.queue.length := by omega
      obtain ⟨x, hx⟩ := getAt hlt
      obtain ⟨b, off, e1, _, hc⟩ := wr_at (HH.out.kept KW.out.of_no (fun _ _ x => x)) hx
      subst e1
      have HC := Lib.hid hc
      have HX := Lib.hid hx
      have KA := Lib.hid ((Kept.refl NoM wr).alloc (.cells (wrC x) 41))
      have HBX := Lib.hid (blk_new wr (.cells (wrC x) 41))
      have V1 := Lib.hid (hV.out.kept KA.out (fun x => x))
      have OA0 := Lib.hid (hO.out.kept KA.out (fun _ _ x => x) (fun _ _ x => x))
      have x2 := cell_blk HBX.out 2 _ (wrC_2 x)
      have hpx := HP.out x (List.mem_of_getElem? hx)
      have hOV : Hid (∀ g, O = some g → w.heap.size + 2 ≤ g) := Lib.hid (fun g hg => by
        rcases hN.out with h | ⟨g', h, hg'⟩
        · rw [h] at hg; cases hg
        · rw [h] at hg; cases hg; simpa using hg')
      have hNW : Hid (NewO w none O) := Lib.hid (hN.out.imp (fun h => h) (fun ⟨g, h, hg⟩ => ⟨g, h, by simp at hg; omega⟩))
      have hOX : Hid (∀ g, O = some g → g ≠ wr.heap.size) := Lib.hid (fun g hg e => by have := hO.out.lt g hg; omega)
      by_cases h3 : x.kind = 3
      · have HS := Lib.hid (rdyTo_stop HX.out h3 d.queue.length (by omega))
        have HRB := Lib.hid (rdyB_bar HX.out h3)
        rw [h3] at x2
        clear hc hx h3
        by_cases h0 : k = 0
        · have HT := Lib.hid (rdyTo_yes (HRB.out.trans (decide_eq_true h0)))
          have f0 : ((k : Int) == 0) = true := by simpa using h0
          have HR := Lib.hid (rd_one (M := NoM) (sz := 1) (E := EInt) (x := (k : Int)) (blk_new' (wr.alloc (.cells (wrC x) 41)) (.cells #[.int .i64 k] 3) (wr.heap.size + 1) (by simp)) (fun x => x) rfl rfl)
          have KI := Lib.hid ((Kept.refl NoM (wr.alloc (.cells (wrC x) 41))).alloc (.cells #[.int .i64 k] 3))
          have OA := Lib.hid (OA0.out.kept KI.out (fun _ _ x => x) (fun _ _ x => x))
          have VA := Lib.hid (V1.out.kept KI.out (fun x => x))
          have HBX1 := Lib.hid (KI.out.blk HBX.out (fun x => x))
          clear h0
          go_wp2_with (first
            | (refine wpList_alloc_Z rfl 41 rfl _ (wrZ _) ?_)
            | (refine wpList_store_bign bigWr rfl _ _ rfl _ rfl rfl rfl rfl rfl (wr1 x) ?_)
            | (refine wpList_load_big bigWr rfl _ rfl b (off + k * 26) (wrC x) rfl HC.out rfl ?_)
            | (at_builtin; refine wpList_append_S (M := NoM) rfl (.tmp 21) (.tmp 23) 25 rfl 8 tyInts _ rfl OA.out _ rfl HR.out eInt_one n 1 hn rfl (by unfold maxLen; omega) (by omega) ?_; intro a1 cap1 w2 O1 hown1 hk1 hn1; have OW1 := Lib.hid hown1; have K2 := Lib.hid hk1; have N1 := Lib.hid hn1; have HBX2 := Lib.hid (hk1.blk HBX1.out (fun e => hOX.out _ e.symm rfl)); have z3 := cell_blk HBX2.out 3 _ (wrC_3 x); have V2 := Lib.hid (VA.out.kept hk1 (fun e => absurd (hOV.out _ e.symm) (by omega))); clear hown1 hk1 hn1))
          go_ret
          exact ⟨a1, n + 1, cap1, O1, rfl, by rw [HS.out, HT.out]; exact OW1.out, (hNW.out.trans N1.out (by have := hwr; simp; omega)), ((KW.out.trans (KA.out.trans KI.out)).trans' K2.out (fun i hi e => by have := hOV.out i e.symm; omega))⟩
        · have HF := Lib.hid (rdyTo_no (HRB.out.trans (decide_eq_false h0)))
          have f0 : ((k : Int) == 0) = false := by simpa using h0
          clear h0
          go_wp2_with (first
            | (refine wpList_alloc_Z rfl 41 rfl _ (wrZ _) ?_)
            | (refine wpList_store_bign bigWr rfl _ _ rfl _ rfl rfl rfl rfl rfl (wr1 x) ?_)
            | (refine wpList_load_big bigWr rfl _ rfl b (off + k * 26) (wrC x) rfl HC.out rfl ?_))
          go_ret
          exact ⟨a, n, cap, O, rfl, by rw [HS.out, HF.out]; exact OA0.out, hNW.out, KW.out.trans KA.out⟩
      · have f3 : (x.kind == 3) = false := by simpa using h3
        have HSN := Lib.hid (rdyB_seen HX.out h3 hA.out)
        have x3 := cell_blk HBX.out 3 _ (wrC_3 x)
        have HA1 : Hid (∀ (j : Nat) y, j < k + 1 → d.queue[j]? = some y → y.kind ≠ 3) := Lib.hid (fun j y hj hy => by
          by_cases h : j = k
          · subst h; have := HX.out.symm.trans hy; cases this; exact h3
          · exact hA.out j y (by omega) hy)
        have HSS := Lib.hid (seenF_succ HX.out)
        clear hc hx h3
        cases hr : rdyB d.queue k with
        | false =>
          have HT := Lib.hid (rdyTo_no hr)
          rw [hr] at HSN
          clear hr
          go_wp2_with (first
            | (refine wpList_alloc_Z rfl 41 rfl _ (wrZ _) ?_)
            | (refine wpList_store_bign bigWr rfl _ _ rfl _ rfl rfl rfl rfl rfl (wr1 x) ?_)
            | (refine wpList_load_big bigWr rfl _ rfl b (off + k * 26) (wrC x) rfl HC.out rfl ?_)
            | (refine wpList_get_V rfl (.tmp 25) (.tmp 28) 76 rfl Try.underlying3 Try.underlying76 (zc := 0) (fun _ => rfl) rfl rfl V1.out x.rule.pri rfl hpx.1 hpx.2 ?_; intro v hv; obtain rfl := decB_inv hv; rw [HSN.out])
            | (refine wpList_put_V rfl (.tmp 35) (.tmp 38) (.const (.bool true)) 76 (.inl rfl) Try.underlying3 Try.underlying76 (by omega) rfl V1.out x.rule.pri rfl hpx.1 hpx.2 (.bool true) 1 rfl rfl ?_; intro w3 hv3 hk3 hs3; have V3 := Lib.hid hv3; have K3 := Lib.hid hk3; clear hv3 hk3 hs3))
          go_roundw
          case rel => exact ⟨k + 1, a, n, cap, O, by omega, by go_num, rfl, by rw [HT.out]; exact hn, Lib.hid (by rw [HT.out]; exact OA0.out.kept K3.out (fun g hg e => by have := hOV.out g hg; omega) (fun _ _ x => x)), Lib.hid (by rw [← HSS.out]; exact V3.out), HA1, hN, Lib.hid ((hK.out.trans KA.out.of_no).trans K3.out)⟩
          case measure => simp [intOf]; omega
        | true =>
          have HT := Lib.hid (rdyTo_yes hr)
          have HR := Lib.hid (rd_one (M := NoM) (sz := 1) (E := EInt) (x := (k : Int)) (blk_new' (wr.alloc (.cells (wrC x) 41)) (.cells #[.int .i64 k] 3) (wr.heap.size + 1) (by simp)) (fun x => x) rfl rfl)
          have KI := Lib.hid ((Kept.refl NoM (wr.alloc (.cells (wrC x) 41))).alloc (.cells #[.int .i64 k] 3))
          have OA := Lib.hid (OA0.out.kept KI.out (fun _ _ x => x) (fun _ _ x => x))
          have VA := Lib.hid (V1.out.kept KI.out (fun x => x))
          have HBX1 := Lib.hid (KI.out.blk HBX.out (fun x => x))
          rw [hr] at HSN
          clear hr
          go_wp2_with (first
            | (refine wpList_alloc_Z rfl 41 rfl _ (wrZ _) ?_)
            | (refine wpList_store_bign bigWr rfl _ _ rfl _ rfl rfl rfl rfl rfl (wr1 x) ?_)
            | (refine wpList_load_big bigWr rfl _ rfl b (off + k * 26) (wrC x) rfl HC.out rfl ?_)
            | (refine wpList_get_V rfl (.tmp 25) (.tmp 28) 76 rfl Try.underlying3 Try.underlying76 (zc := 0) (fun _ => rfl) rfl rfl V1.out x.rule.pri rfl hpx.1 hpx.2 ?_; intro v hv; obtain rfl := decB_inv hv; rw [HSN.out])
            | (at_builtin; refine wpList_append_S (M := NoM) rfl (.tmp 31) (.tmp 33) 25 rfl 8 tyInts _ rfl OA.out _ rfl HR.out eInt_one n 1 hn rfl (by unfold maxLen; omega) (by omega) ?_; intro a1 cap1 w2 O1 hown1 hk1 hn1; have OW1 := Lib.hid hown1; have K2 := Lib.hid hk1; have N1 := Lib.hid hn1; have HBX2 := Lib.hid (hk1.blk HBX1.out (fun e => hOX.out _ e.symm rfl)); have z3 := cell_blk HBX2.out 3 _ (wrC_3 x); have V2 := Lib.hid (VA.out.kept hk1 (fun e => absurd (hOV.out _ e.symm) (by omega))); clear hown1 hk1 hn1)
            | (refine wpList_put_V rfl (.tmp 35) (.tmp 38) (.const (.bool true)) 76 (.inl rfl) Try.underlying3 Try.underlying76 (by omega) rfl V2.out x.rule.pri rfl hpx.1 hpx.2 (.bool true) 1 rfl rfl ?_; intro w3 hv3 hk3 hs3; have V3 := Lib.hid hv3; have K3 := Lib.hid hk3; clear hv3 hk3 hs3))
          have HO1 : Hid (∀ g, O1 = some g → ¬ g = w.heap.size + 1) := Lib.hid (fun g hg e => by
            rcases N1.out with h | ⟨g', h, hg'⟩
            · rw [h] at hg; have := hOV.out g hg; omega
            · rw [h] at hg; cases hg; simp at hg'; omega)
          go_roundw
          case rel => exact ⟨k + 1, a1, n + 1, cap1, O1, by omega, by go_num, rfl, by rw [HT.out, List.length_append, hn]; rfl, Lib.hid (by rw [HT.out]; exact OW1.out.kept K3.out HO1.out (fun _ _ x => x)), Lib.hid (by rw [← HSS.out]; exact V3.out), HA1, Lib.hid (hN.out.trans N1.out (by simp; omega)), Lib.hid (((hK.out.trans (KA.out.trans KI.out).of_no).trans' K2.out (fun i hi e => by have := hOV.out i e.symm; simp at hi; omega)).trans K3.out)⟩
          case measure => simp [intOf]; omega
    · obtain rfl : k = d.queue.length := by omega
      have f1 := decide_eq_false (show ¬ ((d.queue.length : Nat) : Int) < d.queue.length by omega)
      have f2 := decide_eq_false (show ¬ d.queue.length < d.queue.length by omega)
      go_wp2_with fail
      go_ret
      exact ⟨a, n, cap, O, rfl, hO.out, hN.out.imp (fun h => h) (fun ⟨g, h, hg⟩ => ⟨g, h, by simp at hg; omega⟩), KW.out⟩
end Go.Proofs.Ytghgegghlefclaa
