/- Walks: the law DeviceOrderDoesNotMatter. -/
import Derived.Test.YtghgegghlefclaaKF7
import Derived.Test.YtghgegghlefclaaKW43
import Derived.Test.YtghgegghlefclaaKW42
import Derived.Test.YtghgegghlefclaaKW20
set_option linter.unusedVariables false
set_option linter.unusedSimpArgs false
set_option linter.unusedSectionVars false
namespace Go.Proofs.Ytghgegghlefclaa
open Go.RowKit
set_option maxHeartbeats 4000000
set_option maxRecDepth 8000
def EByte (c : List Value) (n : Nat) : Prop := c = [.int .u8 n]
theorem byte_at {w : World} {M : Nat → Prop} {a : Option Addr} {n cap : Nat} {xs : List Nat} (h : RdS w M 1 EByte (.slice a n cap) xs) {k : Nat} {x : Nat} (hx : xs[k]? = some x) : ∃ b off, a = some ⟨b, off, none⟩ ∧ w.cell? ⟨b, off + k, none⟩ = some (.int .u8 x) := by
  obtain ⟨a', cap', e1, _, _, h4⟩ := h
  simp only [Value.slice.injEq] at e1
  obtain ⟨rfl, _, rfl⟩ := e1
  rcases h4 with ⟨h5, _⟩ | ⟨b, off, h5, h6⟩
  · rw [h5] at hx; simp at hx
  · obtain ⟨_, cs, q1, _, q3⟩ := h6 k x hx
    refine ⟨b, off, h5, ?_⟩
    have := q3 0 (.int .u8 x) (by rw [q1]; rfl)
    simpa using this
theorem putsU_take {t : List Ru} {q : List Wr} {k : Nat} {x : Wr} (hx : q[k]? = some x) : putsU t (q.take (k + 1)) = putU (putsU t (q.take k)) x := by
  unfold putsU
  rw [take_snoc hx, List.foldl_append]; rfl
theorem nP_drop {q : List Wr} {k : Nat} {x : Wr} (hx : q[k]? = some x) : nP (q.drop k) = (if x.kind = 1 then 1 else 0) + nP (q.drop (k + 1)) := by
  have hlt := (List.getElem?_eq_some_iff.1 hx).1
  have e : q.drop k = x :: q.drop (k + 1) := by
    rw [List.drop_eq_getElem_cons hlt]
    congr 1
    have := hx
    simp only [List.getElem?_eq_getElem hlt, Option.some.injEq] at this
    exact this
  rw [e, nP_cons]
theorem mem_putsU {t : List Ru} {q : List Wr} {r : Ru} (h : r ∈ putsU t q) : r ∈ t ∨ ∃ y ∈ q, r = y.rule := by
  induction q generalizing t with
  | nil => exact .inl h
  | cons y q ih =>
    rcases ih (t := putU t y) h with h | ⟨z, hz, e⟩
    · have h2 : r ∈ putT t ((putU t y).length : Int) y := by
        unfold putT
        rw [if_pos (by unfold putOk; simp)]; exact h
      rcases mem_putT_or h2 with e | h2
      · exact .inr ⟨y, List.mem_cons_self, e⟩
      · exact .inl h2
    · exact .inr ⟨z, List.mem_cons_of_mem _ hz, e⟩
theorem order_ok (d : Dev) (l : List Nat) (lv : Value) (ta qa da la : Option Addr) (tc qc dc lc : Nat) (w : World) (h : DevR w NoM d ta tc qa qc da dc la lc) (hot : ∀ r ∈ d.table, OutR w r) (hoq : ∀ y ∈ d.queue, OutR w y.rule) (ht : d.table.length ≤ 9223372036854775807) (hq : d.queue.length ≤ 9223372036854775807) (hl : RdS w NoM 1 EByte lv l) (hl9 : ∀ n ∈ l, n ≤ 255) (hln : l.length ≤ 9223372036854775807) :
    Calls Try.prog 3 #[.agg (devC d ta tc qa qc da dc la lc), lv] w fun e w' => e = .returned (.bool true) ∧ Kept NoM w w' := by
  have RR0 := Lib.hid h
  obtain ⟨pa, pc, rfl, _, _⟩ := hl.shape
  have HPK := Lib.hid (fun wx (k : Kept NoM w wx) => hl.kept k.of_no (M := NoM) (fun _ _ x => x))
  have HP9 := Lib.hid hl9
  clear hl hl9
  have K0 := ((Kept.refl NoM w).alloc (.cells (devC d ta tc qa qc da dc la lc) 27))
  have HD := Lib.hid (blk_new w (.cells (devC d ta tc qa qc da dc la lc) 27))
  have KW := Lib.hid K0
  have RR := Lib.hid (h.kept K0.of_no)
  have OT := Lib.hid (fun wx (k : Kept NoM w wx) r hr => (hot r hr).kept k)
  have OQ := Lib.hid (fun wx (k : Kept NoM w wx) y hy => (hoq y hy).kept k)
  clear K0 h hot hoq
  go_enter Try.func3, Try.ntmps3
  go_wp2_with fail
  refine (sanity_ok _).mono ?_
  rintro e w1 ⟨rfl, kk⟩
  replace HD := Lib.hid (kk.blk HD.out (fun x => x))
  replace RR := Lib.hid (RR.out.kept kk)
  replace KW := Lib.hid (KW.out.trans kk)
  clear kk
  go_wp2_with (first
        | (refine wpList_load_big bigDev rfl _ rfl w.heap.size 0 (devC d ta tc qa qc da dc la lc) rfl (range_blk HD.out) rfl ?_))
  refine (right2_ok d ta qa da la tc qc dc lc NoM w w1 KW.out RR.out (OT.out _ (Kept.refl _ _)) (OQ.out _ (Kept.refl _ _)) ht hq).mono ?_
  rintro e w2 ⟨b1, rfl, hb1, kk⟩
  clear OT OQ
  replace HD := Lib.hid (kk.blk HD.out (fun x => x))
  replace RR := Lib.hid (RR.out.kept kk)
  replace KW := Lib.hid (KW.out.trans kk)
  clear kk
  rcases b1 with _ | _
  · go_wp2_with fail
    go_ret
    exact ⟨rfl, KW.out⟩
  obtain ⟨⟨hfew, hdb⟩, R⟩ := hb1 rfl
  have HB := Lib.hid hdb
  have RDD := Lib.hid R
  have FW : Hid (Few d) := Lib.hid ⟨by omega, by omega, by omega⟩
  have HFEW := Lib.hid hfew
  clear hb1 hdb R hfew
  have HBW : Hid (∀ wx, Kept NoM w wx → ∀ r, (r ∈ d.table ∨ ∃ y ∈ d.queue, r = y.rule) → OutB wx r) := Lib.hid (fun wx k r hr => by rcases hr with h | ⟨y, hy, e⟩; exact (HB.out.t r h).kept k; rw [e]; exact (HB.out.q y hy).kept k)
  clear HB
  have y5 := cell_blk HD.out 5 _ dv5
  by_cases hl0 : d.lost.length = 0
  rotate_left
  · have f0 : (0 : Int) < d.lost.length := by omega
    go_wp2_with fail
    go_ret
    exact ⟨rfl, KW.out⟩
  rw [hl0] at y5
  go_wp2_with (first
        | (refine wpList_load_bigG bigDev (by rfl) _ rfl w.heap.size 0 (devC d ta tc qa qc da dc la lc) rfl (range_blk HD.out) rfl ?_))
  clear y5
  refine (room_ok d ta qa da la tc qc dc lc NoM w2 RR.out (by have := RDD.out.ql; omega) FW.out.t).mono ?_
  rintro e w3 ⟨rfl, kk⟩
  replace HD := Lib.hid (kk.blk HD.out (fun x => x))
  replace RR := Lib.hid (RR.out.kept kk)
  replace KW := Lib.hid (KW.out.trans kk)
  clear kk
  by_cases hroom : ((d.table.length + nP d.queue : Nat) : Int) ≤ d.room
  rotate_left
  · have f1 := decide_eq_false hroom
    rw [f1]
    go_wp2_with fail
    go_ret
    exact ⟨rfl, KW.out⟩
  rw [decide_eq_true hroom]
  have hlost : d.lost = [] := List.eq_nil_of_length_eq_zero hl0
  have RM : Hid (Roomy d) := Lib.hid ⟨RDD.out, hlost, by have := hroom; omega⟩
  clear hroom hl0 hlost
  by_cases h100 : 100 < l.length
  · have f2 : (100 : Int) < l.length := by omega
    go_wp2_with fail
    go_ret
    exact ⟨rfl, KW.out⟩
  have f2 : ¬ (100 : Int) < l.length := by omega
  have y2 := cell_blk HD.out 2 _ dv2
  go_wp2_with fail
  clear y2 f2
  have RR2 : Hid (DevR w3 (fun i => i = w.heap.size) d ta tc qa qc da dc la lc) := Lib.hid ((RR0.out.mono (fun i hi q => by subst q; exact absurd hi (Nat.lt_irrefl _))).kept KW.out.of_no)
  clear RR0
  go_loopw [6, 7] (fun v i wr => ∃ (k : Nat) (wa : Option Addr) (wn wc : Nat), k ≤ d.queue.length ∧ i = .int .i64 k ∧ v = .slice wa wn wc ∧ Hid (RdS wr (fun i => i = w.heap.size) 23 ERu (.slice wa wn wc) (putsU d.table (d.queue.take k))) ∧ Hid (Kept NoM w3 wr) ∧ Hid (((putsU d.table (d.queue.take k)).length : Int) + (nP (d.queue.drop k) : Nat) ≤ d.room)) (fun _ i _ => d.queue.length - (intOf i).toNat)
  case atStart => exact ⟨0, ta, d.table.length, tc, Nat.zero_le _, rfl, rfl, Lib.hid RR2.out.rt, Lib.hid (Kept.refl _ _), Lib.hid RM.out.room⟩
  case round =>
    obtain ⟨k, wa, wn, wc, hk, rfl, rfl, HT, HK, HLR⟩ := hrel
    replace HD := Lib.hid (HK.out.blk HD.out (fun x => x))
    replace RR2 := Lib.hid (RR2.out.kept HK.out.of_no)
    replace KW := Lib.hid (KW.out.trans HK.out)
    have y3 := cell_blk HD.out 3 _ dv3
    by_cases hlt : k < d.queue.length
    · have hki : (k : Int) < d.queue.length := by omega
      obtain ⟨x, hx⟩ := getAt hlt
      obtain ⟨lb, lo, hle, _, hlc⟩ := wr_at RR2.out.rq hx
      have HLE := Lib.hid hle
      have HLC := Lib.hid (rangeAt_kept (M := NoM) hlc (Kept.refl _ _) (fun x => x))
      obtain ⟨hw, _, _⟩ := RDD.out.q x (List.mem_of_getElem? hx)
      have hr2 := HLR.out
      rw [nP_drop hx] at hr2
      obtain ⟨g1, g2, g3⟩ := put_room (formed_kind hw).1 hr2
      have HDT := Lib.hid (RDD.out.tab.dec.putsU (d.queue.take k))
      have HLN := Lib.hid (show ((putsU d.table (d.queue.take k)).length : Int) ≤ d.room by omega)
      have HL4 := Lib.hid (show (putsU d.table (d.queue.take k)).length ≤ 10000 by have := RDD.out.room; omega)
      have HP1 := Lib.hid (show putT (putsU d.table (d.queue.take k)) d.room x = putU (putsU d.table (d.queue.take k)) x from g2)
      have HP2 := Lib.hid g1
      have HP3 := Lib.hid (putsU_take (t := d.table) hx).symm
      have HG3 := Lib.hid g3
      clear hle hlc hx hw hr2 g1 g2 g3
      go_wp2_with fail
      refine wp_region_par 13 [] [] [] [] [] (fun wx => Kept NoM wr wx)
            [fun v _ => v = .slice wa wn wc, fun v _ => v = .pointer (some ⟨w.heap.size, 0, none⟩), fun v _ => v = .int .i64 d.room, fun v _ => v = .pointer (some ⟨w.heap.size, 3, none⟩), fun v _ => v = .slice (some ⟨lb, lo, none⟩) d.queue.length qc, fun v _ => v = .int .i64 k, fun v _ => v = .pointer (some ⟨lb, lo + k * 26, none⟩), fun v _ => v = .agg (wrC x), fun v wx => ∃ ta9 tc9, v = .tuple #[.slice ta9 (putsU d.table (d.queue.take (k + 1))).length tc9, .bool true] ∧ RdS wx (fun i => i = w.heap.size) 23 ERu (.slice ta9 (putsU d.table (d.queue.take (k + 1))).length tc9) (putsU d.table (d.queue.take (k + 1))), fun v wx => ∃ ta9 tc9, v = .tuple #[.slice ta9 (putsU d.table (d.queue.take (k + 1))).length tc9, .bool true] ∧ RdS wx (fun i => i = w.heap.size) 23 ERu (.slice ta9 (putsU d.table (d.queue.take (k + 1))).length tc9) (putsU d.table (d.queue.take (k + 1))), fun v wx => ∃ _ : Unit, RdS wx (fun i => i = w.heap.size) 23 ERu v (putsU d.table (d.queue.take (k + 1))), fun v _ => v = .bool true, fun v wx => ∃ _ : Unit, RdS wx (fun i => i = w.heap.size) 23 ERu v (putsU d.table (d.queue.take (k + 1)))] (by kernel_rfl) (by kernel_rfl) (by kernel_rfl) (Kept.refl NoM wr).drew (inits_nil) ?_ ?_
      · intro i hi9
        have hst := stab_all (posts := [fun v _ => v = .slice wa wn wc, fun v _ => v = .pointer (some ⟨w.heap.size, 0, none⟩), fun v _ => v = .int .i64 d.room, fun v _ => v = .pointer (some ⟨w.heap.size, 3, none⟩), fun v _ => v = .slice (some ⟨lb, lo, none⟩) d.queue.length qc, fun v _ => v = .int .i64 k, fun v _ => v = .pointer (some ⟨lb, lo + k * 26, none⟩), fun v _ => v = .agg (wrC x), fun v wx => ∃ ta9 tc9, v = .tuple #[.slice ta9 (putsU d.table (d.queue.take (k + 1))).length tc9, .bool true] ∧ RdS wx (fun i => i = w.heap.size) 23 ERu (.slice ta9 (putsU d.table (d.queue.take (k + 1))).length tc9) (putsU d.table (d.queue.take (k + 1))), fun v wx => ∃ ta9 tc9, v = .tuple #[.slice ta9 (putsU d.table (d.queue.take (k + 1))).length tc9, .bool true] ∧ RdS wx (fun i => i = w.heap.size) 23 ERu (.slice ta9 (putsU d.table (d.queue.take (k + 1))).length tc9) (putsU d.table (d.queue.take (k + 1))), fun v wx => ∃ _ : Unit, RdS wx (fun i => i = w.heap.size) 23 ERu v (putsU d.table (d.queue.take (k + 1))), fun v _ => v = .bool true, fun v wx => ∃ _ : Unit, RdS wx (fun i => i = w.heap.size) 23 ERu v (putsU d.table (d.queue.take (k + 1)))])        (stab_cons (stab_const _) (stab_cons (stab_const _) (stab_cons (stab_const _) (stab_cons (stab_const _) (stab_cons (stab_const _) (stab_cons (stab_const _) (stab_cons (stab_const _) (stab_cons (stab_const _) (stab_cons (fun _ _ _ k ⟨a, c, h1, h2⟩ => ⟨a, c, h1, h2.kept k.of_no (fun _ _ x => x)⟩) (stab_cons (fun _ _ _ k ⟨a, c, h1, h2⟩ => ⟨a, c, h1, h2.kept k.of_no (fun _ _ x => x)⟩) (stab_cons (fun _ _ _ k ⟨u, h⟩ => ⟨u, h.kept k.of_no (fun _ _ x => x)⟩) (stab_cons (stab_const _) (stab_cons (fun _ _ _ k ⟨u, h⟩ => ⟨u, h.kept k.of_no (fun _ _ x => x)⟩) stab_nil)))))))))))))
        have hist := init_stab (inits := []) (fun p h => by cases h)
        have HST := Lib.hid hst
        have HIST := Lib.hid hist
        clear hst hist
        rcases (show i = 0 ∨ i = 1 ∨ i = 2 ∨ i = 3 ∨ i = 4 ∨ i = 5 ∨ i = 6 ∨ i = 7 ∨ i = 8 ∨ i = 9 ∨ i = 10 ∨ i = 11 ∨ i = 12 by omega) with rfl | rfl | rfl | rfl | rfl | rfl | rfl | rfl | rfl | rfl | rfl | rfl | rfl
        · refine asks_intro ?_; intro o ho a wx hc hout hp hi R hR; cases ho
          have e6 : a.tmps[6]? = some (.slice wa wn wc) := hout 6 rfl
          go_simp
          exact hR _ _ hc rfl (fun _ _ _ _ _ u h => h) (fun _ _ h => h)
        · refine asks_intro ?_; intro o ho a wx hc hout hp hi R hR; cases ho
          have e2 : a.tmps[2]? = some (.pointer (some ⟨w.heap.size, 0, none⟩)) := hout 2 rfl
          go_simp
          exact hR _ _ hc rfl (fun _ _ _ _ _ u h => h) (fun _ _ h => h)
        · refine asks_intro ?_; intro o ho a wx hc hout hp hi R hR; cases ho
          have e50 : a.tmps[50]?.getD undef = .pointer (some ⟨w.heap.size, 0, none⟩) := hp 1 (by omega) rfl
          have y0 := cell_blk (hc.blk HD.out (fun x => x)) 0 _ dv0
          go_simp
          exact hR _ _ hc rfl (fun _ _ _ _ _ u h => h) (fun _ _ h => h)
        · refine asks_intro ?_; intro o ho a wx hc hout hp hi R hR; cases ho
          have e2 : a.tmps[2]? = some (.pointer (some ⟨w.heap.size, 0, none⟩)) := hout 2 rfl
          go_simp
          exact hR _ _ hc rfl (fun _ _ _ _ _ u h => h) (fun _ _ h => h)
        · refine asks_intro ?_; intro o ho a wx hc hout hp hi R hR; cases ho
          have e52 : a.tmps[52]?.getD undef = .pointer (some ⟨w.heap.size, 3, none⟩) := hp 3 (by omega) rfl
          have y3 := cell_blk (hc.blk HD.out (fun x => x)) 3 _ dv3
          rw [HLE.out] at y3
          go_simp
          exact hR _ _ hc rfl (fun _ _ _ _ _ u h => h) (fun _ _ h => h)
        · refine asks_intro ?_; intro o ho a wx hc hout hp hi R hR; cases ho
          have e7 : a.tmps[7]? = some (.int .i64 k) := hout 7 rfl
          go_simp
          exact hR _ _ hc rfl (fun _ _ _ _ _ u h => h) (fun _ _ h => h)
        · refine asks_intro ?_; intro o ho a wx hc hout hp hi R hR; cases ho
          have e53 : a.tmps[53]?.getD undef = .slice (some ⟨lb, lo, none⟩) d.queue.length qc := hp 4 (by omega) rfl
          have e54 : a.tmps[54]?.getD undef = .int .i64 k := hp 5 (by omega) rfl
          go_simp
          exact hR _ _ hc rfl (fun _ _ _ _ _ u h => h) (fun _ _ h => h)
        · refine asks_intro ?_; intro o ho a wx hc hout hp hi R hR; cases ho
          have e55 : a.tmps[55]?.getD undef = .pointer (some ⟨lb, lo + k * 26, none⟩) := hp 6 (by omega) rfl
          refine gives_load_big bigWr (.tmp 55) rfl lb (lo + k * 26) (wrC x) (by go_simp) (rangeAt_kept HLC.out hc (fun x => x)) rfl ?_
          exact hR _ _ hc rfl (fun _ _ _ _ _ u h => h) (fun _ _ h => h)
        · refine asks_intro ?_; intro o ho a wx hc hout hp hi R hR; cases ho
          have e49 : a.tmps[49]?.getD undef = .slice wa wn wc := hp 0 (by omega) rfl
          have e51 : a.tmps[51]?.getD undef = .int .i64 d.room := hp 2 (by omega) rfl
          have e56 : a.tmps[56]?.getD undef = .agg (wrC x) := hp 7 (by omega) rfl
          go_simp
          refine (put_ok _ (putsU d.table (d.queue.take k)) (fun i => i = w.heap.size) d.room x wx (HT.out.kept hc.of_no (fun _ _ x => x)) (fun i hi => Nat.lt_of_lt_of_le (by subst hi; exact lt_of_block HD.out) hc.size) HDT.out HLN.out HL4.out).mono ?_
          rw [HP1.out, HP2.out, HP3.out]
          rintro e w2 ⟨a9, c9, rfl, q1, q3⟩
          exact ⟨_, rfl, hR _ _ (hc.trans q3) ⟨a9, c9, rfl, q1⟩ (fun j _ _ _ _ u h => HST.out j u _ _ q3 h) (fun j _ h => HIST.out j _ _ q3 h)⟩
        · refine asks_intro ?_; intro o ho a wx hc hout hp hi R hR; cases ho
          obtain ⟨ta9, tc9, e57, q57⟩ : ∃ ta9 tc9, (a.tmps[57]?.getD undef) = .tuple #[.slice ta9 (putsU d.table (d.queue.take (k + 1))).length tc9, .bool true] ∧ RdS wx (fun i => i = w.heap.size) 23 ERu (.slice ta9 (putsU d.table (d.queue.take (k + 1))).length tc9) (putsU d.table (d.queue.take (k + 1))) := hp 8 (by omega) rfl
          go_simp
          exact hR _ _ hc ⟨ta9, tc9, rfl, q57⟩ (fun _ _ _ _ _ u h => h) (fun _ _ h => h)
        · refine asks_intro ?_; intro o ho a wx hc hout hp hi R hR; cases ho
          obtain ⟨ta9, tc9, e48, q48⟩ : ∃ ta9 tc9, (a.tmps[48]?.getD undef) = .tuple #[.slice ta9 (putsU d.table (d.queue.take (k + 1))).length tc9, .bool true] ∧ RdS wx (fun i => i = w.heap.size) 23 ERu (.slice ta9 (putsU d.table (d.queue.take (k + 1))).length tc9) (putsU d.table (d.queue.take (k + 1))) := hp 9 (by omega) rfl
          go_simp
          exact hR _ _ hc ⟨(), q48⟩ (fun _ _ _ _ _ u h => h) (fun _ _ h => h)
        · refine asks_intro ?_; intro o ho a wx hc hout hp hi R hR; cases ho
          obtain ⟨ta9, tc9, e48, q48⟩ : ∃ ta9 tc9, (a.tmps[48]?.getD undef) = .tuple #[.slice ta9 (putsU d.table (d.queue.take (k + 1))).length tc9, .bool true] ∧ RdS wx (fun i => i = w.heap.size) 23 ERu (.slice ta9 (putsU d.table (d.queue.take (k + 1))).length tc9) (putsU d.table (d.queue.take (k + 1))) := hp 9 (by omega) rfl
          go_simp
          exact hR _ _ hc rfl (fun _ _ _ _ _ u h => h) (fun _ _ h => h)
        · refine asks_intro ?_; intro o ho a wx hc hout hp hi R hR; cases ho
          obtain ⟨_, q58⟩ : ∃ _ : Unit, RdS wx (fun i => i = w.heap.size) 23 ERu (a.tmps[58]?.getD undef) (putsU d.table (d.queue.take (k + 1))) := hp 10 (by omega) rfl
          go_simp
          exact hR _ _ hc ⟨(), q58⟩ (fun _ _ _ _ _ u h => h) (fun _ _ h => h)
      · intro vs w' hc hp
        have e59 : vs 11 = .bool true := hp 11 (by omega) rfl
        obtain ⟨_, q8⟩ : ∃ _ : Unit, RdS w' (fun i => i = w.heap.size) 23 ERu (vs 12) (putsU d.table (d.queue.take (k + 1))) := hp 12 (by omega) rfl
        simp only [List.take_succ_cons, List.take_zero, List.drop_succ_cons, List.drop_zero, putAll, Act.put, List.setIfInBounds_toArray, List.set_cons_zero, List.set_cons_succ, Nat.reduceAdd, e59]
        have kk := hc
        generalize vs 12 = v9 at *
        have q9 := q8
        obtain ⟨wa9, wc9, hv9, _, _⟩ := q9.shape
        subst hv9
        change wpList _ _ _ _ _ _
        clear hp q8
        generalize w' = wz at *
        go_wp2_with fail
        go_roundw
        case rel => exact ⟨k + 1, wa9, _, wc9, by omega, by go_num, rfl, Lib.hid q9, Lib.hid (HK.out.trans kk), Lib.hid (by rw [← HP3.out]; exact HG3.out)⟩
        case measure => simp [intOf]; omega
    · obtain rfl : k = d.queue.length := by omega
      have f3 := decide_eq_false (show ¬ ((d.queue.length : Nat) : Int) < d.queue.length by omega)
      have f4 := decide_eq_false (show ¬ d.queue.length < d.queue.length by omega)
      have y4 := cell_blk HD.out 4 _ dv4
      have hw3 : IntKind.i64.wrap ((d.done.length : Int) + d.queue.length) = (d.done.length : Int) + d.queue.length := IntWalk.i64_in _ (by have := HFEW.out; omega)
      have hfull := HT.out
      rw [List.take_length] at hfull
      have HT2 := Lib.hid hfull
      clear hfull HT HLR
      go_wp2_with fail
      obtain ⟨w8, rfl⟩ : ∃ z, z = wr := ⟨_, rfl⟩
      go_loopw [12] (fun i wy => ∃ (j : Nat) (f : Dev) (ua : Option Addr) (uc : Nat) (va : Option Addr) (vc : Nat) (xa : Option Addr) (xc : Nat) (ya : Option Addr) (yc : Nat), j ≤ d.queue.length ∧ i = .int .i64 j ∧ Hid (wy.heap[w.heap.size]? = some (.cells (devC f ua uc va vc xa xc ya yc) 27 (0, 0))) ∧ Hid (DevR wy (fun i => i = w.heap.size) f ua uc va vc xa xc ya yc) ∧ Hid (Roomy f) ∧ Hid (putsU f.table f.queue = putsU d.table d.queue) ∧ Hid (f.done.length = d.done.length + j ∧ f.queue.length + j = d.queue.length ∧ f.table.length ≤ 40 + j) ∧ Hid (Kept (fun i => i = w.heap.size) w8 wy)) (fun i _ => d.queue.length - (intOf i).toNat)
      case atStart => exact ⟨0, d, ta, tc, qa, qc, da, dc, la, lc, Nat.zero_le _, rfl, HD, RR2, RM, Lib.hid rfl, Lib.hid ⟨rfl, rfl, by have := HFEW.out; omega⟩, Lib.hid (Kept.refl _ _)⟩
      case round =>
        obtain ⟨j, f, ua, uc, va, vc, xa, xc, ya, yc, hj, rfl, GD, GR, GM, GP, GN, GK⟩ := hrel
        clear HD RR2 RR RM y3 y4 f3 f4
        have GW : Hid (Kept NoM w wr) := Lib.hid (KW.out.trans' GK.out (fun i hi q => by subst q; exact absurd hi (Nat.lt_irrefl _)))
        have hlD := lt_of_block GD.out
        by_cases hlt2 : j < d.queue.length
        · have hji : (j : Int) < d.queue.length := by omega
          have GF : Hid (Few f) := Lib.hid ⟨by have := GN.out; have := RDD.out.ql; omega, by have := GN.out; have := HFEW.out; have := RDD.out.ql; omega, by rw [GM.out.lost]; simp⟩
          have hrl : 0 < (rdyTo f.queue f.queue.length).length := by have := rdyL_ne (q := f.queue) (by have := GN.out; omega); unfold rdyTo; rw [List.length_map]; exact this
          have hrm := rdyTo_len f.queue f.queue.length
          have hfq := GM.out.rd.ql
          go_wp2_with (refine wpList_load_big bigDev rfl _ rfl w.heap.size 0 (devC f ua uc va vc xa xc ya yc) rfl (range_blk GD.out) rfl ?_)
          refine (ready_ok f ua va xa ya uc vc xc yc (fun i => i = w.heap.size) wr GR.out.rq (by omega) (fun y hy => by have := formed_pri (GM.out.rd.q y hy).1; omega)).mono ?_
          rintro e w1 ⟨ra, rn, rc, RO, rfl, ho, hno, kk⟩
          obtain ⟨ra', rc', er, _, _, _, _⟩ := ho.shape
          simp only [Value.slice.injEq] at er
          obtain ⟨rfl, rfl, rfl⟩ := er
          have RL := Lib.hid (ho.rd (M := NoM) (fun _ _ x => x))
          clear ho hno
          have GW1 := Lib.hid (GW.out.trans kk)
          have GD1 := Lib.hid (kk.blk GD.out (fun x => x))
          have GR1 := Lib.hid (GR.out.kept kk.of_no)
          have GK1 := Lib.hid (GK.out.trans kk.of_no)
          obtain ⟨k0, hk0⟩ := getAt (xs := (rdyTo f.queue f.queue.length)) (k := 0) hrl
          obtain ⟨rb, ro, er0, c0⟩ := int_at RL.out hk0
          rw [Nat.add_zero] at c0
          have ER := Lib.hid er0
          have f5 : ((((rdyTo f.queue f.queue.length).length : Nat) : Int) == 0) = false := by simp; intro hh; rw [hh] at hrl; simp at hrl
          have f6 : (0 : Int) < (((rdyTo f.queue f.queue.length).length : Nat) : Int) := by omega
          subst er0
          clear GW GD GR GK kk
          by_cases hp : j < l.length
          · have hpi : (j : Int) < l.length := by omega
            obtain ⟨p, hpp⟩ := getAt hp
            obtain ⟨pb, po, ep, c1⟩ := byte_at (HPK.out _ GW1.out) hpp
            subst ep
            have hpl2 := Nat.mod_lt p hrl
            obtain ⟨k1, hk1⟩ := getAt (xs := (rdyTo f.queue f.queue.length)) (k := p % (rdyTo f.queue f.queue.length).length) hpl2
            obtain ⟨rb', ro', er1, c2⟩ := int_at RL.out hk1
            simp only [Option.some.injEq, Addr.mk.injEq, and_true] at er1
            obtain ⟨rfl, rfl⟩ := er1
            obtain ⟨kn, y, ekn, hqy, hry⟩ := rdyTo_inv (hasI_iff.2 (List.mem_of_getElem? hk1))
            have HQ := Lib.hid hqy
            have HRY := Lib.hid hry
            rw [ekn] at c2
            have hp255 := HP9.out p (List.mem_of_getElem? hpp)
            have g7 : ((p % (rdyTo f.queue f.queue.length).length : Nat) : Int) < (((rdyTo f.queue f.queue.length).length : Nat) : Int) := by omega
            clear hqy hry hk1 hk0 hpp hpl2
            go_wp2_with (refine wpList_load_big bigDev rfl _ rfl w.heap.size 0 (devC f ua uc va vc xa xc ya yc) rfl (range_blk GD1.out) rfl ?_)
            refine (do_ok _ f kn y (fun i => i = w.heap.size) w1 ⟨_, _, _, _, _, _, _, _, rfl, GR1.out⟩ (fun i q => by have := lt_of_block GD1.out; subst q; exact this) GM.out.rd GF.out HQ.out HRY.out).mono ?_
            rintro e w5 ⟨v7, av7, rfl, dd7, aa7, kk⟩
            obtain ⟨ta5, tc5, qa5, qc5, da5, dc5, la5, lc5, rfl, r7⟩ := dd7
            clear aa7
            have k5 := (Kept.refl NoM w5).alloc (.cells (devC (doW f kn y) ta5 tc5 qa5 qc5 da5 dc5 la5 lc5) 27)
            have k15 := kk.trans k5
            have HN5 := Lib.hid (blk_new w5 (.cells (devC (doW f kn y) ta5 tc5 qa5 qc5 da5 dc5 la5 lc5) 27))
            have RN5 := Lib.hid (r7.kept k5.of_no)
            have HD5 := Lib.hid (k15.blk GD1.out (fun x => x))
            have KP5 := Lib.hid ((Kept.refl (fun i => i = w.heap.size) (w5.alloc (.cells (devC (doW f kn y) ta5 tc5 qa5 qc5 da5 dc5 la5 lc5) 27))).putM (b := w.heap.size) rfl (devC (doW f kn y) ta5 tc5 qa5 qc5 da5 dc5 la5 lc5) 27)
            have HP5 := Lib.hid (putB_blk (w5.alloc (.cells (devC (doW f kn y) ta5 tc5 qa5 qc5 da5 dc5 la5 lc5) 27)) w.heap.size (devC (doW f kn y) ta5 tc5 qa5 qc5 da5 dc5 la5 lc5) 27 (lt_of_block HD5.out))
            have RP5 := Lib.hid (RN5.out.kept KP5.out)
            have KK5 := Lib.hid ((GK1.out.trans k15.of_no).trans KP5.out)
            clear kk k5 k15 r7
            obtain ⟨s1, s2, s3, s4⟩ := GM.out.step HQ.out
            obtain ⟨t1, t2, t3⟩ := GM.out.play HQ.out HRY.out
            have hpl := len_putU f.table y
            go_wp2_with (first | (refine wpList_alloc_Z rfl 27 rfl _ (devZ _) ?_) | (refine wpList_store_bign (cs := devC (doW f kn y) ta5 tc5 qa5 qc5 da5 dc5 la5 lc5) bigDev rfl _ _ rfl _ rfl rfl rfl rfl rfl (dev1 _ _ _ _ _ _ _ _ _) ?_) | (refine wpList_load_big bigDev rfl _ rfl w5.heap.size 0 (devC (doW f kn y) ta5 tc5 qa5 qc5 da5 dc5 la5 lc5) rfl (range_blk HN5.out) rfl ?_) | (refine wpList_store_bigb (cs := devC (doW f kn y) ta5 tc5 qa5 qc5 da5 dc5 la5 lc5) bigDev rfl _ _ rfl w.heap.size rfl rfl HD5.out rfl rfl (dev1 _ _ _ _ _ _ _ _ _) ?_))
            go_roundw
            case rel => exact ⟨j + 1, (doW f kn y), ta5, tc5, qa5, qc5, da5, dc5, la5, lc5, by omega, by go_num, HP5, RP5, Lib.hid s1, Lib.hid (t1.trans GP.out), Lib.hid ⟨by have := GN.out; omega, by have := GN.out; omega, by rw [s3]; have := GN.out; have h2 : (if y.kind = 3 then 0 else if y.kind = 2 then 0 else 1 : Nat) ≤ 1 := (by split <;> (try split) <;> omega); omega⟩, KK5⟩
            case measure => simp [intOf]; omega
          · have hpi : ¬ (j : Int) < l.length := by omega
            obtain ⟨kn, y, ekn, hqy, hry⟩ := rdyTo_inv (hasI_iff.2 (List.mem_of_getElem? hk0))
            have HQ := Lib.hid hqy
            have HRY := Lib.hid hry
            rw [ekn] at c0
            clear hqy hry hk0
            go_wp2_with (refine wpList_load_big bigDev rfl _ rfl w.heap.size 0 (devC f ua uc va vc xa xc ya yc) rfl (range_blk GD1.out) rfl ?_)
            refine (do_ok _ f kn y (fun i => i = w.heap.size) w1 ⟨_, _, _, _, _, _, _, _, rfl, GR1.out⟩ (fun i q => by have := lt_of_block GD1.out; subst q; exact this) GM.out.rd GF.out HQ.out HRY.out).mono ?_
            rintro e w5 ⟨v7, av7, rfl, dd7, aa7, kk⟩
            obtain ⟨ta5, tc5, qa5, qc5, da5, dc5, la5, lc5, rfl, r7⟩ := dd7
            clear aa7
            have k5 := (Kept.refl NoM w5).alloc (.cells (devC (doW f kn y) ta5 tc5 qa5 qc5 da5 dc5 la5 lc5) 27)
            have k15 := kk.trans k5
            have HN5 := Lib.hid (blk_new w5 (.cells (devC (doW f kn y) ta5 tc5 qa5 qc5 da5 dc5 la5 lc5) 27))
            have RN5 := Lib.hid (r7.kept k5.of_no)
            have HD5 := Lib.hid (k15.blk GD1.out (fun x => x))
            have KP5 := Lib.hid ((Kept.refl (fun i => i = w.heap.size) (w5.alloc (.cells (devC (doW f kn y) ta5 tc5 qa5 qc5 da5 dc5 la5 lc5) 27))).putM (b := w.heap.size) rfl (devC (doW f kn y) ta5 tc5 qa5 qc5 da5 dc5 la5 lc5) 27)
            have HP5 := Lib.hid (putB_blk (w5.alloc (.cells (devC (doW f kn y) ta5 tc5 qa5 qc5 da5 dc5 la5 lc5) 27)) w.heap.size (devC (doW f kn y) ta5 tc5 qa5 qc5 da5 dc5 la5 lc5) 27 (lt_of_block HD5.out))
            have RP5 := Lib.hid (RN5.out.kept KP5.out)
            have KK5 := Lib.hid ((GK1.out.trans k15.of_no).trans KP5.out)
            clear kk k5 k15 r7
            obtain ⟨s1, s2, s3, s4⟩ := GM.out.step HQ.out
            obtain ⟨t1, t2, t3⟩ := GM.out.play HQ.out HRY.out
            have hpl := len_putU f.table y
            go_wp2_with (first | (refine wpList_alloc_Z rfl 27 rfl _ (devZ _) ?_) | (refine wpList_store_bign (cs := devC (doW f kn y) ta5 tc5 qa5 qc5 da5 dc5 la5 lc5) bigDev rfl _ _ rfl _ rfl rfl rfl rfl rfl (dev1 _ _ _ _ _ _ _ _ _) ?_) | (refine wpList_load_big bigDev rfl _ rfl w5.heap.size 0 (devC (doW f kn y) ta5 tc5 qa5 qc5 da5 dc5 la5 lc5) rfl (range_blk HN5.out) rfl ?_) | (refine wpList_store_bigb (cs := devC (doW f kn y) ta5 tc5 qa5 qc5 da5 dc5 la5 lc5) bigDev rfl _ _ rfl w.heap.size rfl rfl HD5.out rfl rfl (dev1 _ _ _ _ _ _ _ _ _) ?_))
            go_roundw
            case rel => exact ⟨j + 1, (doW f kn y), ta5, tc5, qa5, qc5, da5, dc5, la5, lc5, by omega, by go_num, HP5, RP5, Lib.hid s1, Lib.hid (t1.trans GP.out), Lib.hid ⟨by have := GN.out; omega, by have := GN.out; omega, by rw [s3]; have := GN.out; have h2 : (if y.kind = 3 then 0 else if y.kind = 2 then 0 else 1 : Nat) ≤ 1 := (by split <;> (try split) <;> omega); omega⟩, KK5⟩
            case measure => simp [intOf]; omega
        · obtain rfl : j = d.queue.length := by omega
          have f3 := decide_eq_false (show ¬ ((d.queue.length : Nat) : Int) < d.queue.length by omega)
          have f4 := decide_eq_false (show ¬ d.queue.length < d.queue.length by omega)
          have hfq0 : f.queue = [] := List.eq_nil_of_length_eq_zero (by have := GN.out; omega)
          have hfd := GN.out.1
          have hft := GP.out
          rw [hfq0] at hft
          have GT : Hid (f.table = putsU d.table d.queue) := Lib.hid hft
          have y3 : wr.cell? ⟨w.heap.size, 3, none⟩ = some (.slice va 0 vc) := by have hy := cell_blk GD.out 3 _ dv3; rw [hfq0] at hy; exact hy
          have y4 := cell_blk GD.out 4 _ dv4
          rw [hfd] at y4
          have y2 := cell_blk GD.out 2 _ dv2
          have HS := Lib.hid (rtsame_ok (.slice ua f.table.length uc) (.slice wa wn wc) (putsU d.table d.queue) (fun i => i = w.heap.size) (fun i => i = w.heap.size) wr (by have := GR.out.rt; rw [GT.out] at this ⊢; exact this) (HT2.out.kept GK.out (fun _ _ x => x)) (by rw [← GT.out]; have := GN.out; have := RDD.out.ql; omega) (fun r hr => by rcases mem_putsU hr with h | ⟨z, hz, e⟩; exact HBW.out _ GW.out r (.inl h); exact HBW.out _ GW.out r (.inr ⟨z, hz, e⟩)))
          go_wp2_with (go_at_call 15; refine HS.out.mono ?_; rintro e w9 ⟨rfl, kk⟩; have KF := Lib.hid (GW.out.trans kk); clear kk)
          go_ret
          exact ⟨rfl, KF.out⟩
end Go.Proofs.Ytghgegghlefclaa
