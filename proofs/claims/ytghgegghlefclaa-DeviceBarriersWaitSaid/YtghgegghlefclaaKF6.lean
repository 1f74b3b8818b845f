/- Walks: the law DeviceBarriersWait. -/
import Derived.Test.YtghgegghlefclaaKW46
import Derived.Test.YtghgegghlefclaaKW42
import Derived.Test.YtghgegghlefclaaKW20
set_option linter.unusedVariables false
set_option linter.unusedSimpArgs false
set_option linter.unusedSectionVars false
namespace Go.Proofs.Ytghgegghlefclaa
open Go.RowKit
set_option maxHeartbeats 4000000
set_option maxRecDepth 8000
theorem barrier_ok (d : Dev) (l : List Nat) (lv : Value) (ta qa da la : Option Addr) (tc qc dc lc : Nat) (w : World) (h : DevR w NoM d ta tc qa qc da dc la lc) (hot : ∀ r ∈ d.table, OutR w r) (hoq : ∀ y ∈ d.queue, OutR w y.rule) (ht : d.table.length ≤ 9223372036854775807) (hq : d.queue.length ≤ 9223372036854775807) (hl : RdS w NoM 1 EByte lv l) (hl9 : ∀ n ∈ l, n ≤ 255) (hln : l.length ≤ 9223372036854775807) :
    Calls Try.prog 6 #[.agg (devC d ta tc qa qc da dc la lc), lv] w fun e w' => e = .returned (.bool true) ∧ Kept NoM w w' := by
  have RR0 := Lib.hid h
  obtain ⟨pa, pc, rfl, _, _⟩ := hl.shape
  have HPK := Lib.hid (fun wx (k : Kept NoM w wx) => hl.kept k.of_no (M := NoM) (fun _ _ x => x))
  have HP9 := Lib.hid hl9
  clear hl hl9
  have K0 := ((Kept.refl NoM w).alloc (.cells (devC d ta tc qa qc da dc la lc) 27))
  have HD := Lib.hid (blk_new w (.cells (devC d ta tc qa qc da dc la lc) 27))
  have KW := Lib.hid K0
  have RR := Lib.hid (h.kept K0.of_no)
  have OT := Lib.hid (fun wx (k : Kept NoM w wx) r hr => (hot r hr).kept k)
  have OQ := Lib.hid (fun wx (k : Kept NoM w wx) y hy => (hoq y hy).kept k)
  clear K0 h hot hoq
  go_enter Try.func6, Try.ntmps6
  go_wp2_with fail
  refine (sanity_ok _).mono ?_
  rintro e w1 ⟨rfl, kk⟩
  replace HD := Lib.hid (kk.blk HD.out (fun x => x))
  replace RR := Lib.hid (RR.out.kept kk)
  replace KW := Lib.hid (KW.out.trans kk)
  clear kk
  go_wp2_with (first
        | (refine wpList_load_big bigDev rfl _ rfl w.heap.size 0 (devC d ta tc qa qc da dc la lc) rfl (range_blk HD.out) rfl ?_))
  refine (right2_ok d ta qa da la tc qc dc lc NoM w w1 KW.out RR.out (OT.out _ (Kept.refl _ _)) (OQ.out _ (Kept.refl _ _)) ht hq).mono ?_
  rintro e w2 ⟨b1, rfl, hb1, kk⟩
  clear OT OQ
  replace HD := Lib.hid (kk.blk HD.out (fun x => x))
  replace RR := Lib.hid (RR.out.kept kk)
  replace KW := Lib.hid (KW.out.trans kk)
  clear kk
  rcases b1 with _ | _
  · go_wp2_with fail
    go_ret
    exact ⟨rfl, KW.out⟩
  obtain ⟨⟨hfew, hdb⟩, R⟩ := hb1 rfl
  have HB := Lib.hid hdb
  have RDD := Lib.hid R
  have FW : Hid (Few d) := Lib.hid ⟨by omega, by omega, by omega⟩
  have HFEW := Lib.hid hfew
  clear hb1 hdb R hfew
  have HBW : Hid (∀ wx, Kept NoM w wx → ∀ r, (r ∈ d.table ∨ ∃ y ∈ d.queue, r = y.rule) → OutB wx r) := Lib.hid (fun wx k r hr => by rcases hr with h | ⟨y, hy, e⟩; exact (HB.out.t r h).kept k; rw [e]; exact (HB.out.q y hy).kept k)
  clear HB
  have y1 := cell_blk HD.out 1 _ dv1
  by_cases h40 : 40 < l.length
  · have f2 : (40 : Int) < l.length := by omega
    go_wp2_with fail
    go_ret
    exact ⟨rfl, KW.out⟩
  have f2 : decide ((40 : Int) < l.length) = false := decide_eq_false (by omega)
  have f3 : decide (40 < l.length) = false := decide_eq_false (by omega)
  have H40 := Lib.hid h40
  clear h40
  by_cases hep : d.ep < 1
  · go_wp2_with fail
    go_ret
    exact ⟨rfl, KW.out⟩
  have f4 : decide (d.ep < 1) = false := decide_eq_false hep
  clear hep
  go_wp2_with (first
        | (refine wpList_alloc_Z rfl 27 rfl _ (devZ _) ?_)
        | (refine wpList_load_big bigDev rfl _ rfl w.heap.size 0 (devC d ta tc qa qc da dc la lc) rfl (range_blk HD.out) rfl ?_)
        | (refine wpList_store_bign (cs := devC d ta tc qa qc da dc la lc) bigDev rfl _ _ rfl _ rfl rfl rfl rfl rfl (dev1 _ _ _ _ _ _ _ _ _) ?_))
  clear y1 f2 f3 f4
  have kk := (Kept.refl NoM w2).alloc (.cells (devC d ta tc qa qc da dc la lc) 27)
  have HS := Lib.hid (blk_new w2 (.cells (devC d ta tc qa qc da dc la lc) 27))
  have hDS := lt_of_block HD.out
  replace HD := Lib.hid (kk.blk HD.out (fun x => x))
  replace RR := Lib.hid (RR.out.kept kk)
  replace KW := Lib.hid (KW.out.trans kk)
  clear kk
  generalize w2.heap.size = BS at *
  generalize w2.alloc (.cells (devC d ta tc qa qc da dc la lc) 27) = w8 at *
  have RR2 : Hid (DevR w8 (MY w.heap.size none none) d ta tc qa qc da dc la lc) := Lib.hid ((RR0.out.mono (fun i hi q => by rcases q with q | q | q; exact absurd (q ▸ hi) (Nat.lt_irrefl _); cases q; cases q)).kept KW.out.of_no)
  go_loopw [7, 8, 9] (fun o v i wy => ∃ (j : Nat) (f : Dev) (ua : Option Addr) (uc : Nat) (va : Option Addr) (vc : Nat) (xa : Option Addr) (xc : Nat) (ya : Option Addr) (yc : Nat) (ol : List Wr) (al : List Ak) (oa : Option Addr) (on oc : Nat) (ka : Option Addr) (kn kc : Nat) (P Q : Option Nat), j ≤ l.length ∧ i = .int .i64 j ∧ o = .slice oa on oc ∧ v = .slice ka kn kc ∧ ol.length = on ∧ al.length = kn ∧ on ≤ j ∧ kn ≤ j ∧ Hid (wy.heap[w.heap.size]? = some (.cells (devC f ua uc va vc xa xc ya yc) 27 (0, 0))) ∧ Hid (wy.heap[BS]? = some (.cells (devC d ta tc qa qc da dc la lc) 27 (0, 0))) ∧ Hid (DevR wy (MY w.heap.size P Q) f ua uc va vc xa xc ya yc) ∧ Hid (RD f) ∧ Hid (Went d f ol al) ∧ Hid (f.table.length ≤ 40 + j ∧ f.done.length ≤ 100 + j ∧ f.lost = d.lost ∧ (∀ r ∈ f.table, r ∈ d.table ∨ ∃ y ∈ d.queue, r = y.rule) ∧ (∀ y ∈ f.queue, y ∈ d.queue)) ∧ Hid (OwnS wy P 41 26 EWr (.slice oa on oc) ol) ∧ Hid (OwnS wy Q 60 3 EAk (.slice ka kn kc) al) ∧ Hid (∀ g, P = some g → BS < g ∧ Q ≠ some g) ∧ Hid (∀ g, Q = some g → BS < g) ∧ Hid (Kept NoM w wy)) (fun _ _ i _ => l.length - (intOf i).toNat)
  case atStart => exact ⟨0, d, ta, tc, qa, qc, da, dc, la, lc, [], [], none, 0, 0, none, 0, 0, none, none, Nat.zero_le _, rfl, rfl, rfl, rfl, rfl, Nat.zero_le _, Nat.zero_le _, HD, HS, RR2, RDD, Lib.hid ⟨rfl, fun h1 h2 => ⟨h1, h2, rfl, rfl⟩⟩, Lib.hid ⟨by have := HFEW.out; omega, by have := HFEW.out; omega, rfl, fun r hr => .inl hr, fun y hy => hy⟩, Lib.hid (OwnS.nil _ _ _ _), Lib.hid (OwnS.nil _ _ _ _), Lib.hid (fun g hg => by cases hg), Lib.hid (fun g hg => by cases hg), KW⟩
  case round =>
    obtain ⟨j, f, ua, uc, va, vc, xa, xc, ya, yc, ol, al, oa, on, oc, ka, kn0, kc, P, Q, hj, rfl, rfl, rfl, hon, hkn, hoj, hkj, GD, GS, GR, GRD, GWT, GN, GO, GA, GP, GQ, GW⟩ := hrel
    clear HD HS RR2 RR KW
    have hlS := lt_of_block GS.out
    have y3 := cell_blk GD.out 3 _ dv3
    by_cases hgo : j < l.length ∧ 0 < f.queue.length
    · obtain ⟨hlt2, hq0⟩ := hgo
      have hji : (j : Int) < l.length := by omega
      have hqi : (0 : Int) < f.queue.length := by omega
      have GF : Hid (Few f) := Lib.hid ⟨by have := GN.out.1; have := H40.out; omega, by have := GN.out.2.1; have := H40.out; omega, by rw [GN.out.2.2.1]; have := HFEW.out; omega⟩
      have hrl : 0 < (rdyTo f.queue f.queue.length).length := by have := rdyL_ne (q := f.queue) hq0; unfold rdyTo; rw [List.length_map]; exact this
      have hrm := rdyTo_len f.queue f.queue.length
      have hfq := GRD.out.ql
      go_wp2_with (refine wpList_load_big bigDev rfl _ rfl w.heap.size 0 (devC f ua uc va vc xa xc ya yc) rfl (range_blk GD.out) rfl ?_)
      refine (ready_ok f ua va xa ya uc vc xc yc (MY w.heap.size P Q) wr GR.out.rq (by omega) (fun y hy => by have := formed_pri (GRD.out.q y hy).1; omega)).mono ?_
      rintro e w1 ⟨ra, rn, rc, RO, rfl, ho, hno, kk⟩
      obtain ⟨ra', rc', er, _, _, _, _⟩ := ho.shape
      simp only [Value.slice.injEq] at er
      obtain ⟨rfl, rfl, rfl⟩ := er
      have RL := Lib.hid (ho.rd (M := NoM) (fun _ _ x => x))
      clear ho hno y3
      replace GD := Lib.hid (kk.blk GD.out (fun x => x))
      replace GS := Lib.hid (kk.blk GS.out (fun x => x))
      replace GR := Lib.hid (GR.out.kept kk.of_no)
      replace GO := Lib.hid (GO.out.kept kk (fun _ _ x => x) (fun _ _ x => x))
      replace GA := Lib.hid (GA.out.kept kk (fun _ _ x => x) (fun _ _ x => x))
      replace GW := Lib.hid (GW.out.trans kk)
      clear kk
      obtain ⟨p, hpp⟩ := getAt hlt2
      obtain ⟨pb, po, ep, c1⟩ := byte_at (HPK.out _ GW.out) hpp
      subst ep
      have hpl2 := Nat.mod_lt p hrl
      obtain ⟨k1, hk1⟩ := getAt (xs := (rdyTo f.queue f.queue.length)) (k := p % (rdyTo f.queue f.queue.length).length) hpl2
      obtain ⟨rb, ro, er0, c2⟩ := int_at RL.out hk1
      subst er0
      obtain ⟨kn, y, ekn, hqy, hry⟩ := rdyTo_inv (hasI_iff.2 (List.mem_of_getElem? hk1))
      have HQ := Lib.hid hqy
      have HRY := Lib.hid hry
      rw [ekn] at c2
      have hp255 := HP9.out p (List.mem_of_getElem? hpp)
      have g7 : ((p % (rdyTo f.queue f.queue.length).length : Nat) : Int) < (((rdyTo f.queue f.queue.length).length : Nat) : Int) := by omega
      have f5 : ((((rdyTo f.queue f.queue.length).length : Nat) : Int) == 0) = false := by simp; intro hh; rw [hh] at hrl; simp at hrl
      have f6 : (0 : Int) < (((rdyTo f.queue f.queue.length).length : Nat) : Int) := by omega
      have hkl := (List.getElem?_eq_some_iff.1 hqy).1
      have f7 : ¬ ((kn : Nat) : Int) < 0 := by omega
      have f8 : decide (((f.queue.length : Nat) : Int) ≤ (kn : Nat)) = false := decide_eq_false (by omega)
      have f9 : decide (f.queue.length ≤ kn) = false := decide_eq_false (by omega)
      have f10 : ((kn : Nat) : Int) < f.queue.length := by omega
      obtain ⟨qb, qo, eq0, _, hqc⟩ := wr_at GR.out.rq hqy
      subst eq0
      have HQC := Lib.hid (rangeAt_kept (M := NoM) hqc (Kept.refl _ _) (fun x => x))
      have y3 := cell_blk GD.out 3 _ dv3
      clear hqy hry hk1 hpp hpl2 hqc
      have ka1 := (Kept.refl NoM w1).alloc (.cells (wrC y) 41)
      have HX := Lib.hid (blk_new w1 (.cells (wrC y) 41))
      have HQD := Lib.hid (ka1.blk GD.out (fun x => x))
      go_wp2_with (first | (refine wpList_alloc_Z rfl 41 rfl _ (wrZ _) ?_) | (refine wpList_store_bign bigWr rfl _ _ rfl _ rfl rfl rfl rfl rfl (wr1 y) ?_) | (refine wpList_load_big bigWr rfl _ rfl qb (qo + kn * 26) (wrC y) rfl HQC.out rfl ?_) | (refine wpList_load_big bigDev rfl _ rfl w.heap.size 0 (devC f ua uc (some ⟨qb, qo, none⟩) vc xa xc ya yc) rfl (range_blk HQD.out) rfl ?_))
      clear f5 f6 f7 f8 f9 f10 g7 c1 c2 y3 HQD
      replace GD := Lib.hid (ka1.blk GD.out (fun x => x))
      replace GS := Lib.hid (ka1.blk GS.out (fun x => x))
      replace GR := Lib.hid (GR.out.kept ka1.of_no)
      replace GO := Lib.hid (GO.out.kept ka1 (fun _ _ x => x) (fun _ _ x => x))
      replace GA := Lib.hid (GA.out.kept ka1 (fun _ _ x => x) (fun _ _ x => x))
      replace GW := Lib.hid (GW.out.trans ka1)
      clear ka1
      have hx9 := Lib.hid True.intro
      generalize hw9 : w1.alloc (.cells (wrC y) 41) = w9 at *
      refine (do_ok _ f kn y (MY w.heap.size P Q) w9 ⟨_, _, _, _, _, _, _, _, rfl, GR.out⟩ (fun i q => by rcases q with q | q | q; exact q ▸ lt_of_block GD.out; exact GO.out.lt i q.symm; exact GA.out.lt i q.symm) GRD.out GF.out HQ.out HRY.out).mono ?_
      have hPQ : ∀ g, (P = some g ∨ Q = some g) → g < w9.heap.size := fun g h => h.elim (GO.out.lt g) (GA.out.lt g)
      rintro e w5 ⟨v7, av7, rfl, dd7, aa7, kk⟩
      have hs9 := kk.size
      obtain ⟨ta5, tc5, qa5, qc5, da5, dc5, la5, lc5, rfl, r7⟩ := dd7
      obtain ⟨ma, mc, em, _, _⟩ := aa7.shape
      subst em
      have k5 := (Kept.refl NoM w5).alloc (.cells (devC (doW f kn y) ta5 tc5 qa5 qc5 da5 dc5 la5 lc5) 27)
      have k15 := kk.trans k5
      replace GD := Lib.hid (k15.blk GD.out (fun x => x))
      replace GS := Lib.hid (k15.blk GS.out (fun x => x))
      replace GR := Lib.hid (GR.out.kept k15.of_no)
      replace GO := Lib.hid (GO.out.kept k15 (fun _ _ x => x) (fun _ _ x => x))
      replace GA := Lib.hid (GA.out.kept k15 (fun _ _ x => x) (fun _ _ x => x))
      replace GW := Lib.hid (GW.out.trans k15)
      have HN5 := Lib.hid (blk_new w5 (.cells (devC (doW f kn y) ta5 tc5 qa5 qc5 da5 dc5 la5 lc5) 27))
      have RN5 := Lib.hid (r7.kept k5.of_no)
      have AM := Lib.hid (aa7.kept k5.of_no (fun _ _ x => x))
      replace HX := Lib.hid (k15.blk HX.out (fun x => x))
      clear kk k5 k15 r7 aa7
      have hml := doA_len f y
      have x0 := cell_blk HX.out 2 _ (wrC_2 y)
      have x1 := cell_blk HX.out 1 _ (wrC_1 y)
      go_wp2_with (first | (refine wpList_alloc_Z rfl 27 rfl _ (devZ _) ?_) | (refine wpList_store_bign (cs := devC (doW f kn y) ta5 tc5 qa5 qc5 da5 dc5 la5 lc5) bigDev rfl _ _ rfl _ rfl rfl rfl rfl rfl (dev1 _ _ _ _ _ _ _ _ _) ?_))
      have HB13 := Lib.hid HN5.out
      generalize w5.heap.size = B13 at *
      generalize w5.alloc (.cells (devC (doW f kn y) ta5 tc5 qa5 qc5 da5 dc5 la5 lc5) 27) = u5 at *
      have hgo2 : (y.kind = 3 ∧ kn = 0 ∧ doA f y = [⟨y.ep, y.seq, 0⟩]) ∨ y.kind ≠ 3 := by by_cases h3 : y.kind = 3; exact .inl ⟨h3, bar_ack HQ.out HRY.out h3⟩; exact .inr h3
      rcases hgo2 with ⟨h3, hk0, hda⟩ | h3
      · subst hk0
        rw [h3] at x0
        have hl1 : (doA f y).length = 1 := by rw [hda]; rfl
        obtain ⟨b1, o1, e1, z1, z2, z3⟩ := eAk_at AM.out (k := 0) (x := ⟨y.ep, y.seq, 0⟩) (by rw [hda]; rfl)
        subst e1
        simp only [Nat.zero_mul, Nat.add_zero] at z1 z2 z3
        clear h3 hda
        rw [hl1] at AM
        go_wp2_with fail
        go_quiet (fail)
        go_wp2_with (first | (refine wpList_load_big bigWr rfl _ rfl w1.heap.size 0 (wrC y) rfl (range_blk HX.out) rfl ?_) | (at_builtin; (refine wpList_append_S (M := NoM) rfl (.tmp 113) (.tmp 115) 24 rfl 224 tyWrites _ rfl (GO.out.kept (((Kept.refl NoM u5).alloc (.cells (wrC y) 41)).drewN _) (fun _ _ x => x) (fun _ _ x => x)) _ rfl (rd_one (x := y) (blk_new u5 (.cells (wrC y) 41)) (fun x => x) rfl rfl) eWr_one on 1 hon rfl (by have := H40.out; unfold maxLen; omega) (by have := H40.out; omega) ?_; intro a6 cap6 w6 P6 hown6 hk6 hn6; obtain ⟨K6, hP6⟩ := app6 hk6 hn6; have OW6 := hown6; clear hk6 hn6 hown6; have GA6 := Lib.hid (GA.out.kept K6 (fun g hg e => (GP.out g e.symm).2 hg) (fun _ _ x => x)); have AM6 := Lib.hid (AM.out.kept (K6.mono (fun i _ e => .inr (.inl e))) (fun _ _ x => x)); have HN6 := Lib.hid (K6.blk HN5.out (fun e => by have := hPQ B13 (.inl e.symm); omega)); have HD6 := Lib.hid (K6.blk GD.out (fun e => by have := (GP.out _ e.symm).1; omega)))) | (at_builtin; go_loud (refine wpList_append_S (M := (MY w.heap.size P Q)) rfl (.tmp 117) (.tmp 118) 43 rfl 24 tyAcks _ rfl GA6.out _ rfl AM6.out eAk_one kn0 1 hkn hl1 (by have := H40.out; unfold maxLen; omega) (by have := H40.out; omega) ?_; intro a7 cap7 w7 Q7 hown7 hk7 hn7; have HN7 := Lib.hid (hk7.blk HN6.out (fun e => by have := hPQ B13 (.inr e.symm); omega)); have HD7 := Lib.hid (hk7.blk HD6.out (fun e => by have := GQ.out _ e.symm; omega)))) | (refine wpList_load_big bigDev rfl _ rfl B13 0 (devC (doW f 0 y) ta5 tc5 qa5 qc5 da5 dc5 la5 lc5) rfl (range_blk HN7.out) rfl ?_) | (refine wpList_store_bigb (cs := devC (doW f 0 y) ta5 tc5 qa5 qc5 da5 dc5 la5 lc5) bigDev rfl _ _ rfl w.heap.size rfl rfl HD7.out rfl rfl (dev1 _ _ _ _ _ _ _ _ _) ?_))
        go_roundw
        case rel =>
          obtain ⟨n1, n2, n3, n4, n5, n6, n7, n8, n9, n10, n11⟩ := went_next HQ.out rfl hDS GN GRD GWT GO GA GP GQ GD GS GW RN5 K6 hP6 OW6 hown7 hk7 hn7 _
          exact ⟨j + 1, doW f 0 y, ta5, tc5, qa5, qc5, da5, dc5, la5, lc5, ol ++ [y], al ++ doA f y, a6, on + 1, cap6, a7, kn0 + 1, cap7, P6, Q7, by omega, by go_num, rfl, rfl, by simp [hon], by rw [List.length_append, hkn, hl1], by omega, by omega, n1, n2, n3, n4, n5, n6, n7, n8, n9, n10, n11⟩
        case measure => simp [intOf]; omega
      · have fk : (y.kind == 3) = false := by simpa using h3
        clear h3
        go_wp2_with fail
        go_quiet (fail)
        go_wp2_with (first | (refine wpList_load_big bigWr rfl _ rfl w1.heap.size 0 (wrC y) rfl (range_blk HX.out) rfl ?_) | (at_builtin; (refine wpList_append_S (M := NoM) rfl (.tmp 113) (.tmp 115) 24 rfl 224 tyWrites _ rfl (GO.out.kept (((Kept.refl NoM u5).alloc (.cells (wrC y) 41)).drewN _) (fun _ _ x => x) (fun _ _ x => x)) _ rfl (rd_one (x := y) (blk_new u5 (.cells (wrC y) 41)) (fun x => x) rfl rfl) eWr_one on 1 hon rfl (by have := H40.out; unfold maxLen; omega) (by have := H40.out; omega) ?_; intro a6 cap6 w6 P6 hown6 hk6 hn6; obtain ⟨K6, hP6⟩ := app6 hk6 hn6; have OW6 := hown6; clear hk6 hn6 hown6; have GA6 := Lib.hid (GA.out.kept K6 (fun g hg e => (GP.out g e.symm).2 hg) (fun _ _ x => x)); have AM6 := Lib.hid (AM.out.kept (K6.mono (fun i _ e => .inr (.inl e))) (fun _ _ x => x)); have HN6 := Lib.hid (K6.blk HN5.out (fun e => by have := hPQ B13 (.inl e.symm); omega)); have HD6 := Lib.hid (K6.blk GD.out (fun e => by have := (GP.out _ e.symm).1; omega)))) | (at_builtin; go_loud (refine wpList_append_S (M := (MY w.heap.size P Q)) rfl (.tmp 117) (.tmp 118) 43 rfl 24 tyAcks _ rfl GA6.out _ rfl AM6.out eAk_one kn0 _ hkn rfl (by have := H40.out; unfold maxLen; omega) (by have := H40.out; omega) ?_; intro a7 cap7 w7 Q7 hown7 hk7 hn7; have HN7 := Lib.hid (hk7.blk HN6.out (fun e => by have := hPQ B13 (.inr e.symm); omega)); have HD7 := Lib.hid (hk7.blk HD6.out (fun e => by have := GQ.out _ e.symm; omega)))) | (refine wpList_load_big bigDev rfl _ rfl B13 0 (devC (doW f kn y) ta5 tc5 qa5 qc5 da5 dc5 la5 lc5) rfl (range_blk HN7.out) rfl ?_) | (refine wpList_store_bigb (cs := devC (doW f kn y) ta5 tc5 qa5 qc5 da5 dc5 la5 lc5) bigDev rfl _ _ rfl w.heap.size rfl rfl HD7.out rfl rfl (dev1 _ _ _ _ _ _ _ _ _) ?_))
        go_roundw
        case rel =>
          obtain ⟨n1, n2, n3, n4, n5, n6, n7, n8, n9, n10, n11⟩ := went_next HQ.out rfl hDS GN GRD GWT GO GA GP GQ GD GS GW RN5 K6 hP6 OW6 hown7 hk7 hn7 _
          exact ⟨j + 1, doW f kn y, ta5, tc5, qa5, qc5, da5, dc5, la5, lc5, ol ++ [y], al ++ doA f y, a6, on + 1, cap6, a7, kn0 + (doA f y).length, cap7, P6, Q7, by omega, by go_num, rfl, rfl, by simp [hon], by rw [List.length_append, hkn], by omega, by omega, n1, n2, n3, n4, n5, n6, n7, n8, n9, n10, n11⟩
        case measure => simp [intOf]; omega
    · by_cases hji : j < l.length
      · have hjI : (j : Int) < l.length := by omega
        have g1 : decide ((0 : Int) < (f.queue.length : Nat)) = false := decide_eq_false (by omega)
        have g2 : decide (0 < f.queue.length) = false := decide_eq_false (by omega)
        clear hgo
        go_wp2_with (refine wpList_load_big bigDev rfl _ rfl BS 0 (devC d ta tc qa qc da dc la lc) rfl (range_blk GS.out) rfl ?_)
        have hE : ((!d.early && decide (d.lost.length = 0)) = true ∧ d.early = false ∧ d.lost.length = 0) ∨ (!d.early && decide (d.lost.length = 0)) = false := by cases hx : (!d.early && decide (d.lost.length = 0)); exact .inr rfl; rw [Bool.and_eq_true, decide_eq_true_eq] at hx; exact .inl ⟨rfl, by simpa using hx.1, hx.2⟩
        refine (honest_ok d ta qa da la tc qc dc lc wr).mono ?_
        rintro e w30 ⟨e1, kk⟩
        replace GD := Lib.hid (kk.blk GD.out (fun x => x))
        replace GS := Lib.hid (kk.blk GS.out (fun x => x))
        replace GR := Lib.hid (GR.out.kept kk.of_no)
        replace GO := Lib.hid (GO.out.kept kk (fun _ _ x => x) (fun _ _ x => x))
        replace GA := Lib.hid (GA.out.kept kk (fun _ _ x => x) (fun _ _ x => x))
        replace GW := Lib.hid (GW.out.trans kk)
        clear kk
        rcases hE with ⟨hE, hE1, hE2⟩ | hE
        · rw [hE] at e1
          subst e1
          have HE := Lib.hid (And.intro hE1 hE2)
          clear hE hE1 hE2
          have RR9 := Lib.hid (RR0.out.kept GW.out)
          go_wp2_with (refine wpList_load_bigG bigDev (by rfl) _ rfl BS 0 (devC d ta tc qa qc da dc la lc) rfl (range_blk GS.out) rfl ?_)
          have hM : (decide (((d.table.length + nP d.queue : Nat) : Int) ≤ d.room) = true ∧ ((d.table.length + nP d.queue : Nat) : Int) ≤ d.room) ∨ decide (((d.table.length + nP d.queue : Nat) : Int) ≤ d.room) = false := by cases hx : decide (((d.table.length + nP d.queue : Nat) : Int) ≤ d.room); exact .inr rfl; exact .inl ⟨rfl, of_decide_eq_true hx⟩
          refine (room_ok d ta qa da la tc qc dc lc NoM w30 RR9.out (by have := HFEW.out; omega) (by have := HFEW.out; omega)).mono ?_
          rintro e w31 ⟨e1, kk⟩
          replace GD := Lib.hid (kk.blk GD.out (fun x => x))
          replace GS := Lib.hid (kk.blk GS.out (fun x => x))
          replace GR := Lib.hid (GR.out.kept kk.of_no)
          replace GO := Lib.hid (GO.out.kept kk (fun _ _ x => x) (fun _ _ x => x))
          replace GA := Lib.hid (GA.out.kept kk (fun _ _ x => x) (fun _ _ x => x))
          replace GW := Lib.hid (GW.out.trans kk)
          replace RR9 := Lib.hid (RR9.out.kept kk)
          clear kk
          rcases hM with ⟨hM, hM1⟩ | hM
          · rw [hM] at e1
            subst e1
            have HRM : Hid (Roomy d) := Lib.hid ⟨RDD.out, List.eq_nil_of_length_eq_zero HE.out.2, by omega⟩
            clear hM hM1
            have hbel := GWT.out.bel HRM.out HE.out.1
            obtain rfl : on = kn0 := by omega
            have HBEL := Lib.hid hbel.2
            have GOR := Lib.hid (GO.out.rd (M := NoM) (fun _ _ x => x))
            have GAR := Lib.hid (GA.out.rd (M := NoM) (fun _ _ x => x))
            clear hbel
            go_wp2_with fail
            refine wp_region_parH 20 [] [] [] [] [] (fun wx => Kept NoM w31 wx)
                  [fun v _ => v = .bool true, fun v _ => v = .bool true, fun v _ => v = .slice ka on kc, fun v _ => v = .int .i64 on, fun v _ => v = .slice oa on oc, fun v _ => v = .int .i64 on, fun v _ => v = .bool true, fun v _ => v = .bool true, fun v _ => v = .bool true, fun v _ => v = .pointer (some ⟨BS, 2, none⟩), fun v _ => v = .slice ta d.table.length tc, fun v _ => v = .pointer (some ⟨BS, 0, none⟩), fun v _ => v = .int .i64 d.room, fun v _ => v = .slice oa on oc, fun v _ => v = .slice ka on kc, fun v wx => ∃ (a9 : Option Addr) (c9 : Nat), v = .slice a9 f.table.length c9 ∧ RdS wx NoM 23 ERu (.slice a9 f.table.length c9) f.table, fun v _ => v = .pointer (some ⟨w.heap.size, 2, none⟩), fun v _ => v = .slice ua f.table.length uc, fun v _ => v = .bool true, fun v _ => v = .bool true] (by kernel_rfl) (by kernel_rfl) (by kernel_rfl) (Kept.refl NoM w31).drew (inits_nil) ?_ ?_
            · intro i hi9
              have hst := stab_all (posts := [fun v _ => v = .bool true, fun v _ => v = .bool true, fun v _ => v = .slice ka on kc, fun v _ => v = .int .i64 on, fun v _ => v = .slice oa on oc, fun v _ => v = .int .i64 on, fun v _ => v = .bool true, fun v _ => v = .bool true, fun v _ => v = .bool true, fun v _ => v = .pointer (some ⟨BS, 2, none⟩), fun v _ => v = .slice ta d.table.length tc, fun v _ => v = .pointer (some ⟨BS, 0, none⟩), fun v _ => v = .int .i64 d.room, fun v _ => v = .slice oa on oc, fun v _ => v = .slice ka on kc, fun v wx => ∃ (a9 : Option Addr) (c9 : Nat), v = .slice a9 f.table.length c9 ∧ RdS wx NoM 23 ERu (.slice a9 f.table.length c9) f.table, fun v _ => v = .pointer (some ⟨w.heap.size, 2, none⟩), fun v _ => v = .slice ua f.table.length uc, fun v _ => v = .bool true, fun v _ => v = .bool true])        (stab_cons (stab_const _) (stab_cons (stab_const _) (stab_cons (stab_const _) (stab_cons (stab_const _) (stab_cons (stab_const _) (stab_cons (stab_const _) (stab_cons (stab_const _) (stab_cons (stab_const _) (stab_cons (stab_const _) (stab_cons (stab_const _) (stab_cons (stab_const _) (stab_cons (stab_const _) (stab_cons (stab_const _) (stab_cons (stab_const _) (stab_cons (stab_const _) (stab_cons (fun _ _ _ k ⟨a, c, h1, h2⟩ => ⟨a, c, h1, h2.kept k.of_no (fun _ _ x => x)⟩) (stab_cons (stab_const _) (stab_cons (stab_const _) (stab_cons (stab_const _) (stab_cons (stab_const _) stab_nil))))))))))))))))))))
              have hist := init_stab (inits := []) (fun p h => by cases h)
              have HST := Lib.hid hst
              have HIST := Lib.hid hist
              clear hst hist
              rcases (show i = 0 ∨ i = 1 ∨ i = 2 ∨ i = 3 ∨ i = 4 ∨ i = 5 ∨ i = 6 ∨ i = 7 ∨ i = 8 ∨ i = 9 ∨ i = 10 ∨ i = 11 ∨ i = 12 ∨ i = 13 ∨ i = 14 ∨ i = 15 ∨ i = 16 ∨ i = 17 ∨ i = 18 ∨ i = 19 by omega) with rfl | rfl | rfl | rfl | rfl | rfl | rfl | rfl | rfl | rfl | rfl | rfl | rfl | rfl | rfl | rfl | rfl | rfl | rfl | rfl
              · refine asksH_intro ?_; intro o ho a wx hc hout hp hi R hR; cases ho
                refine .inl ⟨wanted_none rfl, ?_⟩
                have e5 : a.tmps[5]? = some (.bool true) := hout 5 rfl
                go_simp
                exact hR _ _ hc rfl (fun _ _ _ _ _ u h => h) (fun _ _ h => h)
              · refine asksH_intro ?_; intro o ho a wx hc hout hp hi R hR; cases ho
                refine .inl ⟨wanted_none rfl, ?_⟩
                have e130 : a.tmps[130]?.getD undef = .bool true := hp 0 (by omega) rfl
                go_simp
                exact hR _ _ hc rfl (fun _ _ _ _ _ u h => h) (fun _ _ h => h)
              · refine asksH_intro ?_; intro o ho a wx hc hout hp hi R hR; cases ho
                refine .inl ⟨wanted_some rfl rfl (hp 1 (by omega) rfl), ?_⟩
                have e8 : a.tmps[8]? = some (.slice ka on kc) := hout 8 rfl
                go_simp
                exact hR _ _ hc rfl (fun _ _ _ _ _ u h => h) (fun _ _ h => h)
              · refine asksH_intro ?_; intro o ho a wx hc hout hp hi R hR; cases ho
                refine .inl ⟨wanted_some rfl rfl (hp 1 (by omega) rfl), ?_⟩
                have e132 : a.tmps[132]?.getD undef = .slice ka on kc := hp 2 (by omega) rfl
                go_simp
                exact hR _ _ hc rfl (fun _ _ _ _ _ u h => h) (fun _ _ h => h)
              · refine asksH_intro ?_; intro o ho a wx hc hout hp hi R hR; cases ho
                refine .inl ⟨wanted_some rfl rfl (hp 1 (by omega) rfl), ?_⟩
                have e7 : a.tmps[7]? = some (.slice oa on oc) := hout 7 rfl
                go_simp
                exact hR _ _ hc rfl (fun _ _ _ _ _ u h => h) (fun _ _ h => h)
              · refine asksH_intro ?_; intro o ho a wx hc hout hp hi R hR; cases ho
                refine .inl ⟨wanted_some rfl rfl (hp 1 (by omega) rfl), ?_⟩
                have e134 : a.tmps[134]?.getD undef = .slice oa on oc := hp 4 (by omega) rfl
                go_simp
                exact hR _ _ hc rfl (fun _ _ _ _ _ u h => h) (fun _ _ h => h)
              · refine asksH_intro ?_; intro o ho a wx hc hout hp hi R hR; cases ho
                refine .inl ⟨wanted_some rfl rfl (hp 1 (by omega) rfl), ?_⟩
                have e133 : a.tmps[133]?.getD undef = .int .i64 on := hp 3 (by omega) rfl
                have e135 : a.tmps[135]?.getD undef = .int .i64 on := hp 5 (by omega) rfl
                go_simp
                exact hR _ _ hc rfl (fun _ _ _ _ _ u h => h) (fun _ _ h => h)
              · refine asksH_intro ?_; intro o ho a wx hc hout hp hi R hR; cases ho
                refine .inl ⟨wanted_none rfl, ?_⟩
                have e131 : a.tmps[131]?.getD undef = .bool true := hp 1 (by omega) rfl
                have e136 : a.tmps[136]?.getD undef = .bool true := hp 6 (by omega) rfl
                go_simp
                exact hR _ _ hc rfl (fun _ _ _ _ _ u h => h) (fun _ _ h => h)
              · refine asksH_intro ?_; intro o ho a wx hc hout hp hi R hR; cases ho
                refine .inl ⟨wanted_none rfl, ?_⟩
                have e137 : a.tmps[137]?.getD undef = .bool true := hp 7 (by omega) rfl
                go_simp
                exact hR _ _ hc rfl (fun _ _ _ _ _ u h => h) (fun _ _ h => h)
              · refine asksH_intro ?_; intro o ho a wx hc hout hp hi R hR; cases ho
                refine .inl ⟨wanted_some rfl rfl (hp 8 (by omega) rfl), ?_⟩
                have e6 : a.tmps[6]? = some (.pointer (some ⟨BS, 0, none⟩)) := hout 6 rfl
                go_simp
                exact hR _ _ hc rfl (fun _ _ _ _ _ u h => h) (fun _ _ h => h)
              · refine asksH_intro ?_; intro o ho a wx hc hout hp hi R hR; cases ho
                refine .inl ⟨wanted_some rfl rfl (hp 8 (by omega) rfl), ?_⟩
                have e139 : a.tmps[139]?.getD undef = .pointer (some ⟨BS, 2, none⟩) := hp 9 (by omega) rfl
                have y2 : wx.cell? ⟨BS, 2, none⟩ = some (.slice ta d.table.length tc) := cell_blk (hc.blk GS.out (fun x => x)) 2 _ dv2
                go_simp
                exact hR _ _ hc rfl (fun _ _ _ _ _ u h => h) (fun _ _ h => h)
              · refine asksH_intro ?_; intro o ho a wx hc hout hp hi R hR; cases ho
                refine .inl ⟨wanted_some rfl rfl (hp 8 (by omega) rfl), ?_⟩
                have e6 : a.tmps[6]? = some (.pointer (some ⟨BS, 0, none⟩)) := hout 6 rfl
                go_simp
                exact hR _ _ hc rfl (fun _ _ _ _ _ u h => h) (fun _ _ h => h)
              · refine asksH_intro ?_; intro o ho a wx hc hout hp hi R hR; cases ho
                refine .inl ⟨wanted_some rfl rfl (hp 8 (by omega) rfl), ?_⟩
                have e141 : a.tmps[141]?.getD undef = .pointer (some ⟨BS, 0, none⟩) := hp 11 (by omega) rfl
                have y2 : wx.cell? ⟨BS, 0, none⟩ = some (.int .i64 d.room) := cell_blk (hc.blk GS.out (fun x => x)) 0 _ dv0
                go_simp
                exact hR _ _ hc rfl (fun _ _ _ _ _ u h => h) (fun _ _ h => h)
              · refine asksH_intro ?_; intro o ho a wx hc hout hp hi R hR; cases ho
                refine .inl ⟨wanted_some rfl rfl (hp 8 (by omega) rfl), ?_⟩
                have e7 : a.tmps[7]? = some (.slice oa on oc) := hout 7 rfl
                go_simp
                exact hR _ _ hc rfl (fun _ _ _ _ _ u h => h) (fun _ _ h => h)
              · refine asksH_intro ?_; intro o ho a wx hc hout hp hi R hR; cases ho
                refine .inl ⟨wanted_some rfl rfl (hp 8 (by omega) rfl), ?_⟩
                have e8 : a.tmps[8]? = some (.slice ka on kc) := hout 8 rfl
                go_simp
                exact hR _ _ hc rfl (fun _ _ _ _ _ u h => h) (fun _ _ h => h)
              · refine asksH_intro ?_; intro o ho a wx hc hout hp hi R hR; cases ho
                refine .inl ⟨wanted_some rfl rfl (hp 8 (by omega) rfl), ?_⟩
                have e140 : a.tmps[140]?.getD undef = .slice ta d.table.length tc := hp 10 (by omega) rfl
                have e142 : a.tmps[142]?.getD undef = .int .i64 d.room := hp 12 (by omega) rfl
                have e143 : a.tmps[143]?.getD undef = .slice oa on oc := hp 13 (by omega) rfl
                have e144 : a.tmps[144]?.getD undef = .slice ka on kc := hp 14 (by omega) rfl
                go_simp
                have b9 := bel_ok (.slice ta d.table.length tc) (.slice oa on oc) (.slice ka on kc) d.table ol al d.room NoM NoM NoM wx (RR9.out.rt.kept hc (fun _ _ x => x)) noM_lt RDD.out.tab.dec RDD.out.tab.len (by have := HFEW.out; omega) (GOR.out.kept hc (fun _ _ x => x)) (by have := H40.out; omega) (GAR.out.kept hc (fun _ _ x => x)) (by have := H40.out; omega)
                rw [HBEL.out] at b9
                refine b9.mono ?_
                rintro e w2 ⟨a8, c8, rfl, r8, q3⟩
                exact ⟨_, rfl, hR _ _ (hc.trans q3) ⟨a8, c8, rfl, r8⟩ (fun j _ _ _ _ u h => HST.out j u _ _ q3 h) (fun j _ h => HIST.out j _ _ q3 h)⟩
              · refine asksH_intro ?_; intro o ho a wx hc hout hp hi R hR; cases ho
                refine .inl ⟨wanted_some rfl rfl (hp 8 (by omega) rfl), ?_⟩
                have e2 : a.tmps[2]? = some (.pointer (some ⟨w.heap.size, 0, none⟩)) := hout 2 rfl
                go_simp
                exact hR _ _ hc rfl (fun _ _ _ _ _ u h => h) (fun _ _ h => h)
              · refine asksH_intro ?_; intro o ho a wx hc hout hp hi R hR; cases ho
                refine .inl ⟨wanted_some rfl rfl (hp 8 (by omega) rfl), ?_⟩
                have e146 : a.tmps[146]?.getD undef = .pointer (some ⟨w.heap.size, 2, none⟩) := hp 16 (by omega) rfl
                have y2 : wx.cell? ⟨w.heap.size, 2, none⟩ = some (.slice ua f.table.length uc) := cell_blk (hc.blk GD.out (fun x => x)) 2 _ dv2
                go_simp
                exact hR _ _ hc rfl (fun _ _ _ _ _ u h => h) (fun _ _ h => h)
              · refine asksH_intro ?_; intro o ho a wx hc hout hp hi R hR; cases ho
                refine .inl ⟨wanted_some rfl rfl (hp 8 (by omega) rfl), ?_⟩
                obtain ⟨a9, c9, e145, q145⟩ : ∃ (a9 : Option Addr) (c9 : Nat), (a.tmps[145]?.getD undef) = .slice a9 f.table.length c9 ∧ RdS wx NoM 23 ERu (.slice a9 f.table.length c9) f.table := hp 15 (by omega) rfl
                have e147 : a.tmps[147]?.getD undef = .slice ua f.table.length uc := hp 17 (by omega) rfl
                go_simp
                refine (rtsame_ok _ _ f.table NoM (MY w.heap.size P Q) wx q145 (GR.out.rt.kept hc.of_no (fun _ _ x => x)) (by have := GN.out.1; have := H40.out; omega) (fun r hr => HBW.out wx (GW.out.trans hc) r (GN.out.2.2.2.1 r hr))).mono ?_
                rintro e w2 ⟨rfl, q3⟩
                exact ⟨_, rfl, hR _ _ (hc.trans q3) rfl (fun j _ _ _ _ u h => HST.out j u _ _ q3 h) (fun j _ h => HIST.out j _ _ q3 h)⟩
              · refine asksH_intro ?_; intro o ho a wx hc hout hp hi R hR; cases ho
                refine .inl ⟨wanted_none rfl, ?_⟩
                have e138 : a.tmps[138]?.getD undef = .bool true := hp 8 (by omega) rfl
                have e148 : a.tmps[148]?.getD undef = .bool true := hp 18 (by omega) rfl
                go_simp
                exact hR _ _ hc rfl (fun _ _ _ _ _ u h => h) (fun _ _ h => h)
            · intro vs w' hc hp
              have e149 : vs 19 = .bool true := hp 19 (by omega) rfl
              simp only [List.take_succ_cons, List.take_zero, List.drop_succ_cons, List.drop_zero, putAll, Act.put, List.setIfInBounds_toArray, List.set_cons_zero, List.set_cons_succ, Nat.reduceAdd, e149]
              change wpList _ _ _ _ _ _
              have HC25 := Lib.hid hc
              generalize w' = u19 at *
              clear hc hp
              go_wp2_with fail
              go_ret
              exact ⟨rfl, GW.out.trans HC25.out⟩
          · rw [hM] at e1
            subst e1
            clear hM
            go_wp2_with fail
            go_ret
            exact ⟨rfl, GW.out⟩
        · rw [hE] at e1
          subst e1
          clear hE
          go_wp2_with fail
          go_ret
          exact ⟨rfl, GW.out⟩
      · have hjI : decide ((j : Int) < (l.length : Nat)) = false := decide_eq_false (by omega)
        have hjJ : decide (j < l.length) = false := decide_eq_false (by omega)
        clear hgo
        go_wp2_with (refine wpList_load_big bigDev rfl _ rfl BS 0 (devC d ta tc qa qc da dc la lc) rfl (range_blk GS.out) rfl ?_)
        have hE : ((!d.early && decide (d.lost.length = 0)) = true ∧ d.early = false ∧ d.lost.length = 0) ∨ (!d.early && decide (d.lost.length = 0)) = false := by cases hx : (!d.early && decide (d.lost.length = 0)); exact .inr rfl; rw [Bool.and_eq_true, decide_eq_true_eq] at hx; exact .inl ⟨rfl, by simpa using hx.1, hx.2⟩
        refine (honest_ok d ta qa da la tc qc dc lc wr).mono ?_
        rintro e w30 ⟨e1, kk⟩
        replace GD := Lib.hid (kk.blk GD.out (fun x => x))
        replace GS := Lib.hid (kk.blk GS.out (fun x => x))
        replace GR := Lib.hid (GR.out.kept kk.of_no)
        replace GO := Lib.hid (GO.out.kept kk (fun _ _ x => x) (fun _ _ x => x))
        replace GA := Lib.hid (GA.out.kept kk (fun _ _ x => x) (fun _ _ x => x))
        replace GW := Lib.hid (GW.out.trans kk)
        clear kk
        rcases hE with ⟨hE, hE1, hE2⟩ | hE
        · rw [hE] at e1
          subst e1
          have HE := Lib.hid (And.intro hE1 hE2)
          clear hE hE1 hE2
          have RR9 := Lib.hid (RR0.out.kept GW.out)
          go_wp2_with (refine wpList_load_bigG bigDev (by rfl) _ rfl BS 0 (devC d ta tc qa qc da dc la lc) rfl (range_blk GS.out) rfl ?_)
          have hM : (decide (((d.table.length + nP d.queue : Nat) : Int) ≤ d.room) = true ∧ ((d.table.length + nP d.queue : Nat) : Int) ≤ d.room) ∨ decide (((d.table.length + nP d.queue : Nat) : Int) ≤ d.room) = false := by cases hx : decide (((d.table.length + nP d.queue : Nat) : Int) ≤ d.room); exact .inr rfl; exact .inl ⟨rfl, of_decide_eq_true hx⟩
          refine (room_ok d ta qa da la tc qc dc lc NoM w30 RR9.out (by have := HFEW.out; omega) (by have := HFEW.out; omega)).mono ?_
          rintro e w31 ⟨e1, kk⟩
          replace GD := Lib.hid (kk.blk GD.out (fun x => x))
          replace GS := Lib.hid (kk.blk GS.out (fun x => x))
          replace GR := Lib.hid (GR.out.kept kk.of_no)
          replace GO := Lib.hid (GO.out.kept kk (fun _ _ x => x) (fun _ _ x => x))
          replace GA := Lib.hid (GA.out.kept kk (fun _ _ x => x) (fun _ _ x => x))
          replace GW := Lib.hid (GW.out.trans kk)
          replace RR9 := Lib.hid (RR9.out.kept kk)
          clear kk
          rcases hM with ⟨hM, hM1⟩ | hM
          · rw [hM] at e1
            subst e1
            have HRM : Hid (Roomy d) := Lib.hid ⟨RDD.out, List.eq_nil_of_length_eq_zero HE.out.2, by omega⟩
            clear hM hM1
            have hbel := GWT.out.bel HRM.out HE.out.1
            obtain rfl : on = kn0 := by omega
            have HBEL := Lib.hid hbel.2
            have GOR := Lib.hid (GO.out.rd (M := NoM) (fun _ _ x => x))
            have GAR := Lib.hid (GA.out.rd (M := NoM) (fun _ _ x => x))
            clear hbel
            go_wp2_with fail
            refine wp_region_parH 20 [] [] [] [] [] (fun wx => Kept NoM w31 wx)
                  [fun v _ => v = .bool true, fun v _ => v = .bool true, fun v _ => v = .slice ka on kc, fun v _ => v = .int .i64 on, fun v _ => v = .slice oa on oc, fun v _ => v = .int .i64 on, fun v _ => v = .bool true, fun v _ => v = .bool true, fun v _ => v = .bool true, fun v _ => v = .pointer (some ⟨BS, 2, none⟩), fun v _ => v = .slice ta d.table.length tc, fun v _ => v = .pointer (some ⟨BS, 0, none⟩), fun v _ => v = .int .i64 d.room, fun v _ => v = .slice oa on oc, fun v _ => v = .slice ka on kc, fun v wx => ∃ (a9 : Option Addr) (c9 : Nat), v = .slice a9 f.table.length c9 ∧ RdS wx NoM 23 ERu (.slice a9 f.table.length c9) f.table, fun v _ => v = .pointer (some ⟨w.heap.size, 2, none⟩), fun v _ => v = .slice ua f.table.length uc, fun v _ => v = .bool true, fun v _ => v = .bool true] (by kernel_rfl) (by kernel_rfl) (by kernel_rfl) (Kept.refl NoM w31).drew (inits_nil) ?_ ?_
            · intro i hi9
              have hst := stab_all (posts := [fun v _ => v = .bool true, fun v _ => v = .bool true, fun v _ => v = .slice ka on kc, fun v _ => v = .int .i64 on, fun v _ => v = .slice oa on oc, fun v _ => v = .int .i64 on, fun v _ => v = .bool true, fun v _ => v = .bool true, fun v _ => v = .bool true, fun v _ => v = .pointer (some ⟨BS, 2, none⟩), fun v _ => v = .slice ta d.table.length tc, fun v _ => v = .pointer (some ⟨BS, 0, none⟩), fun v _ => v = .int .i64 d.room, fun v _ => v = .slice oa on oc, fun v _ => v = .slice ka on kc, fun v wx => ∃ (a9 : Option Addr) (c9 : Nat), v = .slice a9 f.table.length c9 ∧ RdS wx NoM 23 ERu (.slice a9 f.table.length c9) f.table, fun v _ => v = .pointer (some ⟨w.heap.size, 2, none⟩), fun v _ => v = .slice ua f.table.length uc, fun v _ => v = .bool true, fun v _ => v = .bool true])        (stab_cons (stab_const _) (stab_cons (stab_const _) (stab_cons (stab_const _) (stab_cons (stab_const _) (stab_cons (stab_const _) (stab_cons (stab_const _) (stab_cons (stab_const _) (stab_cons (stab_const _) (stab_cons (stab_const _) (stab_cons (stab_const _) (stab_cons (stab_const _) (stab_cons (stab_const _) (stab_cons (stab_const _) (stab_cons (stab_const _) (stab_cons (stab_const _) (stab_cons (fun _ _ _ k ⟨a, c, h1, h2⟩ => ⟨a, c, h1, h2.kept k.of_no (fun _ _ x => x)⟩) (stab_cons (stab_const _) (stab_cons (stab_const _) (stab_cons (stab_const _) (stab_cons (stab_const _) stab_nil))))))))))))))))))))
              have hist := init_stab (inits := []) (fun p h => by cases h)
              have HST := Lib.hid hst
              have HIST := Lib.hid hist
              clear hst hist
              rcases (show i = 0 ∨ i = 1 ∨ i = 2 ∨ i = 3 ∨ i = 4 ∨ i = 5 ∨ i = 6 ∨ i = 7 ∨ i = 8 ∨ i = 9 ∨ i = 10 ∨ i = 11 ∨ i = 12 ∨ i = 13 ∨ i = 14 ∨ i = 15 ∨ i = 16 ∨ i = 17 ∨ i = 18 ∨ i = 19 by omega) with rfl | rfl | rfl | rfl | rfl | rfl | rfl | rfl | rfl | rfl | rfl | rfl | rfl | rfl | rfl | rfl | rfl | rfl | rfl | rfl
              · refine asksH_intro ?_; intro o ho a wx hc hout hp hi R hR; cases ho
                refine .inl ⟨wanted_none rfl, ?_⟩
                have e5 : a.tmps[5]? = some (.bool true) := hout 5 rfl
                go_simp
                exact hR _ _ hc rfl (fun _ _ _ _ _ u h => h) (fun _ _ h => h)
              · refine asksH_intro ?_; intro o ho a wx hc hout hp hi R hR; cases ho
                refine .inl ⟨wanted_none rfl, ?_⟩
                have e130 : a.tmps[130]?.getD undef = .bool true := hp 0 (by omega) rfl
                go_simp
                exact hR _ _ hc rfl (fun _ _ _ _ _ u h => h) (fun _ _ h => h)
              · refine asksH_intro ?_; intro o ho a wx hc hout hp hi R hR; cases ho
                refine .inl ⟨wanted_some rfl rfl (hp 1 (by omega) rfl), ?_⟩
                have e8 : a.tmps[8]? = some (.slice ka on kc) := hout 8 rfl
                go_simp
                exact hR _ _ hc rfl (fun _ _ _ _ _ u h => h) (fun _ _ h => h)
              · refine asksH_intro ?_; intro o ho a wx hc hout hp hi R hR; cases ho
                refine .inl ⟨wanted_some rfl rfl (hp 1 (by omega) rfl), ?_⟩
                have e132 : a.tmps[132]?.getD undef = .slice ka on kc := hp 2 (by omega) rfl
                go_simp
                exact hR _ _ hc rfl (fun _ _ _ _ _ u h => h) (fun _ _ h => h)
              · refine asksH_intro ?_; intro o ho a wx hc hout hp hi R hR; cases ho
                refine .inl ⟨wanted_some rfl rfl (hp 1 (by omega) rfl), ?_⟩
                have e7 : a.tmps[7]? = some (.slice oa on oc) := hout 7 rfl
                go_simp
                exact hR _ _ hc rfl (fun _ _ _ _ _ u h => h) (fun _ _ h => h)
              · refine asksH_intro ?_; intro o ho a wx hc hout hp hi R hR; cases ho
                refine .inl ⟨wanted_some rfl rfl (hp 1 (by omega) rfl), ?_⟩
                have e134 : a.tmps[134]?.getD undef = .slice oa on oc := hp 4 (by omega) rfl
                go_simp
                exact hR _ _ hc rfl (fun _ _ _ _ _ u h => h) (fun _ _ h => h)
              · refine asksH_intro ?_; intro o ho a wx hc hout hp hi R hR; cases ho
                refine .inl ⟨wanted_some rfl rfl (hp 1 (by omega) rfl), ?_⟩
                have e133 : a.tmps[133]?.getD undef = .int .i64 on := hp 3 (by omega) rfl
                have e135 : a.tmps[135]?.getD undef = .int .i64 on := hp 5 (by omega) rfl
                go_simp
                exact hR _ _ hc rfl (fun _ _ _ _ _ u h => h) (fun _ _ h => h)
              · refine asksH_intro ?_; intro o ho a wx hc hout hp hi R hR; cases ho
                refine .inl ⟨wanted_none rfl, ?_⟩
                have e131 : a.tmps[131]?.getD undef = .bool true := hp 1 (by omega) rfl
                have e136 : a.tmps[136]?.getD undef = .bool true := hp 6 (by omega) rfl
                go_simp
                exact hR _ _ hc rfl (fun _ _ _ _ _ u h => h) (fun _ _ h => h)
              · refine asksH_intro ?_; intro o ho a wx hc hout hp hi R hR; cases ho
                refine .inl ⟨wanted_none rfl, ?_⟩
                have e137 : a.tmps[137]?.getD undef = .bool true := hp 7 (by omega) rfl
                go_simp
                exact hR _ _ hc rfl (fun _ _ _ _ _ u h => h) (fun _ _ h => h)
              · refine asksH_intro ?_; intro o ho a wx hc hout hp hi R hR; cases ho
                refine .inl ⟨wanted_some rfl rfl (hp 8 (by omega) rfl), ?_⟩
                have e6 : a.tmps[6]? = some (.pointer (some ⟨BS, 0, none⟩)) := hout 6 rfl
                go_simp
                exact hR _ _ hc rfl (fun _ _ _ _ _ u h => h) (fun _ _ h => h)
              · refine asksH_intro ?_; intro o ho a wx hc hout hp hi R hR; cases ho
                refine .inl ⟨wanted_some rfl rfl (hp 8 (by omega) rfl), ?_⟩
                have e139 : a.tmps[139]?.getD undef = .pointer (some ⟨BS, 2, none⟩) := hp 9 (by omega) rfl
                have y2 : wx.cell? ⟨BS, 2, none⟩ = some (.slice ta d.table.length tc) := cell_blk (hc.blk GS.out (fun x => x)) 2 _ dv2
                go_simp
                exact hR _ _ hc rfl (fun _ _ _ _ _ u h => h) (fun _ _ h => h)
              · refine asksH_intro ?_; intro o ho a wx hc hout hp hi R hR; cases ho
                refine .inl ⟨wanted_some rfl rfl (hp 8 (by omega) rfl), ?_⟩
                have e6 : a.tmps[6]? = some (.pointer (some ⟨BS, 0, none⟩)) := hout 6 rfl
                go_simp
                exact hR _ _ hc rfl (fun _ _ _ _ _ u h => h) (fun _ _ h => h)
              · refine asksH_intro ?_; intro o ho a wx hc hout hp hi R hR; cases ho
                refine .inl ⟨wanted_some rfl rfl (hp 8 (by omega) rfl), ?_⟩
                have e141 : a.tmps[141]?.getD undef = .pointer (some ⟨BS, 0, none⟩) := hp 11 (by omega) rfl
                have y2 : wx.cell? ⟨BS, 0, none⟩ = some (.int .i64 d.room) := cell_blk (hc.blk GS.out (fun x => x)) 0 _ dv0
                go_simp
                exact hR _ _ hc rfl (fun _ _ _ _ _ u h => h) (fun _ _ h => h)
              · refine asksH_intro ?_; intro o ho a wx hc hout hp hi R hR; cases ho
                refine .inl ⟨wanted_some rfl rfl (hp 8 (by omega) rfl), ?_⟩
                have e7 : a.tmps[7]? = some (.slice oa on oc) := hout 7 rfl
                go_simp
                exact hR _ _ hc rfl (fun _ _ _ _ _ u h => h) (fun _ _ h => h)
              · refine asksH_intro ?_; intro o ho a wx hc hout hp hi R hR; cases ho
                refine .inl ⟨wanted_some rfl rfl (hp 8 (by omega) rfl), ?_⟩
                have e8 : a.tmps[8]? = some (.slice ka on kc) := hout 8 rfl
                go_simp
                exact hR _ _ hc rfl (fun _ _ _ _ _ u h => h) (fun _ _ h => h)
              · refine asksH_intro ?_; intro o ho a wx hc hout hp hi R hR; cases ho
                refine .inl ⟨wanted_some rfl rfl (hp 8 (by omega) rfl), ?_⟩
                have e140 : a.tmps[140]?.getD undef = .slice ta d.table.length tc := hp 10 (by omega) rfl
                have e142 : a.tmps[142]?.getD undef = .int .i64 d.room := hp 12 (by omega) rfl
                have e143 : a.tmps[143]?.getD undef = .slice oa on oc := hp 13 (by omega) rfl
                have e144 : a.tmps[144]?.getD undef = .slice ka on kc := hp 14 (by omega) rfl
                go_simp
                have b9 := bel_ok (.slice ta d.table.length tc) (.slice oa on oc) (.slice ka on kc) d.table ol al d.room NoM NoM NoM wx (RR9.out.rt.kept hc (fun _ _ x => x)) noM_lt RDD.out.tab.dec RDD.out.tab.len (by have := HFEW.out; omega) (GOR.out.kept hc (fun _ _ x => x)) (by have := H40.out; omega) (GAR.out.kept hc (fun _ _ x => x)) (by have := H40.out; omega)
                rw [HBEL.out] at b9
                refine b9.mono ?_
                rintro e w2 ⟨a8, c8, rfl, r8, q3⟩
                exact ⟨_, rfl, hR _ _ (hc.trans q3) ⟨a8, c8, rfl, r8⟩ (fun j _ _ _ _ u h => HST.out j u _ _ q3 h) (fun j _ h => HIST.out j _ _ q3 h)⟩
              · refine asksH_intro ?_; intro o ho a wx hc hout hp hi R hR; cases ho
                refine .inl ⟨wanted_some rfl rfl (hp 8 (by omega) rfl), ?_⟩
                have e2 : a.tmps[2]? = some (.pointer (some ⟨w.heap.size, 0, none⟩)) := hout 2 rfl
                go_simp
                exact hR _ _ hc rfl (fun _ _ _ _ _ u h => h) (fun _ _ h => h)
              · refine asksH_intro ?_; intro o ho a wx hc hout hp hi R hR; cases ho
                refine .inl ⟨wanted_some rfl rfl (hp 8 (by omega) rfl), ?_⟩
                have e146 : a.tmps[146]?.getD undef = .pointer (some ⟨w.heap.size, 2, none⟩) := hp 16 (by omega) rfl
                have y2 : wx.cell? ⟨w.heap.size, 2, none⟩ = some (.slice ua f.table.length uc) := cell_blk (hc.blk GD.out (fun x => x)) 2 _ dv2
                go_simp
                exact hR _ _ hc rfl (fun _ _ _ _ _ u h => h) (fun _ _ h => h)
              · refine asksH_intro ?_; intro o ho a wx hc hout hp hi R hR; cases ho
                refine .inl ⟨wanted_some rfl rfl (hp 8 (by omega) rfl), ?_⟩
                obtain ⟨a9, c9, e145, q145⟩ : ∃ (a9 : Option Addr) (c9 : Nat), (a.tmps[145]?.getD undef) = .slice a9 f.table.length c9 ∧ RdS wx NoM 23 ERu (.slice a9 f.table.length c9) f.table := hp 15 (by omega) rfl
                have e147 : a.tmps[147]?.getD undef = .slice ua f.table.length uc := hp 17 (by omega) rfl
                go_simp
                refine (rtsame_ok _ _ f.table NoM (MY w.heap.size P Q) wx q145 (GR.out.rt.kept hc.of_no (fun _ _ x => x)) (by have := GN.out.1; have := H40.out; omega) (fun r hr => HBW.out wx (GW.out.trans hc) r (GN.out.2.2.2.1 r hr))).mono ?_
                rintro e w2 ⟨rfl, q3⟩
                exact ⟨_, rfl, hR _ _ (hc.trans q3) rfl (fun j _ _ _ _ u h => HST.out j u _ _ q3 h) (fun j _ h => HIST.out j _ _ q3 h)⟩
              · refine asksH_intro ?_; intro o ho a wx hc hout hp hi R hR; cases ho
                refine .inl ⟨wanted_none rfl, ?_⟩
                have e138 : a.tmps[138]?.getD undef = .bool true := hp 8 (by omega) rfl
                have e148 : a.tmps[148]?.getD undef = .bool true := hp 18 (by omega) rfl
                go_simp
                exact hR _ _ hc rfl (fun _ _ _ _ _ u h => h) (fun _ _ h => h)
            · intro vs w' hc hp
              have e149 : vs 19 = .bool true := hp 19 (by omega) rfl
              simp only [List.take_succ_cons, List.take_zero, List.drop_succ_cons, List.drop_zero, putAll, Act.put, List.setIfInBounds_toArray, List.set_cons_zero, List.set_cons_succ, Nat.reduceAdd, e149]
              change wpList _ _ _ _ _ _
              have HC25 := Lib.hid hc
              generalize w' = u19 at *
              clear hc hp
              go_wp2_with fail
              go_ret
              exact ⟨rfl, GW.out.trans HC25.out⟩
          · rw [hM] at e1
            subst e1
            clear hM
            go_wp2_with fail
            go_ret
            exact ⟨rfl, GW.out⟩
        · rw [hE] at e1
          subst e1
          clear hE
          go_wp2_with fail
          go_ret
          exact ⟨rfl, GW.out⟩
end Go.Proofs.Ytghgegghlefclaa
